/- FnPutOthers, part 5 of 7: merged by wip/tools/pack2.py out of the texts that the row reaches; the pure statement is the session's own. -/
import Derived.RegionTactic
import Derived.IntWalk
import Derived.Test.YtkhmopmfbocokaaFnPutOthersK3
namespace Go.Proofs.Ytkhmopmfbocokaa.T
open Go.RowKit Go.Proofs.YtkhmopmfbocokaaW.PrintWords Go.Proofs.YtkhmopmfbocokaaW.PrintLast Go.Proofs.YtkhmopmfbocokaaW.PrintMore
attribute [local go_sem] max2_int max_two
set_option linter.unusedVariables false
set_option linter.unusedSimpArgs false
mutual
def impl_BatchValid.j0 : Nat → Bool → Bool → Int → Int → Int → List (S79) → Option (Bool)
 | 0, _, _, _, _, _, _ => none
 | k + 1, x293000, x293001, x293002, x293003, x293004, x293005 => (impl_within.f (x293005.length : Int) 1 6).bind fun t296 => (if t296 = true then (if x293001 = true then (impl_BatchValid.j1 k ((x293005.length : Int) != 1) x293000 x293001 x293002 x293003 x293004 x293005) else (impl_BatchValid.j1 k false x293000 x293001 x293002 x293003 x293004 x293005)) else (impl_BatchValid.j1 k true x293000 x293001 x293002 x293003 x293004 x293005))
def impl_BatchValid.j1 : Nat → Bool → Bool → Bool → Int → Int → Int → List (S79) → Option (Bool)
 | 0, _, _, _, _, _, _, _ => none
 | k + 1, x50, x293000, x293001, x293002, x293003, x293004, x293005 => if x50 = true then (some false) else (impl_BatchValid.l0 k x293005 (x293005.length : Int) 0 x293000 x293001 x293002 x293003 x293004 x293005)
def impl_BatchValid.l0 : Nat → List (S79) → Int → Int → Bool → Bool → Int → Int → Int → List (S79) → Option (Bool)
 | 0, _, _, _, _, _, _, _, _, _ => none
 | k + 1, x52, x53, x54, x293000, x293001, x293002, x293003, x293004, x293005 => if x54 < x53 then (if 0 ≤ x54 then (if x54 < (x52.length : Int) then ((impl_RecordValid.f k ((rd_T79 x52 x54).f0) ((rd_T79 x52 x54).f1) ((rd_T79 x52 x54).f2) ((rd_T79 x52 x54).f3) ((rd_T79 x52 x54).f4) ((rd_T79 x52 x54).f5)).bind fun t299 => (if t299 = true then (if x54 > 0 then (if 0 ≤ (wrap64 (x54 - 1)) then (if (wrap64 (x54 - 1)) < (x293005.length : Int) then (if ((rd_T79 x293005 (wrap64 (x54 - 1))).f0) ≥ ((rd_T79 x52 x54).f0) then (some false) else (impl_BatchValid.l0 k x52 x53 (wrap64 (x54 + 1)) x293000 x293001 x293002 x293003 x293004 x293005)) else (none)) else (none)) else (impl_BatchValid.l0 k x52 x53 (wrap64 (x54 + 1)) x293000 x293001 x293002 x293003 x293004 x293005)) else (some false))) else (none)) else (none)) else (some true)
end
def impl_BatchValid.f (k : Nat) (a0_0 : Bool) (a0_1 : Bool) (a0_2 : Int) (a0_3 : Int) (a0_4 : Int) (l0_5 : List (S79)) : Option (Bool) := if a0_2 = 255 then (if a0_3 = 0 then (if a0_4 = 0 then (if a0_1 = true then (some false) else (impl_BatchValid.j0 k a0_0 a0_1 a0_2 a0_3 a0_4 l0_5)) else (some false)) else (some false)) else ((impl_idValid.f a0_2).bind fun t293 => (if t293 = true then ((impl_within.f a0_3 0 99).bind fun t294 => (if t294 = true then ((impl_within.f a0_4 0 9999).bind fun t295 => (if t295 = true then (impl_BatchValid.j0 k a0_0 a0_1 a0_2 a0_3 a0_4 l0_5) else (some false))) else (some false))) else (some false)))
def impl_BatchValid.T11 : Bool × List (List Nat × List Nat) := (true, [([], []), ([0], [0]), ([1], [1]), ([2, 1], [2]), ([3], [3]), ([4, 3], [3, 4]), ([5, 3, 3], [3, 5]), ([6], [6]), ([7, 6], [6, 7]), ([6], [6]), ([9, 6], [6, 9]), ([8, 10, 6], [6, 8, 10]), ([11, 6], [6, 11]), ([12, 6], [6, 12]), ([6], [6]), ([14, 6], [6, 14]), ([13, 15, 6], [6, 13, 15]), ([6, 16, 3], [3, 6, 16]), ([3, 17], [3, 17])])
def impl_BatchValid.B11 : List Nat := [0, 1, 3, 7, 15, 31, 63, 127, 255, 127, 639, 2047, 4095, 8191, 127, 16511, 65535, 131071, 262143]
theorem impl_BatchValid.tab11 : rtab .any (opsOf Try.f27 11) = impl_BatchValid.T11 := by kernel_rfl
theorem impl_BatchValid.bits11 : waitsOk impl_BatchValid.T11.2 impl_BatchValid.B11 = true := by kernel_rfl
set_option maxHeartbeats 8000000 in
set_option maxRecDepth 100000 in
theorem impl_BatchValid.calls (k : Nat) (a0_0 : Bool) (a0_1 : Bool) (a0_2 : Int) (a0_3 : Int) (a0_4 : Int) (A0_5 : Option Addr) (c0_5 : Nat) (l0_5 : List (S79)) (r : Bool) (w : World) (hr0_5 : Kd.C k79 w A0_5 l0_5.length l0_5) (hc0_5 : l0_5.length ≤ c0_5) (h : impl_BatchValid.f k a0_0 a0_1 a0_2 a0_3 a0_4 l0_5 = some r) :
  Calls Try.prog 27 #[.agg #[.bool a0_0, .bool a0_1, .int .i64 a0_2, .int .i64 a0_3, .int .i64 a0_4, .slice A0_5 l0_5.length c0_5]] w fun e w' => e = .returned (.bool r) ∧ Below w.heap.size w w' := by
 have hu34 := Try.underlying34; have hu79 := Try.underlying79; have HR0_5 := zzm hr0_5; have HC0_5 := zzm hc0_5; clear hr0_5 hc0_5; have HB := zzm (Below.refl w.heap.size w); have H : (if a0_2 = 255 then (if a0_3 = 0 then (if a0_4 = 0 then (if a0_1 = true then (some false) else (impl_BatchValid.j0 k a0_0 a0_1 a0_2 a0_3 a0_4 l0_5)) else (some false)) else (some false)) else ((impl_idValid.f a0_2).bind fun t293 => (if t293 = true then ((impl_within.f a0_3 0 99).bind fun t294 => (if t294 = true then ((impl_within.f a0_4 0 9999).bind fun t295 => (if t295 = true then (impl_BatchValid.j0 k a0_0 a0_1 a0_2 a0_3 a0_4 l0_5) else (some false))) else (some false))) else (some false)))) = some r := h; clear h; have HC2 := zzm H; clear H; go_enter Try.func27, Try.ntmps27; go_upto_if 7 with (first | ((with_reducible refine gate_dst (N := 1) rfl ?_); (try (refine gate_guard (by rfl) ?_; dsimp only)); refine box_event ?hg (N := 1) ?hd (cs := #[.bool a0_0, .bool a0_1, .int .i64 a0_2, .int .i64 a0_3, .int .i64 a0_4, .slice A0_5 l0_5.length c0_5]) (t := 34) ?hr ?_; (case hd => rfl); (case hg => rfl); (case hr => first | (go_simp; done) | (go_simp; rfl)); intro gb292 hg w3 hbox hb; have n0_ := zzm (zzp (by repeat (first | (with_reducible first | exact HB.out | apply zza | apply zzb | apply zzc) | exact HB.out)) hb); have n1_ := zzm (hbox); have n2_ := zzm ((by rw [hg]; exact (zzo (by repeat (first | (with_reducible first | exact HB.out | apply zza | apply zzb | apply zzc) | exact HB.out))) : w.heap.size ≤ gb292)); have n3_ := zzm ((by rw [hg]; exact (zzo (by repeat (first | (with_reducible first | exact HB.out | apply zza | apply zzb | apply zzc) | exact HB.out))) : w.heap.size ≤ gb292)); clear HB; have HB := n0_; have BK292 := n1_; have GW292 := n2_; have GE292 := n3_; clear n0_ n1_ n2_ n3_ hb hbox hg; obtain ⟨hcz4_0, hcz4_1, hcz4_2, hcz4_3, hcz4_4, hcz4_5, hfz4_0, hfz4_1, hfz4_2, hfz4_3, hfz4_4, hfz4_5⟩ := zzc6 BK292.out)); (try simp only [Act.put, zzq, zzr, zzs]); go_cut [] (fun wc => ∃ (kq : Nat), Aside0 (impl_BatchValid.j0 kq a0_0 a0_1 a0_2 a0_3 a0_4 l0_5 = some r) ∧ Aside0 (kq ≤ k) ∧ Aside0 (wc.heap[gb292]? = some (.cells #[.bool a0_0, .bool a0_1, .int .i64 a0_2, .int .i64 a0_3, .int .i64 a0_4, (.slice A0_5 l0_5.length c0_5)] 34 (0, 0))) ∧ Aside0 (Below w.heap.size w wc))
 case first =>
  have H := HC2.out; clear HC2; by_cases c5 : a0_2 = 255
  ·
   rw [if_pos c5] at H; have c5b0 : (a0_2 == 255) = true := beq_iff_eq.mpr c5; have c5b1 : (a0_2 != 255) = false := bne_eq_false_iff_eq.mpr c5; clear c5; (first | rw [c5b0] | (simp only [i64_w, i32_w]; rw [c5b0]) | skip); by_cases c6 : a0_3 = 0
   ·
    rw [if_pos c6] at H; have c6b0 : (a0_3 == 0) = true := beq_iff_eq.mpr c6; have c6b1 : (a0_3 != 0) = false := bne_eq_false_iff_eq.mpr c6; clear c6; by_cases c7 : a0_4 = 0
    ·
     rw [if_pos c7] at H; have c7b0 : (a0_4 == 0) = true := beq_iff_eq.mpr c7; have c7b1 : (a0_4 != 0) = false := bne_eq_false_iff_eq.mpr c7; clear c7; by_cases c8 : a0_1 = true
     ·
      subst c8; have H1 : (some false) = some r := by rw [if_pos rfl] at H; exact H
      clear H; have H := H1; clear H1; obtain rfl := Option.some.inj H; obtain ⟨hcz9_0, hcz9_1, hcz9_2, hcz9_3, hcz9_4, hcz9_5, hfz9_0, hfz9_1, hfz9_2, hfz9_3, hfz9_4, hfz9_5⟩ := zzc6 BK292.out; go_wp2; go_ret; exact ⟨by first | rfl | (simp [errW_none, errW_some] <;> rfl) | (simp [*, errW_none, errW_some] <;> rfl), by repeat (first | (with_reducible first | exact HB.out | apply zza | apply zzb | apply zzc | refine zzd ?_ GE292.out) | exact HB.out)⟩
     ·
      replace c8 := Bool.eq_false_iff.mpr c8; subst c8; have H1 : (impl_BatchValid.j0 k a0_0 false a0_2 a0_3 a0_4 l0_5) = some r := by rw [if_neg (show ¬ (false = true) by decide)] at H; exact H
      clear H; have H := H1; clear H1; have H' := zzm H; clear H; obtain ⟨hcz10_0, hcz10_1, hcz10_2, hcz10_3, hcz10_4, hcz10_5, hfz10_0, hfz10_1, hfz10_2, hfz10_3, hfz10_4, hfz10_5⟩ := zzc6 BK292.out; go_wp2; go_meet
      case rel => exact ⟨_, H', ⟨by first | omega | exact Nat.le_refl _⟩, ⟨by (with_reducible repeat (first | refine zzf ?_ _ | refine zzg ?_ | refine zze ?_ _)); exact BK292.out⟩, ⟨by repeat (first | (with_reducible first | exact HB.out | apply zza | apply zzb | apply zzc | refine zzd ?_ GE292.out) | exact HB.out)⟩⟩
    ·
     rw [if_neg c7] at H; have c7b0 : (a0_4 == 0) = false := beq_eq_false_iff_ne.mpr c7; have c7b1 : (a0_4 != 0) = true := bne_iff_ne.mpr c7; obtain rfl := Option.some.inj H; obtain ⟨hcz11_0, hcz11_1, hcz11_2, hcz11_3, hcz11_4, hcz11_5, hfz11_0, hfz11_1, hfz11_2, hfz11_3, hfz11_4, hfz11_5⟩ := zzc6 BK292.out; go_wp2; go_ret; exact ⟨by first | rfl | (simp [errW_none, errW_some] <;> rfl) | (simp [*, errW_none, errW_some] <;> rfl), by repeat (first | (with_reducible first | exact HB.out | apply zza | apply zzb | apply zzc | refine zzd ?_ GE292.out) | exact HB.out)⟩
   ·
    rw [if_neg c6] at H; have c6b0 : (a0_3 == 0) = false := beq_eq_false_iff_ne.mpr c6; have c6b1 : (a0_3 != 0) = true := bne_iff_ne.mpr c6; obtain rfl := Option.some.inj H; obtain ⟨hcz12_0, hcz12_1, hcz12_2, hcz12_3, hcz12_4, hcz12_5, hfz12_0, hfz12_1, hfz12_2, hfz12_3, hfz12_4, hfz12_5⟩ := zzc6 BK292.out; go_wp2; go_ret; exact ⟨by first | rfl | (simp [errW_none, errW_some] <;> rfl) | (simp [*, errW_none, errW_some] <;> rfl), by repeat (first | (with_reducible first | exact HB.out | apply zza | apply zzb | apply zzc | refine zzd ?_ GE292.out) | exact HB.out)⟩
  ·
   rw [if_neg c5] at H; have c5b0 : (a0_2 == 255) = false := beq_eq_false_iff_ne.mpr c5; have c5b1 : (a0_2 != 255) = true := bne_iff_ne.mpr c5; (first | rw [c5b0] | (simp only [i64_w, i32_w]; rw [c5b0]) | skip); replace H := Option.bind_eq_some_iff.mp H; obtain ⟨t293, A130, H⟩ := H; replace H : (if t293 = true then ((impl_within.f a0_3 0 99).bind fun t294 => (if t294 = true then ((impl_within.f a0_4 0 9999).bind fun t295 => (if t295 = true then (impl_BatchValid.j0 k a0_0 a0_1 a0_2 a0_3 a0_4 l0_5) else (some false))) else (some false))) else (some false)) = some r := H; have A13 := zzm A130; clear A130; by_cases c14 : t293 = true
   ·
    subst c14; have H1 : ((impl_within.f a0_3 0 99).bind fun t294 => (if t294 = true then ((impl_within.f a0_4 0 9999).bind fun t295 => (if t295 = true then (impl_BatchValid.j0 k a0_0 a0_1 a0_2 a0_3 a0_4 l0_5) else (some false))) else (some false))) = some r := by rw [if_pos rfl] at H; exact H
    clear H; have H := H1; clear H1; replace H := Option.bind_eq_some_iff.mp H; obtain ⟨t294, A150, H⟩ := H; replace H : (if t294 = true then ((impl_within.f a0_4 0 9999).bind fun t295 => (if t295 = true then (impl_BatchValid.j0 k a0_0 a0_1 a0_2 a0_3 a0_4 l0_5) else (some false))) else (some false)) = some r := H; have A15 := zzm A150; clear A150; by_cases c16 : t294 = true
    ·
     subst c16; have H1 : ((impl_within.f a0_4 0 9999).bind fun t295 => (if t295 = true then (impl_BatchValid.j0 k a0_0 a0_1 a0_2 a0_3 a0_4 l0_5) else (some false))) = some r := by rw [if_pos rfl] at H; exact H
     clear H; have H := H1; clear H1; replace H := Option.bind_eq_some_iff.mp H; obtain ⟨t295, A170, H⟩ := H; replace H : (if t295 = true then (impl_BatchValid.j0 k a0_0 a0_1 a0_2 a0_3 a0_4 l0_5) else (some false)) = some r := H; have A17 := zzm A170; clear A170; by_cases c18 : t295 = true
     ·
      subst c18; have H1 : (impl_BatchValid.j0 k a0_0 a0_1 a0_2 a0_3 a0_4 l0_5) = some r := by rw [if_pos rfl] at H; exact H
      clear H; have H := H1; clear H1; have H' := zzm H; clear H; obtain ⟨hcz19_0, hcz19_1, hcz19_2, hcz19_3, hcz19_4, hcz19_5, hfz19_0, hfz19_1, hfz19_2, hfz19_3, hfz19_4, hfz19_5⟩ := zzc6 BK292.out; go_wp2_with (first | ((with_reducible refine gate_callee (f := 51) rfl ?_); refine goesL_ (some 22) rfl rfl Try.func51 (by kernel_rfl) rfl #[.int .i64 a0_2] rfl (by (try simp only [List.map_toArray, List.map_cons, List.map_nil]); first | done | rfl | (simp only [List.length_drop, List.length_take]; rfl)) ?_; (with_reducible refine (impl_idValid.calls a0_2 true _ A13.out).mono ?_); rintro e w' ⟨rfl, ⟨nd, rfl⟩⟩; refine ⟨_, rfl, ?_⟩) | (go_at_call 52; (with_reducible refine (impl_within.calls a0_3 0 99 true _ A15.out).mono ?_); rintro e w' ⟨rfl, ⟨nd, rfl⟩⟩) | (go_at_call 52; (with_reducible refine (impl_within.calls a0_4 0 9999 true _ A17.out).mono ?_); rintro e w' ⟨rfl, ⟨nd, rfl⟩⟩)); go_meet
      case rel => exact ⟨_, H', ⟨by first | omega | exact Nat.le_refl _⟩, ⟨by (with_reducible repeat (first | refine zzf ?_ _ | refine zzg ?_ | refine zze ?_ _)); exact BK292.out⟩, ⟨by repeat (first | (with_reducible first | exact HB.out | apply zza | apply zzb | apply zzc | refine zzd ?_ GE292.out) | exact HB.out)⟩⟩
     ·
      replace c18 := Bool.eq_false_iff.mpr c18; subst c18; have H1 : (some false) = some r := by rw [if_neg (show ¬ (false = true) by decide)] at H; exact H
      clear H; have H := H1; clear H1; obtain rfl := Option.some.inj H; obtain ⟨hcz20_0, hcz20_1, hcz20_2, hcz20_3, hcz20_4, hcz20_5, hfz20_0, hfz20_1, hfz20_2, hfz20_3, hfz20_4, hfz20_5⟩ := zzc6 BK292.out; go_wp2_with (first | ((with_reducible refine gate_callee (f := 51) rfl ?_); refine goesL_ (some 22) rfl rfl Try.func51 (by kernel_rfl) rfl #[.int .i64 a0_2] rfl (by (try simp only [List.map_toArray, List.map_cons, List.map_nil]); first | done | rfl | (simp only [List.length_drop, List.length_take]; rfl)) ?_; (with_reducible refine (impl_idValid.calls a0_2 true _ A13.out).mono ?_); rintro e w' ⟨rfl, ⟨nd, rfl⟩⟩; refine ⟨_, rfl, ?_⟩) | (go_at_call 52; (with_reducible refine (impl_within.calls a0_3 0 99 true _ A15.out).mono ?_); rintro e w' ⟨rfl, ⟨nd, rfl⟩⟩) | (go_at_call 52; (with_reducible refine (impl_within.calls a0_4 0 9999 false _ A17.out).mono ?_); rintro e w' ⟨rfl, ⟨nd, rfl⟩⟩)); go_ret; exact ⟨by first | rfl | (simp [errW_none, errW_some] <;> rfl) | (simp [*, errW_none, errW_some] <;> rfl), by repeat (first | (with_reducible first | exact HB.out | apply zza | apply zzb | apply zzc | refine zzd ?_ GE292.out) | exact HB.out)⟩
    ·
     replace c16 := Bool.eq_false_iff.mpr c16; subst c16; have H1 : (some false) = some r := by rw [if_neg (show ¬ (false = true) by decide)] at H; exact H
     clear H; have H := H1; clear H1; obtain rfl := Option.some.inj H; obtain ⟨hcz21_0, hcz21_1, hcz21_2, hcz21_3, hcz21_4, hcz21_5, hfz21_0, hfz21_1, hfz21_2, hfz21_3, hfz21_4, hfz21_5⟩ := zzc6 BK292.out; go_wp2_with (first | ((with_reducible refine gate_callee (f := 51) rfl ?_); refine goesL_ (some 22) rfl rfl Try.func51 (by kernel_rfl) rfl #[.int .i64 a0_2] rfl (by (try simp only [List.map_toArray, List.map_cons, List.map_nil]); first | done | rfl | (simp only [List.length_drop, List.length_take]; rfl)) ?_; (with_reducible refine (impl_idValid.calls a0_2 true _ A13.out).mono ?_); rintro e w' ⟨rfl, ⟨nd, rfl⟩⟩; refine ⟨_, rfl, ?_⟩) | (go_at_call 52; (with_reducible refine (impl_within.calls a0_3 0 99 false _ A15.out).mono ?_); rintro e w' ⟨rfl, ⟨nd, rfl⟩⟩)); go_ret; exact ⟨by first | rfl | (simp [errW_none, errW_some] <;> rfl) | (simp [*, errW_none, errW_some] <;> rfl), by repeat (first | (with_reducible first | exact HB.out | apply zza | apply zzb | apply zzc | refine zzd ?_ GE292.out) | exact HB.out)⟩
   ·
    replace c14 := Bool.eq_false_iff.mpr c14; subst c14; have H1 : (some false) = some r := by rw [if_neg (show ¬ (false = true) by decide)] at H; exact H
    clear H; have H := H1; clear H1; obtain rfl := Option.some.inj H; obtain ⟨hcz22_0, hcz22_1, hcz22_2, hcz22_3, hcz22_4, hcz22_5, hfz22_0, hfz22_1, hfz22_2, hfz22_3, hfz22_4, hfz22_5⟩ := zzc6 BK292.out; go_wp2_with (first | ((with_reducible refine gate_callee (f := 51) rfl ?_); refine goesL_ (some 22) rfl rfl Try.func51 (by kernel_rfl) rfl #[.int .i64 a0_2] rfl (by (try simp only [List.map_toArray, List.map_cons, List.map_nil]); first | done | rfl | (simp only [List.length_drop, List.length_take]; rfl)) ?_; (with_reducible refine (impl_idValid.calls a0_2 false _ A13.out).mono ?_); rintro e w' ⟨rfl, ⟨nd, rfl⟩⟩; refine ⟨_, rfl, ?_⟩)); go_ret; exact ⟨by first | rfl | (simp [errW_none, errW_some] <;> rfl) | (simp [*, errW_none, errW_some] <;> rfl), by repeat (first | (with_reducible first | exact HB.out | apply zza | apply zzb | apply zzc | refine zzd ?_ GE292.out) | exact HB.out)⟩
 case rest =>
  clear HC2; try clear c1
  try clear c2
  try clear p2
  try clear c5
  try clear c5b0
  try clear c5b1
  try clear c6
  try clear c6b0
  try clear c6b1
  try clear c7
  try clear c7b0
  try clear c7b1
  try clear c8
  try clear c14
  try clear c16
  try clear c18
  try clear hcz10_0
  try clear hcz10_1
  try clear hcz10_2
  try clear hcz10_3
  try clear hcz10_4
  try clear hcz10_5
  try clear hcz11_0
  try clear hcz11_1
  try clear hcz11_2
  try clear hcz11_3
  try clear hcz11_4
  try clear hcz11_5
  try clear hcz12_0
  try clear hcz12_1
  try clear hcz12_2
  try clear hcz12_3
  try clear hcz12_4
  try clear hcz12_5
  try clear hcz19_0
  try clear hcz19_1
  try clear hcz19_2
  try clear hcz19_3
  try clear hcz19_4
  try clear hcz19_5
  try clear hcz20_0
  try clear hcz20_1
  try clear hcz20_2
  try clear hcz20_3
  try clear hcz20_4
  try clear hcz20_5
  try clear hcz21_0
  try clear hcz21_1
  try clear hcz21_2
  try clear hcz21_3
  try clear hcz21_4
  try clear hcz21_5
  try clear hcz22_0
  try clear hcz22_1
  try clear hcz22_2
  try clear hcz22_3
  try clear hcz22_4
  try clear hcz22_5
  try clear hcz4_0
  try clear hcz4_1
  try clear hcz4_2
  try clear hcz4_3
  try clear hcz4_4
  try clear hcz4_5
  try clear hcz9_0
  try clear hcz9_1
  try clear hcz9_2
  try clear hcz9_3
  try clear hcz9_4
  try clear hcz9_5
  try clear hfz10_0
  try clear hfz10_1
  try clear hfz10_2
  try clear hfz10_3
  try clear hfz10_4
  try clear hfz10_5
  try clear hfz11_0
  try clear hfz11_1
  try clear hfz11_2
  try clear hfz11_3
  try clear hfz11_4
  try clear hfz11_5
  try clear hfz12_0
  try clear hfz12_1
  try clear hfz12_2
  try clear hfz12_3
  try clear hfz12_4
  try clear hfz12_5
  try clear hfz19_0
  try clear hfz19_1
  try clear hfz19_2
  try clear hfz19_3
  try clear hfz19_4
  try clear hfz19_5
  try clear hfz20_0
  try clear hfz20_1
  try clear hfz20_2
  try clear hfz20_3
  try clear hfz20_4
  try clear hfz20_5
  try clear hfz21_0
  try clear hfz21_1
  try clear hfz21_2
  try clear hfz21_3
  try clear hfz21_4
  try clear hfz21_5
  try clear hfz22_0
  try clear hfz22_1
  try clear hfz22_2
  try clear hfz22_3
  try clear hfz22_4
  try clear hfz22_5
  try clear hfz4_0
  try clear hfz4_1
  try clear hfz4_2
  try clear hfz4_3
  try clear hfz4_4
  try clear hfz4_5
  try clear hfz9_0
  try clear hfz9_1
  try clear hfz9_2
  try clear hfz9_3
  try clear hfz9_4
  try clear hfz9_5
  obtain ⟨kq, HA, HJ1, BK292, HB⟩ := hcut; cases kq with
  | zero => exact absurd HA.out (by simp [impl_BatchValid.j0])
  | succ kj1 =>
   have H := HA.out; clear HA; simp only [impl_BatchValid.j0] at H; have HC23 := zzm H; clear H; go_upto_region 6 with (fail); go_cut [50] (fun v50 wc => ∃ (kq : Nat) (x50_22 : Bool), v50 = .bool x50_22 ∧ Aside0 (impl_BatchValid.j1 kq x50_22 a0_0 a0_1 a0_2 a0_3 a0_4 l0_5 = some r) ∧ Aside0 (kq ≤ kj1) ∧ Aside0 (wc.heap[gb292]? = some (.cells #[.bool a0_0, .bool a0_1, .int .i64 a0_2, .int .i64 a0_3, .int .i64 a0_4, (.slice A0_5 l0_5.length c0_5)] 34 (0, 0))) ∧ Aside0 (Below w.heap.size w wc))
   case first =>
    have H := HC23.out; clear HC23; replace H := Option.bind_eq_some_iff.mp H; obtain ⟨t296, A240, H⟩ := H; replace H : (if t296 = true then (if a0_1 = true then (impl_BatchValid.j1 kj1 ((l0_5.length : Int) != 1) a0_0 a0_1 a0_2 a0_3 a0_4 l0_5) else (impl_BatchValid.j1 kj1 false a0_0 a0_1 a0_2 a0_3 a0_4 l0_5)) else (impl_BatchValid.j1 kj1 true a0_0 a0_1 a0_2 a0_3 a0_4 l0_5)) = some r := H; have A24 := zzm A240; clear A240; by_cases c25 : t296 = true
    ·
     subst c25; have H1 : (if a0_1 = true then (impl_BatchValid.j1 kj1 ((l0_5.length : Int) != 1) a0_0 a0_1 a0_2 a0_3 a0_4 l0_5) else (impl_BatchValid.j1 kj1 false a0_0 a0_1 a0_2 a0_3 a0_4 l0_5)) = some r := by rw [if_pos rfl] at H; exact H
     clear H; have H := H1; clear H1; by_cases c26 : a0_1 = true
     ·
      subst c26; have H1 : (impl_BatchValid.j1 kj1 ((l0_5.length : Int) != 1) a0_0 true a0_2 a0_3 a0_4 l0_5) = some r := by rw [if_pos rfl] at H; exact H
      clear H; have H := H1; clear H1; have H' := zzm H; clear H; obtain ⟨hcz27_0, hcz27_1, hcz27_2, hcz27_3, hcz27_4, hcz27_5, hfz27_0, hfz27_1, hfz27_2, hfz27_3, hfz27_4, hfz27_5⟩ := zzc6 BK292.out; go_wp2_with (first | ((with_reducible refine gate_callee (f := 52) rfl ?_); refine goesL_ (some 39) rfl rfl Try.func52 (by kernel_rfl) rfl #[.int .i64 (l0_5.length : Int), .int .i64 1, .int .i64 6] rfl (by (try simp only [List.map_toArray, List.map_cons, List.map_nil]); first | done | rfl | (simp only [List.length_drop, List.length_take]; rfl)) ?_; (with_reducible refine (impl_within.calls (l0_5.length : Int) 1 6 true _ A24.out).mono ?_); rintro e w' ⟨rfl, ⟨nd, rfl⟩⟩; refine ⟨_, rfl, ?_⟩)); go_meet
      case rel => exact ⟨_, (((l0_5.length : Int) != 1)), (by first | rfl | (simp; done) | (simp [*]; done)), H', ⟨by have := HJ1.out; first | omega | exact Nat.le_refl _⟩, ⟨by (with_reducible repeat (first | refine zzf ?_ _ | refine zzg ?_ | refine zze ?_ _)); exact BK292.out⟩, ⟨by repeat (first | (with_reducible first | exact HB.out | apply zza | apply zzb | apply zzc | refine zzd ?_ GE292.out) | exact HB.out)⟩⟩
     ·
      replace c26 := Bool.eq_false_iff.mpr c26; subst c26; have H1 : (impl_BatchValid.j1 kj1 false a0_0 false a0_2 a0_3 a0_4 l0_5) = some r := by rw [if_neg (show ¬ (false = true) by decide)] at H; exact H
      clear H; have H := H1; clear H1; have H' := zzm H; clear H; obtain ⟨hcz28_0, hcz28_1, hcz28_2, hcz28_3, hcz28_4, hcz28_5, hfz28_0, hfz28_1, hfz28_2, hfz28_3, hfz28_4, hfz28_5⟩ := zzc6 BK292.out; go_wp2_with (first | ((with_reducible refine gate_callee (f := 52) rfl ?_); refine goesL_ (some 39) rfl rfl Try.func52 (by kernel_rfl) rfl #[.int .i64 (l0_5.length : Int), .int .i64 1, .int .i64 6] rfl (by (try simp only [List.map_toArray, List.map_cons, List.map_nil]); first | done | rfl | (simp only [List.length_drop, List.length_take]; rfl)) ?_; (with_reducible refine (impl_within.calls (l0_5.length : Int) 1 6 true _ A24.out).mono ?_); rintro e w' ⟨rfl, ⟨nd, rfl⟩⟩; refine ⟨_, rfl, ?_⟩)); go_meet
      case rel => exact ⟨_, (false), (by first | rfl | (simp; done) | (simp [*]; done)), H', ⟨by have := HJ1.out; first | omega | exact Nat.le_refl _⟩, ⟨by (with_reducible repeat (first | refine zzf ?_ _ | refine zzg ?_ | refine zze ?_ _)); exact BK292.out⟩, ⟨by repeat (first | (with_reducible first | exact HB.out | apply zza | apply zzb | apply zzc | refine zzd ?_ GE292.out) | exact HB.out)⟩⟩
    ·
     replace c25 := Bool.eq_false_iff.mpr c25; subst c25; have H1 : (impl_BatchValid.j1 kj1 true a0_0 a0_1 a0_2 a0_3 a0_4 l0_5) = some r := by rw [if_neg (show ¬ (false = true) by decide)] at H; exact H
     clear H; have H := H1; clear H1; have H' := zzm H; clear H; obtain ⟨hcz29_0, hcz29_1, hcz29_2, hcz29_3, hcz29_4, hcz29_5, hfz29_0, hfz29_1, hfz29_2, hfz29_3, hfz29_4, hfz29_5⟩ := zzc6 BK292.out; go_wp2_with (first | ((with_reducible refine gate_callee (f := 52) rfl ?_); refine goesL_ (some 39) rfl rfl Try.func52 (by kernel_rfl) rfl #[.int .i64 (l0_5.length : Int), .int .i64 1, .int .i64 6] rfl (by (try simp only [List.map_toArray, List.map_cons, List.map_nil]); first | done | rfl | (simp only [List.length_drop, List.length_take]; rfl)) ?_; (with_reducible refine (impl_within.calls (l0_5.length : Int) 1 6 false _ A24.out).mono ?_); rintro e w' ⟨rfl, ⟨nd, rfl⟩⟩; refine ⟨_, rfl, ?_⟩)); go_meet
     case rel => exact ⟨_, (true), (by first | rfl | (simp; done) | (simp [*]; done)), H', ⟨by have := HJ1.out; first | omega | exact Nat.le_refl _⟩, ⟨by (with_reducible repeat (first | refine zzf ?_ _ | refine zzg ?_ | refine zze ?_ _)); exact BK292.out⟩, ⟨by repeat (first | (with_reducible first | exact HB.out | apply zza | apply zzb | apply zzc | refine zzd ?_ GE292.out) | exact HB.out)⟩⟩
   case rest =>
    clear HC23; try clear c1
    try clear c2
    try clear p2
    try clear c5
    try clear c5b0
    try clear c5b1
    try clear c6
    try clear c6b0
    try clear c6b1
    try clear c7
    try clear c7b0
    try clear c7b1
    try clear c8
    try clear c14
    try clear c16
    try clear c18
    try clear c25
    try clear c26
    try clear c27
    try clear hcz10_0
    try clear hcz10_1
    try clear hcz10_2
    try clear hcz10_3
    try clear hcz10_4
    try clear hcz10_5
    try clear hcz11_0
    try clear hcz11_1
    try clear hcz11_2
    try clear hcz11_3
    try clear hcz11_4
    try clear hcz11_5
    try clear hcz12_0
    try clear hcz12_1
    try clear hcz12_2
    try clear hcz12_3
    try clear hcz12_4
    try clear hcz12_5
    try clear hcz19_0
    try clear hcz19_1
    try clear hcz19_2
    try clear hcz19_3
    try clear hcz19_4
    try clear hcz19_5
    try clear hcz20_0
    try clear hcz20_1
    try clear hcz20_2
    try clear hcz20_3
    try clear hcz20_4
    try clear hcz20_5
    try clear hcz21_0
    try clear hcz21_1
    try clear hcz21_2
    try clear hcz21_3
    try clear hcz21_4
    try clear hcz21_5
    try clear hcz22_0
    try clear hcz22_1
    try clear hcz22_2
    try clear hcz22_3
    try clear hcz22_4
    try clear hcz22_5
    try clear hcz27_0
    try clear hcz27_1
    try clear hcz27_2
    try clear hcz27_3
    try clear hcz27_4
    try clear hcz27_5
    try clear hcz28_0
    try clear hcz28_1
    try clear hcz28_2
    try clear hcz28_3
    try clear hcz28_4
    try clear hcz28_5
    try clear hcz29_0
    try clear hcz29_1
    try clear hcz29_2
    try clear hcz29_3
    try clear hcz29_4
    try clear hcz29_5
    try clear hcz4_0
    try clear hcz4_1
    try clear hcz4_2
    try clear hcz4_3
    try clear hcz4_4
    try clear hcz4_5
    try clear hcz9_0
    try clear hcz9_1
    try clear hcz9_2
    try clear hcz9_3
    try clear hcz9_4
    try clear hcz9_5
    try clear hfz10_0
    try clear hfz10_1
    try clear hfz10_2
    try clear hfz10_3
    try clear hfz10_4
    try clear hfz10_5
    try clear hfz11_0
    try clear hfz11_1
    try clear hfz11_2
    try clear hfz11_3
    try clear hfz11_4
    try clear hfz11_5
    try clear hfz12_0
    try clear hfz12_1
    try clear hfz12_2
    try clear hfz12_3
    try clear hfz12_4
    try clear hfz12_5
    try clear hfz19_0
    try clear hfz19_1
    try clear hfz19_2
    try clear hfz19_3
    try clear hfz19_4
    try clear hfz19_5
    try clear hfz20_0
    try clear hfz20_1
    try clear hfz20_2
    try clear hfz20_3
    try clear hfz20_4
    try clear hfz20_5
    try clear hfz21_0
    try clear hfz21_1
    try clear hfz21_2
    try clear hfz21_3
    try clear hfz21_4
    try clear hfz21_5
    try clear hfz22_0
    try clear hfz22_1
    try clear hfz22_2
    try clear hfz22_3
    try clear hfz22_4
    try clear hfz22_5
    try clear hfz27_0
    try clear hfz27_1
    try clear hfz27_2
    try clear hfz27_3
    try clear hfz27_4
    try clear hfz27_5
    try clear hfz28_0
    try clear hfz28_1
    try clear hfz28_2
    try clear hfz28_3
    try clear hfz28_4
    try clear hfz28_5
    try clear hfz29_0
    try clear hfz29_1
    try clear hfz29_2
    try clear hfz29_3
    try clear hfz29_4
    try clear hfz29_5
    try clear hfz4_0
    try clear hfz4_1
    try clear hfz4_2
    try clear hfz4_3
    try clear hfz4_4
    try clear hfz4_5
    try clear hfz9_0
    try clear hfz9_1
    try clear hfz9_2
    try clear hfz9_3
    try clear hfz9_4
    try clear hfz9_5
    try clear p2
    obtain ⟨kq, x50_22, rfl, HA, HJ22, BK292, HB⟩ := hcut; cases kq with
    | zero => exact absurd HA.out (by simp [impl_BatchValid.j1])
    | succ kj22 =>
     have H := HA.out; clear HA; simp only [impl_BatchValid.j1] at H; by_cases c30 : x50_22 = true
     ·
      subst c30; have H1 : (some false) = some r := by rw [if_pos rfl] at H; exact H
      clear H; have H := H1; clear H1; obtain rfl := Option.some.inj H; go_wp2; go_ret; exact ⟨by first | rfl | (simp [errW_none, errW_some] <;> rfl) | (simp [*, errW_none, errW_some] <;> rfl), by repeat (first | (with_reducible first | exact HB.out | apply zza | apply zzb | apply zzc | refine zzd ?_ GE292.out) | exact HB.out)⟩
     ·
      replace c30 := Bool.eq_false_iff.mpr c30; subst c30; have H1 : (impl_BatchValid.l0 kj22 l0_5 (l0_5.length : Int) 0 a0_0 a0_1 a0_2 a0_3 a0_4 l0_5) = some r := by rw [if_neg (show ¬ (false = true) by decide)] at H; exact H
      clear H; have H := H1; clear H1; have H' := zzm H; clear H; obtain ⟨hcz31_0, hcz31_1, hcz31_2, hcz31_3, hcz31_4, hcz31_5, hfz31_0, hfz31_1, hfz31_2, hfz31_3, hfz31_4, hfz31_5⟩ := zzc6 BK292.out; go_wp2; go_loopg [54] kj22 (fun kq v54 w' => ∃ (x54_3 : Int), v54 = .int .i64 x54_3 ∧ Aside0 (impl_BatchValid.l0 kq l0_5 (l0_5.length : Int) x54_3 a0_0 a0_1 a0_2 a0_3 a0_4 l0_5 = some r) ∧ Aside0 (kq ≤ kj22) ∧ Aside0 (w'.heap[gb292]? = some (.cells #[.bool a0_0, .bool a0_1, .int .i64 a0_2, .int .i64 a0_3, .int .i64 a0_4, (.slice A0_5 l0_5.length c0_5)] 34 (0, 0))) ∧ Aside0 (Below w.heap.size w w'))
      case atStart => exact ⟨(0), (by first | rfl | (simp; done) | (simp [*]; done)), H', ⟨Nat.le_refl _⟩, ⟨by (with_reducible repeat (first | refine zzf ?_ _ | refine zzg ?_ | refine zze ?_ _)); exact BK292.out⟩, ⟨by repeat (first | (with_reducible first | exact HB.out | apply zza | apply zzb | apply zzc | refine zzd ?_ GE292.out) | exact HB.out)⟩⟩
      case round =>
       clear H'; try clear c1
       try clear c2
       try clear p2
       try clear c3
       try clear c5
       try clear c5b0
       try clear c5b1
       try clear c6
       try clear c6b0
       try clear c6b1
       try clear c7
       try clear c7b0
       try clear c7b1
       try clear c8
       try clear c14
       try clear c16
       try clear c18
       try clear c25
       try clear c26
       try clear c27
       try clear c30
       try clear hcz10_0
       try clear hcz10_1
       try clear hcz10_2
       try clear hcz10_3
       try clear hcz10_4
       try clear hcz10_5
       try clear hcz11_0
       try clear hcz11_1
       try clear hcz11_2
       try clear hcz11_3
       try clear hcz11_4
       try clear hcz11_5
       try clear hcz12_0
       try clear hcz12_1
       try clear hcz12_2
       try clear hcz12_3
       try clear hcz12_4
       try clear hcz12_5
       try clear hcz19_0
       try clear hcz19_1
       try clear hcz19_2
       try clear hcz19_3
       try clear hcz19_4
       try clear hcz19_5
       try clear hcz20_0
       try clear hcz20_1
       try clear hcz20_2
       try clear hcz20_3
       try clear hcz20_4
       try clear hcz20_5
       try clear hcz21_0
       try clear hcz21_1
       try clear hcz21_2
       try clear hcz21_3
       try clear hcz21_4
       try clear hcz21_5
       try clear hcz22_0
       try clear hcz22_1
       try clear hcz22_2
       try clear hcz22_3
       try clear hcz22_4
       try clear hcz22_5
       try clear hcz27_0
       try clear hcz27_1
       try clear hcz27_2
       try clear hcz27_3
       try clear hcz27_4
       try clear hcz27_5
       try clear hcz28_0
       try clear hcz28_1
       try clear hcz28_2
       try clear hcz28_3
       try clear hcz28_4
       try clear hcz28_5
       try clear hcz29_0
       try clear hcz29_1
       try clear hcz29_2
       try clear hcz29_3
       try clear hcz29_4
       try clear hcz29_5
       try clear hcz31_0
       try clear hcz31_1
       try clear hcz31_2
       try clear hcz31_3
       try clear hcz31_4
       try clear hcz31_5
       try clear hcz4_0
       try clear hcz4_1
       try clear hcz4_2
       try clear hcz4_3
       try clear hcz4_4
       try clear hcz4_5
       try clear hcz9_0
       try clear hcz9_1
       try clear hcz9_2
       try clear hcz9_3
       try clear hcz9_4
       try clear hcz9_5
       try clear hfz10_0
       try clear hfz10_1
       try clear hfz10_2
       try clear hfz10_3
       try clear hfz10_4
       try clear hfz10_5
       try clear hfz11_0
       try clear hfz11_1
       try clear hfz11_2
       try clear hfz11_3
       try clear hfz11_4
       try clear hfz11_5
       try clear hfz12_0
       try clear hfz12_1
       try clear hfz12_2
       try clear hfz12_3
       try clear hfz12_4
       try clear hfz12_5
       try clear hfz19_0
       try clear hfz19_1
       try clear hfz19_2
       try clear hfz19_3
       try clear hfz19_4
       try clear hfz19_5
       try clear hfz20_0
       try clear hfz20_1
       try clear hfz20_2
       try clear hfz20_3
       try clear hfz20_4
       try clear hfz20_5
       try clear hfz21_0
       try clear hfz21_1
       try clear hfz21_2
       try clear hfz21_3
       try clear hfz21_4
       try clear hfz21_5
       try clear hfz22_0
       try clear hfz22_1
       try clear hfz22_2
       try clear hfz22_3
       try clear hfz22_4
       try clear hfz22_5
       try clear hfz27_0
       try clear hfz27_1
       try clear hfz27_2
       try clear hfz27_3
       try clear hfz27_4
       try clear hfz27_5
       try clear hfz28_0
       try clear hfz28_1
       try clear hfz28_2
       try clear hfz28_3
       try clear hfz28_4
       try clear hfz28_5
       try clear hfz29_0
       try clear hfz29_1
       try clear hfz29_2
       try clear hfz29_3
       try clear hfz29_4
       try clear hfz29_5
       try clear hfz31_0
       try clear hfz31_1
       try clear hfz31_2
       try clear hfz31_3
       try clear hfz31_4
       try clear hfz31_5
       try clear hfz4_0
       try clear hfz4_1
       try clear hfz4_2
       try clear hfz4_3
       try clear hfz4_4
       try clear hfz4_5
       try clear hfz9_0
       try clear hfz9_1
       try clear hfz9_2
       try clear hfz9_3
       try clear hfz9_4
       try clear hfz9_5
       try clear p2
       obtain ⟨x54_3, rfl, HA, HK3, BK292, HB⟩ := hrel; cases gk with
       | zero => exact absurd HA.out (by simp [impl_BatchValid.l0])
       | succ k3 =>
        have H := HA.out; clear HA; simp only [impl_BatchValid.l0] at H; by_cases c32 : x54_3 < (l0_5.length : Int)
        ·
         rw [if_pos c32] at H; have c32b0 : decide (x54_3 < (l0_5.length : Int)) = true := decide_eq_true c32; clear c32; by_cases c33 : 0 ≤ x54_3
         ·
          rw [if_pos c33] at H; have c33b0 : decide (0 ≤ x54_3) = true := decide_eq_true c33; clear c33; by_cases c34 : x54_3 < (l0_5.length : Int)
          ·
           rw [if_pos c34] at H; have c34b0 : decide (x54_3 < (l0_5.length : Int)) = true := decide_eq_true c34; clear c34; replace H := Option.bind_eq_some_iff.mp H; obtain ⟨t299, A350, H⟩ := H; replace H : (if t299 = true then (if x54_3 > 0 then (if 0 ≤ (wrap64 (x54_3 - 1)) then (if (wrap64 (x54_3 - 1)) < (l0_5.length : Int) then (if ((rd_T79 l0_5 (wrap64 (x54_3 - 1))).f0) ≥ ((rd_T79 l0_5 x54_3).f0) then (some false) else (impl_BatchValid.l0 k3 l0_5 (l0_5.length : Int) (wrap64 (x54_3 + 1)) a0_0 a0_1 a0_2 a0_3 a0_4 l0_5)) else (none)) else (none)) else (impl_BatchValid.l0 k3 l0_5 (l0_5.length : Int) (wrap64 (x54_3 + 1)) a0_0 a0_1 a0_2 a0_3 a0_4 l0_5)) else (some false)) = some r := H; have A35 := zzm A350; clear A350; by_cases c36 : t299 = true
           ·
            subst c36; have H1 : (if x54_3 > 0 then (if 0 ≤ (wrap64 (x54_3 - 1)) then (if (wrap64 (x54_3 - 1)) < (l0_5.length : Int) then (if ((rd_T79 l0_5 (wrap64 (x54_3 - 1))).f0) ≥ ((rd_T79 l0_5 x54_3).f0) then (some false) else (impl_BatchValid.l0 k3 l0_5 (l0_5.length : Int) (wrap64 (x54_3 + 1)) a0_0 a0_1 a0_2 a0_3 a0_4 l0_5)) else (none)) else (none)) else (impl_BatchValid.l0 k3 l0_5 (l0_5.length : Int) (wrap64 (x54_3 + 1)) a0_0 a0_1 a0_2 a0_3 a0_4 l0_5)) = some r := by rw [if_pos rfl] at H; exact H
            clear H; have H := H1; clear H1; by_cases c37 : x54_3 > 0
            ·
             rw [if_pos c37] at H; have c37b0 : decide (0 < x54_3) = true := decide_eq_true c37; clear c37; obtain ⟨ji38, hji38⟩ : ∃ j_ : Int, (wrap64 (x54_3 - 1)) = j_ := ⟨_, rfl⟩; replace H : (if 0 ≤ (ji38) then (if (ji38) < (l0_5.length : Int) then (if ((rd_T79 l0_5 (ji38)).f0) ≥ ((rd_T79 l0_5 x54_3).f0) then (some false) else (impl_BatchValid.l0 k3 l0_5 (l0_5.length : Int) (wrap64 (x54_3 + 1)) a0_0 a0_1 a0_2 a0_3 a0_4 l0_5)) else (none)) else (none)) = some r := by first | (rw [hji38] at H; exact H) | (simp only [hji38] at H ⊢; exact H)
             (try rw [hji38] at A35); have hji38w : (IntKind.i64.wrap (x54_3 - 1)) = ji38 := (i64_w _).trans hji38; by_cases c39 : 0 ≤ (ji38)
             ·
              rw [if_pos c39] at H; have c39b0 : decide (0 ≤ (ji38)) = true := decide_eq_true c39; clear c39; by_cases c40 : (ji38) < (l0_5.length : Int)
              ·
               rw [if_pos c40] at H; have c40b0 : decide ((ji38) < (l0_5.length : Int)) = true := decide_eq_true c40; clear c40; by_cases c41 : ((rd_T79 l0_5 (ji38)).f0) ≥ ((rd_T79 l0_5 x54_3).f0)
               ·
                rw [if_pos c41] at H; have c41b0 : decide (((rd_T79 l0_5 x54_3).f0) ≤ ((rd_T79 l0_5 (ji38)).f0)) = true := decide_eq_true c41; clear c41; obtain rfl := Option.some.inj H; have p297 : 0 ≤ (x54_3 : Int) := of_decide_eq_true (by first | (with_reducible assumption) | assumption); have q297 : x54_3 < (l0_5.length : Int) := of_decide_eq_true (by first | (with_reducible assumption) | assumption); obtain ⟨ad297, A297_3, c297_3, A297_5, c297_5, e297, hx297_0, hx297_1, hx297_2, hx297_3, hx297_4, hx297_5, hl297_3, hi297_3, hl297_5, hi297_5⟩ := at_T79 HR0_5.out x54_3 p297 q297; cases e297; replace hx297_0 := (HB.out.cell (zzn w _ hx297_0)).trans hx297_0; replace hx297_1 := (HB.out.cell (zzn w _ hx297_1)).trans hx297_1; replace hx297_2 := (HB.out.cell (zzn w _ hx297_2)).trans hx297_2; replace hx297_3 := (HB.out.cell (zzn w _ hx297_3)).trans hx297_3; replace hx297_4 := (HB.out.cell (zzn w _ hx297_4)).trans hx297_4; replace hx297_5 := (HB.out.cell (zzn w _ hx297_5)).trans hx297_5; have HR297_3 := zzm hi297_3; have HC297_3 := zzm hl297_3; clear hi297_3 hl297_3; have HR297_5 := zzm hi297_5; have HC297_5 := zzm hl297_5; clear hi297_5 hl297_5; replace p297 := eq_true p297; replace q297 := eq_true q297; try go_wp2_with (first | ((with_reducible refine gate_dst (N := 4) rfl ?_); (try (refine gate_guard (by rfl) ?_; dsimp only)); refine box_event ?hg (N := 4) ?hd (cs := #[.int .i64 0, .int .i64 0, .bool false, .slice none 0 0, .bool false, .slice none 0 0]) (t := 79) ?hr ?_; (case hd => rfl); (case hg => rfl); (case hr => first | (go_simp; done) | (go_simp; rfl)); intro gb298 hg w42 hbox hb; have n0_ := zzm (zzh (g := gb292) (o := .cells #[.bool a0_0, .bool a0_1, .int .i64 a0_2, .int .i64 a0_3, .int .i64 a0_4, .slice (some ad297) l0_5.length c0_5] 34 (0, 0)) (by (with_reducible repeat (first | refine zzf ?_ _ | refine zzg ?_ | refine zze ?_ _)); exact BK292.out) hb); have n1_ := zzm (zzp (by repeat (first | (with_reducible first | exact HB.out | apply zza | apply zzb | apply zzc | refine zzd ?_ GE292.out) | exact HB.out)) hb); have n2_ := zzm (hbox); have n3_ := zzm ((by rw [hg]; exact (zzo (by repeat (first | (with_reducible first | exact HB.out | apply zza | apply zzb | apply zzc | refine zzd ?_ GE292.out) | exact HB.out))) : w.heap.size ≤ gb298)); have n4_ := zzm ((by rw [hg]; exact (zzo (by repeat (first | (with_reducible first | exact HB.out | apply zza | apply zzb | apply zzc | refine zzd ?_ GE292.out) | exact HB.out))) : w.heap.size ≤ gb298)); have n5_ := zzm ((by rw [hg]; exact Nat.ne_of_lt (blk_lt (g := gb292) (o := .cells #[.bool a0_0, .bool a0_1, .int .i64 a0_2, .int .i64 a0_3, .int .i64 a0_4, .slice (some ad297) l0_5.length c0_5] 34 (0, 0)) (by (with_reducible repeat (first | refine zzf ?_ _ | refine zzg ?_ | refine zze ?_ _)); exact BK292.out)) : gb292 ≠ gb298)); have n6_ := zzm ((by rw [hg]; exact Nat.ne_of_gt (blk_lt (g := gb292) (o := .cells #[.bool a0_0, .bool a0_1, .int .i64 a0_2, .int .i64 a0_3, .int .i64 a0_4, .slice (some ad297) l0_5.length c0_5] 34 (0, 0)) (by (with_reducible repeat (first | refine zzf ?_ _ | refine zzg ?_ | refine zze ?_ _)); exact BK292.out)) : gb298 ≠ gb292)); clear BK292 HB; have BK292 := n0_; have HB := n1_; have BK298 := n2_; have GW298 := n3_; have GE298 := n4_; have NB292_298 := n5_; have NB298_292 := n6_; clear n0_ n1_ n2_ n3_ n4_ n5_ n6_ hb hbox hg; have hnb43 := NB298_292.out; have hnc43 := NB292_298.out; obtain ⟨hcz44_0, hcz44_1, hcz44_2, hcz44_3, hcz44_4, hcz44_5, hfz44_0, hfz44_1, hfz44_2, hfz44_3, hfz44_4, hfz44_5⟩ := zzc6 BK298.out))
                have n0_ : Aside0 (((((((w42.setCell ⟨gb298, 0, none⟩ (.int .i64 ((rd_T79 l0_5 x54_3).f0))).setCell ⟨gb298, 1, none⟩ (.int .i64 ((rd_T79 l0_5 x54_3).f1))).setCell ⟨gb298, 2, none⟩ (.bool ((rd_T79 l0_5 x54_3).f2))).setCell ⟨gb298, 3, none⟩ (.slice A297_3 ((rd_T79 l0_5 x54_3).f3).length c297_3)).setCell ⟨gb298, 4, none⟩ (.bool ((rd_T79 l0_5 x54_3).f4))).setCell ⟨gb298, 5, none⟩ (.slice A297_5 ((rd_T79 l0_5 x54_3).f5).length c297_5)).heap[gb292]? = some (.cells #[.bool a0_0, .bool a0_1, .int .i64 a0_2, .int .i64 a0_3, .int .i64 a0_4, .slice (some ad297) l0_5.length c0_5] 34 (0, 0))) := ⟨by (with_reducible repeat (first | refine zzf ?_ _ | refine zzg ?_ | refine zze ?_ _)); refine zzj ?_ NB292_298.out _; (with_reducible repeat (first | refine zzf ?_ _ | refine zzg ?_ | refine zze ?_ _)); refine zzj ?_ NB292_298.out _; (with_reducible repeat (first | refine zzf ?_ _ | refine zzg ?_ | refine zze ?_ _)); refine zzj ?_ NB292_298.out _; (with_reducible repeat (first | refine zzf ?_ _ | refine zzg ?_ | refine zze ?_ _)); refine zzj ?_ NB292_298.out _; (with_reducible repeat (first | refine zzf ?_ _ | refine zzg ?_ | refine zze ?_ _)); refine zzj ?_ NB292_298.out _; (with_reducible repeat (first | refine zzf ?_ _ | refine zzg ?_ | refine zze ?_ _)); refine zzj ?_ NB292_298.out _; (with_reducible repeat (first | refine zzf ?_ _ | refine zzg ?_ | refine zze ?_ _)); exact BK292.out⟩; have n1_ : Aside0 (((((((w42.setCell ⟨gb298, 0, none⟩ (.int .i64 ((rd_T79 l0_5 x54_3).f0))).setCell ⟨gb298, 1, none⟩ (.int .i64 ((rd_T79 l0_5 x54_3).f1))).setCell ⟨gb298, 2, none⟩ (.bool ((rd_T79 l0_5 x54_3).f2))).setCell ⟨gb298, 3, none⟩ (.slice A297_3 ((rd_T79 l0_5 x54_3).f3).length c297_3)).setCell ⟨gb298, 4, none⟩ (.bool ((rd_T79 l0_5 x54_3).f4))).setCell ⟨gb298, 5, none⟩ (.slice A297_5 ((rd_T79 l0_5 x54_3).f5).length c297_5)).heap[gb298]? = some (.cells #[.int .i64 ((rd_T79 l0_5 x54_3).f0), .int .i64 ((rd_T79 l0_5 x54_3).f1), .bool ((rd_T79 l0_5 x54_3).f2), .slice A297_3 ((rd_T79 l0_5 x54_3).f3).length c297_3, .bool ((rd_T79 l0_5 x54_3).f4), .slice A297_5 ((rd_T79 l0_5 x54_3).f5).length c297_5] 79 (0, 0))) := ⟨by (with_reducible repeat (first | refine zzf ?_ _ | refine zzg ?_ | refine zze ?_ _)); refine zzi (cs := #[.int .i64 ((rd_T79 l0_5 x54_3).f0), .int .i64 ((rd_T79 l0_5 x54_3).f1), .bool ((rd_T79 l0_5 x54_3).f2), .slice A297_3 ((rd_T79 l0_5 x54_3).f3).length c297_3, .bool ((rd_T79 l0_5 x54_3).f4), .slice none 0 0]) ?_ 5 _ rfl; (with_reducible repeat (first | refine zzf ?_ _ | refine zzg ?_ | refine zze ?_ _)); refine zzi (cs := #[.int .i64 ((rd_T79 l0_5 x54_3).f0), .int .i64 ((rd_T79 l0_5 x54_3).f1), .bool ((rd_T79 l0_5 x54_3).f2), .slice A297_3 ((rd_T79 l0_5 x54_3).f3).length c297_3, .bool false, .slice none 0 0]) ?_ 4 _ rfl; (with_reducible repeat (first | refine zzf ?_ _ | refine zzg ?_ | refine zze ?_ _)); refine zzi (cs := #[.int .i64 ((rd_T79 l0_5 x54_3).f0), .int .i64 ((rd_T79 l0_5 x54_3).f1), .bool ((rd_T79 l0_5 x54_3).f2), .slice none 0 0, .bool false, .slice none 0 0]) ?_ 3 _ rfl; (with_reducible repeat (first | refine zzf ?_ _ | refine zzg ?_ | refine zze ?_ _)); refine zzi (cs := #[.int .i64 ((rd_T79 l0_5 x54_3).f0), .int .i64 ((rd_T79 l0_5 x54_3).f1), .bool false, .slice none 0 0, .bool false, .slice none 0 0]) ?_ 2 _ rfl; (with_reducible repeat (first | refine zzf ?_ _ | refine zzg ?_ | refine zze ?_ _)); refine zzi (cs := #[.int .i64 ((rd_T79 l0_5 x54_3).f0), .int .i64 0, .bool false, .slice none 0 0, .bool false, .slice none 0 0]) ?_ 1 _ rfl; (with_reducible repeat (first | refine zzf ?_ _ | refine zzg ?_ | refine zze ?_ _)); refine zzi (cs := #[.int .i64 0, .int .i64 0, .bool false, .slice none 0 0, .bool false, .slice none 0 0]) ?_ 0 _ rfl; (with_reducible repeat (first | refine zzf ?_ _ | refine zzg ?_ | refine zze ?_ _)); exact BK298.out⟩; have n2_ : Aside0 (Below w.heap.size w ((((((w42.setCell ⟨gb298, 0, none⟩ (.int .i64 ((rd_T79 l0_5 x54_3).f0))).setCell ⟨gb298, 1, none⟩ (.int .i64 ((rd_T79 l0_5 x54_3).f1))).setCell ⟨gb298, 2, none⟩ (.bool ((rd_T79 l0_5 x54_3).f2))).setCell ⟨gb298, 3, none⟩ (.slice A297_3 ((rd_T79 l0_5 x54_3).f3).length c297_3)).setCell ⟨gb298, 4, none⟩ (.bool ((rd_T79 l0_5 x54_3).f4))).setCell ⟨gb298, 5, none⟩ (.slice A297_5 ((rd_T79 l0_5 x54_3).f5).length c297_5))) := ⟨by repeat (first | (with_reducible first | exact HB.out | apply zza | apply zzb | apply zzc | refine zzd ?_ GE292.out | refine zzd ?_ GE298.out) | exact HB.out)⟩; (try clear BK292); (try clear BK298); (try clear HB); generalize ((((((w42.setCell ⟨gb298, 0, none⟩ (.int .i64 ((rd_T79 l0_5 x54_3).f0))).setCell ⟨gb298, 1, none⟩ (.int .i64 ((rd_T79 l0_5 x54_3).f1))).setCell ⟨gb298, 2, none⟩ (.bool ((rd_T79 l0_5 x54_3).f2))).setCell ⟨gb298, 3, none⟩ (.slice A297_3 ((rd_T79 l0_5 x54_3).f3).length c297_3)).setCell ⟨gb298, 4, none⟩ (.bool ((rd_T79 l0_5 x54_3).f4))).setCell ⟨gb298, 5, none⟩ (.slice A297_5 ((rd_T79 l0_5 x54_3).f5).length c297_5)) = w45 at n0_ n1_ n2_ ⊢; have BK292 := n0_; have BK298 := n1_; have HB := n2_; clear n0_ n1_ n2_; have n0_ := zzm (zzg BK292.out); have n1_ := zzm (zzg BK298.out); have n2_ := zzm (zzc HB.out); clear BK292; clear BK298; clear HB; have BK292 := n0_; have BK298 := n1_; have HB := n2_; clear n0_ n1_ n2_; have p300 : 0 ≤ ((ji38) : Int) := of_decide_eq_true (by first | (with_reducible assumption) | assumption); have q300 : (ji38) < (l0_5.length : Int) := of_decide_eq_true (by first | (with_reducible assumption) | assumption); obtain ⟨ad300, A300_3, c300_3, A300_5, c300_5, e300, hx300_0, hx300_1, hx300_2, hx300_3, hx300_4, hx300_5, hl300_3, hi300_3, hl300_5, hi300_5⟩ := at_T79 HR0_5.out (ji38) p300 q300; have hw300_5 := hx300_5; have hw300_4 := hx300_4; have hw300_3 := hx300_3; have hw300_2 := hx300_2; have hw300_1 := hx300_1; have hw300_0 := hx300_0; obtain rfl : ad297 = ad300 := (by injection e300); replace hx300_0 := (HB.out.cell (zzn w _ hx300_0)).trans hx300_0; replace hx300_1 := (HB.out.cell (zzn w _ hx300_1)).trans hx300_1; replace hx300_2 := (HB.out.cell (zzn w _ hx300_2)).trans hx300_2; replace hx300_3 := (HB.out.cell (zzn w _ hx300_3)).trans hx300_3; replace hx300_4 := (HB.out.cell (zzn w _ hx300_4)).trans hx300_4; replace hx300_5 := (HB.out.cell (zzn w _ hx300_5)).trans hx300_5; have HR300_3 := zzm hi300_3; have HC300_3 := zzm hl300_3; clear hi300_3 hl300_3; have HR300_5 := zzm hi300_5; have HC300_5 := zzm hl300_5; clear hi300_5 hl300_5; replace p300 := eq_true p300; replace q300 := eq_true q300; refine start_ (n := 19) (S := fun w' => w'.cell? ⟨gb298, 0, none⟩ = some (.int .i64 ((rd_T79 l0_5 x54_3).f0)) ∧ w'.cell? ⟨gb298, 1, none⟩ = some (.int .i64 ((rd_T79 l0_5 x54_3).f1)) ∧ w'.cell? ⟨gb298, 2, none⟩ = some (.bool ((rd_T79 l0_5 x54_3).f2)) ∧ w'.cell? ⟨gb298, 3, none⟩ = some (.slice A297_3 ((rd_T79 l0_5 x54_3).f3).length c297_3) ∧ w'.cell? ⟨gb298, 4, none⟩ = some (.bool ((rd_T79 l0_5 x54_3).f4)) ∧ w'.cell? ⟨gb298, 5, none⟩ = some (.slice A297_5 ((rd_T79 l0_5 x54_3).f5).length c297_5) ∧ w'.cell? ⟨gb292, 0, none⟩ = some (.bool a0_0) ∧ w'.cell? ⟨gb292, 1, none⟩ = some (.bool a0_1) ∧ w'.cell? ⟨gb292, 2, none⟩ = some (.int .i64 a0_2) ∧ w'.cell? ⟨gb292, 3, none⟩ = some (.int .i64 a0_3) ∧ w'.cell? ⟨gb292, 4, none⟩ = some (.int .i64 a0_4) ∧ w'.cell? ⟨gb292, 5, none⟩ = some (.slice (some ad297) l0_5.length c0_5) ∧ w'.cell? (ad297.add (((ji38)).toNat * 6)) = some (.int .i64 ((rd_T79 l0_5 (ji38)).f0)) ∧ w'.cell? ⟨(ad297.add (((ji38)).toNat * 6)).block, (ad297.add (((ji38)).toNat * 6)).off + 1, none⟩ = some (.int .i64 ((rd_T79 l0_5 (ji38)).f1)) ∧ w'.cell? ⟨(ad297.add (((ji38)).toNat * 6)).block, (ad297.add (((ji38)).toNat * 6)).off + 2, none⟩ = some (.bool ((rd_T79 l0_5 (ji38)).f2)) ∧ w'.cell? ⟨(ad297.add (((ji38)).toNat * 6)).block, (ad297.add (((ji38)).toNat * 6)).off + 3, none⟩ = some (.slice A300_3 ((rd_T79 l0_5 (ji38)).f3).length c300_3) ∧ w'.cell? ⟨(ad297.add (((ji38)).toNat * 6)).block, (ad297.add (((ji38)).toNat * 6)).off + 4, none⟩ = some (.bool ((rd_T79 l0_5 (ji38)).f4)) ∧ w'.cell? ⟨(ad297.add (((ji38)).toNat * 6)).block, (ad297.add (((ji38)).toNat * 6)).off + 5, none⟩ = some (.slice A300_5 ((rd_T79 l0_5 (ji38)).f5).length c300_5)) (ds := []) (zzB 19 0) (by kernel_rfl) rfl rfl ⟨(zzk BK298.out 0).trans rfl, (zzk BK298.out 1).trans rfl, (zzk BK298.out 2).trans rfl, (zzk BK298.out 3).trans rfl, (zzk BK298.out 4).trans rfl, (zzk BK298.out 5).trans rfl, (zzk BK292.out 0).trans rfl, (zzk BK292.out 1).trans rfl, (zzk BK292.out 2).trans rfl, (zzk BK292.out 3).trans rfl, (zzk BK292.out 4).trans rfl, (zzk BK292.out 5).trans rfl, ((HB.out.cell (zzn w _ hw300_0)).trans hw300_0), ((HB.out.cell (zzn w _ hw300_1)).trans hw300_1), ((HB.out.cell (zzn w _ hw300_2)).trans hw300_2), ((HB.out.cell (zzn w _ hw300_3)).trans hw300_3), ((HB.out.cell (zzn w _ hw300_4)).trans hw300_4), ((HB.out.cell (zzn w _ hw300_5)).trans hw300_5)⟩ (fun hHeld => ?_); refine with_tabW impl_BatchValid.tab11 impl_BatchValid.bits11 (fun HT_ HW_ => ?_); generalize w45.drew = w46 at BK292 BK298 HB HR300_3 HR300_5 hx300_0 hx300_1 hx300_2 hx300_3 hx300_4 hx300_5 hHeld ⊢; refine take_ (i := 0) (N := some 59) (v := ?_) (a' := ?_) (zzB 19 1) rfl rfl (take_ofW HT_.out HW_.out (by kernel_rfl)) (fun _ _ _ h => h) (Or.inl ⟨by rfl, ?_⟩) hHeld ?_ ?_; rotate_left
                ·
                 rintro w' ⟨s0, s1, s2, s3, s4, s5, s6, s7, s8, s9, s10, s11, s12, s13, s14, s15, s16, s17⟩; go_simp; with_reducible rfl
                rotate_left
                ·
                 simp only [Act.put, zzq, zzr, zzs, i64_w, i32_w]; rfl
                refine one_ (i := 1) (N := some 60) (zzB 19 3) rfl rfl (one_of HT_.out (by kernel_rfl)) (by decide) (fun K hK => ?_); refine goes_ Try.func61 (by kernel_rfl) rfl #[.agg #[.int .i64 ((rd_T79 l0_5 x54_3).f0), .int .i64 ((rd_T79 l0_5 x54_3).f1), .bool ((rd_T79 l0_5 x54_3).f2), .slice A297_3 ((rd_T79 l0_5 x54_3).f3).length c297_3, .bool ((rd_T79 l0_5 x54_3).f4), .slice A297_5 ((rd_T79 l0_5 x54_3).f5).length c297_5]] (by rfl) rfl rfl (by (try simp only [List.map_toArray, List.map_cons, List.map_nil]); first | done | rfl | (simp only [List.length_drop, List.length_take]; rfl)) ?_; with_reducible refine (impl_RecordValid.calls k3 ((rd_T79 l0_5 x54_3).f0) ((rd_T79 l0_5 x54_3).f1) ((rd_T79 l0_5 x54_3).f2) _ _ ((rd_T79 l0_5 x54_3).f3) ((rd_T79 l0_5 x54_3).f4) _ _ ((rd_T79 l0_5 x54_3).f5) true _ ?side1 ?side2 ?side3 ?side4 A35.out).mono ?_; (case side1 => repeat (first | exact (Kd.C_below HR297_3.out HB.out) | (with_reducible refine Kd.C_alloc ?_ _) | (with_reducible refine Kd.C_drewN ?_ _) | (with_reducible refine Kd.C_drew ?_))); (case side2 => exact HC297_3.out); (case side3 => repeat (first | exact (Kd.C_below HR297_5.out HB.out) | (with_reducible refine Kd.C_alloc ?_ _) | (with_reducible refine Kd.C_drewN ?_ _) | (with_reducible refine Kd.C_drew ?_))); (case side4 => exact HC297_5.out); rintro e w47 ⟨rfl, hb⟩; refine ⟨_, rfl, ?_⟩; have n0_ := zzm (zzh (g := gb292) (o := .cells #[.bool a0_0, .bool a0_1, .int .i64 a0_2, .int .i64 a0_3, .int .i64 a0_4, .slice (some ad297) l0_5.length c0_5] 34 (0, 0)) (by (with_reducible repeat (first | refine zzf ?_ _ | refine zzg ?_ | refine zze ?_ _)); exact BK292.out) hb); have n1_ := zzm (zzh (g := gb298) (o := .cells #[.int .i64 ((rd_T79 l0_5 x54_3).f0), .int .i64 ((rd_T79 l0_5 x54_3).f1), .bool ((rd_T79 l0_5 x54_3).f2), .slice A297_3 ((rd_T79 l0_5 x54_3).f3).length c297_3, .bool ((rd_T79 l0_5 x54_3).f4), .slice A297_5 ((rd_T79 l0_5 x54_3).f5).length c297_5] 79 (0, 0)) (by (with_reducible repeat (first | refine zzf ?_ _ | refine zzg ?_ | refine zze ?_ _)); exact BK298.out) hb); have n2_ := zzm (zzp (by repeat (first | (with_reducible first | exact HB.out | apply zza | apply zzb | apply zzc | refine zzd ?_ GE292.out | refine zzd ?_ GE298.out) | exact HB.out)) hb); clear BK292; clear BK298; clear HB; have BK292 := n0_; have BK298 := n1_; have HB := n2_; clear n0_ n1_ n2_; (try clear hb); (try clear hb2); (try clear hk); (try clear hi); refine hK.out _ _ ⟨(zzk BK298.out 0).trans rfl, (zzk BK298.out 1).trans rfl, (zzk BK298.out 2).trans rfl, (zzk BK298.out 3).trans rfl, (zzk BK298.out 4).trans rfl, (zzk BK298.out 5).trans rfl, (zzk BK292.out 0).trans rfl, (zzk BK292.out 1).trans rfl, (zzk BK292.out 2).trans rfl, (zzk BK292.out 3).trans rfl, (zzk BK292.out 4).trans rfl, (zzk BK292.out 5).trans rfl, ((HB.out.cell (zzn w _ hw300_0)).trans hw300_0), ((HB.out.cell (zzn w _ hw300_1)).trans hw300_1), ((HB.out.cell (zzn w _ hw300_2)).trans hw300_2), ((HB.out.cell (zzn w _ hw300_3)).trans hw300_3), ((HB.out.cell (zzn w _ hw300_4)).trans hw300_4), ((HB.out.cell (zzn w _ hw300_5)).trans hw300_5)⟩ (fun hHeld => ?_); clear hK K; refine norm_ (a' := ?_) ?_ ?_; rotate_left
                ·
                 show Act.put _ (some 60) _ = _; simp only [Act.put, zzq, zzr, zzs, i64_w, i32_w]; rfl
                refine pure_ (i := 2) (N := some 61) (v := ?_) (a' := ?_) (zzB 19 7) rfl rfl (any_of HT_.out (by kernel_rfl)) (fun _ _ _ h => h) (Or.inl ⟨by rfl, ?_⟩) ?_ ?_; rotate_left
                ·
                 intro w'; go_simp; with_reducible rfl
                rotate_left
                ·
                 simp only [Act.put, zzq, zzr, zzs, i64_w, i32_w]; rfl
                refine pure_ (i := 3) (N := some 62) (v := ?_) (a' := ?_) (zzB 19 15) rfl rfl (any_of HT_.out (by kernel_rfl)) (fun _ _ _ h => h) (Or.inl ⟨by rfl, ?_⟩) ?_ ?_; rotate_left
                ·
                 intro w'; go_simp; with_reducible rfl
                rotate_left
                ·
                 simp only [Act.put, zzq, zzr, zzs, i64_w, i32_w]; rfl
                refine pure_ (i := 4) (N := some 63) (v := ?_) (a' := ?_) (zzB 19 31) rfl rfl (any_of HT_.out (by kernel_rfl)) (fun _ _ _ h => h) (Or.inl ⟨by rfl, ?_⟩) ?_ ?_; rotate_left
                ·
                 intro w'; go_simp; with_reducible rfl
                rotate_left
                ·
                 simp only [Act.put, zzq, zzr, zzs, i64_w, i32_w]; rfl
                refine pure_ (i := 5) (N := some 64) (v := ?_) (a' := ?_) (zzB 19 63) rfl rfl (any_of HT_.out (by kernel_rfl)) (fun _ _ _ h => h) (Or.inl ⟨by rfl, ?_⟩) ?_ ?_; rotate_left
                ·
                 intro w'; go_simp; with_reducible rfl
                rotate_left
                ·
                 simp only [Act.put, zzq, zzr, zzs, i64_w, i32_w]; rfl
                refine pure_ (i := 6) (N := some 65) (v := ?_) (a' := ?_) (zzB 19 127) rfl rfl (any_of HT_.out (by kernel_rfl)) (fun _ _ _ h => h) (Or.inl ⟨by rfl, ?_⟩) ?_ ?_; rotate_left
                ·
                 intro w'; go_simp; with_reducible rfl
                rotate_left
                ·
                 simp only [Act.put, zzq, zzr, zzs, i64_w, i32_w]; rfl
                refine pure_ (i := 7) (N := some 66) (v := ?_) (a' := ?_) (zzB 19 255) rfl rfl (any_of HT_.out (by kernel_rfl)) (fun _ _ _ h => h) (Or.inl ⟨by rfl, ?_⟩) ?_ ?_; rotate_left
                ·
                 intro w'; go_simp; with_reducible rfl
                rotate_left
                ·
                 simp only [Act.put, zzq, zzr, zzs, i64_w, i32_w]; rfl
                refine pure_ (i := 9) (N := some 68) (v := ?_) (a' := ?_) (zzB 19 767) rfl rfl (any_of HT_.out (by kernel_rfl)) (fun _ _ _ h => h) (Or.inl ⟨by rfl, ?_⟩) ?_ ?_; rotate_left
                ·
                 intro w'; go_simp; with_reducible rfl
                rotate_left
                ·
                 simp only [Act.put, zzq, zzr, zzs, i64_w, i32_w]; rfl
                refine pure_ (i := 10) (N := some 69) (v := ?_) (a' := ?_) (zzB 19 1791) rfl rfl (any_of HT_.out (by kernel_rfl)) (fun _ _ _ h => h) (Or.inl ⟨by rfl, ?_⟩) ?_ ?_; rotate_left
                ·
                 intro w'; go_simp; with_reducible rfl
                rotate_left
                ·
                 simp only [Act.put, zzq, zzr, zzs, i64_w, i32_w]; rfl
                refine pure_ (i := 14) (N := some 73) (v := ?_) (a' := ?_) (zzB 19 18175) rfl rfl (any_of HT_.out (by kernel_rfl)) (fun _ _ _ h => h) (Or.inl ⟨by rfl, ?_⟩) ?_ ?_; rotate_left
                ·
                 intro w'; go_simp; with_reducible rfl
                rotate_left
                ·
                 simp only [Act.put, zzq, zzr, zzs, i64_w, i32_w]; rfl
                refine take_ (i := 8) (N := some 67) (v := ?_) (a' := ?_) (zzB 19 18431) rfl rfl (take_ofW HT_.out HW_.out (by kernel_rfl)) (fun _ _ _ h => h) (Or.inl ⟨by rfl, ?_⟩) hHeld ?_ ?_; rotate_left
                ·
                 rintro w' ⟨s0, s1, s2, s3, s4, s5, s6, s7, s8, s9, s10, s11, s12, s13, s14, s15, s16, s17⟩; go_simp; with_reducible rfl
                rotate_left
                ·
                 simp only [Act.put, zzq, zzr, zzs, i64_w, i32_w]; rfl
                refine pure_ (i := 11) (N := some 70) (v := ?_) (a' := ?_) (zzB 19 20479) rfl rfl (any_of HT_.out (by kernel_rfl)) (fun _ _ _ h => h) (Or.inl ⟨by rfl, ?_⟩) ?_ ?_; rotate_left
                ·
                 intro w'; go_simp; with_reducible rfl
                rotate_left
                ·
                 simp only [Act.put, zzq, zzr, zzs, i64_w, i32_w]; rfl
                refine pure_ (i := 12) (N := some 71) (v := ?_) (a' := ?_) (zzB 19 24575) rfl rfl (any_of HT_.out (by kernel_rfl)) (fun _ _ _ h => h) (Or.inl ⟨by rfl, ?_⟩) ?_ ?_; rotate_left
                ·
                 intro w'; go_simp; with_reducible rfl
                rotate_left
                ·
                 simp only [Act.put, zzq, zzr, zzs, i64_w, i32_w]; rfl
                refine take_ (i := 13) (N := some 72) (v := ?_) (a' := ?_) (zzB 19 32767) rfl rfl (take_ofW HT_.out HW_.out (by kernel_rfl)) (fun _ _ _ h => h) (Or.inl ⟨by rfl, ?_⟩) hHeld ?_ ?_; rotate_left
                ·
                 rintro w' ⟨s0, s1, s2, s3, s4, s5, s6, s7, s8, s9, s10, s11, s12, s13, s14, s15, s16, s17⟩; go_simp; with_reducible rfl
                rotate_left
                ·
                 simp only [Act.put, zzq, zzr, zzs, i64_w, i32_w]; rfl
                refine take_ (i := 15) (N := some 74) (v := ?_) (a' := ?_) (zzB 19 65535) rfl rfl (take_ofW HT_.out HW_.out (by kernel_rfl)) (fun _ _ _ h => h) (Or.inl ⟨by rfl, ?_⟩) hHeld ?_ ?_; rotate_left
                ·
                 rintro w' ⟨s0, s1, s2, s3, s4, s5, s6, s7, s8, s9, s10, s11, s12, s13, s14, s15, s16, s17⟩; go_simp; with_reducible rfl
                rotate_left
                ·
                 simp only [Act.put, zzq, zzr, zzs, i64_w, i32_w]; rfl
                refine pure_ (i := 16) (N := some 75) (v := ?_) (a' := ?_) (zzB 19 131071) rfl rfl (any_of HT_.out (by kernel_rfl)) (fun _ _ _ h => h) (Or.inl ⟨by rfl, ?_⟩) ?_ ?_; rotate_left
                ·
                 intro w'; go_simp; with_reducible rfl
                rotate_left
                ·
                 simp only [Act.put, zzq, zzr, zzs, i64_w, i32_w]; rfl
                refine pure_ (i := 17) (N := some 76) (v := ?_) (a' := ?_) (zzB 19 262143) rfl rfl (any_of HT_.out (by kernel_rfl)) (fun _ _ _ h => h) (Or.inl ⟨by rfl, ?_⟩) ?_ ?_; rotate_left
                ·
                 intro w'; go_simp; with_reducible rfl
                rotate_left
                ·
                 simp only [Act.put, zzq, zzr, zzs, i64_w, i32_w]; rfl
                refine pure_ (i := 18) (N := some 77) (v := ?_) (a' := ?_) (zzB 19 524287) rfl rfl (any_of HT_.out (by kernel_rfl)) (fun _ _ _ h => h) (Or.inl ⟨by rfl, ?_⟩) ?_ ?_; rotate_left
                ·
                 intro w'; go_simp; with_reducible rfl
                rotate_left
                ·
                 simp only [Act.put, zzq, zzr, zzs, i64_w, i32_w]; rfl
                refine done_ (done_of HT_.out (by kernel_rfl)) ?_; try go_wp2
                go_ret; exact ⟨by first | rfl | (simp [errW_none, errW_some] <;> rfl) | (simp only [← hji38]; first | rfl | (simp [errW_none, errW_some] <;> rfl)) | (simp [*, errW_none, errW_some] <;> rfl), by repeat (first | (with_reducible first | exact HB.out | apply zza | apply zzb | apply zzc | refine zzd ?_ GE292.out | refine zzd ?_ GE298.out) | exact HB.out)⟩
               ·
                rw [if_neg c41] at H; have c41b0 : decide (((rd_T79 l0_5 x54_3).f0) ≤ ((rd_T79 l0_5 (ji38)).f0)) = false := decide_eq_false c41; clear c41; have H' := zzm H; clear H; have p297 : 0 ≤ (x54_3 : Int) := of_decide_eq_true (by first | (with_reducible assumption) | assumption); have q297 : x54_3 < (l0_5.length : Int) := of_decide_eq_true (by first | (with_reducible assumption) | assumption); obtain ⟨ad297, A297_3, c297_3, A297_5, c297_5, e297, hx297_0, hx297_1, hx297_2, hx297_3, hx297_4, hx297_5, hl297_3, hi297_3, hl297_5, hi297_5⟩ := at_T79 HR0_5.out x54_3 p297 q297; cases e297; replace hx297_0 := (HB.out.cell (zzn w _ hx297_0)).trans hx297_0; replace hx297_1 := (HB.out.cell (zzn w _ hx297_1)).trans hx297_1; replace hx297_2 := (HB.out.cell (zzn w _ hx297_2)).trans hx297_2; replace hx297_3 := (HB.out.cell (zzn w _ hx297_3)).trans hx297_3; replace hx297_4 := (HB.out.cell (zzn w _ hx297_4)).trans hx297_4; replace hx297_5 := (HB.out.cell (zzn w _ hx297_5)).trans hx297_5; have HR297_3 := zzm hi297_3; have HC297_3 := zzm hl297_3; clear hi297_3 hl297_3; have HR297_5 := zzm hi297_5; have HC297_5 := zzm hl297_5; clear hi297_5 hl297_5; replace p297 := eq_true p297; replace q297 := eq_true q297; try go_wp2_with (first | ((with_reducible refine gate_dst (N := 4) rfl ?_); (try (refine gate_guard (by rfl) ?_; dsimp only)); refine box_event ?hg (N := 4) ?hd (cs := #[.int .i64 0, .int .i64 0, .bool false, .slice none 0 0, .bool false, .slice none 0 0]) (t := 79) ?hr ?_; (case hd => rfl); (case hg => rfl); (case hr => first | (go_simp; done) | (go_simp; rfl)); intro gb298 hg w48 hbox hb; have n0_ := zzm (zzh (g := gb292) (o := .cells #[.bool a0_0, .bool a0_1, .int .i64 a0_2, .int .i64 a0_3, .int .i64 a0_4, .slice (some ad297) l0_5.length c0_5] 34 (0, 0)) (by (with_reducible repeat (first | refine zzf ?_ _ | refine zzg ?_ | refine zze ?_ _)); exact BK292.out) hb); have n1_ := zzm (zzp (by repeat (first | (with_reducible first | exact HB.out | apply zza | apply zzb | apply zzc | refine zzd ?_ GE292.out) | exact HB.out)) hb); have n2_ := zzm (hbox); have n3_ := zzm ((by rw [hg]; exact (zzo (by repeat (first | (with_reducible first | exact HB.out | apply zza | apply zzb | apply zzc | refine zzd ?_ GE292.out) | exact HB.out))) : w.heap.size ≤ gb298)); have n4_ := zzm ((by rw [hg]; exact (zzo (by repeat (first | (with_reducible first | exact HB.out | apply zza | apply zzb | apply zzc | refine zzd ?_ GE292.out) | exact HB.out))) : w.heap.size ≤ gb298)); have n5_ := zzm ((by rw [hg]; exact Nat.ne_of_lt (blk_lt (g := gb292) (o := .cells #[.bool a0_0, .bool a0_1, .int .i64 a0_2, .int .i64 a0_3, .int .i64 a0_4, .slice (some ad297) l0_5.length c0_5] 34 (0, 0)) (by (with_reducible repeat (first | refine zzf ?_ _ | refine zzg ?_ | refine zze ?_ _)); exact BK292.out)) : gb292 ≠ gb298)); have n6_ := zzm ((by rw [hg]; exact Nat.ne_of_gt (blk_lt (g := gb292) (o := .cells #[.bool a0_0, .bool a0_1, .int .i64 a0_2, .int .i64 a0_3, .int .i64 a0_4, .slice (some ad297) l0_5.length c0_5] 34 (0, 0)) (by (with_reducible repeat (first | refine zzf ?_ _ | refine zzg ?_ | refine zze ?_ _)); exact BK292.out)) : gb298 ≠ gb292)); clear BK292 HB; have BK292 := n0_; have HB := n1_; have BK298 := n2_; have GW298 := n3_; have GE298 := n4_; have NB292_298 := n5_; have NB298_292 := n6_; clear n0_ n1_ n2_ n3_ n4_ n5_ n6_ hb hbox hg; have hnb49 := NB298_292.out; have hnc49 := NB292_298.out; obtain ⟨hcz50_0, hcz50_1, hcz50_2, hcz50_3, hcz50_4, hcz50_5, hfz50_0, hfz50_1, hfz50_2, hfz50_3, hfz50_4, hfz50_5⟩ := zzc6 BK298.out))
                have n0_ : Aside0 (((((((w48.setCell ⟨gb298, 0, none⟩ (.int .i64 ((rd_T79 l0_5 x54_3).f0))).setCell ⟨gb298, 1, none⟩ (.int .i64 ((rd_T79 l0_5 x54_3).f1))).setCell ⟨gb298, 2, none⟩ (.bool ((rd_T79 l0_5 x54_3).f2))).setCell ⟨gb298, 3, none⟩ (.slice A297_3 ((rd_T79 l0_5 x54_3).f3).length c297_3)).setCell ⟨gb298, 4, none⟩ (.bool ((rd_T79 l0_5 x54_3).f4))).setCell ⟨gb298, 5, none⟩ (.slice A297_5 ((rd_T79 l0_5 x54_3).f5).length c297_5)).heap[gb292]? = some (.cells #[.bool a0_0, .bool a0_1, .int .i64 a0_2, .int .i64 a0_3, .int .i64 a0_4, .slice (some ad297) l0_5.length c0_5] 34 (0, 0))) := ⟨by (with_reducible repeat (first | refine zzf ?_ _ | refine zzg ?_ | refine zze ?_ _)); refine zzj ?_ NB292_298.out _; (with_reducible repeat (first | refine zzf ?_ _ | refine zzg ?_ | refine zze ?_ _)); refine zzj ?_ NB292_298.out _; (with_reducible repeat (first | refine zzf ?_ _ | refine zzg ?_ | refine zze ?_ _)); refine zzj ?_ NB292_298.out _; (with_reducible repeat (first | refine zzf ?_ _ | refine zzg ?_ | refine zze ?_ _)); refine zzj ?_ NB292_298.out _; (with_reducible repeat (first | refine zzf ?_ _ | refine zzg ?_ | refine zze ?_ _)); refine zzj ?_ NB292_298.out _; (with_reducible repeat (first | refine zzf ?_ _ | refine zzg ?_ | refine zze ?_ _)); refine zzj ?_ NB292_298.out _; (with_reducible repeat (first | refine zzf ?_ _ | refine zzg ?_ | refine zze ?_ _)); exact BK292.out⟩; have n1_ : Aside0 (((((((w48.setCell ⟨gb298, 0, none⟩ (.int .i64 ((rd_T79 l0_5 x54_3).f0))).setCell ⟨gb298, 1, none⟩ (.int .i64 ((rd_T79 l0_5 x54_3).f1))).setCell ⟨gb298, 2, none⟩ (.bool ((rd_T79 l0_5 x54_3).f2))).setCell ⟨gb298, 3, none⟩ (.slice A297_3 ((rd_T79 l0_5 x54_3).f3).length c297_3)).setCell ⟨gb298, 4, none⟩ (.bool ((rd_T79 l0_5 x54_3).f4))).setCell ⟨gb298, 5, none⟩ (.slice A297_5 ((rd_T79 l0_5 x54_3).f5).length c297_5)).heap[gb298]? = some (.cells #[.int .i64 ((rd_T79 l0_5 x54_3).f0), .int .i64 ((rd_T79 l0_5 x54_3).f1), .bool ((rd_T79 l0_5 x54_3).f2), .slice A297_3 ((rd_T79 l0_5 x54_3).f3).length c297_3, .bool ((rd_T79 l0_5 x54_3).f4), .slice A297_5 ((rd_T79 l0_5 x54_3).f5).length c297_5] 79 (0, 0))) := ⟨by (with_reducible repeat (first | refine zzf ?_ _ | refine zzg ?_ | refine zze ?_ _)); refine zzi (cs := #[.int .i64 ((rd_T79 l0_5 x54_3).f0), .int .i64 ((rd_T79 l0_5 x54_3).f1), .bool ((rd_T79 l0_5 x54_3).f2), .slice A297_3 ((rd_T79 l0_5 x54_3).f3).length c297_3, .bool ((rd_T79 l0_5 x54_3).f4), .slice none 0 0]) ?_ 5 _ rfl; (with_reducible repeat (first | refine zzf ?_ _ | refine zzg ?_ | refine zze ?_ _)); refine zzi (cs := #[.int .i64 ((rd_T79 l0_5 x54_3).f0), .int .i64 ((rd_T79 l0_5 x54_3).f1), .bool ((rd_T79 l0_5 x54_3).f2), .slice A297_3 ((rd_T79 l0_5 x54_3).f3).length c297_3, .bool false, .slice none 0 0]) ?_ 4 _ rfl; (with_reducible repeat (first | refine zzf ?_ _ | refine zzg ?_ | refine zze ?_ _)); refine zzi (cs := #[.int .i64 ((rd_T79 l0_5 x54_3).f0), .int .i64 ((rd_T79 l0_5 x54_3).f1), .bool ((rd_T79 l0_5 x54_3).f2), .slice none 0 0, .bool false, .slice none 0 0]) ?_ 3 _ rfl; (with_reducible repeat (first | refine zzf ?_ _ | refine zzg ?_ | refine zze ?_ _)); refine zzi (cs := #[.int .i64 ((rd_T79 l0_5 x54_3).f0), .int .i64 ((rd_T79 l0_5 x54_3).f1), .bool false, .slice none 0 0, .bool false, .slice none 0 0]) ?_ 2 _ rfl; (with_reducible repeat (first | refine zzf ?_ _ | refine zzg ?_ | refine zze ?_ _)); refine zzi (cs := #[.int .i64 ((rd_T79 l0_5 x54_3).f0), .int .i64 0, .bool false, .slice none 0 0, .bool false, .slice none 0 0]) ?_ 1 _ rfl; (with_reducible repeat (first | refine zzf ?_ _ | refine zzg ?_ | refine zze ?_ _)); refine zzi (cs := #[.int .i64 0, .int .i64 0, .bool false, .slice none 0 0, .bool false, .slice none 0 0]) ?_ 0 _ rfl; (with_reducible repeat (first | refine zzf ?_ _ | refine zzg ?_ | refine zze ?_ _)); exact BK298.out⟩; have n2_ : Aside0 (Below w.heap.size w ((((((w48.setCell ⟨gb298, 0, none⟩ (.int .i64 ((rd_T79 l0_5 x54_3).f0))).setCell ⟨gb298, 1, none⟩ (.int .i64 ((rd_T79 l0_5 x54_3).f1))).setCell ⟨gb298, 2, none⟩ (.bool ((rd_T79 l0_5 x54_3).f2))).setCell ⟨gb298, 3, none⟩ (.slice A297_3 ((rd_T79 l0_5 x54_3).f3).length c297_3)).setCell ⟨gb298, 4, none⟩ (.bool ((rd_T79 l0_5 x54_3).f4))).setCell ⟨gb298, 5, none⟩ (.slice A297_5 ((rd_T79 l0_5 x54_3).f5).length c297_5))) := ⟨by repeat (first | (with_reducible first | exact HB.out | apply zza | apply zzb | apply zzc | refine zzd ?_ GE292.out | refine zzd ?_ GE298.out) | exact HB.out)⟩; (try clear BK292); (try clear BK298); (try clear HB); generalize ((((((w48.setCell ⟨gb298, 0, none⟩ (.int .i64 ((rd_T79 l0_5 x54_3).f0))).setCell ⟨gb298, 1, none⟩ (.int .i64 ((rd_T79 l0_5 x54_3).f1))).setCell ⟨gb298, 2, none⟩ (.bool ((rd_T79 l0_5 x54_3).f2))).setCell ⟨gb298, 3, none⟩ (.slice A297_3 ((rd_T79 l0_5 x54_3).f3).length c297_3)).setCell ⟨gb298, 4, none⟩ (.bool ((rd_T79 l0_5 x54_3).f4))).setCell ⟨gb298, 5, none⟩ (.slice A297_5 ((rd_T79 l0_5 x54_3).f5).length c297_5)) = w51 at n0_ n1_ n2_ ⊢; have BK292 := n0_; have BK298 := n1_; have HB := n2_; clear n0_ n1_ n2_; have n0_ := zzm (zzg BK292.out); have n1_ := zzm (zzg BK298.out); have n2_ := zzm (zzc HB.out); clear BK292; clear BK298; clear HB; have BK292 := n0_; have BK298 := n1_; have HB := n2_; clear n0_ n1_ n2_; have p300 : 0 ≤ ((ji38) : Int) := of_decide_eq_true (by first | (with_reducible assumption) | assumption); have q300 : (ji38) < (l0_5.length : Int) := of_decide_eq_true (by first | (with_reducible assumption) | assumption); obtain ⟨ad300, A300_3, c300_3, A300_5, c300_5, e300, hx300_0, hx300_1, hx300_2, hx300_3, hx300_4, hx300_5, hl300_3, hi300_3, hl300_5, hi300_5⟩ := at_T79 HR0_5.out (ji38) p300 q300; have hw300_5 := hx300_5; have hw300_4 := hx300_4; have hw300_3 := hx300_3; have hw300_2 := hx300_2; have hw300_1 := hx300_1; have hw300_0 := hx300_0; obtain rfl : ad297 = ad300 := (by injection e300); replace hx300_0 := (HB.out.cell (zzn w _ hx300_0)).trans hx300_0; replace hx300_1 := (HB.out.cell (zzn w _ hx300_1)).trans hx300_1; replace hx300_2 := (HB.out.cell (zzn w _ hx300_2)).trans hx300_2; replace hx300_3 := (HB.out.cell (zzn w _ hx300_3)).trans hx300_3; replace hx300_4 := (HB.out.cell (zzn w _ hx300_4)).trans hx300_4; replace hx300_5 := (HB.out.cell (zzn w _ hx300_5)).trans hx300_5; have HR300_3 := zzm hi300_3; have HC300_3 := zzm hl300_3; clear hi300_3 hl300_3; have HR300_5 := zzm hi300_5; have HC300_5 := zzm hl300_5; clear hi300_5 hl300_5; replace p300 := eq_true p300; replace q300 := eq_true q300; refine start_ (n := 19) (S := fun w' => w'.cell? ⟨gb298, 0, none⟩ = some (.int .i64 ((rd_T79 l0_5 x54_3).f0)) ∧ w'.cell? ⟨gb298, 1, none⟩ = some (.int .i64 ((rd_T79 l0_5 x54_3).f1)) ∧ w'.cell? ⟨gb298, 2, none⟩ = some (.bool ((rd_T79 l0_5 x54_3).f2)) ∧ w'.cell? ⟨gb298, 3, none⟩ = some (.slice A297_3 ((rd_T79 l0_5 x54_3).f3).length c297_3) ∧ w'.cell? ⟨gb298, 4, none⟩ = some (.bool ((rd_T79 l0_5 x54_3).f4)) ∧ w'.cell? ⟨gb298, 5, none⟩ = some (.slice A297_5 ((rd_T79 l0_5 x54_3).f5).length c297_5) ∧ w'.cell? ⟨gb292, 0, none⟩ = some (.bool a0_0) ∧ w'.cell? ⟨gb292, 1, none⟩ = some (.bool a0_1) ∧ w'.cell? ⟨gb292, 2, none⟩ = some (.int .i64 a0_2) ∧ w'.cell? ⟨gb292, 3, none⟩ = some (.int .i64 a0_3) ∧ w'.cell? ⟨gb292, 4, none⟩ = some (.int .i64 a0_4) ∧ w'.cell? ⟨gb292, 5, none⟩ = some (.slice (some ad297) l0_5.length c0_5) ∧ w'.cell? (ad297.add (((ji38)).toNat * 6)) = some (.int .i64 ((rd_T79 l0_5 (ji38)).f0)) ∧ w'.cell? ⟨(ad297.add (((ji38)).toNat * 6)).block, (ad297.add (((ji38)).toNat * 6)).off + 1, none⟩ = some (.int .i64 ((rd_T79 l0_5 (ji38)).f1)) ∧ w'.cell? ⟨(ad297.add (((ji38)).toNat * 6)).block, (ad297.add (((ji38)).toNat * 6)).off + 2, none⟩ = some (.bool ((rd_T79 l0_5 (ji38)).f2)) ∧ w'.cell? ⟨(ad297.add (((ji38)).toNat * 6)).block, (ad297.add (((ji38)).toNat * 6)).off + 3, none⟩ = some (.slice A300_3 ((rd_T79 l0_5 (ji38)).f3).length c300_3) ∧ w'.cell? ⟨(ad297.add (((ji38)).toNat * 6)).block, (ad297.add (((ji38)).toNat * 6)).off + 4, none⟩ = some (.bool ((rd_T79 l0_5 (ji38)).f4)) ∧ w'.cell? ⟨(ad297.add (((ji38)).toNat * 6)).block, (ad297.add (((ji38)).toNat * 6)).off + 5, none⟩ = some (.slice A300_5 ((rd_T79 l0_5 (ji38)).f5).length c300_5)) (ds := []) (zzB 19 0) (by kernel_rfl) rfl rfl ⟨(zzk BK298.out 0).trans rfl, (zzk BK298.out 1).trans rfl, (zzk BK298.out 2).trans rfl, (zzk BK298.out 3).trans rfl, (zzk BK298.out 4).trans rfl, (zzk BK298.out 5).trans rfl, (zzk BK292.out 0).trans rfl, (zzk BK292.out 1).trans rfl, (zzk BK292.out 2).trans rfl, (zzk BK292.out 3).trans rfl, (zzk BK292.out 4).trans rfl, (zzk BK292.out 5).trans rfl, ((HB.out.cell (zzn w _ hw300_0)).trans hw300_0), ((HB.out.cell (zzn w _ hw300_1)).trans hw300_1), ((HB.out.cell (zzn w _ hw300_2)).trans hw300_2), ((HB.out.cell (zzn w _ hw300_3)).trans hw300_3), ((HB.out.cell (zzn w _ hw300_4)).trans hw300_4), ((HB.out.cell (zzn w _ hw300_5)).trans hw300_5)⟩ (fun hHeld => ?_); refine with_tabW impl_BatchValid.tab11 impl_BatchValid.bits11 (fun HT_ HW_ => ?_); generalize w51.drew = w52 at BK292 BK298 HB HR300_3 HR300_5 hx300_0 hx300_1 hx300_2 hx300_3 hx300_4 hx300_5 hHeld ⊢; refine take_ (i := 0) (N := some 59) (v := ?_) (a' := ?_) (zzB 19 1) rfl rfl (take_ofW HT_.out HW_.out (by kernel_rfl)) (fun _ _ _ h => h) (Or.inl ⟨by rfl, ?_⟩) hHeld ?_ ?_; rotate_left
                ·
                 rintro w' ⟨s0, s1, s2, s3, s4, s5, s6, s7, s8, s9, s10, s11, s12, s13, s14, s15, s16, s17⟩; go_simp; with_reducible rfl
                rotate_left
                ·
                 simp only [Act.put, zzq, zzr, zzs, i64_w, i32_w]; rfl
                refine one_ (i := 1) (N := some 60) (zzB 19 3) rfl rfl (one_of HT_.out (by kernel_rfl)) (by decide) (fun K hK => ?_); refine goes_ Try.func61 (by kernel_rfl) rfl #[.agg #[.int .i64 ((rd_T79 l0_5 x54_3).f0), .int .i64 ((rd_T79 l0_5 x54_3).f1), .bool ((rd_T79 l0_5 x54_3).f2), .slice A297_3 ((rd_T79 l0_5 x54_3).f3).length c297_3, .bool ((rd_T79 l0_5 x54_3).f4), .slice A297_5 ((rd_T79 l0_5 x54_3).f5).length c297_5]] (by rfl) rfl rfl (by (try simp only [List.map_toArray, List.map_cons, List.map_nil]); first | done | rfl | (simp only [List.length_drop, List.length_take]; rfl)) ?_; with_reducible refine (impl_RecordValid.calls k3 ((rd_T79 l0_5 x54_3).f0) ((rd_T79 l0_5 x54_3).f1) ((rd_T79 l0_5 x54_3).f2) _ _ ((rd_T79 l0_5 x54_3).f3) ((rd_T79 l0_5 x54_3).f4) _ _ ((rd_T79 l0_5 x54_3).f5) true _ ?side1 ?side2 ?side3 ?side4 A35.out).mono ?_; (case side1 => repeat (first | exact (Kd.C_below HR297_3.out HB.out) | (with_reducible refine Kd.C_alloc ?_ _) | (with_reducible refine Kd.C_drewN ?_ _) | (with_reducible refine Kd.C_drew ?_))); (case side2 => exact HC297_3.out); (case side3 => repeat (first | exact (Kd.C_below HR297_5.out HB.out) | (with_reducible refine Kd.C_alloc ?_ _) | (with_reducible refine Kd.C_drewN ?_ _) | (with_reducible refine Kd.C_drew ?_))); (case side4 => exact HC297_5.out); rintro e w53 ⟨rfl, hb⟩; refine ⟨_, rfl, ?_⟩; have n0_ := zzm (zzh (g := gb292) (o := .cells #[.bool a0_0, .bool a0_1, .int .i64 a0_2, .int .i64 a0_3, .int .i64 a0_4, .slice (some ad297) l0_5.length c0_5] 34 (0, 0)) (by (with_reducible repeat (first | refine zzf ?_ _ | refine zzg ?_ | refine zze ?_ _)); exact BK292.out) hb); have n1_ := zzm (zzh (g := gb298) (o := .cells #[.int .i64 ((rd_T79 l0_5 x54_3).f0), .int .i64 ((rd_T79 l0_5 x54_3).f1), .bool ((rd_T79 l0_5 x54_3).f2), .slice A297_3 ((rd_T79 l0_5 x54_3).f3).length c297_3, .bool ((rd_T79 l0_5 x54_3).f4), .slice A297_5 ((rd_T79 l0_5 x54_3).f5).length c297_5] 79 (0, 0)) (by (with_reducible repeat (first | refine zzf ?_ _ | refine zzg ?_ | refine zze ?_ _)); exact BK298.out) hb); have n2_ := zzm (zzp (by repeat (first | (with_reducible first | exact HB.out | apply zza | apply zzb | apply zzc | refine zzd ?_ GE292.out | refine zzd ?_ GE298.out) | exact HB.out)) hb); clear BK292; clear BK298; clear HB; have BK292 := n0_; have BK298 := n1_; have HB := n2_; clear n0_ n1_ n2_; (try clear hb); (try clear hb2); (try clear hk); (try clear hi); refine hK.out _ _ ⟨(zzk BK298.out 0).trans rfl, (zzk BK298.out 1).trans rfl, (zzk BK298.out 2).trans rfl, (zzk BK298.out 3).trans rfl, (zzk BK298.out 4).trans rfl, (zzk BK298.out 5).trans rfl, (zzk BK292.out 0).trans rfl, (zzk BK292.out 1).trans rfl, (zzk BK292.out 2).trans rfl, (zzk BK292.out 3).trans rfl, (zzk BK292.out 4).trans rfl, (zzk BK292.out 5).trans rfl, ((HB.out.cell (zzn w _ hw300_0)).trans hw300_0), ((HB.out.cell (zzn w _ hw300_1)).trans hw300_1), ((HB.out.cell (zzn w _ hw300_2)).trans hw300_2), ((HB.out.cell (zzn w _ hw300_3)).trans hw300_3), ((HB.out.cell (zzn w _ hw300_4)).trans hw300_4), ((HB.out.cell (zzn w _ hw300_5)).trans hw300_5)⟩ (fun hHeld => ?_); clear hK K; refine norm_ (a' := ?_) ?_ ?_; rotate_left
                ·
                 show Act.put _ (some 60) _ = _; simp only [Act.put, zzq, zzr, zzs, i64_w, i32_w]; rfl
                refine pure_ (i := 2) (N := some 61) (v := ?_) (a' := ?_) (zzB 19 7) rfl rfl (any_of HT_.out (by kernel_rfl)) (fun _ _ _ h => h) (Or.inl ⟨by rfl, ?_⟩) ?_ ?_; rotate_left
                ·
                 intro w'; go_simp; with_reducible rfl
                rotate_left
                ·
                 simp only [Act.put, zzq, zzr, zzs, i64_w, i32_w]; rfl
                refine pure_ (i := 3) (N := some 62) (v := ?_) (a' := ?_) (zzB 19 15) rfl rfl (any_of HT_.out (by kernel_rfl)) (fun _ _ _ h => h) (Or.inl ⟨by rfl, ?_⟩) ?_ ?_; rotate_left
                ·
                 intro w'; go_simp; with_reducible rfl
                rotate_left
                ·
                 simp only [Act.put, zzq, zzr, zzs, i64_w, i32_w]; rfl
                refine pure_ (i := 4) (N := some 63) (v := ?_) (a' := ?_) (zzB 19 31) rfl rfl (any_of HT_.out (by kernel_rfl)) (fun _ _ _ h => h) (Or.inl ⟨by rfl, ?_⟩) ?_ ?_; rotate_left
                ·
                 intro w'; go_simp; with_reducible rfl
                rotate_left
                ·
                 simp only [Act.put, zzq, zzr, zzs, i64_w, i32_w]; rfl
                refine pure_ (i := 5) (N := some 64) (v := ?_) (a' := ?_) (zzB 19 63) rfl rfl (any_of HT_.out (by kernel_rfl)) (fun _ _ _ h => h) (Or.inl ⟨by rfl, ?_⟩) ?_ ?_; rotate_left
                ·
                 intro w'; go_simp; with_reducible rfl
                rotate_left
                ·
                 simp only [Act.put, zzq, zzr, zzs, i64_w, i32_w]; rfl
                refine pure_ (i := 6) (N := some 65) (v := ?_) (a' := ?_) (zzB 19 127) rfl rfl (any_of HT_.out (by kernel_rfl)) (fun _ _ _ h => h) (Or.inl ⟨by rfl, ?_⟩) ?_ ?_; rotate_left
                ·
                 intro w'; go_simp; with_reducible rfl
                rotate_left
                ·
                 simp only [Act.put, zzq, zzr, zzs, i64_w, i32_w]; rfl
                refine pure_ (i := 7) (N := some 66) (v := ?_) (a' := ?_) (zzB 19 255) rfl rfl (any_of HT_.out (by kernel_rfl)) (fun _ _ _ h => h) (Or.inl ⟨by rfl, ?_⟩) ?_ ?_; rotate_left
                ·
                 intro w'; go_simp; with_reducible rfl
                rotate_left
                ·
                 simp only [Act.put, zzq, zzr, zzs, i64_w, i32_w]; rfl
                refine pure_ (i := 9) (N := some 68) (v := ?_) (a' := ?_) (zzB 19 767) rfl rfl (any_of HT_.out (by kernel_rfl)) (fun _ _ _ h => h) (Or.inl ⟨by rfl, ?_⟩) ?_ ?_; rotate_left
                ·
                 intro w'; go_simp; with_reducible rfl
                rotate_left
                ·
                 simp only [Act.put, zzq, zzr, zzs, i64_w, i32_w]; rfl
                refine pure_ (i := 10) (N := some 69) (v := ?_) (a' := ?_) (zzB 19 1791) rfl rfl (any_of HT_.out (by kernel_rfl)) (fun _ _ _ h => h) (Or.inl ⟨by rfl, ?_⟩) ?_ ?_; rotate_left
                ·
                 intro w'; go_simp; with_reducible rfl
                rotate_left
                ·
                 simp only [Act.put, zzq, zzr, zzs, i64_w, i32_w]; rfl
                refine pure_ (i := 14) (N := some 73) (v := ?_) (a' := ?_) (zzB 19 18175) rfl rfl (any_of HT_.out (by kernel_rfl)) (fun _ _ _ h => h) (Or.inl ⟨by rfl, ?_⟩) ?_ ?_; rotate_left
                ·
                 intro w'; go_simp; with_reducible rfl
                rotate_left
                ·
                 simp only [Act.put, zzq, zzr, zzs, i64_w, i32_w]; rfl
                refine take_ (i := 8) (N := some 67) (v := ?_) (a' := ?_) (zzB 19 18431) rfl rfl (take_ofW HT_.out HW_.out (by kernel_rfl)) (fun _ _ _ h => h) (Or.inl ⟨by rfl, ?_⟩) hHeld ?_ ?_; rotate_left
                ·
                 rintro w' ⟨s0, s1, s2, s3, s4, s5, s6, s7, s8, s9, s10, s11, s12, s13, s14, s15, s16, s17⟩; go_simp; with_reducible rfl
                rotate_left
                ·
                 simp only [Act.put, zzq, zzr, zzs, i64_w, i32_w]; rfl
                refine pure_ (i := 11) (N := some 70) (v := ?_) (a' := ?_) (zzB 19 20479) rfl rfl (any_of HT_.out (by kernel_rfl)) (fun _ _ _ h => h) (Or.inl ⟨by rfl, ?_⟩) ?_ ?_; rotate_left
                ·
                 intro w'; go_simp; with_reducible rfl
                rotate_left
                ·
                 simp only [Act.put, zzq, zzr, zzs, i64_w, i32_w]; rfl
                refine pure_ (i := 12) (N := some 71) (v := ?_) (a' := ?_) (zzB 19 24575) rfl rfl (any_of HT_.out (by kernel_rfl)) (fun _ _ _ h => h) (Or.inl ⟨by rfl, ?_⟩) ?_ ?_; rotate_left
                ·
                 intro w'; go_simp; with_reducible rfl
                rotate_left
                ·
                 simp only [Act.put, zzq, zzr, zzs, i64_w, i32_w]; rfl
                refine take_ (i := 13) (N := some 72) (v := ?_) (a' := ?_) (zzB 19 32767) rfl rfl (take_ofW HT_.out HW_.out (by kernel_rfl)) (fun _ _ _ h => h) (Or.inl ⟨by rfl, ?_⟩) hHeld ?_ ?_; rotate_left
                ·
                 rintro w' ⟨s0, s1, s2, s3, s4, s5, s6, s7, s8, s9, s10, s11, s12, s13, s14, s15, s16, s17⟩; go_simp; with_reducible rfl
                rotate_left
                ·
                 simp only [Act.put, zzq, zzr, zzs, i64_w, i32_w]; rfl
                refine take_ (i := 15) (N := some 74) (v := ?_) (a' := ?_) (zzB 19 65535) rfl rfl (take_ofW HT_.out HW_.out (by kernel_rfl)) (fun _ _ _ h => h) (Or.inl ⟨by rfl, ?_⟩) hHeld ?_ ?_; rotate_left
                ·
                 rintro w' ⟨s0, s1, s2, s3, s4, s5, s6, s7, s8, s9, s10, s11, s12, s13, s14, s15, s16, s17⟩; go_simp; with_reducible rfl
                rotate_left
                ·
                 simp only [Act.put, zzq, zzr, zzs, i64_w, i32_w]; rfl
                refine pure_ (i := 16) (N := some 75) (v := ?_) (a' := ?_) (zzB 19 131071) rfl rfl (any_of HT_.out (by kernel_rfl)) (fun _ _ _ h => h) (Or.inl ⟨by rfl, ?_⟩) ?_ ?_; rotate_left
                ·
                 intro w'; go_simp; with_reducible rfl
                rotate_left
                ·
                 simp only [Act.put, zzq, zzr, zzs, i64_w, i32_w]; rfl
                refine pure_ (i := 17) (N := some 76) (v := ?_) (a' := ?_) (zzB 19 262143) rfl rfl (any_of HT_.out (by kernel_rfl)) (fun _ _ _ h => h) (Or.inl ⟨by rfl, ?_⟩) ?_ ?_; rotate_left
                ·
                 intro w'; go_simp; with_reducible rfl
                rotate_left
                ·
                 simp only [Act.put, zzq, zzr, zzs, i64_w, i32_w]; rfl
                refine pure_ (i := 18) (N := some 77) (v := ?_) (a' := ?_) (zzB 19 524287) rfl rfl (any_of HT_.out (by kernel_rfl)) (fun _ _ _ h => h) (Or.inl ⟨by rfl, ?_⟩) ?_ ?_; rotate_left
                ·
                 intro w'; go_simp; with_reducible rfl
                rotate_left
                ·
                 simp only [Act.put, zzq, zzr, zzs, i64_w, i32_w]; rfl
                refine done_ (done_of HT_.out (by kernel_rfl)) ?_; try go_wp2
                go_roundg k3
                case measure => have := HJ1.out; have := HJ22.out; have := HK3.out; omega
                case rel => exact ⟨(wrap64 (x54_3 + 1)), (by first | rfl | (simp; done) | (simp [*]; done)), H', ⟨by have := HJ1.out; have := HJ22.out; have := HK3.out; omega⟩, ⟨by (with_reducible repeat (first | refine zzf ?_ _ | refine zzg ?_ | refine zze ?_ _)); exact BK292.out⟩, ⟨by repeat (first | (with_reducible first | exact HB.out | apply zza | apply zzb | apply zzc | refine zzd ?_ GE292.out | refine zzd ?_ GE298.out) | exact HB.out)⟩⟩
              ·
               rw [if_neg c40] at H; exact absurd H (by simp)
             ·
              rw [if_neg c39] at H; exact absurd H (by simp)
            ·
             rw [if_neg c37] at H; have c37b0 : decide (0 < x54_3) = false := decide_eq_false c37; clear c37; have H' := zzm H; clear H; have p297 : 0 ≤ (x54_3 : Int) := of_decide_eq_true (by first | (with_reducible assumption) | assumption); have q297 : x54_3 < (l0_5.length : Int) := of_decide_eq_true (by first | (with_reducible assumption) | assumption); obtain ⟨ad297, A297_3, c297_3, A297_5, c297_5, e297, hx297_0, hx297_1, hx297_2, hx297_3, hx297_4, hx297_5, hl297_3, hi297_3, hl297_5, hi297_5⟩ := at_T79 HR0_5.out x54_3 p297 q297; cases e297; replace hx297_0 := (HB.out.cell (zzn w _ hx297_0)).trans hx297_0; replace hx297_1 := (HB.out.cell (zzn w _ hx297_1)).trans hx297_1; replace hx297_2 := (HB.out.cell (zzn w _ hx297_2)).trans hx297_2; replace hx297_3 := (HB.out.cell (zzn w _ hx297_3)).trans hx297_3; replace hx297_4 := (HB.out.cell (zzn w _ hx297_4)).trans hx297_4; replace hx297_5 := (HB.out.cell (zzn w _ hx297_5)).trans hx297_5; have HR297_3 := zzm hi297_3; have HC297_3 := zzm hl297_3; clear hi297_3 hl297_3; have HR297_5 := zzm hi297_5; have HC297_5 := zzm hl297_5; clear hi297_5 hl297_5; replace p297 := eq_true p297; replace q297 := eq_true q297; try go_wp2_with (first | ((with_reducible refine gate_dst (N := 4) rfl ?_); (try (refine gate_guard (by rfl) ?_; dsimp only)); refine box_event ?hg (N := 4) ?hd (cs := #[.int .i64 0, .int .i64 0, .bool false, .slice none 0 0, .bool false, .slice none 0 0]) (t := 79) ?hr ?_; (case hd => rfl); (case hg => rfl); (case hr => first | (go_simp; done) | (go_simp; rfl)); intro gb298 hg w54 hbox hb; have n0_ := zzm (zzh (g := gb292) (o := .cells #[.bool a0_0, .bool a0_1, .int .i64 a0_2, .int .i64 a0_3, .int .i64 a0_4, .slice (some ad297) l0_5.length c0_5] 34 (0, 0)) (by (with_reducible repeat (first | refine zzf ?_ _ | refine zzg ?_ | refine zze ?_ _)); exact BK292.out) hb); have n1_ := zzm (zzp (by repeat (first | (with_reducible first | exact HB.out | apply zza | apply zzb | apply zzc | refine zzd ?_ GE292.out) | exact HB.out)) hb); have n2_ := zzm (hbox); have n3_ := zzm ((by rw [hg]; exact (zzo (by repeat (first | (with_reducible first | exact HB.out | apply zza | apply zzb | apply zzc | refine zzd ?_ GE292.out) | exact HB.out))) : w.heap.size ≤ gb298)); have n4_ := zzm ((by rw [hg]; exact (zzo (by repeat (first | (with_reducible first | exact HB.out | apply zza | apply zzb | apply zzc | refine zzd ?_ GE292.out) | exact HB.out))) : w.heap.size ≤ gb298)); have n5_ := zzm ((by rw [hg]; exact Nat.ne_of_lt (blk_lt (g := gb292) (o := .cells #[.bool a0_0, .bool a0_1, .int .i64 a0_2, .int .i64 a0_3, .int .i64 a0_4, .slice (some ad297) l0_5.length c0_5] 34 (0, 0)) (by (with_reducible repeat (first | refine zzf ?_ _ | refine zzg ?_ | refine zze ?_ _)); exact BK292.out)) : gb292 ≠ gb298)); have n6_ := zzm ((by rw [hg]; exact Nat.ne_of_gt (blk_lt (g := gb292) (o := .cells #[.bool a0_0, .bool a0_1, .int .i64 a0_2, .int .i64 a0_3, .int .i64 a0_4, .slice (some ad297) l0_5.length c0_5] 34 (0, 0)) (by (with_reducible repeat (first | refine zzf ?_ _ | refine zzg ?_ | refine zze ?_ _)); exact BK292.out)) : gb298 ≠ gb292)); clear BK292 HB; have BK292 := n0_; have HB := n1_; have BK298 := n2_; have GW298 := n3_; have GE298 := n4_; have NB292_298 := n5_; have NB298_292 := n6_; clear n0_ n1_ n2_ n3_ n4_ n5_ n6_ hb hbox hg; have hnb55 := NB298_292.out; have hnc55 := NB292_298.out; obtain ⟨hcz56_0, hcz56_1, hcz56_2, hcz56_3, hcz56_4, hcz56_5, hfz56_0, hfz56_1, hfz56_2, hfz56_3, hfz56_4, hfz56_5⟩ := zzc6 BK298.out))
             have n0_ : Aside0 (((((((w54.setCell ⟨gb298, 0, none⟩ (.int .i64 ((rd_T79 l0_5 x54_3).f0))).setCell ⟨gb298, 1, none⟩ (.int .i64 ((rd_T79 l0_5 x54_3).f1))).setCell ⟨gb298, 2, none⟩ (.bool ((rd_T79 l0_5 x54_3).f2))).setCell ⟨gb298, 3, none⟩ (.slice A297_3 ((rd_T79 l0_5 x54_3).f3).length c297_3)).setCell ⟨gb298, 4, none⟩ (.bool ((rd_T79 l0_5 x54_3).f4))).setCell ⟨gb298, 5, none⟩ (.slice A297_5 ((rd_T79 l0_5 x54_3).f5).length c297_5)).heap[gb292]? = some (.cells #[.bool a0_0, .bool a0_1, .int .i64 a0_2, .int .i64 a0_3, .int .i64 a0_4, .slice (some ad297) l0_5.length c0_5] 34 (0, 0))) := ⟨by (with_reducible repeat (first | refine zzf ?_ _ | refine zzg ?_ | refine zze ?_ _)); refine zzj ?_ NB292_298.out _; (with_reducible repeat (first | refine zzf ?_ _ | refine zzg ?_ | refine zze ?_ _)); refine zzj ?_ NB292_298.out _; (with_reducible repeat (first | refine zzf ?_ _ | refine zzg ?_ | refine zze ?_ _)); refine zzj ?_ NB292_298.out _; (with_reducible repeat (first | refine zzf ?_ _ | refine zzg ?_ | refine zze ?_ _)); refine zzj ?_ NB292_298.out _; (with_reducible repeat (first | refine zzf ?_ _ | refine zzg ?_ | refine zze ?_ _)); refine zzj ?_ NB292_298.out _; (with_reducible repeat (first | refine zzf ?_ _ | refine zzg ?_ | refine zze ?_ _)); refine zzj ?_ NB292_298.out _; (with_reducible repeat (first | refine zzf ?_ _ | refine zzg ?_ | refine zze ?_ _)); exact BK292.out⟩; have n1_ : Aside0 (((((((w54.setCell ⟨gb298, 0, none⟩ (.int .i64 ((rd_T79 l0_5 x54_3).f0))).setCell ⟨gb298, 1, none⟩ (.int .i64 ((rd_T79 l0_5 x54_3).f1))).setCell ⟨gb298, 2, none⟩ (.bool ((rd_T79 l0_5 x54_3).f2))).setCell ⟨gb298, 3, none⟩ (.slice A297_3 ((rd_T79 l0_5 x54_3).f3).length c297_3)).setCell ⟨gb298, 4, none⟩ (.bool ((rd_T79 l0_5 x54_3).f4))).setCell ⟨gb298, 5, none⟩ (.slice A297_5 ((rd_T79 l0_5 x54_3).f5).length c297_5)).heap[gb298]? = some (.cells #[.int .i64 ((rd_T79 l0_5 x54_3).f0), .int .i64 ((rd_T79 l0_5 x54_3).f1), .bool ((rd_T79 l0_5 x54_3).f2), .slice A297_3 ((rd_T79 l0_5 x54_3).f3).length c297_3, .bool ((rd_T79 l0_5 x54_3).f4), .slice A297_5 ((rd_T79 l0_5 x54_3).f5).length c297_5] 79 (0, 0))) := ⟨by (with_reducible repeat (first | refine zzf ?_ _ | refine zzg ?_ | refine zze ?_ _)); refine zzi (cs := #[.int .i64 ((rd_T79 l0_5 x54_3).f0), .int .i64 ((rd_T79 l0_5 x54_3).f1), .bool ((rd_T79 l0_5 x54_3).f2), .slice A297_3 ((rd_T79 l0_5 x54_3).f3).length c297_3, .bool ((rd_T79 l0_5 x54_3).f4), .slice none 0 0]) ?_ 5 _ rfl; (with_reducible repeat (first | refine zzf ?_ _ | refine zzg ?_ | refine zze ?_ _)); refine zzi (cs := #[.int .i64 ((rd_T79 l0_5 x54_3).f0), .int .i64 ((rd_T79 l0_5 x54_3).f1), .bool ((rd_T79 l0_5 x54_3).f2), .slice A297_3 ((rd_T79 l0_5 x54_3).f3).length c297_3, .bool false, .slice none 0 0]) ?_ 4 _ rfl; (with_reducible repeat (first | refine zzf ?_ _ | refine zzg ?_ | refine zze ?_ _)); refine zzi (cs := #[.int .i64 ((rd_T79 l0_5 x54_3).f0), .int .i64 ((rd_T79 l0_5 x54_3).f1), .bool ((rd_T79 l0_5 x54_3).f2), .slice none 0 0, .bool false, .slice none 0 0]) ?_ 3 _ rfl; (with_reducible repeat (first | refine zzf ?_ _ | refine zzg ?_ | refine zze ?_ _)); refine zzi (cs := #[.int .i64 ((rd_T79 l0_5 x54_3).f0), .int .i64 ((rd_T79 l0_5 x54_3).f1), .bool false, .slice none 0 0, .bool false, .slice none 0 0]) ?_ 2 _ rfl; (with_reducible repeat (first | refine zzf ?_ _ | refine zzg ?_ | refine zze ?_ _)); refine zzi (cs := #[.int .i64 ((rd_T79 l0_5 x54_3).f0), .int .i64 0, .bool false, .slice none 0 0, .bool false, .slice none 0 0]) ?_ 1 _ rfl; (with_reducible repeat (first | refine zzf ?_ _ | refine zzg ?_ | refine zze ?_ _)); refine zzi (cs := #[.int .i64 0, .int .i64 0, .bool false, .slice none 0 0, .bool false, .slice none 0 0]) ?_ 0 _ rfl; (with_reducible repeat (first | refine zzf ?_ _ | refine zzg ?_ | refine zze ?_ _)); exact BK298.out⟩; have n2_ : Aside0 (Below w.heap.size w ((((((w54.setCell ⟨gb298, 0, none⟩ (.int .i64 ((rd_T79 l0_5 x54_3).f0))).setCell ⟨gb298, 1, none⟩ (.int .i64 ((rd_T79 l0_5 x54_3).f1))).setCell ⟨gb298, 2, none⟩ (.bool ((rd_T79 l0_5 x54_3).f2))).setCell ⟨gb298, 3, none⟩ (.slice A297_3 ((rd_T79 l0_5 x54_3).f3).length c297_3)).setCell ⟨gb298, 4, none⟩ (.bool ((rd_T79 l0_5 x54_3).f4))).setCell ⟨gb298, 5, none⟩ (.slice A297_5 ((rd_T79 l0_5 x54_3).f5).length c297_5))) := ⟨by repeat (first | (with_reducible first | exact HB.out | apply zza | apply zzb | apply zzc | refine zzd ?_ GE292.out | refine zzd ?_ GE298.out) | exact HB.out)⟩; (try clear BK292); (try clear BK298); (try clear HB); generalize ((((((w54.setCell ⟨gb298, 0, none⟩ (.int .i64 ((rd_T79 l0_5 x54_3).f0))).setCell ⟨gb298, 1, none⟩ (.int .i64 ((rd_T79 l0_5 x54_3).f1))).setCell ⟨gb298, 2, none⟩ (.bool ((rd_T79 l0_5 x54_3).f2))).setCell ⟨gb298, 3, none⟩ (.slice A297_3 ((rd_T79 l0_5 x54_3).f3).length c297_3)).setCell ⟨gb298, 4, none⟩ (.bool ((rd_T79 l0_5 x54_3).f4))).setCell ⟨gb298, 5, none⟩ (.slice A297_5 ((rd_T79 l0_5 x54_3).f5).length c297_5)) = w57 at n0_ n1_ n2_ ⊢; have BK292 := n0_; have BK298 := n1_; have HB := n2_; clear n0_ n1_ n2_; have n0_ := zzm (zzg BK292.out); have n1_ := zzm (zzg BK298.out); have n2_ := zzm (zzc HB.out); clear BK292; clear BK298; clear HB; have BK292 := n0_; have BK298 := n1_; have HB := n2_; clear n0_ n1_ n2_; refine start_ (n := 19) (S := fun w' => w'.cell? ⟨gb298, 0, none⟩ = some (.int .i64 ((rd_T79 l0_5 x54_3).f0)) ∧ w'.cell? ⟨gb298, 1, none⟩ = some (.int .i64 ((rd_T79 l0_5 x54_3).f1)) ∧ w'.cell? ⟨gb298, 2, none⟩ = some (.bool ((rd_T79 l0_5 x54_3).f2)) ∧ w'.cell? ⟨gb298, 3, none⟩ = some (.slice A297_3 ((rd_T79 l0_5 x54_3).f3).length c297_3) ∧ w'.cell? ⟨gb298, 4, none⟩ = some (.bool ((rd_T79 l0_5 x54_3).f4)) ∧ w'.cell? ⟨gb298, 5, none⟩ = some (.slice A297_5 ((rd_T79 l0_5 x54_3).f5).length c297_5)) (ds := []) (zzB 19 0) (by kernel_rfl) rfl rfl ⟨(zzk BK298.out 0).trans rfl, (zzk BK298.out 1).trans rfl, (zzk BK298.out 2).trans rfl, (zzk BK298.out 3).trans rfl, (zzk BK298.out 4).trans rfl, (zzk BK298.out 5).trans rfl⟩ (fun hHeld => ?_); refine with_tabW impl_BatchValid.tab11 impl_BatchValid.bits11 (fun HT_ HW_ => ?_); generalize w57.drew = w58 at BK292 BK298 HB hHeld ⊢; refine take_ (i := 0) (N := some 59) (v := ?_) (a' := ?_) (zzB 19 1) rfl rfl (take_ofW HT_.out HW_.out (by kernel_rfl)) (fun _ _ _ h => h) (Or.inl ⟨by rfl, ?_⟩) hHeld ?_ ?_; rotate_left
             ·
              rintro w' ⟨s0, s1, s2, s3, s4, s5⟩; go_simp; with_reducible rfl
             rotate_left
             ·
              simp only [Act.put, zzq, zzr, zzs, i64_w, i32_w]; rfl
             refine one_ (i := 1) (N := some 60) (zzB 19 3) rfl rfl (one_of HT_.out (by kernel_rfl)) (by decide) (fun K hK => ?_); refine goes_ Try.func61 (by kernel_rfl) rfl #[.agg #[.int .i64 ((rd_T79 l0_5 x54_3).f0), .int .i64 ((rd_T79 l0_5 x54_3).f1), .bool ((rd_T79 l0_5 x54_3).f2), .slice A297_3 ((rd_T79 l0_5 x54_3).f3).length c297_3, .bool ((rd_T79 l0_5 x54_3).f4), .slice A297_5 ((rd_T79 l0_5 x54_3).f5).length c297_5]] (by rfl) rfl rfl (by (try simp only [List.map_toArray, List.map_cons, List.map_nil]); first | done | rfl | (simp only [List.length_drop, List.length_take]; rfl)) ?_; with_reducible refine (impl_RecordValid.calls k3 ((rd_T79 l0_5 x54_3).f0) ((rd_T79 l0_5 x54_3).f1) ((rd_T79 l0_5 x54_3).f2) _ _ ((rd_T79 l0_5 x54_3).f3) ((rd_T79 l0_5 x54_3).f4) _ _ ((rd_T79 l0_5 x54_3).f5) true _ ?side1 ?side2 ?side3 ?side4 A35.out).mono ?_; (case side1 => repeat (first | exact (Kd.C_below HR297_3.out HB.out) | (with_reducible refine Kd.C_alloc ?_ _) | (with_reducible refine Kd.C_drewN ?_ _) | (with_reducible refine Kd.C_drew ?_))); (case side2 => exact HC297_3.out); (case side3 => repeat (first | exact (Kd.C_below HR297_5.out HB.out) | (with_reducible refine Kd.C_alloc ?_ _) | (with_reducible refine Kd.C_drewN ?_ _) | (with_reducible refine Kd.C_drew ?_))); (case side4 => exact HC297_5.out); rintro e w59 ⟨rfl, hb⟩; refine ⟨_, rfl, ?_⟩; have n0_ := zzm (zzh (g := gb292) (o := .cells #[.bool a0_0, .bool a0_1, .int .i64 a0_2, .int .i64 a0_3, .int .i64 a0_4, .slice (some ad297) l0_5.length c0_5] 34 (0, 0)) (by (with_reducible repeat (first | refine zzf ?_ _ | refine zzg ?_ | refine zze ?_ _)); exact BK292.out) hb); have n1_ := zzm (zzh (g := gb298) (o := .cells #[.int .i64 ((rd_T79 l0_5 x54_3).f0), .int .i64 ((rd_T79 l0_5 x54_3).f1), .bool ((rd_T79 l0_5 x54_3).f2), .slice A297_3 ((rd_T79 l0_5 x54_3).f3).length c297_3, .bool ((rd_T79 l0_5 x54_3).f4), .slice A297_5 ((rd_T79 l0_5 x54_3).f5).length c297_5] 79 (0, 0)) (by (with_reducible repeat (first | refine zzf ?_ _ | refine zzg ?_ | refine zze ?_ _)); exact BK298.out) hb); have n2_ := zzm (zzp (by repeat (first | (with_reducible first | exact HB.out | apply zza | apply zzb | apply zzc | refine zzd ?_ GE292.out | refine zzd ?_ GE298.out) | exact HB.out)) hb); clear BK292; clear BK298; clear HB; have BK292 := n0_; have BK298 := n1_; have HB := n2_; clear n0_ n1_ n2_; (try clear hb); (try clear hb2); (try clear hk); (try clear hi); refine hK.out _ _ ⟨(zzk BK298.out 0).trans rfl, (zzk BK298.out 1).trans rfl, (zzk BK298.out 2).trans rfl, (zzk BK298.out 3).trans rfl, (zzk BK298.out 4).trans rfl, (zzk BK298.out 5).trans rfl⟩ (fun hHeld => ?_); clear hK K; refine norm_ (a' := ?_) ?_ ?_; rotate_left
             ·
              show Act.put _ (some 60) _ = _; simp only [Act.put, zzq, zzr, zzs, i64_w, i32_w]; rfl
             refine pure_ (i := 2) (N := some 61) (v := ?_) (a' := ?_) (zzB 19 7) rfl rfl (any_of HT_.out (by kernel_rfl)) (fun _ _ _ h => h) (Or.inl ⟨by rfl, ?_⟩) ?_ ?_; rotate_left
             ·
              intro w'; go_simp; with_reducible rfl
             rotate_left
             ·
              simp only [Act.put, zzq, zzr, zzs, i64_w, i32_w]; rfl
             refine pure_ (i := 3) (N := some 62) (v := ?_) (a' := ?_) (zzB 19 15) rfl rfl (any_of HT_.out (by kernel_rfl)) (fun _ _ _ h => h) (Or.inl ⟨by rfl, ?_⟩) ?_ ?_; rotate_left
             ·
              intro w'; go_simp; with_reducible rfl
             rotate_left
             ·
              simp only [Act.put, zzq, zzr, zzs, i64_w, i32_w]; rfl
             refine pure_ (i := 4) (N := some 63) (v := ?_) (a' := ?_) (zzB 19 31) rfl rfl (any_of HT_.out (by kernel_rfl)) (fun _ _ _ h => h) (Or.inl ⟨by rfl, ?_⟩) ?_ ?_; rotate_left
             ·
              intro w'; go_simp; with_reducible rfl
             rotate_left
             ·
              simp only [Act.put, zzq, zzr, zzs, i64_w, i32_w]; rfl
             refine pure_ (i := 5) (N := some 64) (v := ?_) (a' := ?_) (zzB 19 63) rfl rfl (any_of HT_.out (by kernel_rfl)) (fun _ _ _ h => h) (Or.inl ⟨by rfl, ?_⟩) ?_ ?_; rotate_left
             ·
              intro w'; go_simp; with_reducible rfl
             rotate_left
             ·
              simp only [Act.put, zzq, zzr, zzs, i64_w, i32_w]; rfl
             refine pure_ (i := 6) (N := some 65) (v := ?_) (a' := ?_) (zzB 19 127) rfl rfl (any_of HT_.out (by kernel_rfl)) (fun _ _ _ h => h) (Or.inl ⟨by rfl, ?_⟩) ?_ ?_; rotate_left
             ·
              intro w'; go_simp; with_reducible rfl
             rotate_left
             ·
              simp only [Act.put, zzq, zzr, zzs, i64_w, i32_w]; rfl
             refine pure_ (i := 7) (N := some 66) (v := undef) (a' := ?_) (zzB 19 255) rfl rfl (any_of HT_.out (by kernel_rfl)) (fun _ _ _ h => h) (Or.inr ⟨by rfl, rfl⟩) ?_ ?_; rotate_left
             ·
              simp only [Act.put, zzq, zzr, zzs, i64_w, i32_w]; rfl
             refine pure_ (i := 8) (N := some 67) (v := undef) (a' := ?_) (zzB 19 511) rfl rfl (any_of HT_.out (by kernel_rfl)) (fun _ _ _ h => h) (Or.inr ⟨by rfl, rfl⟩) ?_ ?_; rotate_left
             ·
              simp only [Act.put, zzq, zzr, zzs, i64_w, i32_w]; rfl
             refine pure_ (i := 9) (N := some 68) (v := undef) (a' := ?_) (zzB 19 1023) rfl rfl (any_of HT_.out (by kernel_rfl)) (fun _ _ _ h => h) (Or.inr ⟨by rfl, rfl⟩) ?_ ?_; rotate_left
             ·
              simp only [Act.put, zzq, zzr, zzs, i64_w, i32_w]; rfl
             refine pure_ (i := 10) (N := some 69) (v := undef) (a' := ?_) (zzB 19 2047) rfl rfl (any_of HT_.out (by kernel_rfl)) (fun _ _ _ h => h) (Or.inr ⟨by rfl, rfl⟩) ?_ ?_; rotate_left
             ·
              simp only [Act.put, zzq, zzr, zzs, i64_w, i32_w]; rfl
             refine pure_ (i := 11) (N := some 70) (v := undef) (a' := ?_) (zzB 19 4095) rfl rfl (any_of HT_.out (by kernel_rfl)) (fun _ _ _ h => h) (Or.inr ⟨by rfl, rfl⟩) ?_ ?_; rotate_left
             ·
              simp only [Act.put, zzq, zzr, zzs, i64_w, i32_w]; rfl
             refine pure_ (i := 12) (N := some 71) (v := undef) (a' := ?_) (zzB 19 8191) rfl rfl (any_of HT_.out (by kernel_rfl)) (fun _ _ _ h => h) (Or.inr ⟨by rfl, rfl⟩) ?_ ?_; rotate_left
             ·
              simp only [Act.put, zzq, zzr, zzs, i64_w, i32_w]; rfl
             refine pure_ (i := 13) (N := some 72) (v := undef) (a' := ?_) (zzB 19 16383) rfl rfl (any_of HT_.out (by kernel_rfl)) (fun _ _ _ h => h) (Or.inr ⟨by rfl, rfl⟩) ?_ ?_; rotate_left
             ·
              simp only [Act.put, zzq, zzr, zzs, i64_w, i32_w]; rfl
             refine pure_ (i := 14) (N := some 73) (v := undef) (a' := ?_) (zzB 19 32767) rfl rfl (any_of HT_.out (by kernel_rfl)) (fun _ _ _ h => h) (Or.inr ⟨by rfl, rfl⟩) ?_ ?_; rotate_left
             ·
              simp only [Act.put, zzq, zzr, zzs, i64_w, i32_w]; rfl
             refine pure_ (i := 15) (N := some 74) (v := undef) (a' := ?_) (zzB 19 65535) rfl rfl (any_of HT_.out (by kernel_rfl)) (fun _ _ _ h => h) (Or.inr ⟨by rfl, rfl⟩) ?_ ?_; rotate_left
             ·
              simp only [Act.put, zzq, zzr, zzs, i64_w, i32_w]; rfl
             refine pure_ (i := 16) (N := some 75) (v := undef) (a' := ?_) (zzB 19 131071) rfl rfl (any_of HT_.out (by kernel_rfl)) (fun _ _ _ h => h) (Or.inr ⟨by rfl, rfl⟩) ?_ ?_; rotate_left
             ·
              simp only [Act.put, zzq, zzr, zzs, i64_w, i32_w]; rfl
             refine pure_ (i := 17) (N := some 76) (v := ?_) (a' := ?_) (zzB 19 262143) rfl rfl (any_of HT_.out (by kernel_rfl)) (fun _ _ _ h => h) (Or.inl ⟨by rfl, ?_⟩) ?_ ?_; rotate_left
             ·
              intro w'; go_simp; with_reducible rfl
             rotate_left
             ·
              simp only [Act.put, zzq, zzr, zzs, i64_w, i32_w]; rfl
             refine pure_ (i := 18) (N := some 77) (v := ?_) (a' := ?_) (zzB 19 524287) rfl rfl (any_of HT_.out (by kernel_rfl)) (fun _ _ _ h => h) (Or.inl ⟨by rfl, ?_⟩) ?_ ?_; rotate_left
             ·
              intro w'; go_simp; with_reducible rfl
             rotate_left
             ·
              simp only [Act.put, zzq, zzr, zzs, i64_w, i32_w]; rfl
             refine done_ (done_of HT_.out (by kernel_rfl)) ?_; try go_wp2
             go_roundg k3
             case measure => have := HJ1.out; have := HJ22.out; have := HK3.out; omega
             case rel => exact ⟨(wrap64 (x54_3 + 1)), (by first | rfl | (simp; done) | (simp [*]; done)), H', ⟨by have := HJ1.out; have := HJ22.out; have := HK3.out; omega⟩, ⟨by (with_reducible repeat (first | refine zzf ?_ _ | refine zzg ?_ | refine zze ?_ _)); exact BK292.out⟩, ⟨by repeat (first | (with_reducible first | exact HB.out | apply zza | apply zzb | apply zzc | refine zzd ?_ GE292.out | refine zzd ?_ GE298.out) | exact HB.out)⟩⟩
           ·
            replace c36 := Bool.eq_false_iff.mpr c36; subst c36; have H1 : (some false) = some r := by rw [if_neg (show ¬ (false = true) by decide)] at H; exact H
            clear H; have H := H1; clear H1; obtain rfl := Option.some.inj H; have p297 : 0 ≤ (x54_3 : Int) := of_decide_eq_true (by first | (with_reducible assumption) | assumption); have q297 : x54_3 < (l0_5.length : Int) := of_decide_eq_true (by first | (with_reducible assumption) | assumption); obtain ⟨ad297, A297_3, c297_3, A297_5, c297_5, e297, hx297_0, hx297_1, hx297_2, hx297_3, hx297_4, hx297_5, hl297_3, hi297_3, hl297_5, hi297_5⟩ := at_T79 HR0_5.out x54_3 p297 q297; cases e297; replace hx297_0 := (HB.out.cell (zzn w _ hx297_0)).trans hx297_0; replace hx297_1 := (HB.out.cell (zzn w _ hx297_1)).trans hx297_1; replace hx297_2 := (HB.out.cell (zzn w _ hx297_2)).trans hx297_2; replace hx297_3 := (HB.out.cell (zzn w _ hx297_3)).trans hx297_3; replace hx297_4 := (HB.out.cell (zzn w _ hx297_4)).trans hx297_4; replace hx297_5 := (HB.out.cell (zzn w _ hx297_5)).trans hx297_5; have HR297_3 := zzm hi297_3; have HC297_3 := zzm hl297_3; clear hi297_3 hl297_3; have HR297_5 := zzm hi297_5; have HC297_5 := zzm hl297_5; clear hi297_5 hl297_5; replace p297 := eq_true p297; replace q297 := eq_true q297; try go_wp2_with (first | ((with_reducible refine gate_dst (N := 4) rfl ?_); (try (refine gate_guard (by rfl) ?_; dsimp only)); refine box_event ?hg (N := 4) ?hd (cs := #[.int .i64 0, .int .i64 0, .bool false, .slice none 0 0, .bool false, .slice none 0 0]) (t := 79) ?hr ?_; (case hd => rfl); (case hg => rfl); (case hr => first | (go_simp; done) | (go_simp; rfl)); intro gb298 hg w60 hbox hb; have n0_ := zzm (zzh (g := gb292) (o := .cells #[.bool a0_0, .bool a0_1, .int .i64 a0_2, .int .i64 a0_3, .int .i64 a0_4, .slice (some ad297) l0_5.length c0_5] 34 (0, 0)) (by (with_reducible repeat (first | refine zzf ?_ _ | refine zzg ?_ | refine zze ?_ _)); exact BK292.out) hb); have n1_ := zzm (zzp (by repeat (first | (with_reducible first | exact HB.out | apply zza | apply zzb | apply zzc | refine zzd ?_ GE292.out) | exact HB.out)) hb); have n2_ := zzm (hbox); have n3_ := zzm ((by rw [hg]; exact (zzo (by repeat (first | (with_reducible first | exact HB.out | apply zza | apply zzb | apply zzc | refine zzd ?_ GE292.out) | exact HB.out))) : w.heap.size ≤ gb298)); have n4_ := zzm ((by rw [hg]; exact (zzo (by repeat (first | (with_reducible first | exact HB.out | apply zza | apply zzb | apply zzc | refine zzd ?_ GE292.out) | exact HB.out))) : w.heap.size ≤ gb298)); have n5_ := zzm ((by rw [hg]; exact Nat.ne_of_lt (blk_lt (g := gb292) (o := .cells #[.bool a0_0, .bool a0_1, .int .i64 a0_2, .int .i64 a0_3, .int .i64 a0_4, .slice (some ad297) l0_5.length c0_5] 34 (0, 0)) (by (with_reducible repeat (first | refine zzf ?_ _ | refine zzg ?_ | refine zze ?_ _)); exact BK292.out)) : gb292 ≠ gb298)); have n6_ := zzm ((by rw [hg]; exact Nat.ne_of_gt (blk_lt (g := gb292) (o := .cells #[.bool a0_0, .bool a0_1, .int .i64 a0_2, .int .i64 a0_3, .int .i64 a0_4, .slice (some ad297) l0_5.length c0_5] 34 (0, 0)) (by (with_reducible repeat (first | refine zzf ?_ _ | refine zzg ?_ | refine zze ?_ _)); exact BK292.out)) : gb298 ≠ gb292)); clear BK292 HB; have BK292 := n0_; have HB := n1_; have BK298 := n2_; have GW298 := n3_; have GE298 := n4_; have NB292_298 := n5_; have NB298_292 := n6_; clear n0_ n1_ n2_ n3_ n4_ n5_ n6_ hb hbox hg; have hnb61 := NB298_292.out; have hnc61 := NB292_298.out; obtain ⟨hcz62_0, hcz62_1, hcz62_2, hcz62_3, hcz62_4, hcz62_5, hfz62_0, hfz62_1, hfz62_2, hfz62_3, hfz62_4, hfz62_5⟩ := zzc6 BK298.out))
            have n0_ : Aside0 (((((((w60.setCell ⟨gb298, 0, none⟩ (.int .i64 ((rd_T79 l0_5 x54_3).f0))).setCell ⟨gb298, 1, none⟩ (.int .i64 ((rd_T79 l0_5 x54_3).f1))).setCell ⟨gb298, 2, none⟩ (.bool ((rd_T79 l0_5 x54_3).f2))).setCell ⟨gb298, 3, none⟩ (.slice A297_3 ((rd_T79 l0_5 x54_3).f3).length c297_3)).setCell ⟨gb298, 4, none⟩ (.bool ((rd_T79 l0_5 x54_3).f4))).setCell ⟨gb298, 5, none⟩ (.slice A297_5 ((rd_T79 l0_5 x54_3).f5).length c297_5)).heap[gb292]? = some (.cells #[.bool a0_0, .bool a0_1, .int .i64 a0_2, .int .i64 a0_3, .int .i64 a0_4, .slice (some ad297) l0_5.length c0_5] 34 (0, 0))) := ⟨by (with_reducible repeat (first | refine zzf ?_ _ | refine zzg ?_ | refine zze ?_ _)); refine zzj ?_ NB292_298.out _; (with_reducible repeat (first | refine zzf ?_ _ | refine zzg ?_ | refine zze ?_ _)); refine zzj ?_ NB292_298.out _; (with_reducible repeat (first | refine zzf ?_ _ | refine zzg ?_ | refine zze ?_ _)); refine zzj ?_ NB292_298.out _; (with_reducible repeat (first | refine zzf ?_ _ | refine zzg ?_ | refine zze ?_ _)); refine zzj ?_ NB292_298.out _; (with_reducible repeat (first | refine zzf ?_ _ | refine zzg ?_ | refine zze ?_ _)); refine zzj ?_ NB292_298.out _; (with_reducible repeat (first | refine zzf ?_ _ | refine zzg ?_ | refine zze ?_ _)); refine zzj ?_ NB292_298.out _; (with_reducible repeat (first | refine zzf ?_ _ | refine zzg ?_ | refine zze ?_ _)); exact BK292.out⟩; have n1_ : Aside0 (((((((w60.setCell ⟨gb298, 0, none⟩ (.int .i64 ((rd_T79 l0_5 x54_3).f0))).setCell ⟨gb298, 1, none⟩ (.int .i64 ((rd_T79 l0_5 x54_3).f1))).setCell ⟨gb298, 2, none⟩ (.bool ((rd_T79 l0_5 x54_3).f2))).setCell ⟨gb298, 3, none⟩ (.slice A297_3 ((rd_T79 l0_5 x54_3).f3).length c297_3)).setCell ⟨gb298, 4, none⟩ (.bool ((rd_T79 l0_5 x54_3).f4))).setCell ⟨gb298, 5, none⟩ (.slice A297_5 ((rd_T79 l0_5 x54_3).f5).length c297_5)).heap[gb298]? = some (.cells #[.int .i64 ((rd_T79 l0_5 x54_3).f0), .int .i64 ((rd_T79 l0_5 x54_3).f1), .bool ((rd_T79 l0_5 x54_3).f2), .slice A297_3 ((rd_T79 l0_5 x54_3).f3).length c297_3, .bool ((rd_T79 l0_5 x54_3).f4), .slice A297_5 ((rd_T79 l0_5 x54_3).f5).length c297_5] 79 (0, 0))) := ⟨by (with_reducible repeat (first | refine zzf ?_ _ | refine zzg ?_ | refine zze ?_ _)); refine zzi (cs := #[.int .i64 ((rd_T79 l0_5 x54_3).f0), .int .i64 ((rd_T79 l0_5 x54_3).f1), .bool ((rd_T79 l0_5 x54_3).f2), .slice A297_3 ((rd_T79 l0_5 x54_3).f3).length c297_3, .bool ((rd_T79 l0_5 x54_3).f4), .slice none 0 0]) ?_ 5 _ rfl; (with_reducible repeat (first | refine zzf ?_ _ | refine zzg ?_ | refine zze ?_ _)); refine zzi (cs := #[.int .i64 ((rd_T79 l0_5 x54_3).f0), .int .i64 ((rd_T79 l0_5 x54_3).f1), .bool ((rd_T79 l0_5 x54_3).f2), .slice A297_3 ((rd_T79 l0_5 x54_3).f3).length c297_3, .bool false, .slice none 0 0]) ?_ 4 _ rfl; (with_reducible repeat (first | refine zzf ?_ _ | refine zzg ?_ | refine zze ?_ _)); refine zzi (cs := #[.int .i64 ((rd_T79 l0_5 x54_3).f0), .int .i64 ((rd_T79 l0_5 x54_3).f1), .bool ((rd_T79 l0_5 x54_3).f2), .slice none 0 0, .bool false, .slice none 0 0]) ?_ 3 _ rfl; (with_reducible repeat (first | refine zzf ?_ _ | refine zzg ?_ | refine zze ?_ _)); refine zzi (cs := #[.int .i64 ((rd_T79 l0_5 x54_3).f0), .int .i64 ((rd_T79 l0_5 x54_3).f1), .bool false, .slice none 0 0, .bool false, .slice none 0 0]) ?_ 2 _ rfl; (with_reducible repeat (first | refine zzf ?_ _ | refine zzg ?_ | refine zze ?_ _)); refine zzi (cs := #[.int .i64 ((rd_T79 l0_5 x54_3).f0), .int .i64 0, .bool false, .slice none 0 0, .bool false, .slice none 0 0]) ?_ 1 _ rfl; (with_reducible repeat (first | refine zzf ?_ _ | refine zzg ?_ | refine zze ?_ _)); refine zzi (cs := #[.int .i64 0, .int .i64 0, .bool false, .slice none 0 0, .bool false, .slice none 0 0]) ?_ 0 _ rfl; (with_reducible repeat (first | refine zzf ?_ _ | refine zzg ?_ | refine zze ?_ _)); exact BK298.out⟩; have n2_ : Aside0 (Below w.heap.size w ((((((w60.setCell ⟨gb298, 0, none⟩ (.int .i64 ((rd_T79 l0_5 x54_3).f0))).setCell ⟨gb298, 1, none⟩ (.int .i64 ((rd_T79 l0_5 x54_3).f1))).setCell ⟨gb298, 2, none⟩ (.bool ((rd_T79 l0_5 x54_3).f2))).setCell ⟨gb298, 3, none⟩ (.slice A297_3 ((rd_T79 l0_5 x54_3).f3).length c297_3)).setCell ⟨gb298, 4, none⟩ (.bool ((rd_T79 l0_5 x54_3).f4))).setCell ⟨gb298, 5, none⟩ (.slice A297_5 ((rd_T79 l0_5 x54_3).f5).length c297_5))) := ⟨by repeat (first | (with_reducible first | exact HB.out | apply zza | apply zzb | apply zzc | refine zzd ?_ GE292.out | refine zzd ?_ GE298.out) | exact HB.out)⟩; (try clear BK292); (try clear BK298); (try clear HB); generalize ((((((w60.setCell ⟨gb298, 0, none⟩ (.int .i64 ((rd_T79 l0_5 x54_3).f0))).setCell ⟨gb298, 1, none⟩ (.int .i64 ((rd_T79 l0_5 x54_3).f1))).setCell ⟨gb298, 2, none⟩ (.bool ((rd_T79 l0_5 x54_3).f2))).setCell ⟨gb298, 3, none⟩ (.slice A297_3 ((rd_T79 l0_5 x54_3).f3).length c297_3)).setCell ⟨gb298, 4, none⟩ (.bool ((rd_T79 l0_5 x54_3).f4))).setCell ⟨gb298, 5, none⟩ (.slice A297_5 ((rd_T79 l0_5 x54_3).f5).length c297_5)) = w63 at n0_ n1_ n2_ ⊢; have BK292 := n0_; have BK298 := n1_; have HB := n2_; clear n0_ n1_ n2_; have n0_ := zzm (zzg BK292.out); have n1_ := zzm (zzg BK298.out); have n2_ := zzm (zzc HB.out); clear BK292; clear BK298; clear HB; have BK292 := n0_; have BK298 := n1_; have HB := n2_; clear n0_ n1_ n2_; refine start_ (n := 19) (S := fun w' => w'.cell? ⟨gb298, 0, none⟩ = some (.int .i64 ((rd_T79 l0_5 x54_3).f0)) ∧ w'.cell? ⟨gb298, 1, none⟩ = some (.int .i64 ((rd_T79 l0_5 x54_3).f1)) ∧ w'.cell? ⟨gb298, 2, none⟩ = some (.bool ((rd_T79 l0_5 x54_3).f2)) ∧ w'.cell? ⟨gb298, 3, none⟩ = some (.slice A297_3 ((rd_T79 l0_5 x54_3).f3).length c297_3) ∧ w'.cell? ⟨gb298, 4, none⟩ = some (.bool ((rd_T79 l0_5 x54_3).f4)) ∧ w'.cell? ⟨gb298, 5, none⟩ = some (.slice A297_5 ((rd_T79 l0_5 x54_3).f5).length c297_5)) (ds := []) (zzB 19 0) (by kernel_rfl) rfl rfl ⟨(zzk BK298.out 0).trans rfl, (zzk BK298.out 1).trans rfl, (zzk BK298.out 2).trans rfl, (zzk BK298.out 3).trans rfl, (zzk BK298.out 4).trans rfl, (zzk BK298.out 5).trans rfl⟩ (fun hHeld => ?_); refine with_tabW impl_BatchValid.tab11 impl_BatchValid.bits11 (fun HT_ HW_ => ?_); generalize w63.drew = w64 at BK292 BK298 HB hHeld ⊢; refine take_ (i := 0) (N := some 59) (v := ?_) (a' := ?_) (zzB 19 1) rfl rfl (take_ofW HT_.out HW_.out (by kernel_rfl)) (fun _ _ _ h => h) (Or.inl ⟨by rfl, ?_⟩) hHeld ?_ ?_; rotate_left
            ·
             rintro w' ⟨s0, s1, s2, s3, s4, s5⟩; go_simp; with_reducible rfl
            rotate_left
            ·
             simp only [Act.put, zzq, zzr, zzs, i64_w, i32_w]; rfl
            refine one_ (i := 1) (N := some 60) (zzB 19 3) rfl rfl (one_of HT_.out (by kernel_rfl)) (by decide) (fun K hK => ?_); refine goes_ Try.func61 (by kernel_rfl) rfl #[.agg #[.int .i64 ((rd_T79 l0_5 x54_3).f0), .int .i64 ((rd_T79 l0_5 x54_3).f1), .bool ((rd_T79 l0_5 x54_3).f2), .slice A297_3 ((rd_T79 l0_5 x54_3).f3).length c297_3, .bool ((rd_T79 l0_5 x54_3).f4), .slice A297_5 ((rd_T79 l0_5 x54_3).f5).length c297_5]] (by rfl) rfl rfl (by (try simp only [List.map_toArray, List.map_cons, List.map_nil]); first | done | rfl | (simp only [List.length_drop, List.length_take]; rfl)) ?_; with_reducible refine (impl_RecordValid.calls k3 ((rd_T79 l0_5 x54_3).f0) ((rd_T79 l0_5 x54_3).f1) ((rd_T79 l0_5 x54_3).f2) _ _ ((rd_T79 l0_5 x54_3).f3) ((rd_T79 l0_5 x54_3).f4) _ _ ((rd_T79 l0_5 x54_3).f5) false _ ?side1 ?side2 ?side3 ?side4 A35.out).mono ?_; (case side1 => repeat (first | exact (Kd.C_below HR297_3.out HB.out) | (with_reducible refine Kd.C_alloc ?_ _) | (with_reducible refine Kd.C_drewN ?_ _) | (with_reducible refine Kd.C_drew ?_))); (case side2 => exact HC297_3.out); (case side3 => repeat (first | exact (Kd.C_below HR297_5.out HB.out) | (with_reducible refine Kd.C_alloc ?_ _) | (with_reducible refine Kd.C_drewN ?_ _) | (with_reducible refine Kd.C_drew ?_))); (case side4 => exact HC297_5.out); rintro e w65 ⟨rfl, hb⟩; refine ⟨_, rfl, ?_⟩; have n0_ := zzm (zzh (g := gb292) (o := .cells #[.bool a0_0, .bool a0_1, .int .i64 a0_2, .int .i64 a0_3, .int .i64 a0_4, .slice (some ad297) l0_5.length c0_5] 34 (0, 0)) (by (with_reducible repeat (first | refine zzf ?_ _ | refine zzg ?_ | refine zze ?_ _)); exact BK292.out) hb); have n1_ := zzm (zzh (g := gb298) (o := .cells #[.int .i64 ((rd_T79 l0_5 x54_3).f0), .int .i64 ((rd_T79 l0_5 x54_3).f1), .bool ((rd_T79 l0_5 x54_3).f2), .slice A297_3 ((rd_T79 l0_5 x54_3).f3).length c297_3, .bool ((rd_T79 l0_5 x54_3).f4), .slice A297_5 ((rd_T79 l0_5 x54_3).f5).length c297_5] 79 (0, 0)) (by (with_reducible repeat (first | refine zzf ?_ _ | refine zzg ?_ | refine zze ?_ _)); exact BK298.out) hb); have n2_ := zzm (zzp (by repeat (first | (with_reducible first | exact HB.out | apply zza | apply zzb | apply zzc | refine zzd ?_ GE292.out | refine zzd ?_ GE298.out) | exact HB.out)) hb); clear BK292; clear BK298; clear HB; have BK292 := n0_; have BK298 := n1_; have HB := n2_; clear n0_ n1_ n2_; (try clear hb); (try clear hb2); (try clear hk); (try clear hi); refine hK.out _ _ ⟨(zzk BK298.out 0).trans rfl, (zzk BK298.out 1).trans rfl, (zzk BK298.out 2).trans rfl, (zzk BK298.out 3).trans rfl, (zzk BK298.out 4).trans rfl, (zzk BK298.out 5).trans rfl⟩ (fun hHeld => ?_); clear hK K; refine norm_ (a' := ?_) ?_ ?_; rotate_left
            ·
             show Act.put _ (some 60) _ = _; simp only [Act.put, zzq, zzr, zzs, i64_w, i32_w]; rfl
            refine pure_ (i := 2) (N := some 61) (v := ?_) (a' := ?_) (zzB 19 7) rfl rfl (any_of HT_.out (by kernel_rfl)) (fun _ _ _ h => h) (Or.inl ⟨by rfl, ?_⟩) ?_ ?_; rotate_left
            ·
             intro w'; go_simp; with_reducible rfl
            rotate_left
            ·
             simp only [Act.put, zzq, zzr, zzs, i64_w, i32_w]; rfl
            refine pure_ (i := 3) (N := some 62) (v := ?_) (a' := ?_) (zzB 19 15) rfl rfl (any_of HT_.out (by kernel_rfl)) (fun _ _ _ h => h) (Or.inl ⟨by rfl, ?_⟩) ?_ ?_; rotate_left
            ·
             intro w'; go_simp; with_reducible rfl
            rotate_left
            ·
             simp only [Act.put, zzq, zzr, zzs, i64_w, i32_w]; rfl
            refine pure_ (i := 4) (N := some 63) (v := undef) (a' := ?_) (zzB 19 31) rfl rfl (any_of HT_.out (by kernel_rfl)) (fun _ _ _ h => h) (Or.inr ⟨by rfl, rfl⟩) ?_ ?_; rotate_left
            ·
             simp only [Act.put, zzq, zzr, zzs, i64_w, i32_w]; rfl
            refine pure_ (i := 5) (N := some 64) (v := undef) (a' := ?_) (zzB 19 63) rfl rfl (any_of HT_.out (by kernel_rfl)) (fun _ _ _ h => h) (Or.inr ⟨by rfl, rfl⟩) ?_ ?_; rotate_left
            ·
             simp only [Act.put, zzq, zzr, zzs, i64_w, i32_w]; rfl
            refine pure_ (i := 6) (N := some 65) (v := undef) (a' := ?_) (zzB 19 127) rfl rfl (any_of HT_.out (by kernel_rfl)) (fun _ _ _ h => h) (Or.inr ⟨by rfl, rfl⟩) ?_ ?_; rotate_left
            ·
             simp only [Act.put, zzq, zzr, zzs, i64_w, i32_w]; rfl
            refine pure_ (i := 7) (N := some 66) (v := undef) (a' := ?_) (zzB 19 255) rfl rfl (any_of HT_.out (by kernel_rfl)) (fun _ _ _ h => h) (Or.inr ⟨by rfl, rfl⟩) ?_ ?_; rotate_left
            ·
             simp only [Act.put, zzq, zzr, zzs, i64_w, i32_w]; rfl
            refine pure_ (i := 8) (N := some 67) (v := undef) (a' := ?_) (zzB 19 511) rfl rfl (any_of HT_.out (by kernel_rfl)) (fun _ _ _ h => h) (Or.inr ⟨by rfl, rfl⟩) ?_ ?_; rotate_left
            ·
             simp only [Act.put, zzq, zzr, zzs, i64_w, i32_w]; rfl
            refine pure_ (i := 9) (N := some 68) (v := undef) (a' := ?_) (zzB 19 1023) rfl rfl (any_of HT_.out (by kernel_rfl)) (fun _ _ _ h => h) (Or.inr ⟨by rfl, rfl⟩) ?_ ?_; rotate_left
            ·
             simp only [Act.put, zzq, zzr, zzs, i64_w, i32_w]; rfl
            refine pure_ (i := 10) (N := some 69) (v := undef) (a' := ?_) (zzB 19 2047) rfl rfl (any_of HT_.out (by kernel_rfl)) (fun _ _ _ h => h) (Or.inr ⟨by rfl, rfl⟩) ?_ ?_; rotate_left
            ·
             simp only [Act.put, zzq, zzr, zzs, i64_w, i32_w]; rfl
            refine pure_ (i := 11) (N := some 70) (v := undef) (a' := ?_) (zzB 19 4095) rfl rfl (any_of HT_.out (by kernel_rfl)) (fun _ _ _ h => h) (Or.inr ⟨by rfl, rfl⟩) ?_ ?_; rotate_left
            ·
             simp only [Act.put, zzq, zzr, zzs, i64_w, i32_w]; rfl
            refine pure_ (i := 12) (N := some 71) (v := undef) (a' := ?_) (zzB 19 8191) rfl rfl (any_of HT_.out (by kernel_rfl)) (fun _ _ _ h => h) (Or.inr ⟨by rfl, rfl⟩) ?_ ?_; rotate_left
            ·
             simp only [Act.put, zzq, zzr, zzs, i64_w, i32_w]; rfl
            refine pure_ (i := 13) (N := some 72) (v := undef) (a' := ?_) (zzB 19 16383) rfl rfl (any_of HT_.out (by kernel_rfl)) (fun _ _ _ h => h) (Or.inr ⟨by rfl, rfl⟩) ?_ ?_; rotate_left
            ·
             simp only [Act.put, zzq, zzr, zzs, i64_w, i32_w]; rfl
            refine pure_ (i := 14) (N := some 73) (v := undef) (a' := ?_) (zzB 19 32767) rfl rfl (any_of HT_.out (by kernel_rfl)) (fun _ _ _ h => h) (Or.inr ⟨by rfl, rfl⟩) ?_ ?_; rotate_left
            ·
             simp only [Act.put, zzq, zzr, zzs, i64_w, i32_w]; rfl
            refine pure_ (i := 15) (N := some 74) (v := undef) (a' := ?_) (zzB 19 65535) rfl rfl (any_of HT_.out (by kernel_rfl)) (fun _ _ _ h => h) (Or.inr ⟨by rfl, rfl⟩) ?_ ?_; rotate_left
            ·
             simp only [Act.put, zzq, zzr, zzs, i64_w, i32_w]; rfl
            refine pure_ (i := 16) (N := some 75) (v := undef) (a' := ?_) (zzB 19 131071) rfl rfl (any_of HT_.out (by kernel_rfl)) (fun _ _ _ h => h) (Or.inr ⟨by rfl, rfl⟩) ?_ ?_; rotate_left
            ·
             simp only [Act.put, zzq, zzr, zzs, i64_w, i32_w]; rfl
            refine pure_ (i := 17) (N := some 76) (v := undef) (a' := ?_) (zzB 19 262143) rfl rfl (any_of HT_.out (by kernel_rfl)) (fun _ _ _ h => h) (Or.inr ⟨by rfl, rfl⟩) ?_ ?_; rotate_left
            ·
             simp only [Act.put, zzq, zzr, zzs, i64_w, i32_w]; rfl
            refine pure_ (i := 18) (N := some 77) (v := ?_) (a' := ?_) (zzB 19 524287) rfl rfl (any_of HT_.out (by kernel_rfl)) (fun _ _ _ h => h) (Or.inl ⟨by rfl, ?_⟩) ?_ ?_; rotate_left
            ·
             intro w'; go_simp; with_reducible rfl
            rotate_left
            ·
             simp only [Act.put, zzq, zzr, zzs, i64_w, i32_w]; rfl
            refine done_ (done_of HT_.out (by kernel_rfl)) ?_; try go_wp2
            go_ret; exact ⟨by first | rfl | (simp [errW_none, errW_some] <;> rfl) | (simp [*, errW_none, errW_some] <;> rfl), by repeat (first | (with_reducible first | exact HB.out | apply zza | apply zzb | apply zzc | refine zzd ?_ GE292.out | refine zzd ?_ GE298.out) | exact HB.out)⟩
          ·
           rw [if_neg c34] at H; exact absurd H (by simp)
         ·
          rw [if_neg c33] at H; exact absurd H (by simp)
        ·
         rw [if_neg c32] at H; have c32b0 : decide (x54_3 < (l0_5.length : Int)) = false := decide_eq_false c32; clear c32; obtain rfl := Option.some.inj H; go_wp2; go_ret; exact ⟨by first | rfl | (simp [errW_none, errW_some] <;> rfl) | (simp [*, errW_none, errW_some] <;> rfl), by repeat (first | (with_reducible first | exact HB.out | apply zza | apply zzb | apply zzc | refine zzd ?_ GE292.out) | exact HB.out)⟩
end Go.Proofs.Ytkhmopmfbocokaa.T
namespace Go.Proofs.Ytkhmopmfbocokaa.T
open Go.RowKit Go.Proofs.YtkhmopmfbocokaaW.PrintWords Go.Proofs.YtkhmopmfbocokaaW.PrintLast Go.Proofs.YtkhmopmfbocokaaW.PrintMore
attribute [local go_sem] max2_int max_two
set_option linter.unusedVariables false
set_option linter.unusedSimpArgs false
structure SlotV where
 u : Bool
 a : Int
 b : Int
 c : Int
def slot0 : SlotV := ⟨false, 0, 0, 0⟩
def HasSlots (w : World) (g : Nat) (f : Nat → SlotV) : Prop := ∃ cells : Array Value, w.heap[g]? = some (.cells cells 94 (0, 0)) ∧ cells.size = 1020 ∧
 ∀ i, i < 255 → cells[i * 4]? = some (.bool (f i).u) ∧ cells[i * 4 + 1]? = some (.int .i64 (f i).a) ∧ cells[i * 4 + 2]? = some (.int .i64 (f i).b) ∧ cells[i * 4 + 3]? = some (.int .i64 (f i).c)
theorem HasSlots.lt {w : World} {g : Nat} {f : Nat → SlotV} (h : HasSlots w g f) : g < w.heap.size := by
 obtain ⟨cells, h1, _⟩ := h; exact blk_lt h1
theorem HasSlots.below {w w1 : World} {g : Nat} {f : Nat → SlotV} (h : HasSlots w g f) (hb : Below w.heap.size w w1) : HasSlots w1 g f := by
 obtain ⟨cells, h1, h2⟩ := h; exact ⟨cells, zzh h1 hb, h2⟩
theorem HasSlots.at_ {w : World} {g : Nat} {f : Nat → SlotV} (h : HasSlots w g f) (i : Nat) (hi : i < 255) :
  w.cell? ⟨g, i * 4, none⟩ = some (.bool (f i).u) ∧ w.cell? ⟨g, i * 4 + 1, none⟩ = some (.int .i64 (f i).a) ∧ w.cell? ⟨g, i * 4 + 2, none⟩ = some (.int .i64 (f i).b) ∧ w.cell? ⟨g, i * 4 + 3, none⟩ = some (.int .i64 (f i).c) := by
 obtain ⟨cells, h1, _, h3⟩ := h; obtain ⟨k0, k1, k2, k3⟩ := h3 i hi; exact ⟨(zzk h1 _).trans k0, (zzk h1 _).trans k1, (zzk h1 _).trans k2, (zzk h1 _).trans k3⟩
theorem HasSlots.free {w : World} {g : Nat} {f : Nat → SlotV} (h : HasSlots w g f) (j : Nat) : w.frozen? ⟨g, j, none⟩ = false := by
 obtain ⟨cells, h1, _⟩ := h; exact zzl h1 j
theorem HasSlots.put {w : World} {g : Nat} {f : Nat → SlotV} (h : HasSlots w g f) (i : Nat) (hi : i < 255) (u : Bool) (a b c : Int) :
  HasSlots ((((w.setCell ⟨g, i * 4, none⟩ (.bool u)).setCell ⟨g, i * 4 + 1, none⟩ (.int .i64 a)).setCell ⟨g, i * 4 + 2, none⟩ (.int .i64 b)).setCell ⟨g, i * 4 + 3, none⟩ (.int .i64 c)) g (fun k => if k = i then ⟨u, a, b, c⟩ else f k) := by
 obtain ⟨cells, h1, h2, h3⟩ := h; refine ⟨(((cells.setIfInBounds (i * 4) (.bool u)).setIfInBounds (i * 4 + 1) (.int .i64 a)).setIfInBounds (i * 4 + 2) (.int .i64 b)).setIfInBounds (i * 4 + 3) (.int .i64 c), blk_set (blk_set (blk_set (blk_set h1 _ _) _ _) _ _) _ _, by simp [h2], ?_⟩; intro j hj; by_cases hji : j = i
 ·
  subst hji; simp only [if_true]; refine ⟨?_, ?_, ?_, ?_⟩
  ·
   rw [Array.getElem?_setIfInBounds_ne (by omega), Array.getElem?_setIfInBounds_ne (by omega), Array.getElem?_setIfInBounds_ne (by omega), Array.getElem?_setIfInBounds_self_of_lt (by omega)]
  ·
   rw [Array.getElem?_setIfInBounds_ne (by omega), Array.getElem?_setIfInBounds_ne (by omega), Array.getElem?_setIfInBounds_self_of_lt (by simp; omega)]
  ·
   rw [Array.getElem?_setIfInBounds_ne (by omega), Array.getElem?_setIfInBounds_self_of_lt (by simp; omega)]
  ·
   rw [Array.getElem?_setIfInBounds_self_of_lt (by simp; omega)]
 ·
  simp only [if_neg hji]; obtain ⟨k0, k1, k2, k3⟩ := h3 j hj; refine ⟨?_, ?_, ?_, ?_⟩
  ·
   rw [Array.getElem?_setIfInBounds_ne (by omega), Array.getElem?_setIfInBounds_ne (by omega), Array.getElem?_setIfInBounds_ne (by omega), Array.getElem?_setIfInBounds_ne (by omega)]; exact k0
  ·
   rw [Array.getElem?_setIfInBounds_ne (by omega), Array.getElem?_setIfInBounds_ne (by omega), Array.getElem?_setIfInBounds_ne (by omega), Array.getElem?_setIfInBounds_ne (by omega)]; exact k1
  ·
   rw [Array.getElem?_setIfInBounds_ne (by omega), Array.getElem?_setIfInBounds_ne (by omega), Array.getElem?_setIfInBounds_ne (by omega), Array.getElem?_setIfInBounds_ne (by omega)]; exact k2
  ·
   rw [Array.getElem?_setIfInBounds_ne (by omega), Array.getElem?_setIfInBounds_ne (by omega), Array.getElem?_setIfInBounds_ne (by omega), Array.getElem?_setIfInBounds_ne (by omega)]; exact k3
def zeroSlots : Array Value := (List.flatten (List.replicate 255 [Value.bool false, .int .i64 0, .int .i64 0, .int .i64 0])).toArray
theorem flat_at {x0 x1 x2 x3 : Value} : ∀ (n i : Nat), i < n → (List.flatten (List.replicate n [x0, x1, x2, x3]))[i * 4]? = some x0 ∧ (List.flatten (List.replicate n [x0, x1, x2, x3]))[i * 4 + 1]? = some x1 ∧ (List.flatten (List.replicate n [x0, x1, x2, x3]))[i * 4 + 2]? = some x2 ∧ (List.flatten (List.replicate n [x0, x1, x2, x3]))[i * 4 + 3]? = some x3
 | 0, i, h => by omega
 | n + 1, 0, h => by
  rw [List.replicate_succ, List.flatten_cons]
  exact ⟨rfl, rfl, rfl, rfl⟩
 | n + 1, i + 1, h => by
  obtain ⟨k0, k1, k2, k3⟩ := flat_at (x0 := x0) (x1 := x1) (x2 := x2) (x3 := x3) n i (by omega)
  rw [List.replicate_succ, List.flatten_cons]
  refine ⟨?_, ?_, ?_, ?_⟩
  ·
   rw [List.getElem?_append_right (by simp; omega), show (i + 1) * 4 - [x0, x1, x2, x3].length = i * 4 by simp; omega]; exact k0
  ·
   rw [List.getElem?_append_right (by simp; omega), show (i + 1) * 4 + 1 - [x0, x1, x2, x3].length = i * 4 + 1 by simp; omega]; exact k1
  ·
   rw [List.getElem?_append_right (by simp; omega), show (i + 1) * 4 + 2 - [x0, x1, x2, x3].length = i * 4 + 2 by simp; omega]; exact k2
  ·
   rw [List.getElem?_append_right (by simp; omega), show (i + 1) * 4 + 3 - [x0, x1, x2, x3].length = i * 4 + 3 by simp; omega]; exact k3
theorem flat_len {x0 x1 x2 x3 : Value} : ∀ n : Nat, (List.flatten (List.replicate n [x0, x1, x2, x3])).length = n * 4
 | 0 => rfl
 | n + 1 => by rw [List.replicate_succ, List.flatten_cons, List.length_append, flat_len n]; simp; omega
theorem HasSlots.zero {w : World} {g : Nat} (h : w.heap[g]? = some (.cells zeroSlots 94 (0, 0))) : HasSlots w g (fun _ => slot0) := by
 refine ⟨zeroSlots, h, by unfold zeroSlots; rw [List.size_toArray, flat_len], fun i hi => ?_⟩; obtain ⟨k0, k1, k2, k3⟩ := flat_at (x0 := Value.bool false) (x1 := .int .i64 0) (x2 := .int .i64 0) (x3 := .int .i64 0) 255 i hi; unfold zeroSlots; simp only [List.getElem?_toArray]; exact ⟨k0, k1, k2, k3⟩
def slotPut (f : Nat → SlotV) (p : S39) : Nat → SlotV := fun k => if k = p.f0.toNat then ⟨true, p.f0, p.f1, p.f2⟩ else f k
def slotFn (l : List S39) : Nat → SlotV := l.foldl slotPut (fun _ => slot0)
theorem slotFn_snoc (l : List S39) (p : S39) : slotFn (l ++ [p]) = slotPut (slotFn l) p := by simp [slotFn]
theorem slotFn_take (l : List S39) (k : Nat) (h : k < l.length) : slotFn (l.take (k + 1)) = slotPut (slotFn (l.take k)) (rd_T39 l (k : Int)) := by
 rw [List.take_succ_eq_append_getElem h, slotFn_snoc]; congr 1; simp [rd_T39, List.getD_eq_getElem?_getD, List.getElem?_eq_getElem h]
theorem infoAT : (Try.prog.info? 94).map (fun i => (i.zero, i.size, i.bytes)) = some (some (.agg zeroSlots), 1020, 8160) := by kernel_rfl
theorem alloc_slots {o : Oper} (ρ : Operand → Value) (ho : o.op = .alloc 94) (W : World) : (execOp ρ o).run Try.prog W = .ok (.value (.pointer (some ⟨W.heap.size, 0, none⟩))) (W.alloc (.cells zeroSlots 94 (0, 0))) := by
 obtain ⟨i0, hi, hz0, hz1, hz2⟩ := info_parts infoAT; have hz : (zeroValue 94).run Try.prog W = .ok (.agg zeroSlots) W := by simp [zeroValue, typeInfo, hi, hz0, go_sem]
 obtain ⟨op, dst, guard, pos, x1, x2⟩ := o; subst ho; simp [execOp, Instr.alloc, hz, newVar, newRow, go_sem]
theorem HasSlots.far {w : World} {g : Nat} {f : Nat → SlotV} (h : HasSlots w g f) {p : Addr} (hp : g ≠ p.block) (v : Value) : HasSlots (w.setCell p v) g f := by
 obtain ⟨cells, h1, h2⟩ := h; exact ⟨cells, zzj h1 hp v, h2⟩
theorem HasSlots.drew {w : World} {g : Nat} {f : Nat → SlotV} (h : HasSlots w g f) : HasSlots w.drew g f := h
set_option maxHeartbeats 8000000 in
set_option maxRecDepth 100000 in
theorem impl_slotsOf.calls (A0 : Option Addr) (c0 : Nat) (l0 : List S39) (w : World) (hr0 : Kd.C k39 w A0 l0.length l0) (hid : ∀ j : Nat, j < l0.length → 0 ≤ (rd_T39 l0 (j : Int)).f0 ∧ (rd_T39 l0 (j : Int)).f0 < 255) :
  Calls Try.prog 57 #[.slice A0 l0.length c0] w fun e w' => ∃ g : Nat, e = .returned (.pointer (some ⟨g, 0, none⟩)) ∧ w.heap.size ≤ g ∧ HasSlots w' g (slotFn l0) ∧ Below w.heap.size w w' := by
 have hmax : l0.length ≤ 9223372036854775807 := hr0.2.1; have HR := zzm hr0; have HI := zzm hid; clear hr0 hid; go_enter Try.func57, Try.ntmps57; go_wp2_with ((with_reducible refine gate_dst (N := 6) rfl ?_); refine box_event ?hg (N := 6) ?hd (cs := zeroSlots) (t := 94) ?hr ?_; (case hd => rfl); (case hg => rfl); (case hr => exact alloc_slots _ rfl _); intro g hg w1 hbox hb; have HS0 := zzm (HasSlots.zero hbox); have HB0 := zzm hb; have HG := zzm (show w.heap.size ≤ g from Nat.le_of_eq hg.symm); clear hb hbox hg); go_loopw [9, 5] (fun i i5 W => ∃ k : Nat, k ≤ l0.length ∧ i = .int .i64 k ∧ Aside0 (HasSlots W g (slotFn (l0.take k))) ∧ Aside0 (Below w.heap.size w W)) (fun i _ _ => l0.length - (intOf i).toNat)
 case atStart => exact ⟨0, Nat.zero_le _, rfl, HS0, HB0⟩
 case round =>
  obtain ⟨k, hk, rfl, HS, HB⟩ := hrel; by_cases hlt : k < l0.length
  ·
   obtain ⟨ad, he, hx0, hx1, hx2⟩ := at_T39 HR.out (k : Int) (by omega) (by omega); subst he; replace hx0 := (HB.out.cell (zzn w _ hx0)).trans hx0; replace hx1 := (HB.out.cell (zzn w _ hx1)).trans hx1; replace hx2 := (HB.out.cell (zzn w _ hx2)).trans hx2; simp only [Int.toNat_natCast] at hx0 hx1 hx2; have HN := zzm (slotFn_take l0 k hlt); obtain ⟨hi0, hi1⟩ := HI.out k hlt; obtain ⟨p, hp⟩ : ∃ p, p = rd_T39 l0 (k : Int) := ⟨_, rfl⟩; simp only [← hp] at hx0 hx1 hx2 hi0 hi1; rw [← hp] at HN; clear hp; obtain ⟨m, hm⟩ : ∃ m : Nat, p.f0 = (m : Int) := ⟨p.f0.toNat, by omega⟩; have hm2 : m < 255 := by omega
   go_wp2_with ((with_reducible refine gate_dst (N := 5) rfl ?_); refine box_event ?hg (N := 5) ?hd (cs := #[.int .i64 0, .int .i64 0, .int .i64 0]) (t := 39) ?hr ?_; (case hd => rfl); (case hg => rfl); (case hr => first | (go_simp; done) | (go_simp; rfl)); intro gb hg w13 hbox hb; have HS13 := zzm (HS.out.below hb); have HB13 := zzm (zzp HB.out hb); have BK := zzm hbox; have GE := zzm (show w.heap.size ≤ gb by rw [hg]; exact HB.out.size); have NE := zzm (show g ≠ gb by have := HS.out.lt; omega); clear hb hbox hg; have hcz0 : w13.cell? ⟨gb, 0, none⟩ = some (.int .i64 0) := (zzk BK.out 0).trans rfl; have hcz1 : w13.cell? ⟨gb, 1, none⟩ = some (.int .i64 0) := (zzk BK.out 1).trans rfl; have hcz2 : w13.cell? ⟨gb, 2, none⟩ = some (.int .i64 0) := (zzk BK.out 2).trans rfl; have hf0 := zzl BK.out 0; have hf1 := zzl BK.out 1; have hf2 := zzl BK.out 2); have BK2 := zzm (blk_set (blk_set (blk_set BK.out 0 (.int .i64 (m : Int))) 1 (.int .i64 p.f1)) 2 (.int .i64 p.f2)); have HS2 := zzm (((HS13.out.far (p := ⟨gb, 0, none⟩) NE.out (.int .i64 (m : Int))).far (p := ⟨gb, 1, none⟩) NE.out (.int .i64 p.f1)).far (p := ⟨gb, 2, none⟩) NE.out (.int .i64 p.f2)); have HB2 := zzm (zzd (zzd (zzd HB13.out GE.out (j := 0) (v := .int .i64 (m : Int))) GE.out (j := 1) (v := .int .i64 p.f1)) GE.out (j := 2) (v := .int .i64 p.f2)); clear hcz0 hcz1 hcz2 hf0 hf1 hf2 BK HS13 HB13 hx0 hx1 hx2; generalize ((w13.setCell ⟨gb, 0, none⟩ (.int .i64 (m : Int))).setCell ⟨gb, 1, none⟩ (.int .i64 p.f1)).setCell ⟨gb, 2, none⟩ (.int .i64 p.f2) = w14 at BK2 HS2 HB2 ⊢; have hc0 : w14.cell? ⟨gb, 0, none⟩ = some (.int .i64 (m : Int)) := (zzk BK2.out 0).trans rfl; have hc1 : w14.cell? ⟨gb, 1, none⟩ = some (.int .i64 p.f1) := (zzk BK2.out 1).trans rfl; have hc2 : w14.cell? ⟨gb, 2, none⟩ = some (.int .i64 p.f2) := (zzk BK2.out 2).trans rfl; have fz : ∀ j, w14.frozen? ⟨g, j, none⟩ = false := HS2.out.free; have fz0 := fz (m * 4); have fz1 := fz (m * 4 + 1); have fz2 := fz (m * 4 + 2); have fz3 := fz (m * 4 + 3); clear fz; obtain ⟨vz0, hz0⟩ : ∃ v, w14.cell? ⟨g, m * 4, none⟩ = some v := ⟨_, (HS2.out.at_ m hm2).1⟩; obtain ⟨vz1, hz1⟩ : ∃ v, w14.cell? ⟨g, m * 4 + 1, none⟩ = some v := ⟨_, (HS2.out.at_ m hm2).2.1⟩; obtain ⟨vz2, hz2⟩ : ∃ v, w14.cell? ⟨g, m * 4 + 2, none⟩ = some v := ⟨_, (HS2.out.at_ m hm2).2.2.1⟩; obtain ⟨vz3, hz3⟩ : ∃ v, w14.cell? ⟨g, m * 4 + 3, none⟩ = some v := ⟨_, (HS2.out.at_ m hm2).2.2.2⟩; have hmi : (m : Int) < 255 := by omega
   have hmi0 : 0 ≤ (m : Int) := by omega
   go_region; have HSF := HasSlots.drew (HS2.out.put m hm2 true (m : Int) p.f1 p.f2); have HBF := zzc (zzd (zzd (zzd (zzd HB2.out HG.out (j := m * 4) (v := .bool true)) HG.out (j := m * 4 + 1) (v := .int .i64 (m : Int))) HG.out (j := m * 4 + 2) (v := .int .i64 p.f1)) HG.out (j := m * 4 + 3) (v := .int .i64 p.f2)); have heq : slotFn (l0.take (k + 1)) = fun k' => if k' = m then ⟨true, (m : Int), p.f1, p.f2⟩ else slotFn (l0.take k) k' := by
    rw [HN.out]; unfold slotPut; rw [hm, Int.toNat_natCast]
   rw [← heq] at HSF; have HSF' := zzm HSF; have HBF' := zzm HBF; clear HSF HBF heq hz0 hz1 hz2 hz3 fz0 fz1 fz2 fz3 hc0 hc1 hc2 hm; go_wp2; go_roundw
   case rel => exact ⟨k + 1, by omega, by go_num, HSF', HBF'⟩
   case measure => simp [intOf]; omega
  ·
   have hk2 : k = l0.length := by omega
   subst hk2; rw [List.take_length] at HS; go_wp2; go_ret; exact ⟨g, rfl, HG.out, HS.out, HB.out⟩
def seqCode (s n : Int) : Int := if s < n then 1 else if s > n then 2 else 0
def codeAt (f : Nat → SlotV) (p e s : Int) : Int :=
 if p = 255 then 4 else if (f p.toNat).u = true then (if (f p.toNat).b > e then 3 else if (f p.toNat).b = e then seqCode s (f p.toNat).c else seqCode s 0) else seqCode s 0
set_option maxHeartbeats 8000000 in
set_option maxRecDepth 100000 in
theorem impl_slots_check.calls (g : Nat) (f : Nat → SlotV) (b0 b1 : Bool) (b2 b3 b4 : Int) (v5 : Value) (hv5 : v5.oneCell' = true) (w : World) (hs : HasSlots w g f) (hb0 : 0 ≤ b2) (hb1 : b2 ≤ 255) :
  Calls Try.prog 58 #[.pointer (some ⟨g, 0, none⟩), .agg #[.bool b0, .bool b1, .int .i64 b2, .int .i64 b3, .int .i64 b4, v5]] w fun e w' => e = .returned (.int .i64 (codeAt f b2 b3 b4)) ∧ Below w.heap.size w w' := by
 have HS := zzm hs; have HB := zzm (Below.refl w.heap.size w); obtain ⟨m, rfl⟩ : ∃ m : Nat, b2 = (m : Int) := ⟨b2.toNat, by omega⟩; clear hs hb0; by_cases h255 : m = 255
 ·
  subst h255; have hcode : codeAt f ((255 : Nat) : Int) b3 b4 = 4 := rfl; have HC := zzm hcode; clear hcode; go_enter Try.func58, Try.ntmps58; go_wp2_with ((with_reducible refine gate_dst (N := 3) rfl ?_); refine box_event ?hg (N := 3) ?hd (cs := #[.bool b0, .bool b1, .int .i64 ((255 : Nat) : Int), .int .i64 b3, .int .i64 b4, v5]) (t := 34) ?hr ?_; (case hd => rfl); (case hg => rfl); (case hr => first | (go_simp; done) | (go_simp; rfl)); intro gb hg w8 hbox hb; have HB1 := zzm (zzp HB.out hb); have hcz2 : w8.cell? ⟨gb, 2, none⟩ = some (.int .i64 255) := (zzk hbox 2).trans rfl; have hf2 := zzl hbox 2; clear hb hbox hg); go_ret; exact ⟨by rw [HC.out]; rfl, HB1.out⟩
 ·
  have hm2 : m < 255 := by omega
  have hne : ((m : Int) == 255) = false := by simp; omega
  go_enter Try.func58, Try.ntmps58; go_wp2_with ((with_reducible refine gate_dst (N := 3) rfl ?_); refine box_event ?hg (N := 3) ?hd (cs := #[.bool b0, .bool b1, .int .i64 (m : Int), .int .i64 b3, .int .i64 b4, v5]) (t := 34) ?hr ?_; (case hd => rfl); (case hg => rfl); (case hr => first | (go_simp; done) | (go_simp; rfl)); intro gb hg w8 hbox hb; have HB1 := zzm (zzp HB.out hb); have HS1 := zzm (HS.out.below hb); have BK := zzm hbox; have hcz2 : w8.cell? ⟨gb, 2, none⟩ = some (.int .i64 (m : Int)) := (zzk hbox 2).trans rfl; have hf2 := zzl hbox 2; clear hb hbox hg); obtain ⟨hc0, hc1, hc2, hc3⟩ := HS1.out.at_ m hm2; have hg8 := HS1.out.lt; have hgb := blk_lt BK.out; have hmi : (m : Int) < 255 := by omega
  have hmi0 : 0 ≤ (m : Int) := by omega
  go_region; have HB9 := zzm (zzc (zza HB1.out (.cells #[.bool (f m).u, .int .i64 (f m).a, .int .i64 (f m).b, .int .i64 (f m).c] 82))); have BK9 := zzm (zzg (blk_new w8 (.cells #[.bool (f m).u, .int .i64 (f m).a, .int .i64 (f m).b, .int .i64 (f m).c] 82))); have BG9 := zzm (zzg (zzh BK.out (zza (Below.refl _ _) (.cells #[.bool (f m).u, .int .i64 (f m).a, .int .i64 (f m).b, .int .i64 (f m).c] 82)))); clear hc0 hc1 hc2 hc3 hcz2 hf2 hg8 hgb HB1 HS1 BK; generalize (w8.alloc (.cells #[.bool (f m).u, .int .i64 (f m).a, .int .i64 (f m).b, .int .i64 (f m).c] 82)).drew = w9 at HB9 BK9 BG9 ⊢; generalize w8.heap.size = gs at BK9 ⊢; have HC : ∀ r, codeAt f (m : Int) b3 b4 = r → Aside0 (codeAt f (m : Int) b3 b4 = r) := fun r h => ⟨h⟩; have HF : codeAt f (m : Int) b3 b4 = if (f m).u = true then (if (f m).b > b3 then 3 else if (f m).b = b3 then seqCode b4 (f m).c else seqCode b4 0) else seqCode b4 0 := by
   unfold codeAt; rw [if_neg (by omega), Int.toNat_natCast]
  clear HC; obtain ⟨r, hr0⟩ : ∃ r, r = codeAt f (m : Int) b3 b4 := ⟨_, rfl⟩; rw [← hr0] at HF; have HR0 := zzm hr0; clear hr0; obtain ⟨x, hx⟩ : ∃ x, x = f m := ⟨_, rfl⟩; rw [← hx] at BK9 HF; try rw [← hx]
  clear hx; obtain ⟨u, a, b, c⟩ := x; have HF' := zzm HF; clear HF; have d0 : w9.cell? ⟨gs, 0, none⟩ = some (.bool u) := (zzk BK9.out 0).trans rfl; have d2 : w9.cell? ⟨gs, 2, none⟩ = some (.int .i64 b) := (zzk BK9.out 2).trans rfl; have d3 : w9.cell? ⟨gs, 3, none⟩ = some (.int .i64 c) := (zzk BK9.out 3).trans rfl; have e3 : w9.cell? ⟨gb, 3, none⟩ = some (.int .i64 b3) := (zzk BG9.out 3).trans rfl; have e4 : w9.cell? ⟨gb, 4, none⟩ = some (.int .i64 b4) := (zzk BG9.out 4).trans rfl; have fin : ∀ n : Int, seqCode b4 n = if b4 < n then 1 else if b4 > n then 2 else 0 := fun n => rfl; cases u with
  | false =>
   have hr : r = if b4 < 0 then 1 else if b4 > 0 then 2 else 0 := by have := HF'.out; simpa [seqCode] using this
   have HR := zzm hr; clear hr HF' fin; rcases Int.lt_trichotomy b4 0 with h | h | h
   ·
    have HE := zzm (show r = 1 by have := HR.out; rw [if_pos h] at this; exact this); go_wp2; go_ret; exact ⟨by rw [← HR0.out, HE.out]; rfl, HB9.out⟩
   ·
    subst h; have HE := zzm (show r = 0 by have := HR.out; simpa using this); go_wp2; go_ret; exact ⟨by rw [← HR0.out, HE.out]; rfl, HB9.out⟩
   ·
    have HE := zzm (show r = 2 by have := HR.out; rw [if_neg (by omega), if_pos h] at this; exact this); have h1 : decide (b4 < 0) = false := by simp; omega
    have h2 : decide (0 < b4) = true := by simp; omega
    go_wp2; go_ret; exact ⟨by rw [← HR0.out, HE.out]; rfl, HB9.out⟩
  | true =>
   by_cases hgt : b3 < b
   ·
    have HE := zzm (show r = 3 by have := HF'.out; simpa [hgt] using this); clear HF' fin; go_wp2; go_ret; exact ⟨by rw [← HR0.out, HE.out]; rfl, HB9.out⟩
   ·
    have hgt' : decide (b3 < b) = false := by simp; omega
    by_cases heq : b = b3
    ·
     subst heq; have hr : r = if b4 < c then 1 else if b4 > c then 2 else 0 := by have := HF'.out; simpa [seqCode] using this
     have HR := zzm hr; clear hr HF' fin hgt hgt'; rcases Int.lt_trichotomy b4 c with h | h | h
     ·
      have HE := zzm (show r = 1 by have := HR.out; rw [if_pos h] at this; exact this); go_wp2; go_ret; exact ⟨by rw [← HR0.out, HE.out]; rfl, HB9.out⟩
     ·
      subst h; have HE := zzm (show r = 0 by have := HR.out; simpa using this); go_wp2; go_ret; exact ⟨by rw [← HR0.out, HE.out]; rfl, HB9.out⟩
     ·
      have HE := zzm (show r = 2 by have := HR.out; rw [if_neg (by omega), if_pos h] at this; exact this); have h1 : decide (b4 < c) = false := by simp; omega
      have h2 : decide (c < b4) = true := by simp; omega
      go_wp2; go_ret; exact ⟨by rw [← HR0.out, HE.out]; rfl, HB9.out⟩
    ·
     have heq' : (b == b3) = false := by simpa using heq
     have hr : r = if b4 < 0 then 1 else if b4 > 0 then 2 else 0 := by have := HF'.out; simpa [seqCode, hgt, heq] using this
     have HR := zzm hr; clear hr HF' fin heq; rcases Int.lt_trichotomy b4 0 with h | h | h
     ·
      have HE := zzm (show r = 1 by have := HR.out; rw [if_pos h] at this; exact this); go_wp2; go_ret; exact ⟨by rw [← HR0.out, HE.out]; rfl, HB9.out⟩
     ·
      subst h; have HE := zzm (show r = 0 by have := HR.out; simpa using this); go_wp2; go_ret; exact ⟨by rw [← HR0.out, HE.out]; rfl, HB9.out⟩
     ·
      have HE := zzm (show r = 2 by have := HR.out; rw [if_neg (by omega), if_pos h] at this; exact this); have h1 : decide (b4 < 0) = false := by simp; omega
      have h2 : decide (0 < b4) = true := by simp; omega
      go_wp2; go_ret; exact ⟨by rw [← HR0.out, HE.out]; rfl, HB9.out⟩
def slotList (f : Nat → SlotV) (n : Nat) : List S39 := (List.range n).filterMap fun i => if (f i).u = true then some ⟨(f i).a, (f i).b, (f i).c⟩ else none
theorem slotList_no (f : Nat → SlotV) (n : Nat) (h : (f n).u = false) : slotList f (n + 1) = slotList f n := by
 simp [slotList, List.range_succ, List.filterMap_append, h]
theorem slotList_yes (f : Nat → SlotV) (n : Nat) (h : (f n).u = true) : slotList f (n + 1) = slotList f n ++ [⟨(f n).a, (f n).b, (f n).c⟩] := by
 simp [slotList, List.range_succ, List.filterMap_append, h]
theorem slotList_len (f : Nat → SlotV) (n : Nat) : (slotList f n).length ≤ n := by
 have := List.length_filterMap_le (fun i => if (f i).u = true then some (⟨(f i).a, (f i).b, (f i).c⟩ : S39) else none) (List.range n); rw [List.length_range] at this; exact this
set_option maxHeartbeats 8000000 in
set_option maxRecDepth 100000 in
theorem impl_slots_list.calls (g : Nat) (f : Nat → SlotV) (w : World) (hs : HasSlots w g f) :
  Calls Try.prog 62 #[.pointer (some ⟨g, 0, none⟩)] w fun e w' => ∃ v0_ : Value, e = .returned v0_ ∧ Kd.R k39 39 w' w.heap.size (fun _ => True) v0_ (slotList f 255) ∧ Below w.heap.size w w' := by
 have HS := zzm hs; have HB := zzm (Below.refl w.heap.size w); clear hs; obtain ⟨y, hy⟩ : ∃ y : List S39, y = [] := ⟨_, rfl⟩; have Ny := zzm hy; clear hy; go_enter Try.func62, Try.ntmps62; go_wp2_with ((with_reducible refine gate_dst (N := 6) rfl ?_); refine Kd.R_lit k39 _ 39 ?hg (N := 6) ?hd (xs := ([] : List (S39))) (inner := []) (ok := fun _ => True) (okp := fun _ => True) ?hr ?hp (fun _ hk => hk) trivial (Below.refl _ _) (Nat.le_refl _) (by simp) ?_; (case hd => rfl); (case hg => rfl); (case hr => first | (go_simp; done) | (go_simp; rfl)); (case hp => exact (Reps.none _ _)); intro v1 w1 ho1 hb hg_ hnew_; clear hg_ hnew_; rw [← Ny.out] at ho1; have n1_ := zzm (zzp HB.out hb); have n2_ := zzm ho1; clear HB; have HB := n1_; have HO := n2_; clear n1_ n2_ hb ho1); go_loopw [3, 9, 5] (fun v i i5 W => ∃ k : Nat, k ≤ 255 ∧ i = .int .i64 k ∧ Aside0 (Kd.R k39 39 W w.heap.size (fun _ => True) v (slotList f k)) ∧ Aside0 (Below w.heap.size w W)) (fun _ i _ _ => 255 - (intOf i).toNat)
 case atStart => exact ⟨0, Nat.zero_le _, rfl, ⟨by rw [Ny.out] at HO; exact HO.out⟩, HB⟩
 case round =>
  obtain ⟨k, hk, rfl, HO, HB⟩ := hrel; by_cases hlt : k < 255
  ·
   obtain ⟨hc0, hc1, hc2, hc3⟩ := (HS.out.below HB.out).at_ k hlt; have HY := zzm (slotList_yes f k); have HN := zzm (slotList_no f k); obtain ⟨x, hx⟩ : ∃ x, x = f k := ⟨_, rfl⟩; rw [← hx] at hc0 hc1 hc2 hc3 HY HN; clear hx; obtain ⟨u, a, b, c⟩ := x; have hki : (k : Int) < 255 := by omega
   have hki0 : 0 ≤ (k : Int) := by omega
   go_upto_region 5 with ((with_reducible refine gate_dst (N := 5) rfl ?_); refine box_event ?hg (N := 5) ?hd (cs := #[.bool false, .int .i64 0, .int .i64 0, .int .i64 0]) (t := 82) ?hr ?_; (case hd => rfl); (case hg => rfl); (case hr => first | (go_simp; done) | (go_simp; rfl)); intro gb hg w13 hbox hb; have HO13 := zzm (Kd.R_below (Kd.R_elderB HO.out gb (Nat.le_of_eq hg.symm)) hb); have HB13 := zzm (zzp HB.out hb); have BK := zzm hbox; have GE := zzm (show w.heap.size ≤ gb by rw [hg]; exact HB.out.size); clear hb hbox hg; have hcz0 : w13.cell? ⟨gb, 0, none⟩ = some (.bool false) := (zzk BK.out 0).trans rfl; have hcz1 : w13.cell? ⟨gb, 1, none⟩ = some (.int .i64 0) := (zzk BK.out 1).trans rfl; have hcz2 : w13.cell? ⟨gb, 2, none⟩ = some (.int .i64 0) := (zzk BK.out 2).trans rfl; have hcz3 : w13.cell? ⟨gb, 3, none⟩ = some (.int .i64 0) := (zzk BK.out 3).trans rfl; have hf0 := zzl BK.out 0; have hf1 := zzl BK.out 1; have hf2 := zzl BK.out 2; have hf3 := zzl BK.out 3); have BK2 := zzm (blk_set (blk_set (blk_set (blk_set BK.out 0 (.bool u)) 1 (.int .i64 a)) 2 (.int .i64 b)) 3 (.int .i64 c)); have HO2 := zzm (Kd.R_far (p := ⟨gb, 3, none⟩) (Kd.R_far (p := ⟨gb, 2, none⟩) (Kd.R_far (p := ⟨gb, 1, none⟩) (Kd.R_far (p := ⟨gb, 0, none⟩) HO13.out (fun _ hk => hk.2) (.bool u)) (fun _ hk => hk.2) (.int .i64 a)) (fun _ hk => hk.2) (.int .i64 b)) (fun _ hk => hk.2) (.int .i64 c)); have HB2 := zzm (zzd (zzd (zzd (zzd HB13.out GE.out (j := 0) (v := .bool u)) GE.out (j := 1) (v := .int .i64 a)) GE.out (j := 2) (v := .int .i64 b)) GE.out (j := 3) (v := .int .i64 c)); clear hcz0 hcz1 hcz2 hcz3 hf0 hf1 hf2 hf3 BK HO13 HB13 hc0 hc1 hc2 hc3; generalize (((w13.setCell ⟨gb, 0, none⟩ (.bool u)).setCell ⟨gb, 1, none⟩ (.int .i64 a)).setCell ⟨gb, 2, none⟩ (.int .i64 b)).setCell ⟨gb, 3, none⟩ (.int .i64 c) = w14 at BK2 HO2 HB2 ⊢; have d0 : w14.cell? ⟨gb, 0, none⟩ = some (.bool u) := (zzk BK2.out 0).trans rfl; have d1 : w14.cell? ⟨gb, 1, none⟩ = some (.int .i64 a) := (zzk BK2.out 1).trans rfl; have d2 : w14.cell? ⟨gb, 2, none⟩ = some (.int .i64 b) := (zzk BK2.out 2).trans rfl; have d3 : w14.cell? ⟨gb, 3, none⟩ = some (.int .i64 c) := (zzk BK2.out 3).trans rfl; have HL := zzm (show (slotList f k).length < 255 by have := slotList_len f k; omega); cases u with
   | false =>
    have HE := zzm (HN.out rfl); clear HN HY; go_wp2; go_roundw
    case rel => exact ⟨k + 1, by omega, by go_num, ⟨by rw [HE.out]; exact Kd.R_mono HO2.out (fun _ _ => trivial)⟩, HB2⟩
    case measure => simp [intOf]; omega
   | true =>
    have HE := zzm (HY.out rfl); clear HN HY; go_wp2_with ((with_reducible refine gate_builtin (b := .append) (xs := #[.tmp 16, .tmp 19]) rfl ?_); at_builtin; refine Kd.R_append k39 (w0 := w) w.heap.size rfl (.tmp 16) (.tmp 19) 23 39 (.agg #[(.int .i64 0), (.int .i64 0), (.int .i64 0)]) 24 rfl Try.underlying23 info39 rfl (by decide) (by omega) u3 (slotList f k) (⟨a, b, c⟩ : S39) [.int .i64 a, .int .i64 b, .int .i64 c] (fun k_ => k_ ≠ gb) (fun _ => False) rfl (by first | (go_simp; done) | (go_simp; rfl)) ?aP (fun _ hk => hk.elim) ?aF ?aO ?aB ?aS ?aL ?_; (case aP => exact k39_mkM _ _ _ (⟨a, b, c⟩ : S39)); (case aB => exact (by repeat (first | exact HB2.out | apply zza | apply zzc))); (case aF => exact (fun k_ hk => Kd.freshB (g := gb) (by (with_reducible repeat (first | refine zzf ?_ _ | refine zzg ?_ | refine zze ?_ _)); exact BK2.out) k_ hk)); (case aO => exact (by (with_reducible repeat (first | apply Kd.R_alloc | apply Kd.R_drewN | apply Kd.R_drew)); exact Kd.R_mono HO2.out (fun _ hk => hk.2))); (case aS => exact (zzo (by repeat (first | exact HB2.out | apply zza | apply zzc)))); (case aL => have := HL.out; omega); intro v232 w15 ho hb hg hat; rw [← HE.out] at ho; have HO3 := zzm ho; have HB3 := zzm hb; clear ho hb hg hat); go_roundw
    case rel => exact ⟨k + 1, by omega, by go_num, ⟨Kd.R_mono HO3.out (fun _ _ => trivial)⟩, HB3⟩
    case measure => simp [intOf]; omega
  ·
   have hk2 : k = 255 := by omega
   subst hk2; go_wp2; go_ret; exact ⟨_, rfl, HO.out, HB.out⟩
def idsOk (l : List S39) : Bool := l.all fun t => decide (0 ≤ t.f0 ∧ t.f0 < 255)
theorem idsOk_at {l : List S39} (h : idsOk l = true) (j : Nat) (hj : j < l.length) : 0 ≤ (rd_T39 l (j : Int)).f0 ∧ (rd_T39 l (j : Int)).f0 < 255 := by
 have h1 := List.all_eq_true.mp h _ (List.getElem_mem hj); have h2 : rd_T39 l (j : Int) = l[j] := by simp [rd_T39, List.getD_eq_getElem?_getD, List.getElem?_eq_getElem hj]
 rw [h2]; simpa using h1
def prodOk (l : List S39) (p : Int) : Bool := idsOk l && decide (0 ≤ p ∧ p ≤ 255)
theorem prodOk_at {l : List S39} {p : Int} (h : prodOk l p = true) : idsOk l = true ∧ 0 ≤ p ∧ p ≤ 255 := by
 simpa [prodOk] using h
end Go.Proofs.Ytkhmopmfbocokaa.T
namespace Go.Proofs.Ytkhmopmfbocokaa.T
open Go.RowKit Go.Proofs.YtkhmopmfbocokaaW.PrintWords Go.Proofs.YtkhmopmfbocokaaW.PrintLast Go.Proofs.YtkhmopmfbocokaaW.PrintMore
attribute [local go_sem] max2_int max_two
set_option linter.unusedVariables false
set_option linter.unusedSimpArgs false
def spec_DrawProducersPut.f (k : Nat) (l0 : List Int) : Option ((List (S39)) × Bool × Bool × Int × Int × Int × (List (S79))) := (spec_l6Open.f l0).bind fun bt350 => ((spec_l92Numbered.f k bt350.1 bt350.2).bind fun bt353 => (some (bt353.1, bt353.2.1, bt353.2.2.1, bt353.2.2.2.1, bt353.2.2.2.2.1, bt353.2.2.2.2.2.1, bt353.2.2.2.2.2.2.1)))
set_option maxHeartbeats 8000000 in
set_option maxRecDepth 100000 in
theorem spec_DrawProducersPut.calls (k : Nat) (A0 : Option Addr) (c0 : Nat) (l0 : List Int) (r1 : List (S39)) (r2 : Bool) (r3 : Bool) (r4 : Int) (r5 : Int) (r6 : Int) (r7 : List (S79)) (w : World) (hr0 : Kd.C (Kd.int .u8) w A0 l0.length l0) (hc0 : l0.length ≤ c0) (h : spec_DrawProducersPut.f k l0 = some (r1, r2, r3, r4, r5, r6, r7)) :
  Calls Try.prog 28 #[.slice A0 l0.length c0] w fun e w' => ∃ v0_ v6_ : Value, e = .returned (.tuple #[v0_, .agg #[.bool r2, .bool r3, .int .i64 r4, .int .i64 r5, .int .i64 r6, v6_]]) ∧ Kd.R k39 39 w' w.heap.size (fun k_ => (w.heap.size ≤ k_)) v0_ r1 ∧ Kd.N k79 79 w' w.heap.size (fun k_ => (w.heap.size ≤ k_) ∧ some k_ ≠ (v0_ : Value).ownBlock) v6_ r7 ∧ Below w.heap.size w w' := by
 have hu34 := Try.underlying34; have HR0 := zzm hr0; have HC0 := zzm hc0; clear hr0 hc0; have HB := zzm (Below.refl w.heap.size w); have H : ((spec_l6Open.f l0).bind fun bt350 => ((spec_l92Numbered.f k bt350.1 bt350.2).bind fun bt353 => (some (bt353.1, bt353.2.1, bt353.2.2.1, bt353.2.2.2.1, bt353.2.2.2.2.1, bt353.2.2.2.2.2.1, bt353.2.2.2.2.2.2.1)))) = some (r1, r2, r3, r4, r5, r6, r7) := h; clear h; replace H := Option.bind_eq_some_iff.mp H; obtain ⟨⟨t350, t351⟩, A20, H⟩ := H; replace H : ((spec_l92Numbered.f k t350 t351).bind fun bt353 => (some (bt353.1, bt353.2.1, bt353.2.2.1, bt353.2.2.2.1, bt353.2.2.2.2.1, bt353.2.2.2.2.2.1, bt353.2.2.2.2.2.2.1))) = some (r1, r2, r3, r4, r5, r6, r7) := H; have A2 := zzm A20; clear A20; replace H := Option.bind_eq_some_iff.mp H; obtain ⟨⟨t353, t356, t357, t358, t359, t360, t361, t364⟩, A30, H⟩ := H; replace H : (some (t353, t356, t357, t358, t359, t360, t361)) = some (r1, r2, r3, r4, r5, r6, r7) := H; have A3 := zzm A30; clear A30; simp only [Option.some.injEq, Prod.mk.injEq] at H; obtain ⟨rfl, rfl, rfl, rfl, rfl, rfl, rfl⟩ := H; go_enter Try.func28, Try.ntmps28; go_wp2_with (first | ((with_reducible refine gate_dst (N := 3) rfl ?_); refine box_event ?hg (N := 3) ?hd (cs := #[.bool false, .bool false, .int .i64 0, .int .i64 0, .int .i64 0, .slice none 0 0]) (t := 34) ?hr ?_; (case hd => rfl); (case hg => rfl); (case hr => first | (go_simp; done) | (go_simp; rfl)); intro gb349 hg w4 hbox hb; have n0_ := zzm (zzp (by repeat (first | (with_reducible first | exact HB.out | apply zza | apply zzb | apply zzc) | exact HB.out)) hb); have n1_ := zzm (hbox); have n2_ := zzm ((by rw [hg]; exact (zzo (by repeat (first | (with_reducible first | exact HB.out | apply zza | apply zzb | apply zzc) | exact HB.out))) : w.heap.size ≤ gb349)); have n3_ := zzm ((by rw [hg]; exact (zzo (by repeat (first | (with_reducible first | exact HB.out | apply zza | apply zzb | apply zzc) | exact HB.out))) : w.heap.size ≤ gb349)); clear HB; have HB := n0_; have BK349 := n1_; have GW349 := n2_; have GE349 := n3_; clear n0_ n1_ n2_ n3_ hb hbox hg) | ((with_reducible refine gate_callee (f := 50) rfl ?_); refine goesL_ (some 5) rfl rfl Try.func50 (by kernel_rfl) rfl #[.slice A0 l0.length c0] rfl (by (try simp only [List.map_toArray, List.map_cons, List.map_nil]); first | done | rfl | (simp only [List.length_drop, List.length_take]; rfl)) ?_; (with_reducible refine (spec_l6Open.calls _ _ l0 t350 t351 w _ ?side1 ?side2 ?side3 A2.out).mono ?_); (case side1 => repeat (first | (with_reducible first | exact HB.out | apply zza | apply zzb | apply zzc | refine zzd ?_ GE349.out) | exact HB.out)); (case side2 => exact HR0.out); (case side3 => exact HC0.out); rintro e w5 ⟨g352, rfl, hi, hb, hb2⟩; refine ⟨_, rfl, ?_⟩; have n0_ := zzm (zzh (g := gb349) (o := .cells #[.bool false, .bool false, .int .i64 0, .int .i64 0, .int .i64 0, .slice none 0 0] 34 (0, 0)) (by (with_reducible repeat (first | refine zzf ?_ _ | refine zzg ?_ | refine zze ?_ _)); exact BK349.out) hb2); have n1_ := zzm (hb); have n2_ := zzm (hi); have n3_ := zzm (IsS92.ne_blk hi (zzh (g := gb349) (o := .cells #[.bool false, .bool false, .int .i64 0, .int .i64 0, .int .i64 0, .slice none 0 0] 34 (0, 0)) (by (with_reducible repeat (first | refine zzf ?_ _ | refine zzg ?_ | refine zze ?_ _)); exact BK349.out) hb2) (by decide)); have n4_ := zzm (Ne.symm (IsS92.ne_blk hi (zzh (g := gb349) (o := .cells #[.bool false, .bool false, .int .i64 0, .int .i64 0, .int .i64 0, .slice none 0 0] 34 (0, 0)) (by (with_reducible repeat (first | refine zzf ?_ _ | refine zzg ?_ | refine zze ?_ _)); exact BK349.out) hb2) (by decide))); clear BK349 HB; have BK349 := n0_; have HB := n1_; have HI352 := n2_; have NB352_349 := n3_; have NB349_352 := n4_; clear n0_ n1_ n2_ n3_ n4_; (try clear hb); (try clear hb2); (try clear hk); (try clear hi)) | ((with_reducible refine gate_callee (f := 56) rfl ?_); refine goesL_ (some 6) rfl rfl Try.func56 (by kernel_rfl) rfl #[.pointer (some ⟨g352, 0, none⟩)] rfl (by (try simp only [List.map_toArray, List.map_cons, List.map_nil]); first | done | rfl | (simp only [List.length_drop, List.length_take]; rfl)) ?_; (with_reducible refine (spec_l92Numbered.calls k g352 t350 t351 t353 t356 t357 t358 t359 t360 t361 t364 w _ ?side1 ?side2 A3.out).mono ?_); (case side1 => repeat (first | (with_reducible first | exact HI352.out | apply IsS92.alloc | apply IsS92.drewN | apply IsS92.drew | apply IsS92.set_1 | refine IsS92.far ?_ NB352_349.out _) | exact HI352.out)); (case side2 => repeat (first | (with_reducible first | exact HB.out | apply zza | apply zzb | apply zzc | refine zzd ?_ (IsS92.ge HI352.out) | refine zzd ?_ GE349.out) | exact HB.out)); rintro e w6 ⟨v354, v362, rfl, ho0, ho1, hi, hb, hk⟩; refine ⟨_, rfl, ?_⟩; have n0_ := zzm (KeepBut.blk hk (g' := gb349) (o := .cells #[.bool false, .bool false, .int .i64 0, .int .i64 0, .int .i64 0, .slice none 0 0] 34 (0, 0)) (by (with_reducible repeat (first | refine zzf ?_ _ | refine zzg ?_ | refine zze ?_ _)); exact BK349.out) NB349_352.out (by simp)); have n1_ := zzm (Kd.R_lower (Kd.R_newM (M := fun k_ => (w.heap.size ≤ k_)) (Kd.R_mono (ok' := fun k_ => True) ho0 (fun _ hk_ => trivial)) (zzo (by repeat (first | (with_reducible first | exact HB.out | apply zza | apply zzb | apply zzc | refine zzd ?_ (IsS92.ge HI352.out) | refine zzd ?_ GE349.out) | exact HB.out))) (fun k_ h_ => h_)) (zzo (by repeat (first | (with_reducible first | exact HB.out | apply zza | apply zzb | apply zzc | refine zzd ?_ (IsS92.ge HI352.out) | refine zzd ?_ GE349.out) | exact HB.out)))); have n2_ := zzm (Kd.N_lower (Kd.N_mono (ok' := fun k_ => (w.heap.size ≤ k_) ∧ some k_ ≠ (v354 : Value).ownBlock ∧ k_ ≠ gb349 ∧ k_ ≠ g352) ho1 (fun k_ hk_ => ⟨(Nat.le_trans (zzo (by repeat (first | (with_reducible first | exact HB.out | apply zza | apply zzb | apply zzc | refine zzd ?_ (IsS92.ge HI352.out) | refine zzd ?_ GE349.out) | exact HB.out))) hk_.1), hk_.2, (Kd.freshB (g := gb349) (o := .cells #[.bool false, .bool false, .int .i64 0, .int .i64 0, .int .i64 0, .slice none 0 0] 34 (0, 0)) (by (with_reducible repeat (first | refine zzf ?_ _ | refine zzg ?_ | refine zze ?_ _)); exact BK349.out) k_ hk_.1), (IsS92.fresh (by repeat (first | (with_reducible first | exact HI352.out | apply IsS92.alloc | apply IsS92.drewN | apply IsS92.drew | apply IsS92.set_1 | refine IsS92.far ?_ NB352_349.out _) | exact HI352.out)) k_ hk_.1)⟩)) (zzo (by repeat (first | (with_reducible first | exact HB.out | apply zza | apply zzb | apply zzc | refine zzd ?_ (IsS92.ge HI352.out) | refine zzd ?_ GE349.out) | exact HB.out)))); have n3_ := zzm (hb); have n4_ := zzm (hi); clear BK349 HB HI352; have BK349 := n0_; have HO355 := n1_; have HO363 := n2_; have HB := n3_; have HI352 := n4_; clear n0_ n1_ n2_ n3_ n4_; (try clear hb); (try clear hb2); (try clear hk); (try clear hi); (try clear ho0); (try clear ho1); have hnb7 := NB349_352.out; have hnc7 := NB352_349.out; obtain ⟨hcz8_0, hcz8_1, hcz8_2, hcz8_3, hcz8_4, hcz8_5, hfz8_0, hfz8_1, hfz8_2, hfz8_3, hfz8_4, hfz8_5⟩ := zzc6 BK349.out; obtain ⟨Ao9, co9, eo9⟩ := Kd.N_slice HO363.out; subst eo9)); refine bodyPost_ret (results_tc rfl _ _ gb349 34 #[.bool t356, .bool t357, .int .i64 t358, .int .i64 t359, .int .i64 t360, .slice Ao9 t361.length co9] (0, 0) _ rfl (by (with_reducible repeat (first | refine zzf ?_ _ | refine zzg ?_ | refine zze ?_ _)); refine zzi (cs := #[.bool t356, .bool t357, .int .i64 t358, .int .i64 t359, .int .i64 t360, .slice none 0 0]) ?_ 5 _ rfl; (with_reducible repeat (first | refine zzf ?_ _ | refine zzg ?_ | refine zze ?_ _)); refine zzi (cs := #[.bool t356, .bool t357, .int .i64 t358, .int .i64 t359, .int .i64 0, .slice none 0 0]) ?_ 4 _ rfl; (with_reducible repeat (first | refine zzf ?_ _ | refine zzg ?_ | refine zze ?_ _)); refine zzi (cs := #[.bool t356, .bool t357, .int .i64 t358, .int .i64 0, .int .i64 0, .slice none 0 0]) ?_ 3 _ rfl; (with_reducible repeat (first | refine zzf ?_ _ | refine zzg ?_ | refine zze ?_ _)); refine zzi (cs := #[.bool t356, .bool t357, .int .i64 0, .int .i64 0, .int .i64 0, .slice none 0 0]) ?_ 2 _ rfl; (with_reducible repeat (first | refine zzf ?_ _ | refine zzg ?_ | refine zze ?_ _)); refine zzi (cs := #[.bool t356, .bool false, .int .i64 0, .int .i64 0, .int .i64 0, .slice none 0 0]) ?_ 1 _ rfl; (with_reducible repeat (first | refine zzf ?_ _ | refine zzg ?_ | refine zze ?_ _)); refine zzi (cs := #[.bool false, .bool false, .int .i64 0, .int .i64 0, .int .i64 0, .slice none 0 0]) ?_ 0 _ rfl; (with_reducible repeat (first | refine zzf ?_ _ | refine zzg ?_ | refine zze ?_ _)); exact BK349.out) Try.underlying34 rfl (by kernel_rfl)) rfl ?_; exact ⟨_, _, by first | rfl | (simp [errW_none, errW_some] <;> rfl) | (simp [*, errW_none, errW_some] <;> rfl), by (with_reducible repeat (first | apply Kd.R_alloc | apply Kd.R_drewN | apply Kd.R_drew)); exact Kd.R_mono (Kd.R_far (p := ⟨gb349, 5, none⟩) (Kd.R_far (p := ⟨gb349, 4, none⟩) (Kd.R_far (p := ⟨gb349, 3, none⟩) (Kd.R_far (p := ⟨gb349, 2, none⟩) (Kd.R_far (p := ⟨gb349, 1, none⟩) (Kd.R_far (p := ⟨gb349, 0, none⟩) (Kd.R_types HO355.out BK349.out (by decide)) (fun _ hk => hk.2) (.bool t356)) (fun _ hk => hk.2) (.bool t357)) (fun _ hk => hk.2) (.int .i64 t358)) (fun _ hk => hk.2) (.int .i64 t359)) (fun _ hk => hk.2) (.int .i64 t360)) (fun _ hk => hk.2) (.slice Ao9 t361.length co9)) (fun _ hk => hk.1.1), by (with_reducible repeat (first | apply Kd.N_alloc | apply Kd.N_drewN | apply Kd.N_drew)); exact Kd.N_mono (Kd.N_far (p := ⟨gb349, 5, none⟩) (Kd.N_far (p := ⟨gb349, 4, none⟩) (Kd.N_far (p := ⟨gb349, 3, none⟩) (Kd.N_far (p := ⟨gb349, 2, none⟩) (Kd.N_far (p := ⟨gb349, 1, none⟩) (Kd.N_far (p := ⟨gb349, 0, none⟩) (Kd.N_mono HO363.out (fun k_ hk => (⟨hk, hk.2.2.1⟩ : _ ∧ k_ ≠ gb349))) (fun _ hk => hk.2) (.bool t356)) (fun _ hk => hk.2) (.bool t357)) (fun _ hk => hk.2) (.int .i64 t358)) (fun _ hk => hk.2) (.int .i64 t359)) (fun _ hk => hk.2) (.int .i64 t360)) (fun _ hk => hk.2) (.slice Ao9 t361.length co9)) (fun _ hk => ⟨hk.1.1, hk.1.2.1⟩), by repeat (first | (with_reducible first | exact HB.out | apply zza | apply zzb | apply zzc | refine zzd ?_ (IsS92.ge HI352.out) | refine zzd ?_ GE349.out) | exact HB.out)⟩
def slotSet (f : Nat → SlotV) (p e n : Int) : Nat → SlotV := fun k => if k = p.toNat then ⟨true, p, e, n⟩ else f k
def putSlots (l0 : List S39) (p e s n : Int) : Nat → SlotV := if codeAt (slotFn l0) p e s = 0 then slotSet (slotFn l0) p e (wrap64 (s + n)) else slotFn l0
def impl_ProducersPut.f (k : Nat) (l0 : List S39) (a1_0 : Bool) (a1_1 : Bool) (a1_2 : Int) (a1_3 : Int) (a1_4 : Int) (l1_5 : List S79) : Option (List (S39) × Int) := (impl_ProducersValid.f k l0).bind fun t1 => (if t1 = true then ((impl_BatchValid.f k a1_0 a1_1 a1_2 a1_3 a1_4 l1_5).bind fun t2 => (if t2 = true then (if prodOk l0 a1_2 = true then ((impl_ProducersValid.f k (slotList (putSlots l0 a1_2 a1_3 a1_4 (l1_5.length : Int)) 255)).bind fun t3 => (if t3 = true then some (slotList (putSlots l0 a1_2 a1_3 a1_4 (l1_5.length : Int)) 255, codeAt (slotFn l0) a1_2 a1_3 a1_4) else some ([], 5))) else none) else some ([], 5))) else some ([], 5))
theorem codeAt_zero {f : Nat → SlotV} {p e s : Int} (h : codeAt f p e s = 0) : p ≠ 255 := by
 rintro rfl; have h2 : codeAt f 255 e s = 4 := by unfold codeAt; rw [if_pos rfl]
 rw [h2] at h; omega
set_option maxHeartbeats 8000000 in
set_option maxRecDepth 100000 in
theorem impl_ProducersPut.calls (k : Nat) (A0 : Option Addr) (c0 : Nat) (l0 : List (S39)) (a1_0 : Bool) (a1_1 : Bool) (a1_2 : Int) (a1_3 : Int) (a1_4 : Int) (A1_5 : Option Addr) (c1_5 : Nat) (l1_5 : List (S79)) (r1 : List (S39)) (r2 : Int) (w : World) (hr0 : Kd.C k39 w A0 l0.length l0) (hc0 : l0.length ≤ c0) (hr1_5 : Kd.C k79 w A1_5 l1_5.length l1_5) (hc1_5 : l1_5.length ≤ c1_5) (h : impl_ProducersPut.f k l0 a1_0 a1_1 a1_2 a1_3 a1_4 l1_5 = some (r1, r2)) :
  Calls Try.prog 29 #[.slice A0 l0.length c0, .agg #[.bool a1_0, .bool a1_1, .int .i64 a1_2, .int .i64 a1_3, .int .i64 a1_4, .slice A1_5 l1_5.length c1_5]] w fun e w' => ∃ v0_ : Value, e = .returned (.tuple #[v0_, .int .i64 r2]) ∧ Kd.R k39 39 w' w.heap.size (fun _ => True) v0_ r1 ∧ Below w.heap.size w w' := by
 have HR0 := zzm hr0; have HC0 := zzm hc0; clear hr0 hc0; have HR1_5 := zzm hr1_5; have HC1_5 := zzm hc1_5; have HM := zzm (show l1_5.length ≤ 9223372036854775807 from hr1_5.2.1); clear hr1_5 hc1_5; have HB := zzm (Below.refl w.heap.size w); unfold impl_ProducersPut.f at h; replace h := Option.bind_eq_some_iff.mp h; obtain ⟨t1, A30, h⟩ := h; have A3 := zzm A30; clear A30; cases t1 with
 | false =>
  obtain ⟨rfl, rfl⟩ : r1 = [] ∧ r2 = 5 := by simpa [eq_comm] using h
  clear h; go_enter Try.func29, Try.ntmps29; go_wp2_with (first | ((with_reducible refine gate_dst (N := 3) rfl ?_); refine box_event ?hg (N := 3) ?hd (cs := #[.bool a1_0, .bool a1_1, .int .i64 a1_2, .int .i64 a1_3, .int .i64 a1_4, .slice A1_5 l1_5.length c1_5]) (t := 34) ?hr ?_; (case hd => rfl); (case hg => rfl); (case hr => first | (go_simp; done) | (go_simp; rfl)); intro gb hg w8 hbox hb; have HB1 := zzm (zzp HB.out hb); have BK := zzm hbox; have GE := zzm (show w.heap.size ≤ gb from Nat.le_of_eq hg.symm); clear hb hbox hg) | ((with_reducible refine gate_callee (f := 19) rfl ?_); refine goesL_ (some 10) rfl rfl Try.func19 (by kernel_rfl) rfl #[.slice A0 l0.length c0] rfl (by (try simp only [List.map_toArray, List.map_cons, List.map_nil]); first | done | rfl | (simp only [List.length_drop, List.length_take]; rfl)) ?_; (with_reducible refine (impl_ProducersValid.calls k _ _ l0 false _ ?side1 ?side2 A3.out).mono ?_); (case side1 => exact Kd.C_below HR0.out HB1.out); (case side2 => exact HC0.out); rintro e w9 ⟨rfl, hb⟩; refine ⟨_, rfl, ?_⟩; have HB2 := zzm (zzp HB1.out hb); have BK2 := zzm (zzh BK.out hb); clear hb; have z0 := (zzk BK2.out 0).trans rfl; have z1 := (zzk BK2.out 1).trans rfl; have z2 := (zzk BK2.out 2).trans rfl; have z3 := (zzk BK2.out 3).trans rfl; have z4 := (zzk BK2.out 4).trans rfl; have z5 := (zzk BK2.out 5).trans rfl)); go_ret2; exact ⟨_, rfl, Kd.R_nil _ _ _ _ _, HB2.out⟩
 | true =>
  rw [if_pos rfl] at h; replace h := Option.bind_eq_some_iff.mp h; obtain ⟨t2, A50, h⟩ := h; have A5 := zzm A50; clear A50; cases t2 with
  | false =>
   obtain ⟨rfl, rfl⟩ : r1 = [] ∧ r2 = 5 := by simpa [eq_comm] using h
   clear h; go_enter Try.func29, Try.ntmps29; go_wp2_with (first | ((with_reducible refine gate_dst (N := 3) rfl ?_); refine box_event ?hg (N := 3) ?hd (cs := #[.bool a1_0, .bool a1_1, .int .i64 a1_2, .int .i64 a1_3, .int .i64 a1_4, .slice A1_5 l1_5.length c1_5]) (t := 34) ?hr ?_; (case hd => rfl); (case hg => rfl); (case hr => first | (go_simp; done) | (go_simp; rfl)); intro gb hg w8 hbox hb; have HB1 := zzm (zzp HB.out hb); have BK := zzm hbox; have GE := zzm (show w.heap.size ≤ gb from Nat.le_of_eq hg.symm); clear hb hbox hg) | ((with_reducible refine gate_callee (f := 19) rfl ?_); refine goesL_ (some 10) rfl rfl Try.func19 (by kernel_rfl) rfl #[.slice A0 l0.length c0] rfl (by (try simp only [List.map_toArray, List.map_cons, List.map_nil]); first | done | rfl | (simp only [List.length_drop, List.length_take]; rfl)) ?_; (with_reducible refine (impl_ProducersValid.calls k _ _ l0 true _ ?side1 ?side2 A3.out).mono ?_); (case side1 => exact Kd.C_below HR0.out HB1.out); (case side2 => exact HC0.out); rintro e w9 ⟨rfl, hb⟩; refine ⟨_, rfl, ?_⟩; have HB2 := zzm (zzp HB1.out hb); have BK2 := zzm (zzh BK.out hb); clear hb; have z0 := (zzk BK2.out 0).trans rfl; have z1 := (zzk BK2.out 1).trans rfl; have z2 := (zzk BK2.out 2).trans rfl; have z3 := (zzk BK2.out 3).trans rfl; have z4 := (zzk BK2.out 4).trans rfl; have z5 := (zzk BK2.out 5).trans rfl) | (go_at_call 27; (with_reducible refine (impl_BatchValid.calls k a1_0 a1_1 a1_2 a1_3 a1_4 _ _ l1_5 false _ ?side1 ?side2 A5.out).mono ?_); (case side1 => exact Kd.C_below HR1_5.out HB2.out); (case side2 => exact HC1_5.out); rintro e w11 ⟨rfl, hb⟩; have HB3 := zzm (zzp HB2.out hb); have BK3 := zzm (zzh BK2.out hb); clear hb z0 z1 z2 z3 z4 z5)); go_ret2; exact ⟨_, rfl, Kd.R_nil _ _ _ _ _, HB3.out⟩
  | true =>
   rw [if_pos rfl] at h; by_cases hok : prodOk l0 a1_2 = true
   ·
    rw [if_pos hok] at h; obtain ⟨hids, hp0, hp1⟩ := prodOk_at hok; replace h := Option.bind_eq_some_iff.mp h; obtain ⟨t3, A70, h⟩ := h; obtain ⟨F, hF⟩ : ∃ F, F = putSlots l0 a1_2 a1_3 a1_4 (l1_5.length : Int) := ⟨_, rfl⟩; rw [← hF] at A70 h; have A7 := zzm A70; clear A70; have HI := zzm hids; have HP0 := zzm hp0; have HP1 := zzm hp1; clear hok hids hp0 hp1; obtain ⟨cd, hcd⟩ : ∃ cd, codeAt (slotFn l0) a1_2 a1_3 a1_4 = cd := ⟨_, rfl⟩; rw [hcd] at h; have HE := zzm hcd; by_cases hz : cd = 0
    ·
     have hp255 := codeAt_zero (hcd.trans hz); rw [putSlots, if_pos (hcd.trans hz)] at hF; clear hcd; subst hz; have HF := zzm hF; clear hF; obtain ⟨m, rfl⟩ : ∃ m : Nat, a1_2 = (m : Int) := ⟨a1_2.toNat, by have := HP0.out; omega⟩; have hm2 : m < 255 := by have := HP1.out; omega
     have HH := zzm h; clear h; go_enter Try.func29, Try.ntmps29; go_wp2_with (first | ((with_reducible refine gate_dst (N := 3) rfl ?_); refine box_event ?hg (N := 3) ?hd (cs := #[.bool a1_0, .bool a1_1, .int .i64 (m : Int), .int .i64 a1_3, .int .i64 a1_4, .slice A1_5 l1_5.length c1_5]) (t := 34) ?hr ?_; (case hd => rfl); (case hg => rfl); (case hr => first | (go_simp; done) | (go_simp; rfl)); intro gb hg w8 hbox hb; have HB1 := zzm (zzp HB.out hb); have BK := zzm hbox; have GE := zzm (show w.heap.size ≤ gb from Nat.le_of_eq hg.symm); clear hb hbox hg) | ((with_reducible refine gate_callee (f := 19) rfl ?_); refine goesL_ (some 10) rfl rfl Try.func19 (by kernel_rfl) rfl #[.slice A0 l0.length c0] rfl (by (try simp only [List.map_toArray, List.map_cons, List.map_nil]); first | done | rfl | (simp only [List.length_drop, List.length_take]; rfl)) ?_; (with_reducible refine (impl_ProducersValid.calls k _ _ l0 true _ ?side1 ?side2 A3.out).mono ?_); (case side1 => exact Kd.C_below HR0.out HB1.out); (case side2 => exact HC0.out); rintro e w9 ⟨rfl, hb⟩; refine ⟨_, rfl, ?_⟩; have HB2 := zzm (zzp HB1.out hb); have BK2 := zzm (zzh BK.out hb); clear hb; have z0 := (zzk BK2.out 0).trans rfl; have z1 := (zzk BK2.out 1).trans rfl; have z2 := (zzk BK2.out 2).trans rfl; have z3 := (zzk BK2.out 3).trans rfl; have z4 := (zzk BK2.out 4).trans rfl; have z5 := (zzk BK2.out 5).trans rfl) | (go_at_call 27; (with_reducible refine (impl_BatchValid.calls k a1_0 a1_1 (m : Int) a1_3 a1_4 _ _ l1_5 true _ ?side1 ?side2 A5.out).mono ?_); (case side1 => exact Kd.C_below HR1_5.out HB2.out); (case side2 => exact HC1_5.out); rintro e w11 ⟨rfl, hb⟩; have HB3 := zzm (zzp HB2.out hb); have BK3 := zzm (zzh BK2.out hb); clear hb z0 z1 z2 z3 z4 z5) | ((with_reducible refine gate_callee (f := 57) rfl ?_); refine goesL_ (some 18) rfl rfl Try.func57 (by kernel_rfl) rfl #[.slice A0 l0.length c0] rfl (by (try simp only [List.map_toArray, List.map_cons, List.map_nil]); first | done | rfl | (simp only [List.length_drop, List.length_take]; rfl)) ?_; (with_reducible refine (impl_slotsOf.calls _ _ l0 _ ?side1 ?side2).mono ?_); (case side1 => exact Kd.C_below HR0.out HB3.out); (case side2 => exact fun j hj => idsOk_at HI.out j hj); rintro e w13 ⟨g, rfl, hge, hs, hb⟩; refine ⟨_, rfl, ?_⟩; have HG := zzm (Nat.le_trans HB3.out.size hge); have HB4 := zzm (zzp HB3.out hb); have NE := zzm (show g ≠ gb by have := blk_lt BK3.out; omega); have BK4 := zzm (zzh BK3.out hb); have HS4 := zzm hs; clear hb hge hs; have z0 := (zzk BK4.out 0).trans rfl; have z1 := (zzk BK4.out 1).trans rfl; have z2 := (zzk BK4.out 2).trans rfl; have z3 := (zzk BK4.out 3).trans rfl; have z4 := (zzk BK4.out 4).trans rfl; have z5 := (zzk BK4.out 5).trans rfl) | ((with_reducible refine gate_callee (f := 58) rfl ?_); refine goesL_ (some 21) rfl rfl Try.func58 (by kernel_rfl) rfl #[.pointer (some ⟨g, 0, none⟩), .agg #[.bool a1_0, .bool a1_1, .int .i64 (m : Int), .int .i64 a1_3, .int .i64 a1_4, .slice A1_5 l1_5.length c1_5]] rfl (by (try simp only [List.map_toArray, List.map_cons, List.map_nil]); first | done | rfl | (simp only [List.length_drop, List.length_take]; rfl)) ?_; (with_reducible refine (impl_slots_check.calls g _ a1_0 a1_1 (m : Int) a1_3 a1_4 _ rfl _ HS4.out HP0.out HP1.out).mono ?_); rintro e w14 ⟨rfl, hb⟩; refine ⟨_, rfl, ?_⟩; have HB5 := zzm (zzp HB4.out hb); have BK5 := zzm (zzh BK4.out hb); have HS5 := zzm (HS4.out.below hb); clear hb z0 z1 z2 z3 z4 z5; try rw [HE.out])); have y2 : w14.cell? ⟨gb, 2, none⟩ = some (.int .i64 (m : Int)) := (zzk BK5.out 2).trans rfl; have y3 : w14.cell? ⟨gb, 3, none⟩ = some (.int .i64 a1_3) := (zzk BK5.out 3).trans rfl; have y4 : w14.cell? ⟨gb, 4, none⟩ = some (.int .i64 a1_4) := (zzk BK5.out 4).trans rfl; have y5 : w14.cell? ⟨gb, 5, none⟩ = some (.slice A1_5 l1_5.length c1_5) := (zzk BK5.out 5).trans rfl; have fz : ∀ j, w14.frozen? ⟨g, j, none⟩ = false := HS5.out.free; have fz0 := fz (m * 4); have fz1 := fz (m * 4 + 1); have fz2 := fz (m * 4 + 2); have fz3 := fz (m * 4 + 3); clear fz; obtain ⟨vz0, hz0⟩ : ∃ v, w14.cell? ⟨g, m * 4, none⟩ = some v := ⟨_, (HS5.out.at_ m hm2).1⟩; obtain ⟨vz1, hz1⟩ : ∃ v, w14.cell? ⟨g, m * 4 + 1, none⟩ = some v := ⟨_, (HS5.out.at_ m hm2).2.1⟩; obtain ⟨vz2, hz2⟩ : ∃ v, w14.cell? ⟨g, m * 4 + 2, none⟩ = some v := ⟨_, (HS5.out.at_ m hm2).2.2.1⟩; obtain ⟨vz3, hz3⟩ : ∃ v, w14.cell? ⟨g, m * 4 + 3, none⟩ = some v := ⟨_, (HS5.out.at_ m hm2).2.2.2⟩; have hmi : (m : Int) < 255 := by omega
     have hmi0 : 0 ≤ (m : Int) := by omega
     go_region; have heq : F = fun k' => if k' = m then ⟨true, (m : Int), a1_3, wrap64 (a1_4 + (l1_5.length : Int))⟩ else slotFn l0 k' := by
      rw [HF.out]; funext k'; simp only [slotSet, Int.toNat_natCast]
     have hsf := HasSlots.drew (HS5.out.put m hm2 true (m : Int) a1_3 (wrap64 (a1_4 + (l1_5.length : Int)))); rw [← heq] at hsf; have HS6 := zzm hsf; have HB6 := zzm (zzc (zzd (zzd (zzd (zzd HB5.out HG.out (j := m * 4) (v := .bool true)) HG.out (j := m * 4 + 1) (v := .int .i64 (m : Int))) HG.out (j := m * 4 + 2) (v := .int .i64 a1_3)) HG.out (j := m * 4 + 3) (v := .int .i64 (wrap64 (a1_4 + (l1_5.length : Int)))))); clear hsf heq hz0 hz1 hz2 hz3 fz0 fz1 fz2 fz3 y2 y3 y4 y5 HS5 HB5 BK5; generalize ((((w14.setCell ⟨g, m * 4, none⟩ (.bool true)).setCell ⟨g, m * 4 + 1, none⟩ (.int .i64 (m : Int))).setCell ⟨g, m * 4 + 2, none⟩ (.int .i64 a1_3)).setCell ⟨g, m * 4 + 3, none⟩ (.int .i64 (wrap64 (a1_4 + (l1_5.length : Int))))).drew = w15 at HS6 HB6 ⊢; have h := HH.out; cases t3 with
     | true =>
      obtain ⟨rfl, rfl⟩ : r1 = slotList F 255 ∧ r2 = 0 := by simpa [eq_comm] using h
      clear h HH; go_wp2_with (first | ((with_reducible refine gate_callee (f := 62) rfl ?_); refine goesL_ (some 42) rfl rfl Try.func62 (by kernel_rfl) rfl #[.pointer (some ⟨g, 0, none⟩)] rfl (by (try simp only [List.map_toArray, List.map_cons, List.map_nil]); first | done | rfl | (simp only [List.length_drop, List.length_take]; rfl)) ?_; (with_reducible refine (impl_slots_list.calls g _ _ HS6.out).mono ?_); rintro e w16 ⟨v0, rfl, ho, hb⟩; refine ⟨_, rfl, ?_⟩; obtain ⟨Ao, co, eo⟩ := Kd.R_slice ho; subst eo; have HB7 := zzm (zzp HB6.out hb); have HO7 := zzm (Kd.R_lower ho HB6.out.size); clear hb ho) | ((with_reducible refine gate_callee (f := 19) rfl ?_); refine goesL_ (some 44) rfl rfl Try.func19 (by kernel_rfl) rfl #[.slice Ao (slotList F 255).length co] rfl (by (try simp only [List.map_toArray, List.map_cons, List.map_nil]); first | done | rfl | (simp only [List.length_drop, List.length_take]; rfl)) ?_; (with_reducible refine (impl_ProducersValid.calls k _ _ (slotList F 255) true _ ?side1 ?side2 A7.out).mono ?_); (case side1 => exact (Kd.R_reads' HO7.out).2.2); (case side2 => exact (Kd.R_reads' HO7.out).2.1); rintro e w17 ⟨rfl, hb⟩; refine ⟨_, rfl, ?_⟩; have HB8 := zzm (zzp HB7.out hb); have HO8 := zzm (Kd.R_below HO7.out hb); clear hb)); go_ret2; exact ⟨_, rfl, HO8.out, HB8.out⟩
     | false =>
      obtain ⟨rfl, rfl⟩ : r1 = [] ∧ r2 = 5 := by simpa [eq_comm] using h
      clear h HH; go_wp2_with (first | ((with_reducible refine gate_callee (f := 62) rfl ?_); refine goesL_ (some 42) rfl rfl Try.func62 (by kernel_rfl) rfl #[.pointer (some ⟨g, 0, none⟩)] rfl (by (try simp only [List.map_toArray, List.map_cons, List.map_nil]); first | done | rfl | (simp only [List.length_drop, List.length_take]; rfl)) ?_; (with_reducible refine (impl_slots_list.calls g _ _ HS6.out).mono ?_); rintro e w16 ⟨v0, rfl, ho, hb⟩; refine ⟨_, rfl, ?_⟩; obtain ⟨Ao, co, eo⟩ := Kd.R_slice ho; subst eo; have HB7 := zzm (zzp HB6.out hb); have HO7 := zzm (Kd.R_lower ho HB6.out.size); clear hb ho) | ((with_reducible refine gate_callee (f := 19) rfl ?_); refine goesL_ (some 44) rfl rfl Try.func19 (by kernel_rfl) rfl #[.slice Ao (slotList F 255).length co] rfl (by (try simp only [List.map_toArray, List.map_cons, List.map_nil]); first | done | rfl | (simp only [List.length_drop, List.length_take]; rfl)) ?_; (with_reducible refine (impl_ProducersValid.calls k _ _ (slotList F 255) false _ ?side1 ?side2 A7.out).mono ?_); (case side1 => exact (Kd.R_reads' HO7.out).2.2); (case side2 => exact (Kd.R_reads' HO7.out).2.1); rintro e w17 ⟨rfl, hb⟩; refine ⟨_, rfl, ?_⟩; have HB8 := zzm (zzp HB7.out hb); have HO8 := zzm (Kd.R_below HO7.out hb); clear hb)); go_ret2; exact ⟨_, rfl, Kd.R_nil _ _ _ _ _, HB8.out⟩
    ·
     rw [putSlots, if_neg (by rw [hcd]; exact hz)] at hF; clear hcd; have HF := zzm hF; clear hF; have hne : (cd == 0) = false := by simpa using hz
     clear hz; cases t3 with
     | true =>
      obtain ⟨rfl, rfl⟩ : r1 = slotList F 255 ∧ r2 = cd := by simpa [eq_comm] using h
      clear h; go_enter Try.func29, Try.ntmps29; go_wp2_with (first | ((with_reducible refine gate_dst (N := 3) rfl ?_); refine box_event ?hg (N := 3) ?hd (cs := #[.bool a1_0, .bool a1_1, .int .i64 a1_2, .int .i64 a1_3, .int .i64 a1_4, .slice A1_5 l1_5.length c1_5]) (t := 34) ?hr ?_; (case hd => rfl); (case hg => rfl); (case hr => first | (go_simp; done) | (go_simp; rfl)); intro gb hg w8 hbox hb; have HB1 := zzm (zzp HB.out hb); have BK := zzm hbox; have GE := zzm (show w.heap.size ≤ gb from Nat.le_of_eq hg.symm); clear hb hbox hg) | ((with_reducible refine gate_callee (f := 19) rfl ?_); refine goesL_ (some 10) rfl rfl Try.func19 (by kernel_rfl) rfl #[.slice A0 l0.length c0] rfl (by (try simp only [List.map_toArray, List.map_cons, List.map_nil]); first | done | rfl | (simp only [List.length_drop, List.length_take]; rfl)) ?_; (with_reducible refine (impl_ProducersValid.calls k _ _ l0 true _ ?side1 ?side2 A3.out).mono ?_); (case side1 => exact Kd.C_below HR0.out HB1.out); (case side2 => exact HC0.out); rintro e w9 ⟨rfl, hb⟩; refine ⟨_, rfl, ?_⟩; have HB2 := zzm (zzp HB1.out hb); have BK2 := zzm (zzh BK.out hb); clear hb; have z0 := (zzk BK2.out 0).trans rfl; have z1 := (zzk BK2.out 1).trans rfl; have z2 := (zzk BK2.out 2).trans rfl; have z3 := (zzk BK2.out 3).trans rfl; have z4 := (zzk BK2.out 4).trans rfl; have z5 := (zzk BK2.out 5).trans rfl) | (go_at_call 27; (with_reducible refine (impl_BatchValid.calls k a1_0 a1_1 a1_2 a1_3 a1_4 _ _ l1_5 true _ ?side1 ?side2 A5.out).mono ?_); (case side1 => exact Kd.C_below HR1_5.out HB2.out); (case side2 => exact HC1_5.out); rintro e w11 ⟨rfl, hb⟩; have HB3 := zzm (zzp HB2.out hb); have BK3 := zzm (zzh BK2.out hb); clear hb z0 z1 z2 z3 z4 z5) | ((with_reducible refine gate_callee (f := 57) rfl ?_); refine goesL_ (some 18) rfl rfl Try.func57 (by kernel_rfl) rfl #[.slice A0 l0.length c0] rfl (by (try simp only [List.map_toArray, List.map_cons, List.map_nil]); first | done | rfl | (simp only [List.length_drop, List.length_take]; rfl)) ?_; (with_reducible refine (impl_slotsOf.calls _ _ l0 _ ?side1 ?side2).mono ?_); (case side1 => exact Kd.C_below HR0.out HB3.out); (case side2 => exact fun j hj => idsOk_at HI.out j hj); rintro e w13 ⟨g, rfl, hge, hs, hb⟩; refine ⟨_, rfl, ?_⟩; have HG := zzm (Nat.le_trans HB3.out.size hge); have HB4 := zzm (zzp HB3.out hb); have NE := zzm (show g ≠ gb by have := blk_lt BK3.out; omega); have BK4 := zzm (zzh BK3.out hb); have HS4 := zzm hs; clear hb hge hs; have z0 := (zzk BK4.out 0).trans rfl; have z1 := (zzk BK4.out 1).trans rfl; have z2 := (zzk BK4.out 2).trans rfl; have z3 := (zzk BK4.out 3).trans rfl; have z4 := (zzk BK4.out 4).trans rfl; have z5 := (zzk BK4.out 5).trans rfl) | ((with_reducible refine gate_callee (f := 58) rfl ?_); refine goesL_ (some 21) rfl rfl Try.func58 (by kernel_rfl) rfl #[.pointer (some ⟨g, 0, none⟩), .agg #[.bool a1_0, .bool a1_1, .int .i64 a1_2, .int .i64 a1_3, .int .i64 a1_4, .slice A1_5 l1_5.length c1_5]] rfl (by (try simp only [List.map_toArray, List.map_cons, List.map_nil]); first | done | rfl | (simp only [List.length_drop, List.length_take]; rfl)) ?_; (with_reducible refine (impl_slots_check.calls g _ a1_0 a1_1 a1_2 a1_3 a1_4 _ rfl _ HS4.out HP0.out HP1.out).mono ?_); rintro e w14 ⟨rfl, hb⟩; refine ⟨_, rfl, ?_⟩; have HB5 := zzm (zzp HB4.out hb); have BK5 := zzm (zzh BK4.out hb); have HS5 := zzm (HS4.out.below hb); have HB6 := HB5; have HS6 := zzm (show HasSlots _ g F by rw [HF.out]; exact HS5.out); clear hb z0 z1 z2 z3 z4 z5; try rw [HE.out]) | ((with_reducible refine gate_callee (f := 62) rfl ?_); refine goesL_ (some 42) rfl rfl Try.func62 (by kernel_rfl) rfl #[.pointer (some ⟨g, 0, none⟩)] rfl (by (try simp only [List.map_toArray, List.map_cons, List.map_nil]); first | done | rfl | (simp only [List.length_drop, List.length_take]; rfl)) ?_; (with_reducible refine (impl_slots_list.calls g _ _ HS6.out).mono ?_); rintro e w16 ⟨v0, rfl, ho, hb⟩; refine ⟨_, rfl, ?_⟩; obtain ⟨Ao, co, eo⟩ := Kd.R_slice ho; subst eo; have HB7 := zzm (zzp HB6.out hb); have HO7 := zzm (Kd.R_lower ho HB6.out.size); clear hb ho) | ((with_reducible refine gate_callee (f := 19) rfl ?_); refine goesL_ (some 44) rfl rfl Try.func19 (by kernel_rfl) rfl #[.slice Ao (slotList F 255).length co] rfl (by (try simp only [List.map_toArray, List.map_cons, List.map_nil]); first | done | rfl | (simp only [List.length_drop, List.length_take]; rfl)) ?_; (with_reducible refine (impl_ProducersValid.calls k _ _ (slotList F 255) true _ ?side1 ?side2 A7.out).mono ?_); (case side1 => exact (Kd.R_reads' HO7.out).2.2); (case side2 => exact (Kd.R_reads' HO7.out).2.1); rintro e w17 ⟨rfl, hb⟩; refine ⟨_, rfl, ?_⟩; have HB8 := zzm (zzp HB7.out hb); have HO8 := zzm (Kd.R_below HO7.out hb); clear hb)); go_ret2; exact ⟨_, rfl, HO8.out, HB8.out⟩
     | false =>
      obtain ⟨rfl, rfl⟩ : r1 = [] ∧ r2 = 5 := by simpa [eq_comm] using h
      clear h; go_enter Try.func29, Try.ntmps29; go_wp2_with (first | ((with_reducible refine gate_dst (N := 3) rfl ?_); refine box_event ?hg (N := 3) ?hd (cs := #[.bool a1_0, .bool a1_1, .int .i64 a1_2, .int .i64 a1_3, .int .i64 a1_4, .slice A1_5 l1_5.length c1_5]) (t := 34) ?hr ?_; (case hd => rfl); (case hg => rfl); (case hr => first | (go_simp; done) | (go_simp; rfl)); intro gb hg w8 hbox hb; have HB1 := zzm (zzp HB.out hb); have BK := zzm hbox; have GE := zzm (show w.heap.size ≤ gb from Nat.le_of_eq hg.symm); clear hb hbox hg) | ((with_reducible refine gate_callee (f := 19) rfl ?_); refine goesL_ (some 10) rfl rfl Try.func19 (by kernel_rfl) rfl #[.slice A0 l0.length c0] rfl (by (try simp only [List.map_toArray, List.map_cons, List.map_nil]); first | done | rfl | (simp only [List.length_drop, List.length_take]; rfl)) ?_; (with_reducible refine (impl_ProducersValid.calls k _ _ l0 true _ ?side1 ?side2 A3.out).mono ?_); (case side1 => exact Kd.C_below HR0.out HB1.out); (case side2 => exact HC0.out); rintro e w9 ⟨rfl, hb⟩; refine ⟨_, rfl, ?_⟩; have HB2 := zzm (zzp HB1.out hb); have BK2 := zzm (zzh BK.out hb); clear hb; have z0 := (zzk BK2.out 0).trans rfl; have z1 := (zzk BK2.out 1).trans rfl; have z2 := (zzk BK2.out 2).trans rfl; have z3 := (zzk BK2.out 3).trans rfl; have z4 := (zzk BK2.out 4).trans rfl; have z5 := (zzk BK2.out 5).trans rfl) | (go_at_call 27; (with_reducible refine (impl_BatchValid.calls k a1_0 a1_1 a1_2 a1_3 a1_4 _ _ l1_5 true _ ?side1 ?side2 A5.out).mono ?_); (case side1 => exact Kd.C_below HR1_5.out HB2.out); (case side2 => exact HC1_5.out); rintro e w11 ⟨rfl, hb⟩; have HB3 := zzm (zzp HB2.out hb); have BK3 := zzm (zzh BK2.out hb); clear hb z0 z1 z2 z3 z4 z5) | ((with_reducible refine gate_callee (f := 57) rfl ?_); refine goesL_ (some 18) rfl rfl Try.func57 (by kernel_rfl) rfl #[.slice A0 l0.length c0] rfl (by (try simp only [List.map_toArray, List.map_cons, List.map_nil]); first | done | rfl | (simp only [List.length_drop, List.length_take]; rfl)) ?_; (with_reducible refine (impl_slotsOf.calls _ _ l0 _ ?side1 ?side2).mono ?_); (case side1 => exact Kd.C_below HR0.out HB3.out); (case side2 => exact fun j hj => idsOk_at HI.out j hj); rintro e w13 ⟨g, rfl, hge, hs, hb⟩; refine ⟨_, rfl, ?_⟩; have HG := zzm (Nat.le_trans HB3.out.size hge); have HB4 := zzm (zzp HB3.out hb); have NE := zzm (show g ≠ gb by have := blk_lt BK3.out; omega); have BK4 := zzm (zzh BK3.out hb); have HS4 := zzm hs; clear hb hge hs; have z0 := (zzk BK4.out 0).trans rfl; have z1 := (zzk BK4.out 1).trans rfl; have z2 := (zzk BK4.out 2).trans rfl; have z3 := (zzk BK4.out 3).trans rfl; have z4 := (zzk BK4.out 4).trans rfl; have z5 := (zzk BK4.out 5).trans rfl) | ((with_reducible refine gate_callee (f := 58) rfl ?_); refine goesL_ (some 21) rfl rfl Try.func58 (by kernel_rfl) rfl #[.pointer (some ⟨g, 0, none⟩), .agg #[.bool a1_0, .bool a1_1, .int .i64 a1_2, .int .i64 a1_3, .int .i64 a1_4, .slice A1_5 l1_5.length c1_5]] rfl (by (try simp only [List.map_toArray, List.map_cons, List.map_nil]); first | done | rfl | (simp only [List.length_drop, List.length_take]; rfl)) ?_; (with_reducible refine (impl_slots_check.calls g _ a1_0 a1_1 a1_2 a1_3 a1_4 _ rfl _ HS4.out HP0.out HP1.out).mono ?_); rintro e w14 ⟨rfl, hb⟩; refine ⟨_, rfl, ?_⟩; have HB5 := zzm (zzp HB4.out hb); have BK5 := zzm (zzh BK4.out hb); have HS5 := zzm (HS4.out.below hb); have HB6 := HB5; have HS6 := zzm (show HasSlots _ g F by rw [HF.out]; exact HS5.out); clear hb z0 z1 z2 z3 z4 z5; try rw [HE.out]) | ((with_reducible refine gate_callee (f := 62) rfl ?_); refine goesL_ (some 42) rfl rfl Try.func62 (by kernel_rfl) rfl #[.pointer (some ⟨g, 0, none⟩)] rfl (by (try simp only [List.map_toArray, List.map_cons, List.map_nil]); first | done | rfl | (simp only [List.length_drop, List.length_take]; rfl)) ?_; (with_reducible refine (impl_slots_list.calls g _ _ HS6.out).mono ?_); rintro e w16 ⟨v0, rfl, ho, hb⟩; refine ⟨_, rfl, ?_⟩; obtain ⟨Ao, co, eo⟩ := Kd.R_slice ho; subst eo; have HB7 := zzm (zzp HB6.out hb); have HO7 := zzm (Kd.R_lower ho HB6.out.size); clear hb ho) | ((with_reducible refine gate_callee (f := 19) rfl ?_); refine goesL_ (some 44) rfl rfl Try.func19 (by kernel_rfl) rfl #[.slice Ao (slotList F 255).length co] rfl (by (try simp only [List.map_toArray, List.map_cons, List.map_nil]); first | done | rfl | (simp only [List.length_drop, List.length_take]; rfl)) ?_; (with_reducible refine (impl_ProducersValid.calls k _ _ (slotList F 255) false _ ?side1 ?side2 A7.out).mono ?_); (case side1 => exact (Kd.R_reads' HO7.out).2.2); (case side2 => exact (Kd.R_reads' HO7.out).2.1); rintro e w17 ⟨rfl, hb⟩; refine ⟨_, rfl, ?_⟩; have HB8 := zzm (zzp HB7.out hb); have HO8 := zzm (Kd.R_below HO7.out hb); clear hb)); go_ret2; exact ⟨_, rfl, Kd.R_nil _ _ _ _ _, HB8.out⟩
   ·
    rw [if_neg hok] at h; cases h
end Go.Proofs.Ytkhmopmfbocokaa.T
namespace Go.Proofs.Ytkhmopmfbocokaa.T
open Go.RowKit Go.Proofs.YtkhmopmfbocokaaW.PrintWords Go.Proofs.YtkhmopmfbocokaaW.PrintLast Go.Proofs.YtkhmopmfbocokaaW.PrintMore
attribute [local go_sem] max2_int max_two
set_option linter.unusedVariables false
set_option linter.unusedSimpArgs false
def spec_l6In.f (a0 : Int) (a1 : Int) (a2 : Int) : Option (Bool) := if a0 ≥ a1 then (some (decide (a0 ≤ a2))) else (some false)
set_option maxHeartbeats 8000000 in
set_option maxRecDepth 100000 in
theorem spec_l6In.calls (a0 : Int) (a1 : Int) (a2 : Int) (r : Bool) (w : World) (h : spec_l6In.f a0 a1 a2 = some r) :
  Calls Try.prog 53 #[.int .i64 a0, .int .i64 a1, .int .i64 a2] w fun e w' => e = .returned (.bool r) ∧ Drawn0 w w' := by
 have H : (if a0 ≥ a1 then (some (decide (a0 ≤ a2))) else (some false)) = some r := h; clear h; by_cases c4 : a0 ≥ a1
 ·
  rw [if_pos c4] at H; have c4b0 : decide (a1 ≤ a0) = true := decide_eq_true c4; clear c4; obtain rfl := Option.some.inj H; go_enter Try.func53, Try.ntmps53; go_wp2; go_ret; exact ⟨by first | rfl | (simp; done) | (simp [*]; done), by repeat (first | exact Drawn0.refl _ | apply Drawn0.step)⟩
 ·
  rw [if_neg c4] at H; have c4b0 : decide (a1 ≤ a0) = false := decide_eq_false c4; clear c4; obtain rfl := Option.some.inj H; go_enter Try.func53, Try.ntmps53; go_wp2; go_ret; exact ⟨by first | rfl | (simp; done) | (simp [*]; done), by repeat (first | exact Drawn0.refl _ | apply Drawn0.step)⟩
theorem l6In_eqT (a b c : Int) (r : Bool) (h : decide (b ≤ a ∧ a ≤ c) = r) : spec_l6In.f a b c = some r := by
 subst h; unfold spec_l6In.f; by_cases h : a ≥ b
 ·
  rw [if_pos h]; have : (b ≤ a ∧ a ≤ c) ↔ a ≤ c := ⟨fun h => h.2, fun h' => ⟨h, h'⟩⟩; simp [this]
 ·
  rw [if_neg h]; have : ¬ (b ≤ a ∧ a ≤ c) := fun h' => h h'.1; simp [this]
theorem l6In_id (a : Int) (r : Bool) (h : decide (0 ≤ a ∧ a ≤ 254) = r) : spec_l6In.f a 0 254 = some r := l6In_eqT a 0 254 r h
def spec_ProducersValid.f (k : Nat) (l0 : List S39) : Option Bool := some (prodsAll l0)
set_option maxHeartbeats 8000000 in
set_option maxRecDepth 100000 in
theorem spec_ProducersValid.calls (k : Nat) (A0 : Option Addr) (c0 : Nat) (l0 : List (S39)) (r : Bool) (w : World) (hr0 : Kd.C k39 w A0 l0.length l0) (hc0 : l0.length ≤ c0) (h : spec_ProducersValid.f k l0 = some r) :
  Calls Try.prog 20 #[.slice A0 l0.length c0] w fun e w' => e = .returned (.bool r) ∧ Below w.heap.size w w' := by
 obtain rfl := Option.some.inj h; clear h; have hmax : l0.length ≤ 9223372036854775807 := hr0.2.1; have HR := zzm hr0; have HB := zzm (Below.refl w.heap.size w); clear hr0; go_enter Try.func20, Try.ntmps20; go_wp2; go_loopw [3, 4] (fun i i4 W => ∃ k : Nat, k ≤ l0.length ∧ i = .int .i64 k ∧ Aside0 (∀ j, j < k → prodAt l0 j = true) ∧ Aside0 (Below w.heap.size w W)) (fun i _ _ => l0.length - (intOf i).toNat)
 case atStart => exact ⟨0, Nat.zero_le _, rfl, ⟨fun j hj => by omega⟩, HB⟩
 case round =>
  clear HB; obtain ⟨k, hk, rfl, HN, HB⟩ := hrel; by_cases hlt : k < l0.length
  ·
   obtain ⟨ad, he, hx0, hx1, hx2⟩ := at_T39 HR.out (k : Int) (by omega) (by omega); subst he; replace hx0 := (HB.out.cell (zzn w _ hx0)).trans hx0; replace hx1 := (HB.out.cell (zzn w _ hx1)).trans hx1; replace hx2 := (HB.out.cell (zzn w _ hx2)).trans hx2; simp only [Int.toNat_natCast] at hx0 hx1 hx2; have HP : Aside0 (prodAt l0 k = decide (((0 ≤ (rd_T39 l0 (k : Int)).f0 ∧ (rd_T39 l0 (k : Int)).f0 ≤ 254) ∧ (0 ≤ (rd_T39 l0 (k : Int)).f1 ∧ (rd_T39 l0 (k : Int)).f1 ≤ 99) ∧ (0 ≤ (rd_T39 l0 (k : Int)).f2 ∧ (rd_T39 l0 (k : Int)).f2 ≤ 99999)) ∧ (0 < k → (rd_T39 l0 ((k : Int) - 1)).f0 < (rd_T39 l0 (k : Int)).f0))) := ⟨rfl⟩; obtain ⟨p, hp⟩ : ∃ p, p = rd_T39 l0 (k : Int) := ⟨_, rfl⟩; simp only [← hp] at hx0 hx1 hx2; rw [← hp] at HP; clear hp; obtain ⟨x, y, z⟩ := p; have HNO := zzm (fun h => prodsAll_no (l := l0) hlt h); go_wp2_with ((with_reducible refine gate_dst (N := 4) rfl ?_); refine box_event ?hg (N := 4) ?hd (cs := #[.int .i64 0, .int .i64 0, .int .i64 0]) (t := 39) ?hr ?_; (case hd => rfl); (case hg => rfl); (case hr => first | (go_simp; done) | (go_simp; rfl)); intro gb hg w13 hbox hb; have HB13 := zzm (zzp HB.out hb); have BK := zzm hbox; have GE := zzm (show w.heap.size ≤ gb by rw [hg]; exact HB.out.size); clear hb hbox hg; have hcz0 := (zzk BK.out 0).trans rfl; have hcz1 := (zzk BK.out 1).trans rfl; have hcz2 := (zzk BK.out 2).trans rfl; have hf0 := zzl BK.out 0; have hf1 := zzl BK.out 1; have hf2 := zzl BK.out 2); have BK2 := zzm (blk_set (blk_set (blk_set BK.out 0 (.int .i64 x)) 1 (.int .i64 y)) 2 (.int .i64 z)); have HB2 := zzm (zzd (zzd (zzd HB13.out GE.out (j := 0) (v := .int .i64 x)) GE.out (j := 1) (v := .int .i64 y)) GE.out (j := 2) (v := .int .i64 z)); clear hcz0 hcz1 hcz2 hf0 hf1 hf2 BK HB13 hx0 hx1 hx2 HB; generalize ((w13.setCell ⟨gb, 0, none⟩ (.int .i64 x)).setCell ⟨gb, 1, none⟩ (.int .i64 y)).setCell ⟨gb, 2, none⟩ (.int .i64 z) = w14 at BK2 HB2 ⊢; have d0 : w14.cell? ⟨gb, 0, none⟩ = some (.int .i64 x) := (zzk BK2.out 0).trans rfl; have d1 : w14.cell? ⟨gb, 1, none⟩ = some (.int .i64 y) := (zzk BK2.out 1).trans rfl; have d2 : w14.cell? ⟨gb, 2, none⟩ = some (.int .i64 z) := (zzk BK2.out 2).trans rfl; by_cases k0 : 0 ≤ x ∧ x ≤ 254
   ·
    have e0 := l6In_id x true (decide_eq_true k0); by_cases k1 : 0 ≤ y ∧ y ≤ 99
    ·
     have e1 := l6In_eqT y 0 99 true (decide_eq_true k1); by_cases k2 : 0 ≤ z ∧ z ≤ 99999
     ·
      have e2 := l6In_eqT z 0 99999 true (decide_eq_true k2); by_cases h0 : 0 < k
      ·
       obtain ⟨ad', he, hy0, _, _⟩ := at_T39 HR.out ((k : Int) - 1) (by omega) (by omega); injection he with he; subst he; replace hy0 := (HB2.out.cell (zzn w _ hy0)).trans hy0; rw [show ((k : Int) - 1).toNat = k - 1 by omega] at hy0; generalize (rd_T39 l0 ((k : Int) - 1)).f0 = q at hy0 HP; have hk0 : decide (0 < (k : Int)) = true := decide_eq_true (by omega); have hk1 : decide (0 < k) = true := decide_eq_true h0; have hs1 : IntKind.i64.wrap ((k : Int) - 1) = (k : Int) - 1 := IntWalk.i64_in _ (by omega); have hs2 : ((k : Int) - 1).toNat = k - 1 := by omega
       have hs3 : (0 ≤ (k : Int) - 1) = True := eq_true (by omega); have hs5 : (1 ≤ (k : Int)) = True := eq_true (by omega); have hs4 : ((k : Int) - 1 < (l0.length : Int)) = True := eq_true (by omega); by_cases hge : x ≤ q
       ·
        have hge2 : decide (x ≤ q) = true := decide_eq_true hge; have HF := zzm (HNO.out (by rw [HP.out]; exact decide_eq_false (fun h => by have := h.2 h0; omega))); clear HNO HP k0 k1 k2; go_quiet ((first | (go_at_call 53; with_reducible exact quiet_drawn (spec_l6In.calls x 0 254 true _ e0)) | (go_at_call 53; with_reducible exact quiet_drawn (spec_l6In.calls y 0 99 true _ e1)) | (go_at_call 53; with_reducible exact quiet_drawn (spec_l6In.calls z 0 99999 true _ e2))))
        go_wp2; go_ret; exact ⟨by rw [HF.out]; rfl, zzb HB2.out _⟩
       ·
        have hge2 : decide (x ≤ q) = false := decide_eq_false hge; have HY := zzm (show prodAt l0 k = true by rw [HP.out]; exact decide_eq_true ⟨⟨k0, k1, k2⟩, fun _ => by omega⟩); clear HNO HP k0 k1 k2; go_quiet ((first | (go_at_call 53; with_reducible exact quiet_drawn (spec_l6In.calls x 0 254 true _ e0)) | (go_at_call 53; with_reducible exact quiet_drawn (spec_l6In.calls y 0 99 true _ e1)) | (go_at_call 53; with_reducible exact quiet_drawn (spec_l6In.calls z 0 99999 true _ e2))))
        clear hs1 hs2 hs3 hs4 hs5; go_wp2; go_roundw
        case rel => exact ⟨k + 1, by omega, by go_num, ⟨fun j hj => by by_cases e : j = k; (subst e; exact HY.out); exact HN.out j (by omega)⟩, ⟨zzb HB2.out _⟩⟩
        case measure => simp [intOf]; omega
      ·
       have hk0 : decide (0 < (k : Int)) = false := decide_eq_false (by omega); have hk1 : decide (0 < k) = false := decide_eq_false h0; have HY := zzm (show prodAt l0 k = true by rw [HP.out]; exact decide_eq_true ⟨⟨k0, k1, k2⟩, fun h => absurd h h0⟩); clear HNO HP k0 k1 k2; go_quiet ((first | (go_at_call 53; with_reducible exact quiet_drawn (spec_l6In.calls x 0 254 true _ e0)) | (go_at_call 53; with_reducible exact quiet_drawn (spec_l6In.calls y 0 99 true _ e1)) | (go_at_call 53; with_reducible exact quiet_drawn (spec_l6In.calls z 0 99999 true _ e2))))
       go_wp2; go_roundw
       case rel => exact ⟨k + 1, by omega, by go_num, ⟨fun j hj => by by_cases e : j = k; (subst e; exact HY.out); exact HN.out j (by omega)⟩, ⟨zzb HB2.out _⟩⟩
       case measure => simp [intOf]; omega
     ·
      have e2 := l6In_eqT z 0 99999 false (decide_eq_false k2); have HF := zzm (HNO.out (by rw [HP.out]; exact decide_eq_false (fun h => k2 h.1.2.2))); clear HNO HP k0 k1 k2; go_quiet ((first | (go_at_call 53; with_reducible exact quiet_drawn (spec_l6In.calls x 0 254 true _ e0)) | (go_at_call 53; with_reducible exact quiet_drawn (spec_l6In.calls y 0 99 true _ e1)) | (go_at_call 53; with_reducible exact quiet_drawn (spec_l6In.calls z 0 99999 false _ e2))))
      go_wp2; go_ret; exact ⟨by rw [HF.out]; rfl, zzb HB2.out _⟩
    ·
     have e1 := l6In_eqT y 0 99 false (decide_eq_false k1); have HF := zzm (HNO.out (by rw [HP.out]; exact decide_eq_false (fun h => k1 h.1.2.1))); clear HNO HP k0 k1; go_quiet ((first | (go_at_call 53; with_reducible exact quiet_drawn (spec_l6In.calls x 0 254 true _ e0)) | (go_at_call 53; with_reducible exact quiet_drawn (spec_l6In.calls y 0 99 false _ e1))))
     go_wp2; go_ret; exact ⟨by rw [HF.out]; rfl, zzb HB2.out _⟩
   ·
    have e0 := l6In_id x false (decide_eq_false k0); have HF := zzm (HNO.out (by rw [HP.out]; exact decide_eq_false (fun h => k0 h.1.1))); clear HNO HP k0; go_quiet ((go_at_call 53; with_reducible exact quiet_drawn (spec_l6In.calls x 0 254 false _ e0)))
    go_wp2; go_ret; exact ⟨by rw [HF.out]; rfl, zzb HB2.out _⟩
  ·
   have hk2 : k = l0.length := by omega
   have HA : Aside0 (∀ i, i < l0.length → prodAt l0 i = true) := ⟨fun i hi => HN.out i (by omega)⟩; by_cases hlen : l0.length ≤ 20
   ·
    have HF := zzm (show prodsAll l0 = true by unfold prodsAll; rw [decide_eq_true hlen, Bool.true_and]; exact decide_eq_true HA.out); have hlen2 : decide ((l0.length : Int) ≤ 20) = true := decide_eq_true (by omega); go_wp2; go_ret; exact ⟨by rw [HF.out]; rfl, HB.out⟩
   ·
    have HF := zzm (prodsAll_long (l := l0) (by omega)); have hlen2 : decide ((l0.length : Int) ≤ 20) = false := decide_eq_false (by omega); go_wp2; go_ret; exact ⟨by rw [HF.out]; rfl, HB.out⟩
end Go.Proofs.Ytkhmopmfbocokaa.T
namespace Go.Proofs.Ytkhmopmfbocokaa.T
open Go.RowKit Go.Proofs.YtkhmopmfbocokaaW.PrintWords Go.Proofs.YtkhmopmfbocokaaW.PrintLast Go.Proofs.YtkhmopmfbocokaaW.PrintMore
attribute [local go_sem] max2_int max_two
set_option linter.unusedVariables false
set_option linter.unusedSimpArgs false
def spec_l1Ok.l0 : Nat → List Int → Int → Option (Bool)
 | 0, _, _ => none
 | k + 1, x0, x3 => if x3 < (x0.length : Int) then (if 0 ≤ x3 then ((spec_l6In.f (rd x0 x3) 0 255).bind fun t302 => (if t302 = true then (spec_l1Ok.l0 k x0 (wrap64 (x3 + 1))) else (some false))) else (none)) else (some true)
def spec_l1Ok.f (k : Nat) (l0 : List Int) : Option (Bool) := spec_l1Ok.l0 k l0 0
set_option maxHeartbeats 8000000 in
set_option maxRecDepth 100000 in
theorem spec_l1Ok.calls (k : Nat) (A0 : Option Addr) (c0 : Nat) (l0 : List Int) (r : Bool) (w : World) (hr0 : Kd.C (Kd.int .i64) w A0 l0.length l0) (hc0 : l0.length ≤ c0) (h : spec_l1Ok.f k l0 = some r) :
  Calls Try.prog 85 #[.slice A0 l0.length c0] w fun e w' => e = .returned (.bool r) ∧ Drawn0 w w' := by
 have HR0 := zzm hr0; have HC0 := zzm hc0; clear hr0 hc0; have H : (spec_l1Ok.l0 k l0 0) = some r := h; clear h; have H' := zzm H; clear H; go_enter Try.func85, Try.ntmps85; go_wp2; go_loopg [3] k (fun kq v3 w' => ∃ (x3_1 : Int), v3 = .int .i64 x3_1 ∧ Aside0 (spec_l1Ok.l0 kq l0 x3_1 = some r) ∧ Aside0 (kq ≤ k) ∧ Drawn0 w w')
 case atStart => exact ⟨(0), (by first | rfl | (simp; done) | (simp [*]; done)), H', ⟨Nat.le_refl _⟩, by repeat (first | exact Drawn0.refl _ | apply Drawn0.step)⟩
 case round =>
  clear H'; obtain ⟨x3_1, rfl, HA, HK1, ⟨m1, rfl⟩⟩ := hrel; cases gk with
  | zero => exact absurd HA.out (by simp [spec_l1Ok.l0])
  | succ k1 =>
   have H := HA.out; clear HA; simp only [spec_l1Ok.l0] at H; by_cases c2 : x3_1 < (l0.length : Int)
   ·
    rw [if_pos c2] at H; have c2b0 : decide (x3_1 < (l0.length : Int)) = true := decide_eq_true c2; clear c2; by_cases c3 : 0 ≤ x3_1
    ·
     rw [if_pos c3] at H; have c3b0 : decide (0 ≤ x3_1) = true := decide_eq_true c3; clear c3; replace H := Option.bind_eq_some_iff.mp H; obtain ⟨t302, A40, H⟩ := H; replace H : (if t302 = true then (spec_l1Ok.l0 k1 l0 (wrap64 (x3_1 + 1))) else (some false)) = some r := H; have A4 := zzm A40; clear A40; by_cases c5 : t302 = true
     ·
      subst c5; have H1 : (spec_l1Ok.l0 k1 l0 (wrap64 (x3_1 + 1))) = some r := by rw [if_pos rfl] at H; exact H
      clear H; have H := H1; clear H1; have H' := zzm H; clear H; have p301 : 0 ≤ (x3_1 : Int) := of_decide_eq_true (by first | (with_reducible assumption) | assumption); have q301 : x3_1 < (l0.length : Int) := of_decide_eq_true (by first | (with_reducible assumption) | assumption); obtain ⟨ad301, e301, hx301_0⟩ := Kd.at_int HR0.out x3_1 p301 q301; cases e301; replace p301 := eq_true p301; replace q301 := eq_true q301; go_wp2_with (first | ((with_reducible refine gate_callee (f := 53) rfl ?_); refine goesL_ (some 14) rfl rfl Try.func53 (by kernel_rfl) rfl #[.int .i64 (rd l0 x3_1), .int .i64 0, .int .i64 255] rfl (by (try simp only [List.map_toArray, List.map_cons, List.map_nil]); first | done | rfl | (simp only [List.length_drop, List.length_take]; rfl)) ?_; (with_reducible refine (spec_l6In.calls (rd l0 x3_1) 0 255 true _ A4.out).mono ?_); rintro e w' ⟨rfl, ⟨nd, rfl⟩⟩; refine ⟨_, rfl, ?_⟩)); go_roundg k1
      case measure => have := HK1.out; omega
      case rel => exact ⟨(wrap64 (x3_1 + 1)), (by first | rfl | (simp; done) | (simp [*]; done)), H', ⟨by have := HK1.out; omega⟩, by repeat (first | exact Drawn0.refl _ | apply Drawn0.step)⟩
     ·
      replace c5 := Bool.eq_false_iff.mpr c5; subst c5; have H1 : (some false) = some r := by rw [if_neg (show ¬ (false = true) by decide)] at H; exact H
      clear H; have H := H1; clear H1; obtain rfl := Option.some.inj H; have p301 : 0 ≤ (x3_1 : Int) := of_decide_eq_true (by first | (with_reducible assumption) | assumption); have q301 : x3_1 < (l0.length : Int) := of_decide_eq_true (by first | (with_reducible assumption) | assumption); obtain ⟨ad301, e301, hx301_0⟩ := Kd.at_int HR0.out x3_1 p301 q301; cases e301; replace p301 := eq_true p301; replace q301 := eq_true q301; go_wp2_with (first | ((with_reducible refine gate_callee (f := 53) rfl ?_); refine goesL_ (some 14) rfl rfl Try.func53 (by kernel_rfl) rfl #[.int .i64 (rd l0 x3_1), .int .i64 0, .int .i64 255] rfl (by (try simp only [List.map_toArray, List.map_cons, List.map_nil]); first | done | rfl | (simp only [List.length_drop, List.length_take]; rfl)) ?_; (with_reducible refine (spec_l6In.calls (rd l0 x3_1) 0 255 false _ A4.out).mono ?_); rintro e w' ⟨rfl, ⟨nd, rfl⟩⟩; refine ⟨_, rfl, ?_⟩)); go_ret; exact ⟨by first | rfl | (simp; done) | (simp [*]; done), by repeat (first | exact Drawn0.refl _ | apply Drawn0.step)⟩
    ·
     rw [if_neg c3] at H; exact absurd H (by simp)
   ·
    rw [if_neg c2] at H; have c2b0 : decide (x3_1 < (l0.length : Int)) = false := decide_eq_false c2; clear c2; obtain rfl := Option.some.inj H; go_wp2; go_ret; exact ⟨by first | rfl | (simp; done) | (simp [*]; done), by repeat (first | exact Drawn0.refl _ | apply Drawn0.step)⟩
end Go.Proofs.Ytkhmopmfbocokaa.T
namespace Go.Proofs.Ytkhmopmfbocokaa.T
open Go.RowKit Go.Proofs.YtkhmopmfbocokaaW.PrintWords Go.Proofs.YtkhmopmfbocokaaW.PrintLast Go.Proofs.YtkhmopmfbocokaaW.PrintMore
attribute [local go_sem] max2_int max_two
set_option linter.unusedVariables false
set_option linter.unusedSimpArgs false
def spec_l3Part.f (k : Nat) (a0 : Bool) (l1 : List Int) : Option (Bool) := if a0 = true then ((spec_l1Ok.f k l1).bind fun t303 => (if t303 = true then (some (decide ((l1.length : Int) ≤ 12))) else (some false))) else (if (l1.length : Int) = 0 then ((spec_l1Ok.f k l1).bind fun t304 => (if t304 = true then (some (decide ((l1.length : Int) ≤ 12))) else (some false))) else (some false))
set_option maxHeartbeats 8000000 in
set_option maxRecDepth 100000 in
theorem spec_l3Part.calls (k : Nat) (a0 : Bool) (A1 : Option Addr) (c1 : Nat) (l1 : List Int) (r : Bool) (w : World) (hr1 : Kd.C (Kd.int .i64) w A1 l1.length l1) (hc1 : l1.length ≤ c1) (h : spec_l3Part.f k a0 l1 = some r) :
  Calls Try.prog 83 #[.bool a0, .slice A1 l1.length c1] w fun e w' => e = .returned (.bool r) ∧ Drawn0 w w' := by
 have HR1 := zzm hr1; have HC1 := zzm hc1; clear hr1 hc1; have H : (if a0 = true then ((spec_l1Ok.f k l1).bind fun t303 => (if t303 = true then (some (decide ((l1.length : Int) ≤ 12))) else (some false))) else (if (l1.length : Int) = 0 then ((spec_l1Ok.f k l1).bind fun t304 => (if t304 = true then (some (decide ((l1.length : Int) ≤ 12))) else (some false))) else (some false))) = some r := h; clear h; by_cases c3 : a0 = true
 ·
  subst c3; have H1 : ((spec_l1Ok.f k l1).bind fun t303 => (if t303 = true then (some (decide ((l1.length : Int) ≤ 12))) else (some false))) = some r := by rw [if_pos rfl] at H; exact H
  clear H; have H := H1; clear H1; replace H := Option.bind_eq_some_iff.mp H; obtain ⟨t303, A40, H⟩ := H; replace H : (if t303 = true then (some (decide ((l1.length : Int) ≤ 12))) else (some false)) = some r := H; have A4 := zzm A40; clear A40; by_cases c5 : t303 = true
  ·
   subst c5; have H1 : (some (decide ((l1.length : Int) ≤ 12))) = some r := by rw [if_pos rfl] at H; exact H
   clear H; have H := H1; clear H1; obtain rfl := Option.some.inj H; go_enter Try.func83, Try.ntmps83; go_wp2_with (first | (go_at_call 85; (with_reducible refine (spec_l1Ok.calls k _ _ l1 true _ ?side1 ?side2 A4.out).mono ?_); (case side1 => repeat (first | exact HR1.out | (with_reducible refine Kd.C_alloc ?_ _) | (with_reducible refine Kd.C_drewN ?_ _) | (with_reducible refine Kd.C_drew ?_))); (case side2 => exact HC1.out); rintro e w' ⟨rfl, ⟨nd, rfl⟩⟩)); go_ret; exact ⟨by first | rfl | (simp; done) | (simp [*]; done), by repeat (first | exact Drawn0.refl _ | apply Drawn0.step)⟩
  ·
   replace c5 := Bool.eq_false_iff.mpr c5; subst c5; have H1 : (some false) = some r := by rw [if_neg (show ¬ (false = true) by decide)] at H; exact H
   clear H; have H := H1; clear H1; obtain rfl := Option.some.inj H; go_enter Try.func83, Try.ntmps83; go_wp2_with (first | (go_at_call 85; (with_reducible refine (spec_l1Ok.calls k _ _ l1 false _ ?side1 ?side2 A4.out).mono ?_); (case side1 => repeat (first | exact HR1.out | (with_reducible refine Kd.C_alloc ?_ _) | (with_reducible refine Kd.C_drewN ?_ _) | (with_reducible refine Kd.C_drew ?_))); (case side2 => exact HC1.out); rintro e w' ⟨rfl, ⟨nd, rfl⟩⟩)); go_ret; exact ⟨by first | rfl | (simp; done) | (simp [*]; done), by repeat (first | exact Drawn0.refl _ | apply Drawn0.step)⟩
 ·
  replace c3 := Bool.eq_false_iff.mpr c3; subst c3; have H1 : (if (l1.length : Int) = 0 then ((spec_l1Ok.f k l1).bind fun t304 => (if t304 = true then (some (decide ((l1.length : Int) ≤ 12))) else (some false))) else (some false)) = some r := by rw [if_neg (show ¬ (false = true) by decide)] at H; exact H
  clear H; have H := H1; clear H1; by_cases c6 : (l1.length : Int) = 0
  ·
   rw [if_pos c6] at H; have c6b0 : ((l1.length : Int) == 0) = true := beq_iff_eq.mpr c6; have c6b1 : ((l1.length : Int) != 0) = false := bne_eq_false_iff_eq.mpr c6; clear c6; replace H := Option.bind_eq_some_iff.mp H; obtain ⟨t304, A70, H⟩ := H; replace H : (if t304 = true then (some (decide ((l1.length : Int) ≤ 12))) else (some false)) = some r := H; have A7 := zzm A70; clear A70; by_cases c8 : t304 = true
   ·
    subst c8; have H1 : (some (decide ((l1.length : Int) ≤ 12))) = some r := by rw [if_pos rfl] at H; exact H
    clear H; have H := H1; clear H1; obtain rfl := Option.some.inj H; go_enter Try.func83, Try.ntmps83; go_wp2_with (first | (go_at_call 85; (with_reducible refine (spec_l1Ok.calls k _ _ l1 true _ ?side1 ?side2 A7.out).mono ?_); (case side1 => repeat (first | exact HR1.out | (with_reducible refine Kd.C_alloc ?_ _) | (with_reducible refine Kd.C_drewN ?_ _) | (with_reducible refine Kd.C_drew ?_))); (case side2 => exact HC1.out); rintro e w' ⟨rfl, ⟨nd, rfl⟩⟩)); go_ret; exact ⟨by first | rfl | (simp; done) | (simp [*]; done), by repeat (first | exact Drawn0.refl _ | apply Drawn0.step)⟩
   ·
    replace c8 := Bool.eq_false_iff.mpr c8; subst c8; have H1 : (some false) = some r := by rw [if_neg (show ¬ (false = true) by decide)] at H; exact H
    clear H; have H := H1; clear H1; obtain rfl := Option.some.inj H; go_enter Try.func83, Try.ntmps83; go_wp2_with (first | (go_at_call 85; (with_reducible refine (spec_l1Ok.calls k _ _ l1 false _ ?side1 ?side2 A7.out).mono ?_); (case side1 => repeat (first | exact HR1.out | (with_reducible refine Kd.C_alloc ?_ _) | (with_reducible refine Kd.C_drewN ?_ _) | (with_reducible refine Kd.C_drew ?_))); (case side2 => exact HC1.out); rintro e w' ⟨rfl, ⟨nd, rfl⟩⟩)); go_ret; exact ⟨by first | rfl | (simp; done) | (simp [*]; done), by repeat (first | exact Drawn0.refl _ | apply Drawn0.step)⟩
  ·
   rw [if_neg c6] at H; have c6b0 : ((l1.length : Int) == 0) = false := beq_eq_false_iff_ne.mpr c6; have c6b1 : ((l1.length : Int) != 0) = true := bne_iff_ne.mpr c6; have c6b2 : ¬ (l1 = []) := fun h_ => c6 (by rw [h_]; rfl); obtain rfl := Option.some.inj H; go_enter Try.func83, Try.ntmps83; go_wp2; go_ret; exact ⟨by first | rfl | (simp; done) | (simp [*]; done), by repeat (first | exact Drawn0.refl _ | apply Drawn0.step)⟩
end Go.Proofs.Ytkhmopmfbocokaa.T
namespace Go.Proofs.Ytkhmopmfbocokaa.T
open Go.RowKit Go.Proofs.YtkhmopmfbocokaaW.PrintWords Go.Proofs.YtkhmopmfbocokaaW.PrintLast Go.Proofs.YtkhmopmfbocokaaW.PrintMore
attribute [local go_sem] max2_int max_two
set_option linter.unusedVariables false
set_option linter.unusedSimpArgs false
def spec_RecordValid.f (k : Nat) (a0_0 : Int) (a0_1 : Int) (a0_2 : Bool) (l0_3 : List Int) (a0_4 : Bool) (l0_5 : List Int) : Option (Bool) := (spec_l6In.f a0_0 0 99999).bind fun t306 => (if t306 = true then ((spec_l6In.f a0_1 0 99999).bind fun t307 => (if t307 = true then ((spec_l3Part.f k a0_2 l0_3).bind fun t308 => (if t308 = true then ((spec_l3Part.f k a0_4 l0_5).bind fun t309 => (some t309)) else (some false))) else (some false))) else (some false))
set_option maxHeartbeats 8000000 in
set_option maxRecDepth 100000 in
theorem spec_RecordValid.calls (k : Nat) (a0_0 : Int) (a0_1 : Int) (a0_2 : Bool) (A0_3 : Option Addr) (c0_3 : Nat) (l0_3 : List Int) (a0_4 : Bool) (A0_5 : Option Addr) (c0_5 : Nat) (l0_5 : List Int) (r : Bool) (w : World) (hr0_3 : Kd.C (Kd.int .i64) w A0_3 l0_3.length l0_3) (hc0_3 : l0_3.length ≤ c0_3) (hr0_5 : Kd.C (Kd.int .i64) w A0_5 l0_5.length l0_5) (hc0_5 : l0_5.length ≤ c0_5) (h : spec_RecordValid.f k a0_0 a0_1 a0_2 l0_3 a0_4 l0_5 = some r) :
  Calls Try.prog 78 #[.agg #[.int .i64 a0_0, .int .i64 a0_1, .bool a0_2, .slice A0_3 l0_3.length c0_3, .bool a0_4, .slice A0_5 l0_5.length c0_5]] w fun e w' => e = .returned (.bool r) ∧ Below w.heap.size w w' := by
 have hu79 := Try.underlying79; have HR0_3 := zzm hr0_3; have HC0_3 := zzm hc0_3; clear hr0_3 hc0_3; have HR0_5 := zzm hr0_5; have HC0_5 := zzm hc0_5; clear hr0_5 hc0_5; have HB := zzm (Below.refl w.heap.size w); have H : ((spec_l6In.f a0_0 0 99999).bind fun t306 => (if t306 = true then ((spec_l6In.f a0_1 0 99999).bind fun t307 => (if t307 = true then ((spec_l3Part.f k a0_2 l0_3).bind fun t308 => (if t308 = true then ((spec_l3Part.f k a0_4 l0_5).bind fun t309 => (some t309)) else (some false))) else (some false))) else (some false))) = some r := h; clear h; replace H := Option.bind_eq_some_iff.mp H; obtain ⟨t306, A20, H⟩ := H; replace H : (if t306 = true then ((spec_l6In.f a0_1 0 99999).bind fun t307 => (if t307 = true then ((spec_l3Part.f k a0_2 l0_3).bind fun t308 => (if t308 = true then ((spec_l3Part.f k a0_4 l0_5).bind fun t309 => (some t309)) else (some false))) else (some false))) else (some false)) = some r := H; have A2 := zzm A20; clear A20; by_cases c3 : t306 = true
 ·
  subst c3; have H1 : ((spec_l6In.f a0_1 0 99999).bind fun t307 => (if t307 = true then ((spec_l3Part.f k a0_2 l0_3).bind fun t308 => (if t308 = true then ((spec_l3Part.f k a0_4 l0_5).bind fun t309 => (some t309)) else (some false))) else (some false))) = some r := by rw [if_pos rfl] at H; exact H
  clear H; have H := H1; clear H1; replace H := Option.bind_eq_some_iff.mp H; obtain ⟨t307, A40, H⟩ := H; replace H : (if t307 = true then ((spec_l3Part.f k a0_2 l0_3).bind fun t308 => (if t308 = true then ((spec_l3Part.f k a0_4 l0_5).bind fun t309 => (some t309)) else (some false))) else (some false)) = some r := H; have A4 := zzm A40; clear A40; by_cases c5 : t307 = true
  ·
   subst c5; have H1 : ((spec_l3Part.f k a0_2 l0_3).bind fun t308 => (if t308 = true then ((spec_l3Part.f k a0_4 l0_5).bind fun t309 => (some t309)) else (some false))) = some r := by rw [if_pos rfl] at H; exact H
   clear H; have H := H1; clear H1; replace H := Option.bind_eq_some_iff.mp H; obtain ⟨t308, A60, H⟩ := H; replace H : (if t308 = true then ((spec_l3Part.f k a0_4 l0_5).bind fun t309 => (some t309)) else (some false)) = some r := H; have A6 := zzm A60; clear A60; by_cases c7 : t308 = true
   ·
    subst c7; have H1 : ((spec_l3Part.f k a0_4 l0_5).bind fun t309 => (some t309)) = some r := by rw [if_pos rfl] at H; exact H
    clear H; have H := H1; clear H1; replace H := Option.bind_eq_some_iff.mp H; obtain ⟨t309, A80, H⟩ := H; replace H : (some t309) = some r := H; have A8 := zzm A80; clear A80; obtain rfl := Option.some.inj H; go_enter Try.func78, Try.ntmps78; go_wp2_with (first | ((with_reducible refine gate_dst (N := 1) rfl ?_); refine box_event ?hg (N := 1) ?hd (cs := #[.int .i64 a0_0, .int .i64 a0_1, .bool a0_2, .slice A0_3 l0_3.length c0_3, .bool a0_4, .slice A0_5 l0_5.length c0_5]) (t := 79) ?hr ?_; (case hd => rfl); (case hg => rfl); (case hr => first | (go_simp; done) | (go_simp; rfl)); intro gb305 hg w9 hbox hb; have n0_ := zzm (zzp (by repeat (first | (with_reducible first | exact HB.out | apply zza | apply zzb | apply zzc) | exact HB.out)) hb); have n1_ := zzm (hbox); have n2_ := zzm ((by rw [hg]; exact (zzo (by repeat (first | (with_reducible first | exact HB.out | apply zza | apply zzb | apply zzc) | exact HB.out))) : w.heap.size ≤ gb305)); have n3_ := zzm ((by rw [hg]; exact (zzo (by repeat (first | (with_reducible first | exact HB.out | apply zza | apply zzb | apply zzc) | exact HB.out))) : w.heap.size ≤ gb305)); clear HB; have HB := n0_; have BK305 := n1_; have GW305 := n2_; have GE305 := n3_; clear n0_ n1_ n2_ n3_ hb hbox hg; obtain ⟨hcz10_0, hcz10_1, hcz10_2, hcz10_3, hcz10_4, hcz10_5, hfz10_0, hfz10_1, hfz10_2, hfz10_3, hfz10_4, hfz10_5⟩ := zzc6 BK305.out) | ((with_reducible refine gate_callee (f := 53) rfl ?_); refine goesL_ (some 5) rfl rfl Try.func53 (by kernel_rfl) rfl #[.int .i64 a0_0, .int .i64 0, .int .i64 99999] rfl (by (try simp only [List.map_toArray, List.map_cons, List.map_nil]); first | done | rfl | (simp only [List.length_drop, List.length_take]; rfl)) ?_; (with_reducible refine (spec_l6In.calls a0_0 0 99999 true _ A2.out).mono ?_); rintro e w' ⟨rfl, ⟨nd, rfl⟩⟩; refine ⟨_, rfl, ?_⟩) | (go_at_call 53; (with_reducible refine (spec_l6In.calls a0_1 0 99999 true _ A4.out).mono ?_); rintro e w' ⟨rfl, ⟨nd, rfl⟩⟩) | (go_at_call 83; (with_reducible refine (spec_l3Part.calls k a0_2 _ _ l0_3 true _ ?side1 ?side2 A6.out).mono ?_); (case side1 => repeat (first | exact (Kd.C_below HR0_3.out (by repeat (first | (with_reducible first | exact HB.out | apply zza | apply zzb | apply zzc | refine zzd ?_ GE305.out) | exact HB.out))) | (with_reducible refine Kd.C_alloc ?_ _) | (with_reducible refine Kd.C_drewN ?_ _) | (with_reducible refine Kd.C_drew ?_))); (case side2 => exact HC0_3.out); rintro e w' ⟨rfl, ⟨nd, rfl⟩⟩) | (go_at_call 83; (with_reducible refine (spec_l3Part.calls k a0_4 _ _ l0_5 t309 _ ?side1 ?side2 A8.out).mono ?_); (case side1 => repeat (first | exact (Kd.C_below HR0_5.out (by repeat (first | (with_reducible first | exact HB.out | apply zza | apply zzb | apply zzc | refine zzd ?_ GE305.out) | exact HB.out))) | (with_reducible refine Kd.C_alloc ?_ _) | (with_reducible refine Kd.C_drewN ?_ _) | (with_reducible refine Kd.C_drew ?_))); (case side2 => exact HC0_5.out); rintro e w' ⟨rfl, ⟨nd, rfl⟩⟩)); go_ret; exact ⟨by first | rfl | (simp [errW_none, errW_some] <;> rfl) | (simp [*, errW_none, errW_some] <;> rfl), by repeat (first | (with_reducible first | exact HB.out | apply zza | apply zzb | apply zzc | refine zzd ?_ GE305.out) | exact HB.out)⟩
   ·
    replace c7 := Bool.eq_false_iff.mpr c7; subst c7; have H1 : (some false) = some r := by rw [if_neg (show ¬ (false = true) by decide)] at H; exact H
    clear H; have H := H1; clear H1; obtain rfl := Option.some.inj H; go_enter Try.func78, Try.ntmps78; go_wp2_with (first | ((with_reducible refine gate_dst (N := 1) rfl ?_); refine box_event ?hg (N := 1) ?hd (cs := #[.int .i64 a0_0, .int .i64 a0_1, .bool a0_2, .slice A0_3 l0_3.length c0_3, .bool a0_4, .slice A0_5 l0_5.length c0_5]) (t := 79) ?hr ?_; (case hd => rfl); (case hg => rfl); (case hr => first | (go_simp; done) | (go_simp; rfl)); intro gb305 hg w11 hbox hb; have n0_ := zzm (zzp (by repeat (first | (with_reducible first | exact HB.out | apply zza | apply zzb | apply zzc) | exact HB.out)) hb); have n1_ := zzm (hbox); have n2_ := zzm ((by rw [hg]; exact (zzo (by repeat (first | (with_reducible first | exact HB.out | apply zza | apply zzb | apply zzc) | exact HB.out))) : w.heap.size ≤ gb305)); have n3_ := zzm ((by rw [hg]; exact (zzo (by repeat (first | (with_reducible first | exact HB.out | apply zza | apply zzb | apply zzc) | exact HB.out))) : w.heap.size ≤ gb305)); clear HB; have HB := n0_; have BK305 := n1_; have GW305 := n2_; have GE305 := n3_; clear n0_ n1_ n2_ n3_ hb hbox hg; obtain ⟨hcz12_0, hcz12_1, hcz12_2, hcz12_3, hcz12_4, hcz12_5, hfz12_0, hfz12_1, hfz12_2, hfz12_3, hfz12_4, hfz12_5⟩ := zzc6 BK305.out) | ((with_reducible refine gate_callee (f := 53) rfl ?_); refine goesL_ (some 5) rfl rfl Try.func53 (by kernel_rfl) rfl #[.int .i64 a0_0, .int .i64 0, .int .i64 99999] rfl (by (try simp only [List.map_toArray, List.map_cons, List.map_nil]); first | done | rfl | (simp only [List.length_drop, List.length_take]; rfl)) ?_; (with_reducible refine (spec_l6In.calls a0_0 0 99999 true _ A2.out).mono ?_); rintro e w' ⟨rfl, ⟨nd, rfl⟩⟩; refine ⟨_, rfl, ?_⟩) | (go_at_call 53; (with_reducible refine (spec_l6In.calls a0_1 0 99999 true _ A4.out).mono ?_); rintro e w' ⟨rfl, ⟨nd, rfl⟩⟩) | (go_at_call 83; (with_reducible refine (spec_l3Part.calls k a0_2 _ _ l0_3 false _ ?side1 ?side2 A6.out).mono ?_); (case side1 => repeat (first | exact (Kd.C_below HR0_3.out (by repeat (first | (with_reducible first | exact HB.out | apply zza | apply zzb | apply zzc | refine zzd ?_ GE305.out) | exact HB.out))) | (with_reducible refine Kd.C_alloc ?_ _) | (with_reducible refine Kd.C_drewN ?_ _) | (with_reducible refine Kd.C_drew ?_))); (case side2 => exact HC0_3.out); rintro e w' ⟨rfl, ⟨nd, rfl⟩⟩)); go_ret; exact ⟨by first | rfl | (simp [errW_none, errW_some] <;> rfl) | (simp [*, errW_none, errW_some] <;> rfl), by repeat (first | (with_reducible first | exact HB.out | apply zza | apply zzb | apply zzc | refine zzd ?_ GE305.out) | exact HB.out)⟩
  ·
   replace c5 := Bool.eq_false_iff.mpr c5; subst c5; have H1 : (some false) = some r := by rw [if_neg (show ¬ (false = true) by decide)] at H; exact H
   clear H; have H := H1; clear H1; obtain rfl := Option.some.inj H; go_enter Try.func78, Try.ntmps78; go_wp2_with (first | ((with_reducible refine gate_dst (N := 1) rfl ?_); refine box_event ?hg (N := 1) ?hd (cs := #[.int .i64 a0_0, .int .i64 a0_1, .bool a0_2, .slice A0_3 l0_3.length c0_3, .bool a0_4, .slice A0_5 l0_5.length c0_5]) (t := 79) ?hr ?_; (case hd => rfl); (case hg => rfl); (case hr => first | (go_simp; done) | (go_simp; rfl)); intro gb305 hg w13 hbox hb; have n0_ := zzm (zzp (by repeat (first | (with_reducible first | exact HB.out | apply zza | apply zzb | apply zzc) | exact HB.out)) hb); have n1_ := zzm (hbox); have n2_ := zzm ((by rw [hg]; exact (zzo (by repeat (first | (with_reducible first | exact HB.out | apply zza | apply zzb | apply zzc) | exact HB.out))) : w.heap.size ≤ gb305)); have n3_ := zzm ((by rw [hg]; exact (zzo (by repeat (first | (with_reducible first | exact HB.out | apply zza | apply zzb | apply zzc) | exact HB.out))) : w.heap.size ≤ gb305)); clear HB; have HB := n0_; have BK305 := n1_; have GW305 := n2_; have GE305 := n3_; clear n0_ n1_ n2_ n3_ hb hbox hg; obtain ⟨hcz14_0, hcz14_1, hcz14_2, hcz14_3, hcz14_4, hcz14_5, hfz14_0, hfz14_1, hfz14_2, hfz14_3, hfz14_4, hfz14_5⟩ := zzc6 BK305.out) | ((with_reducible refine gate_callee (f := 53) rfl ?_); refine goesL_ (some 5) rfl rfl Try.func53 (by kernel_rfl) rfl #[.int .i64 a0_0, .int .i64 0, .int .i64 99999] rfl (by (try simp only [List.map_toArray, List.map_cons, List.map_nil]); first | done | rfl | (simp only [List.length_drop, List.length_take]; rfl)) ?_; (with_reducible refine (spec_l6In.calls a0_0 0 99999 true _ A2.out).mono ?_); rintro e w' ⟨rfl, ⟨nd, rfl⟩⟩; refine ⟨_, rfl, ?_⟩) | (go_at_call 53; (with_reducible refine (spec_l6In.calls a0_1 0 99999 false _ A4.out).mono ?_); rintro e w' ⟨rfl, ⟨nd, rfl⟩⟩)); go_ret; exact ⟨by first | rfl | (simp [errW_none, errW_some] <;> rfl) | (simp [*, errW_none, errW_some] <;> rfl), by repeat (first | (with_reducible first | exact HB.out | apply zza | apply zzb | apply zzc | refine zzd ?_ GE305.out) | exact HB.out)⟩
 ·
  replace c3 := Bool.eq_false_iff.mpr c3; subst c3; have H1 : (some false) = some r := by rw [if_neg (show ¬ (false = true) by decide)] at H; exact H
  clear H; have H := H1; clear H1; obtain rfl := Option.some.inj H; go_enter Try.func78, Try.ntmps78; go_wp2_with (first | ((with_reducible refine gate_dst (N := 1) rfl ?_); refine box_event ?hg (N := 1) ?hd (cs := #[.int .i64 a0_0, .int .i64 a0_1, .bool a0_2, .slice A0_3 l0_3.length c0_3, .bool a0_4, .slice A0_5 l0_5.length c0_5]) (t := 79) ?hr ?_; (case hd => rfl); (case hg => rfl); (case hr => first | (go_simp; done) | (go_simp; rfl)); intro gb305 hg w15 hbox hb; have n0_ := zzm (zzp (by repeat (first | (with_reducible first | exact HB.out | apply zza | apply zzb | apply zzc) | exact HB.out)) hb); have n1_ := zzm (hbox); have n2_ := zzm ((by rw [hg]; exact (zzo (by repeat (first | (with_reducible first | exact HB.out | apply zza | apply zzb | apply zzc) | exact HB.out))) : w.heap.size ≤ gb305)); have n3_ := zzm ((by rw [hg]; exact (zzo (by repeat (first | (with_reducible first | exact HB.out | apply zza | apply zzb | apply zzc) | exact HB.out))) : w.heap.size ≤ gb305)); clear HB; have HB := n0_; have BK305 := n1_; have GW305 := n2_; have GE305 := n3_; clear n0_ n1_ n2_ n3_ hb hbox hg; obtain ⟨hcz16_0, hcz16_1, hcz16_2, hcz16_3, hcz16_4, hcz16_5, hfz16_0, hfz16_1, hfz16_2, hfz16_3, hfz16_4, hfz16_5⟩ := zzc6 BK305.out) | ((with_reducible refine gate_callee (f := 53) rfl ?_); refine goesL_ (some 5) rfl rfl Try.func53 (by kernel_rfl) rfl #[.int .i64 a0_0, .int .i64 0, .int .i64 99999] rfl (by (try simp only [List.map_toArray, List.map_cons, List.map_nil]); first | done | rfl | (simp only [List.length_drop, List.length_take]; rfl)) ?_; (with_reducible refine (spec_l6In.calls a0_0 0 99999 false _ A2.out).mono ?_); rintro e w' ⟨rfl, ⟨nd, rfl⟩⟩; refine ⟨_, rfl, ?_⟩)); go_ret; exact ⟨by first | rfl | (simp [errW_none, errW_some] <;> rfl) | (simp [*, errW_none, errW_some] <;> rfl), by repeat (first | (with_reducible first | exact HB.out | apply zza | apply zzb | apply zzc | refine zzd ?_ GE305.out) | exact HB.out)⟩
end Go.Proofs.Ytkhmopmfbocokaa.T
