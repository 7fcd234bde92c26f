/- FnStable, part 6 of 6: merged by wip/tools/pack2.py out of the texts that the row reaches; the pure statement is the session's own. -/
import Derived.Test.YticpnjhkdfdkkaaRows
import Derived.WalkKit
import Derived.ProofKit
import Derived.OpenShut
import Derived.ShutString
import Derived.ChangeOld
import Derived.Below
import Derived.SizedLaws
import Derived.Test.YticpnjhkdfdkkaaFnStableK4
namespace Go.Proofs.Yticpnjhkdfdkkaa.T
open Go.RowKit Go.Proofs.YticpnjhkdfdkkaaW.PrintWords Go.Proofs.YticpnjhkdfdkkaaW.PrintLast Go.Proofs.YticpnjhkdfdkkaaW.PrintMore
attribute [local go_sem] max2_int max_two
set_option linter.unusedVariables false
set_option linter.unusedSimpArgs false
mutual
def laws_FnStable.j0 : Nat → List (S27) → Int → Int → Bool → Option (Bool)
 | 0, _, _, _, _ => none
 | k + 1, x3, x4, x5, x23 => if x23 = true then (some (x4 == x5)) else ((impl_ReadEnd.f k x3).bind fun t323 => (if x4 = t323 then (some true) else (laws_FnStable.l0 k x3 x4 0)))
def laws_FnStable.l0 : Nat → List (S27) → Int → Int → Option (Bool)
 | 0, _, _, _ => none
 | k + 1, x3, x4, x6 => if x6 < (x3.length : Int) then (if 0 ≤ x6 then (if 0 < (((rd_T27 x3 x6).f5).length : Int) then (if ((rd_T34 ((rd_T27 x3 x6).f5) 0).f0) = x4 then (laws_FnStable.l1 k x3 x6 x6) else (laws_FnStable.l0 k x3 x4 (wrap64 (x6 + 1)))) else (none)) else (none)) else (some false)
def laws_FnStable.l1 : Nat → List (S27) → Int → Int → Option (Bool)
 | 0, _, _, _ => none
 | k + 1, x3, x6, x7 => if x7 < (x3.length : Int) then (if 0 ≤ x7 then (if (rd_T27 x3 x7).f1 = true then (if 0 ≤ x6 then (if x6 < (x3.length : Int) then (if ((rd_T27 x3 x7).f2) = ((rd_T27 x3 x6).f2) then (some false) else (laws_FnStable.l1 k x3 x6 (wrap64 (x7 + 1)))) else (none)) else (none)) else (laws_FnStable.l1 k x3 x6 (wrap64 (x7 + 1)))) else (none)) else (if 0 ≤ x6 then (if x6 < (x3.length : Int) then (some (((rd_T27 x3 x6).f2) != 255)) else (none)) else (none))
end
def laws_FnStable.f (k : Nat) (l0 : List Int) : Option (Bool) := if (l0.length : Int) > 1048576 then (some true) else ((spec_DrawStableEnd.f k l0).bind fun t318 => ((impl_StableEnd.f k t318).bind fun t321 => ((spec_StableEnd.f k t318).bind fun t322 => (if t321 = t322 then (laws_FnStable.j0 k t318 t321 t322 (decide (t322 < 0))) else (laws_FnStable.j0 k t318 t321 t322 true)))))
set_option maxHeartbeats 8000000 in
set_option maxRecDepth 100000 in
theorem laws_FnStable.calls (k : Nat) (A0 : Option Addr) (c0 : Nat) (l0 : List Int) (r : Bool) (w : World) (hr0 : Kd.C (Kd.int .u8) w A0 l0.length l0) (hc0 : l0.length ≤ c0) (h : laws_FnStable.f k l0 = some r) :
  Calls Try.prog 6 #[.slice A0 l0.length c0] w fun e w' => e = .returned (.bool r) ∧ Below w.heap.size w w' := by
 have HR0 := zzm hr0
 have HC0 := zzm hc0
 clear hr0 hc0
 have HB := zzm (Below.refl w.heap.size w)
 have H : (if (l0.length : Int) > 1048576 then (some true) else ((spec_DrawStableEnd.f k l0).bind fun t318 => ((impl_StableEnd.f k t318).bind fun t321 => ((spec_StableEnd.f k t318).bind fun t322 => (if t321 = t322 then (laws_FnStable.j0 k t318 t321 t322 (decide (t322 < 0))) else (laws_FnStable.j0 k t318 t321 t322 true)))))) = some r := h
 clear h
 by_cases c2 : (l0.length : Int) > 1048576
 ·
  rw [if_pos c2] at H
  have c2b0 : decide (1048576 < (l0.length : Int)) = true := decide_eq_true c2
  have c2b1 : decide (1048576 < l0.length) = true := decide_eq_true (by omega)
  clear c2
  obtain rfl := Option.some.inj H
  go_enter Try.func6, Try.ntmps6
  go_wp2
  repeat (go_quiet (fail); try go_wp2)
  go_ret
  exact ⟨by first | rfl | (simp [errW_none, errW_some] <;> rfl) | (simp [*, errW_none, errW_some] <;> rfl), by repeat (first | (with_reducible first | exact HB.out | apply zza | apply zzb | apply zzc) | exact HB.out)⟩
 ·
  rw [if_neg c2] at H
  have c2b0 : decide (1048576 < (l0.length : Int)) = false := decide_eq_false c2
  have c2b1 : decide (1048576 < l0.length) = false := decide_eq_false (by omega)
  clear c2
  replace H := Option.bind_eq_some_iff.mp H
  obtain ⟨t318, A30, H⟩ := H
  replace H : ((impl_StableEnd.f k t318).bind fun t321 => ((spec_StableEnd.f k t318).bind fun t322 => (if t321 = t322 then (laws_FnStable.j0 k t318 t321 t322 (decide (t322 < 0))) else (laws_FnStable.j0 k t318 t321 t322 true)))) = some r := H
  have A3 := zzm A30
  clear A30
  replace H := Option.bind_eq_some_iff.mp H
  obtain ⟨t321, A40, H⟩ := H
  replace H : ((spec_StableEnd.f k t318).bind fun t322 => (if t321 = t322 then (laws_FnStable.j0 k t318 t321 t322 (decide (t322 < 0))) else (laws_FnStable.j0 k t318 t321 t322 true))) = some r := H
  have A4 := zzm A40
  clear A40
  replace H := Option.bind_eq_some_iff.mp H
  obtain ⟨t322, A50, H⟩ := H
  replace H : (if t321 = t322 then (laws_FnStable.j0 k t318 t321 t322 (decide (t322 < 0))) else (laws_FnStable.j0 k t318 t321 t322 true)) = some r := H
  have A5 := zzm A50
  clear A50
  have HC6 := zzm H
  clear H
  go_enter Try.func6, Try.ntmps6
  go_upto_region 6 with (first | (go_at_call 27; (with_reducible refine (spec_DrawStableEnd.calls k _ _ l0 t318 _ ?side1 ?side2 A3.out).mono ?_); (case side1 => repeat (first | exact HR0.out | (with_reducible refine Kd.C_alloc ?_ _) | (with_reducible refine Kd.C_drewN ?_ _) | (with_reducible refine Kd.C_drew ?_))); (case side2 => exact HC0.out); rintro e w7 ⟨v319, rfl, ho0, hb⟩; have n0_ := zzm (Kd.N_lower (Kd.N_mono (ok' := fun k_ => True) ho0 (fun k_ hk_ => trivial)) (zzo (by repeat (first | (with_reducible first | exact HB.out | apply zza | apply zzb | apply zzc) | exact HB.out)))); have n1_ := zzm (zzp (by repeat (first | (with_reducible first | exact HB.out | apply zza | apply zzb | apply zzc) | exact HB.out)) hb); clear HB; have HO320 := n0_; have HB := n1_; clear n0_ n1_; (try clear hb); (try clear hb2); (try clear hk); (try clear hi); (try clear ho0); obtain ⟨Ao8, co8, eo8⟩ := Kd.N_slice HO320.out; subst eo8) | (go_at_call 28; (with_reducible refine (impl_StableEnd.calls k _ _ t318 t321 _ ?side1 ?side2 A4.out).mono ?_); (case side1 => repeat (first | exact (Kd.N_reads' HO320.out).2.2 | (with_reducible refine Kd.C_alloc ?_ _) | (with_reducible refine Kd.C_drewN ?_ _) | (with_reducible refine Kd.C_drew ?_))); (case side2 => exact (Kd.N_reads' HO320.out).2.1); rintro e w9 ⟨rfl, hb⟩; have n0_ := zzm (Kd.N_below (by (with_reducible repeat (first | apply Kd.N_alloc | apply Kd.N_drewN | apply Kd.N_drew)); exact HO320.out) hb); have n1_ := zzm (zzp (by repeat (first | (with_reducible first | exact HB.out | apply zza | apply zzb | apply zzc) | exact HB.out)) hb); clear HO320 HB; have HO320 := n0_; have HB := n1_; clear n0_ n1_; (try clear hb); (try clear hb2); (try clear hk); (try clear hi)) | (go_at_call 29; (with_reducible refine (spec_StableEnd.calls k _ _ t318 t322 _ ?side1 ?side2 A5.out).mono ?_); (case side1 => repeat (first | exact (Kd.N_reads' HO320.out).2.2 | (with_reducible refine Kd.C_alloc ?_ _) | (with_reducible refine Kd.C_drewN ?_ _) | (with_reducible refine Kd.C_drew ?_))); (case side2 => exact (Kd.N_reads' HO320.out).2.1); rintro e w10 ⟨rfl, hb⟩; have n0_ := zzm (Kd.N_below (by (with_reducible repeat (first | apply Kd.N_alloc | apply Kd.N_drewN | apply Kd.N_drew)); exact HO320.out) hb); have n1_ := zzm (zzp (by repeat (first | (with_reducible first | exact HB.out | apply zza | apply zzb | apply zzc) | exact HB.out)) hb); clear HO320 HB; have HO320 := n0_; have HB := n1_; clear n0_ n1_; (try clear hb); (try clear hb2); (try clear hk); (try clear hi)))
  repeat (go_quiet (first | (go_at_call 27; (with_reducible refine (spec_DrawStableEnd.calls k _ _ l0 t318 _ ?side1 ?side2 A3.out).mono ?_); (case side1 => repeat (first | exact HR0.out | (with_reducible refine Kd.C_alloc ?_ _) | (with_reducible refine Kd.C_drewN ?_ _) | (with_reducible refine Kd.C_drew ?_))); (case side2 => exact HC0.out); rintro e w7 ⟨v319, rfl, ho0, hb⟩; have n0_ := zzm (Kd.N_lower (Kd.N_mono (ok' := fun k_ => True) ho0 (fun k_ hk_ => trivial)) (zzo (by repeat (first | (with_reducible first | exact HB.out | apply zza | apply zzb | apply zzc) | exact HB.out)))); have n1_ := zzm (zzp (by repeat (first | (with_reducible first | exact HB.out | apply zza | apply zzb | apply zzc) | exact HB.out)) hb); clear HB; have HO320 := n0_; have HB := n1_; clear n0_ n1_; (try clear hb); (try clear hb2); (try clear hk); (try clear hi); (try clear ho0); obtain ⟨Ao8, co8, eo8⟩ := Kd.N_slice HO320.out; subst eo8) | (go_at_call 28; (with_reducible refine (impl_StableEnd.calls k _ _ t318 t321 _ ?side1 ?side2 A4.out).mono ?_); (case side1 => repeat (first | exact (Kd.N_reads' HO320.out).2.2 | (with_reducible refine Kd.C_alloc ?_ _) | (with_reducible refine Kd.C_drewN ?_ _) | (with_reducible refine Kd.C_drew ?_))); (case side2 => exact (Kd.N_reads' HO320.out).2.1); rintro e w9 ⟨rfl, hb⟩; have n0_ := zzm (Kd.N_below (by (with_reducible repeat (first | apply Kd.N_alloc | apply Kd.N_drewN | apply Kd.N_drew)); exact HO320.out) hb); have n1_ := zzm (zzp (by repeat (first | (with_reducible first | exact HB.out | apply zza | apply zzb | apply zzc) | exact HB.out)) hb); clear HO320 HB; have HO320 := n0_; have HB := n1_; clear n0_ n1_; (try clear hb); (try clear hb2); (try clear hk); (try clear hi)) | (go_at_call 29; (with_reducible refine (spec_StableEnd.calls k _ _ t318 t322 _ ?side1 ?side2 A5.out).mono ?_); (case side1 => repeat (first | exact (Kd.N_reads' HO320.out).2.2 | (with_reducible refine Kd.C_alloc ?_ _) | (with_reducible refine Kd.C_drewN ?_ _) | (with_reducible refine Kd.C_drew ?_))); (case side2 => exact (Kd.N_reads' HO320.out).2.1); rintro e w10 ⟨rfl, hb⟩; have n0_ := zzm (Kd.N_below (by (with_reducible repeat (first | apply Kd.N_alloc | apply Kd.N_drewN | apply Kd.N_drew)); exact HO320.out) hb); have n1_ := zzm (zzp (by repeat (first | (with_reducible first | exact HB.out | apply zza | apply zzb | apply zzc) | exact HB.out)) hb); clear HO320 HB; have HO320 := n0_; have HB := n1_; clear n0_ n1_; (try clear hb); (try clear hb2); (try clear hk); (try clear hi))); go_upto_region 6 with (first | (go_at_call 27; (with_reducible refine (spec_DrawStableEnd.calls k _ _ l0 t318 _ ?side1 ?side2 A3.out).mono ?_); (case side1 => repeat (first | exact HR0.out | (with_reducible refine Kd.C_alloc ?_ _) | (with_reducible refine Kd.C_drewN ?_ _) | (with_reducible refine Kd.C_drew ?_))); (case side2 => exact HC0.out); rintro e w7 ⟨v319, rfl, ho0, hb⟩; have n0_ := zzm (Kd.N_lower (Kd.N_mono (ok' := fun k_ => True) ho0 (fun k_ hk_ => trivial)) (zzo (by repeat (first | (with_reducible first | exact HB.out | apply zza | apply zzb | apply zzc) | exact HB.out)))); have n1_ := zzm (zzp (by repeat (first | (with_reducible first | exact HB.out | apply zza | apply zzb | apply zzc) | exact HB.out)) hb); clear HB; have HO320 := n0_; have HB := n1_; clear n0_ n1_; (try clear hb); (try clear hb2); (try clear hk); (try clear hi); (try clear ho0); obtain ⟨Ao8, co8, eo8⟩ := Kd.N_slice HO320.out; subst eo8) | (go_at_call 28; (with_reducible refine (impl_StableEnd.calls k _ _ t318 t321 _ ?side1 ?side2 A4.out).mono ?_); (case side1 => repeat (first | exact (Kd.N_reads' HO320.out).2.2 | (with_reducible refine Kd.C_alloc ?_ _) | (with_reducible refine Kd.C_drewN ?_ _) | (with_reducible refine Kd.C_drew ?_))); (case side2 => exact (Kd.N_reads' HO320.out).2.1); rintro e w9 ⟨rfl, hb⟩; have n0_ := zzm (Kd.N_below (by (with_reducible repeat (first | apply Kd.N_alloc | apply Kd.N_drewN | apply Kd.N_drew)); exact HO320.out) hb); have n1_ := zzm (zzp (by repeat (first | (with_reducible first | exact HB.out | apply zza | apply zzb | apply zzc) | exact HB.out)) hb); clear HO320 HB; have HO320 := n0_; have HB := n1_; clear n0_ n1_; (try clear hb); (try clear hb2); (try clear hk); (try clear hi)) | (go_at_call 29; (with_reducible refine (spec_StableEnd.calls k _ _ t318 t322 _ ?side1 ?side2 A5.out).mono ?_); (case side1 => repeat (first | exact (Kd.N_reads' HO320.out).2.2 | (with_reducible refine Kd.C_alloc ?_ _) | (with_reducible refine Kd.C_drewN ?_ _) | (with_reducible refine Kd.C_drew ?_))); (case side2 => exact (Kd.N_reads' HO320.out).2.1); rintro e w10 ⟨rfl, hb⟩; have n0_ := zzm (Kd.N_below (by (with_reducible repeat (first | apply Kd.N_alloc | apply Kd.N_drewN | apply Kd.N_drew)); exact HO320.out) hb); have n1_ := zzm (zzp (by repeat (first | (with_reducible first | exact HB.out | apply zza | apply zzb | apply zzc) | exact HB.out)) hb); clear HO320 HB; have HO320 := n0_; have HB := n1_; clear n0_ n1_; (try clear hb); (try clear hb2); (try clear hk); (try clear hi))))
  (try simp only [Act.put, zzq, zzr, zzs])
  go_cut [23] (fun v23 wc => ∃ (kq : Nat) (x23_5 : Bool), v23 = .bool x23_5 ∧ Aside0 (laws_FnStable.j0 kq t318 t321 t322 x23_5 = some r) ∧ Aside0 (kq ≤ k) ∧ Aside0 (Kd.N k27 27 wc w.heap.size (fun _ => True) (.slice Ao8 t318.length co8) t318) ∧ Aside0 (Below w.heap.size w wc))
  case first =>
   have H := HC6.out
   clear HC6
   by_cases c11 : t321 = t322
   ·
    rw [if_pos c11] at H
    have c11b0 : (t321 == t322) = true := beq_iff_eq.mpr c11
    have c11b1 : (t321 != t322) = false := bne_eq_false_iff_eq.mpr c11
    clear c11
    (first | rw [c11b0] | (simp only [i64_w, i32_w]; rw [c11b0]) | skip)
    have H' := zzm H
    clear H
    go_wp2
    repeat (go_quiet (fail); try go_wp2)
    go_meet
    case rel => exact ⟨_, (decide (t322 < 0)), (by first | rfl | (simp; done) | (simp [*]; done)), H', ⟨by first | omega | exact Nat.le_refl _⟩, ⟨by (with_reducible repeat (first | apply Kd.N_alloc | apply Kd.N_drewN | apply Kd.N_drew)); exact HO320.out⟩, ⟨by repeat (first | (with_reducible first | exact HB.out | apply zza | apply zzb | apply zzc) | exact HB.out)⟩⟩
   ·
    rw [if_neg c11] at H
    have c11b0 : (t321 == t322) = false := beq_eq_false_iff_ne.mpr c11
    have c11b1 : (t321 != t322) = true := bne_iff_ne.mpr c11
    (first | rw [c11b0] | (simp only [i64_w, i32_w]; rw [c11b0]) | skip)
    have H' := zzm H
    clear H
    go_wp2
    repeat (go_quiet (fail); try go_wp2)
    go_meet
    case rel => exact ⟨_, (true), (by first | rfl | (simp; done) | (simp [*]; done)), H', ⟨by first | omega | exact Nat.le_refl _⟩, ⟨by (with_reducible repeat (first | apply Kd.N_alloc | apply Kd.N_drewN | apply Kd.N_drew)); exact HO320.out⟩, ⟨by repeat (first | (with_reducible first | exact HB.out | apply zza | apply zzb | apply zzc) | exact HB.out)⟩⟩
  case rest =>
   clear HC6
   try clear c1
   try clear c2
   try clear c2b0
   try clear c2b1
   try clear p2
   try clear c6
   try clear c11
   try clear c11b0
   try clear c11b1
   obtain ⟨kq, x23_5, rfl, HA, HJ5, HO_3, HB⟩ := hcut
   cases kq with
   | zero => exact absurd HA.out (by simp [laws_FnStable.j0])
   | succ kj5 =>
    have H := HA.out
    clear HA
    simp only [laws_FnStable.j0] at H
    by_cases c12 : x23_5 = true
    ·
     subst c12
     have H1 : (some (t321 == t322)) = some r := by rw [if_pos rfl] at H; exact H
     clear H
     have H := H1
     clear H1
     obtain rfl := Option.some.inj H
     go_wp2
     repeat (go_quiet (fail); try go_wp2)
     go_ret
     exact ⟨by first | rfl | (simp [errW_none, errW_some] <;> rfl) | (simp [*, errW_none, errW_some] <;> rfl), by repeat (first | (with_reducible first | exact HB.out | apply zza | apply zzb | apply zzc) | exact HB.out)⟩
    ·
     replace c12 := Bool.eq_false_iff.mpr c12
     subst c12
     have H1 : ((impl_ReadEnd.f kj5 t318).bind fun t323 => (if t321 = t323 then (some true) else (laws_FnStable.l0 kj5 t318 t321 0))) = some r := by rw [if_neg (show ¬ (false = true) by decide)] at H; exact H
     clear H
     have H := H1
     clear H1
     replace H := Option.bind_eq_some_iff.mp H
     obtain ⟨t323, A130, H⟩ := H
     replace H : (if t321 = t323 then (some true) else (laws_FnStable.l0 kj5 t318 t321 0)) = some r := H
     have A13 := zzm A130
     clear A130
     by_cases c14 : t321 = t323
     ·
      rw [if_pos c14] at H
      have c14b0 : (t321 == t323) = true := beq_iff_eq.mpr c14
      have c14b1 : (t321 != t323) = false := bne_eq_false_iff_eq.mpr c14
      clear c14
      obtain rfl := Option.some.inj H
      go_wp2_with (first | (go_at_call 30; (with_reducible refine (impl_ReadEnd.calls kj5 _ _ t318 t323 _ ?side1 ?side2 A13.out).mono ?_); (case side1 => repeat (first | exact (Kd.N_reads' HO_3.out).2.2 | (with_reducible refine Kd.C_alloc ?_ _) | (with_reducible refine Kd.C_drewN ?_ _) | (with_reducible refine Kd.C_drew ?_))); (case side2 => exact (Kd.N_reads' HO_3.out).2.1); rintro e w15 ⟨rfl, hb⟩; have n0_ := zzm (Kd.N_below (by (with_reducible repeat (first | apply Kd.N_alloc | apply Kd.N_drewN | apply Kd.N_drew)); exact HO_3.out) hb); have n1_ := zzm (zzp (by repeat (first | (with_reducible first | exact HB.out | apply zza | apply zzb | apply zzc) | exact HB.out)) hb); clear HO_3 HB; have HO_3 := n0_; have HB := n1_; clear n0_ n1_; (try clear hb); (try clear hb2); (try clear hk); (try clear hi)))
      repeat (go_quiet (first | (go_at_call 30; (with_reducible refine (impl_ReadEnd.calls kj5 _ _ t318 t323 _ ?side1 ?side2 A13.out).mono ?_); (case side1 => repeat (first | exact (Kd.N_reads' HO_3.out).2.2 | (with_reducible refine Kd.C_alloc ?_ _) | (with_reducible refine Kd.C_drewN ?_ _) | (with_reducible refine Kd.C_drew ?_))); (case side2 => exact (Kd.N_reads' HO_3.out).2.1); rintro e w15 ⟨rfl, hb⟩; have n0_ := zzm (Kd.N_below (by (with_reducible repeat (first | apply Kd.N_alloc | apply Kd.N_drewN | apply Kd.N_drew)); exact HO_3.out) hb); have n1_ := zzm (zzp (by repeat (first | (with_reducible first | exact HB.out | apply zza | apply zzb | apply zzc) | exact HB.out)) hb); clear HO_3 HB; have HO_3 := n0_; have HB := n1_; clear n0_ n1_; (try clear hb); (try clear hb2); (try clear hk); (try clear hi))); try go_wp2_with (first | (go_at_call 30; (with_reducible refine (impl_ReadEnd.calls kj5 _ _ t318 t323 _ ?side1 ?side2 A13.out).mono ?_); (case side1 => repeat (first | exact (Kd.N_reads' HO_3.out).2.2 | (with_reducible refine Kd.C_alloc ?_ _) | (with_reducible refine Kd.C_drewN ?_ _) | (with_reducible refine Kd.C_drew ?_))); (case side2 => exact (Kd.N_reads' HO_3.out).2.1); rintro e w15 ⟨rfl, hb⟩; have n0_ := zzm (Kd.N_below (by (with_reducible repeat (first | apply Kd.N_alloc | apply Kd.N_drewN | apply Kd.N_drew)); exact HO_3.out) hb); have n1_ := zzm (zzp (by repeat (first | (with_reducible first | exact HB.out | apply zza | apply zzb | apply zzc) | exact HB.out)) hb); clear HO_3 HB; have HO_3 := n0_; have HB := n1_; clear n0_ n1_; (try clear hb); (try clear hb2); (try clear hk); (try clear hi))))
      go_ret
      exact ⟨by first | rfl | (simp [errW_none, errW_some] <;> rfl) | (simp [*, errW_none, errW_some] <;> rfl), by repeat (first | (with_reducible first | exact HB.out | apply zza | apply zzb | apply zzc) | exact HB.out)⟩
     ·
      rw [if_neg c14] at H
      have c14b0 : (t321 == t323) = false := beq_eq_false_iff_ne.mpr c14
      have c14b1 : (t321 != t323) = true := bne_iff_ne.mpr c14
      have H' := zzm H
      clear H
      go_wp2_with (first | (go_at_call 30; (with_reducible refine (impl_ReadEnd.calls kj5 _ _ t318 t323 _ ?side1 ?side2 A13.out).mono ?_); (case side1 => repeat (first | exact (Kd.N_reads' HO_3.out).2.2 | (with_reducible refine Kd.C_alloc ?_ _) | (with_reducible refine Kd.C_drewN ?_ _) | (with_reducible refine Kd.C_drew ?_))); (case side2 => exact (Kd.N_reads' HO_3.out).2.1); rintro e w16 ⟨rfl, hb⟩; have n0_ := zzm (Kd.N_below (by (with_reducible repeat (first | apply Kd.N_alloc | apply Kd.N_drewN | apply Kd.N_drew)); exact HO_3.out) hb); have n1_ := zzm (zzp (by repeat (first | (with_reducible first | exact HB.out | apply zza | apply zzb | apply zzc) | exact HB.out)) hb); clear HO_3 HB; have HO_3 := n0_; have HB := n1_; clear n0_ n1_; (try clear hb); (try clear hb2); (try clear hk); (try clear hi)))
      repeat (go_quiet (first | (go_at_call 30; (with_reducible refine (impl_ReadEnd.calls kj5 _ _ t318 t323 _ ?side1 ?side2 A13.out).mono ?_); (case side1 => repeat (first | exact (Kd.N_reads' HO_3.out).2.2 | (with_reducible refine Kd.C_alloc ?_ _) | (with_reducible refine Kd.C_drewN ?_ _) | (with_reducible refine Kd.C_drew ?_))); (case side2 => exact (Kd.N_reads' HO_3.out).2.1); rintro e w16 ⟨rfl, hb⟩; have n0_ := zzm (Kd.N_below (by (with_reducible repeat (first | apply Kd.N_alloc | apply Kd.N_drewN | apply Kd.N_drew)); exact HO_3.out) hb); have n1_ := zzm (zzp (by repeat (first | (with_reducible first | exact HB.out | apply zza | apply zzb | apply zzc) | exact HB.out)) hb); clear HO_3 HB; have HO_3 := n0_; have HB := n1_; clear n0_ n1_; (try clear hb); (try clear hb2); (try clear hk); (try clear hi))); try go_wp2_with (first | (go_at_call 30; (with_reducible refine (impl_ReadEnd.calls kj5 _ _ t318 t323 _ ?side1 ?side2 A13.out).mono ?_); (case side1 => repeat (first | exact (Kd.N_reads' HO_3.out).2.2 | (with_reducible refine Kd.C_alloc ?_ _) | (with_reducible refine Kd.C_drewN ?_ _) | (with_reducible refine Kd.C_drew ?_))); (case side2 => exact (Kd.N_reads' HO_3.out).2.1); rintro e w16 ⟨rfl, hb⟩; have n0_ := zzm (Kd.N_below (by (with_reducible repeat (first | apply Kd.N_alloc | apply Kd.N_drewN | apply Kd.N_drew)); exact HO_3.out) hb); have n1_ := zzm (zzp (by repeat (first | (with_reducible first | exact HB.out | apply zza | apply zzb | apply zzc) | exact HB.out)) hb); clear HO_3 HB; have HO_3 := n0_; have HB := n1_; clear n0_ n1_; (try clear hb); (try clear hb2); (try clear hk); (try clear hi))))
      go_loopg [6] kj5 (fun kq v6 w' => ∃ (x6_2 : Int), v6 = .int .i64 x6_2 ∧ Aside0 (laws_FnStable.l0 kq t318 t321 x6_2 = some r) ∧ Aside0 (kq ≤ kj5) ∧ Aside0 (Kd.N k27 27 w' w.heap.size (fun _ => True) (.slice Ao8 t318.length co8) t318) ∧ Aside0 (Below w.heap.size w w'))
      case atStart => exact ⟨(0), (by first | rfl | (simp; done) | (simp [*]; done)), H', ⟨Nat.le_refl _⟩, ⟨by (with_reducible repeat (first | apply Kd.N_alloc | apply Kd.N_drewN | apply Kd.N_drew)); exact HO_3.out⟩, ⟨by repeat (first | (with_reducible first | exact HB.out | apply zza | apply zzb | apply zzc) | exact HB.out)⟩⟩
      case round =>
       clear H'
       try clear c1
       try clear c2
       try clear c2b0
       try clear c2b1
       try clear p2
       try clear c6
       try clear c11
       try clear c11b0
       try clear c11b1
       try clear c12
       try clear c14
       try clear c14b0
       try clear c14b1
       try clear p2
       obtain ⟨x6_2, rfl, HA, HK2, HO_3, HB⟩ := hrel
       cases gk with
       | zero => exact absurd HA.out (by simp [laws_FnStable.l0])
       | succ k2 =>
        have H := HA.out
        clear HA
        simp only [laws_FnStable.l0] at H
        by_cases c17 : x6_2 < (t318.length : Int)
        ·
         rw [if_pos c17] at H
         have c17b0 : decide (x6_2 < (t318.length : Int)) = true := decide_eq_true c17
         clear c17
         by_cases c18 : 0 ≤ x6_2
         ·
          rw [if_pos c18] at H
          have c18b0 : decide (0 ≤ x6_2) = true := decide_eq_true c18
          clear c18
          by_cases c19 : 0 < (((rd_T27 t318 x6_2).f5).length : Int)
          ·
           rw [if_pos c19] at H
           have c19b0 : decide (0 < (((rd_T27 t318 x6_2).f5).length : Int)) = true := decide_eq_true c19
           have c19b1 : decide (0 < ((rd_T27 t318 x6_2).f5).length) = true := decide_eq_true (by omega)
           clear c19
           by_cases c20 : ((rd_T34 ((rd_T27 t318 x6_2).f5) 0).f0) = t321
           ·
            rw [if_pos c20] at H
            have c20b0 : (((rd_T34 ((rd_T27 t318 x6_2).f5) 0).f0) == t321) = true := beq_iff_eq.mpr c20
            have c20b1 : (((rd_T34 ((rd_T27 t318 x6_2).f5) 0).f0) != t321) = false := bne_eq_false_iff_eq.mpr c20
            clear c20
            have H' := zzm H
            clear H
            have p324 : 0 ≤ (x6_2 : Int) := of_decide_eq_true (by first | (with_reducible assumption) | assumption)
            have q324 : x6_2 < (t318.length : Int) := of_decide_eq_true (by first | (with_reducible assumption) | assumption)
            obtain ⟨ad324, A324_5, c324_5, e324, hx324_0, hx324_1, hx324_2, hx324_3, hx324_4, hx324_5, hl324_5, hi324_5⟩ := at_T27 (Kd.N_reads' HO_3.out).2.2 x6_2 p324 q324
            cases e324
            obtain ⟨ce324, hce324, hMe324, hcc324⟩ := Kd.N_get HO_3.out z27 x6_2 p324 (by first | exact q324 | exact of_decide_eq_true (by first | (with_reducible assumption) | assumption) | (have e_ := (Kd.N_reads' HO_3.out).1; omega))
            obtain ⟨ua324_5, uc324_5, rfl, ul324_5, ge324_5⟩ := k27_openF hMe324
            have hv324_5 := hcc324 5 _ rfl
            rw [add_field _ _ 5 (by omega)] at hv324_5
            replace hv324_5 := Option.some.inj (hv324_5.symm.trans hx324_5)
            injection hv324_5 with hva_ hvn_ hvc_
            rw [hva_] at ge324_5
            rw [hvc_] at ul324_5
            have HL324_5 := zzm (show Kd.V k34 34 _ w.heap.size _ _ ((rd_T27 t318 x6_2).f5) from Kd.V_mk ul324_5 ge324_5)
            clear hva_ hvn_ hvc_ ge324_5 ul324_5
            clear hcc324 hce324
            have HR324_5 := zzm hi324_5
            have HC324_5 := zzm hl324_5
            clear hi324_5 hl324_5
            replace p324 := eq_true p324
            replace q324 := eq_true q324
            have p325 : 0 ≤ (0 : Int) := (by omega)
            have q325 : 0 < (((rd_T27 t318 x6_2).f5).length : Int) := of_decide_eq_true (by first | (with_reducible assumption) | assumption)
            obtain ⟨ad325, A325_3, c325_3, A325_5, c325_5, e325, hx325_0, hx325_1, hx325_2, hx325_3, hx325_4, hx325_5, hl325_3, hi325_3, hl325_5, hi325_5⟩ := at_T34 (by repeat (first | (with_reducible exact HR324_5.out) | (with_reducible refine Kd.C_alloc ?_ _) | (with_reducible refine Kd.C_drewN ?_ _) | (with_reducible refine Kd.C_drew ?_) | exact HR324_5.out)) 0 p325 q325
            cases e325
            obtain ⟨ce325, hce325, hMe325, hcc325⟩ := Kd.V_get HL324_5.out z34 0 p325 (by first | exact q325 | exact of_decide_eq_true (by first | (with_reducible assumption) | assumption) | (have e_ := (Kd.V_reads' HL324_5.out).1; omega))
            obtain ⟨ua325_3, uc325_3, ua325_5, uc325_5, rfl, ul325_3, ge325_3, ul325_5, ge325_5⟩ := k34_openF hMe325
            have hv325_3 := hcc325 3 _ rfl
            rw [add_field _ _ 3 (by omega)] at hv325_3
            replace hv325_3 := Option.some.inj (hv325_3.symm.trans hx325_3)
            injection hv325_3 with hva_ hvn_ hvc_
            rw [hva_] at ge325_3
            rw [hvc_] at ul325_3
            have HL325_3 := zzm (show Kd.V (Kd.int .i64) 3 _ w.heap.size _ _ ((rd_T34 ((rd_T27 t318 x6_2).f5) 0).f3) from Kd.V_mk ul325_3 ge325_3)
            clear hva_ hvn_ hvc_ ge325_3 ul325_3
            have hv325_5 := hcc325 5 _ rfl
            rw [add_field _ _ 5 (by omega)] at hv325_5
            replace hv325_5 := Option.some.inj (hv325_5.symm.trans hx325_5)
            injection hv325_5 with hva_ hvn_ hvc_
            rw [hva_] at ge325_5
            rw [hvc_] at ul325_5
            have HL325_5 := zzm (show Kd.V (Kd.int .i64) 3 _ w.heap.size _ _ ((rd_T34 ((rd_T27 t318 x6_2).f5) 0).f5) from Kd.V_mk ul325_5 ge325_5)
            clear hva_ hvn_ hvc_ ge325_5 ul325_5
            clear hcc325 hce325
            have qi325 : (0 < ((rd_T27 t318 x6_2).f5).length) = True := eq_true (by omega)
            (try rw [show ((0 : Int)).toNat = 0 from rfl] at hx325_0)
            (try rw [show 0 * 6 = 0 from rfl] at hx325_0)
            (try rw [Addr.add_zero'] at hx325_0)
            (try rw [show ((0 : Int)).toNat = 0 from rfl] at hx325_1)
            (try rw [show 0 * 6 = 0 from rfl] at hx325_1)
            (try rw [Addr.add_zero'] at hx325_1)
            (try rw [show ((0 : Int)).toNat = 0 from rfl] at hx325_2)
            (try rw [show 0 * 6 = 0 from rfl] at hx325_2)
            (try rw [Addr.add_zero'] at hx325_2)
            (try rw [show ((0 : Int)).toNat = 0 from rfl] at hx325_3)
            (try rw [show 0 * 6 = 0 from rfl] at hx325_3)
            (try rw [Addr.add_zero'] at hx325_3)
            (try rw [show ((0 : Int)).toNat = 0 from rfl] at hx325_4)
            (try rw [show 0 * 6 = 0 from rfl] at hx325_4)
            (try rw [Addr.add_zero'] at hx325_4)
            (try rw [show ((0 : Int)).toNat = 0 from rfl] at hx325_5)
            (try rw [show 0 * 6 = 0 from rfl] at hx325_5)
            (try rw [Addr.add_zero'] at hx325_5)
            have HR325_3 := zzm hi325_3
            have HC325_3 := zzm hl325_3
            clear hi325_3 hl325_3
            have HR325_5 := zzm hi325_5
            have HC325_5 := zzm hl325_5
            clear hi325_5 hl325_5
            replace p325 := eq_true p325
            replace q325 := eq_true q325
            go_wp2
            repeat (go_quiet (fail); try go_wp2)
            go_loopg [7] k2 (fun kq v7 w' => ∃ (x7_3 : Int), v7 = .int .i64 x7_3 ∧ Aside0 (laws_FnStable.l1 kq t318 x6_2 x7_3 = some r) ∧ Aside0 (kq ≤ k2) ∧ Aside0 (Kd.N k27 27 w' w.heap.size (fun _ => True) (.slice (some ad324) t318.length co8) t318) ∧ Aside0 (Kd.C k34 w' (some ad325) ((rd_T27 t318 x6_2).f5).length ((rd_T27 t318 x6_2).f5)) ∧ Aside0 (Kd.C (Kd.int .i64) w' A325_3 ((rd_T34 ((rd_T27 t318 x6_2).f5) 0).f3).length ((rd_T34 ((rd_T27 t318 x6_2).f5) 0).f3)) ∧ Aside0 (Kd.C (Kd.int .i64) w' A325_5 ((rd_T34 ((rd_T27 t318 x6_2).f5) 0).f5).length ((rd_T34 ((rd_T27 t318 x6_2).f5) 0).f5)) ∧ Aside0 (Below w.heap.size w w'))
            case atStart => exact ⟨(x6_2), (by first | rfl | (simp; done) | (simp [*]; done)), H', ⟨Nat.le_refl _⟩, ⟨by (with_reducible repeat (first | apply Kd.N_alloc | apply Kd.N_drewN | apply Kd.N_drew)); exact HO_3.out⟩, ⟨by repeat (first | (with_reducible exact HR324_5.out) | (with_reducible refine Kd.C_alloc ?_ _) | (with_reducible refine Kd.C_drewN ?_ _) | (with_reducible refine Kd.C_drew ?_) | exact HR324_5.out)⟩, ⟨by repeat (first | (with_reducible exact HR325_3.out) | (with_reducible refine Kd.C_alloc ?_ _) | (with_reducible refine Kd.C_drewN ?_ _) | (with_reducible refine Kd.C_drew ?_) | exact HR325_3.out)⟩, ⟨by repeat (first | (with_reducible exact HR325_5.out) | (with_reducible refine Kd.C_alloc ?_ _) | (with_reducible refine Kd.C_drewN ?_ _) | (with_reducible refine Kd.C_drew ?_) | exact HR325_5.out)⟩, ⟨by repeat (first | (with_reducible first | exact HB.out | apply zza | apply zzb | apply zzc) | exact HB.out)⟩⟩
            case round =>
             clear H'
             try clear c1
             try clear c2
             try clear c2b0
             try clear c2b1
             try clear p2
             try clear c3
             try clear p3
             try clear q3
             try clear hx3
             try clear qi3
             try clear c6
             try clear c11
             try clear c11b0
             try clear c11b1
             try clear c12
             try clear c14
             try clear c14b0
             try clear c14b1
             try clear c17
             try clear c17b0
             try clear c18
             try clear c18b0
             try clear c19
             try clear c19b0
             try clear c19b1
             try clear c20
             try clear c20b0
             try clear c20b1
             try clear hx324_0
             try clear hx324_1
             try clear hx324_2
             try clear hx324_3
             try clear hx324_4
             try clear hx324_5
             try clear hx325_0
             try clear hx325_1
             try clear hx325_2
             try clear hx325_3
             try clear hx325_4
             try clear hx325_5
             try clear p2
             try clear p324
             try clear p325
             try clear q324
             try clear q325
             obtain ⟨x7_3, rfl, HA, HK3, HO_3, HR324_5, HR325_3, HR325_5, HB⟩ := hrel
             cases gk with
             | zero => exact absurd HA.out (by simp [laws_FnStable.l1])
             | succ k3 =>
              have H := HA.out
              clear HA
              simp only [laws_FnStable.l1] at H
              by_cases c21 : x7_3 < (t318.length : Int)
              ·
               rw [if_pos c21] at H
               have c21b0 : decide (x7_3 < (t318.length : Int)) = true := decide_eq_true c21
               clear c21
               by_cases c22 : 0 ≤ x7_3
               ·
                rw [if_pos c22] at H
                have c22b0 : decide (0 ≤ x7_3) = true := decide_eq_true c22
                clear c22
                obtain ⟨bq23, hbq23⟩ : ∃ b_ : Bool, b_ = ((rd_T27 t318 x7_3).f1) := ⟨_, rfl⟩
                replace H : (if bq23 = true then (if 0 ≤ x6_2 then (if x6_2 < (t318.length : Int) then (if ((rd_T27 t318 x7_3).f2) = ((rd_T27 t318 x6_2).f2) then (some false) else (laws_FnStable.l1 k3 t318 x6_2 (wrap64 (x7_3 + 1)))) else (none)) else (none)) else (laws_FnStable.l1 k3 t318 x6_2 (wrap64 (x7_3 + 1)))) = some r := by rw [← hbq23] at H; exact H
                have Nbq23 := zzm hbq23
                clear hbq23
                by_cases c24 : bq23 = true
                ·
                 subst c24
                 have H1 : (if 0 ≤ x6_2 then (if x6_2 < (t318.length : Int) then (if ((rd_T27 t318 x7_3).f2) = ((rd_T27 t318 x6_2).f2) then (some false) else (laws_FnStable.l1 k3 t318 x6_2 (wrap64 (x7_3 + 1)))) else (none)) else (none)) = some r := by rw [if_pos rfl] at H; exact H
                 clear H
                 have H := H1
                 clear H1
                 by_cases c25 : 0 ≤ x6_2
                 ·
                  rw [if_pos c25] at H
                  have c25b0 : decide (0 ≤ x6_2) = true := decide_eq_true c25
                  clear c25
                  by_cases c26 : x6_2 < (t318.length : Int)
                  ·
                   rw [if_pos c26] at H
                   have c26b0 : decide (x6_2 < (t318.length : Int)) = true := decide_eq_true c26
                   clear c26
                   by_cases c27 : ((rd_T27 t318 x7_3).f2) = ((rd_T27 t318 x6_2).f2)
                   ·
                    rw [if_pos c27] at H
                    have c27b0 : (((rd_T27 t318 x7_3).f2) == ((rd_T27 t318 x6_2).f2)) = true := beq_iff_eq.mpr c27
                    have c27b1 : (((rd_T27 t318 x7_3).f2) != ((rd_T27 t318 x6_2).f2)) = false := bne_eq_false_iff_eq.mpr c27
                    clear c27
                    obtain rfl := Option.some.inj H
                    have p326 : 0 ≤ (x7_3 : Int) := of_decide_eq_true (by first | (with_reducible assumption) | assumption)
                    have q326 : x7_3 < (t318.length : Int) := of_decide_eq_true (by first | (with_reducible assumption) | assumption)
                    obtain ⟨ad326, A326_5, c326_5, e326, hx326_0, hx326_1, hx326_2, hx326_3, hx326_4, hx326_5, hl326_5, hi326_5⟩ := at_T27 (Kd.N_reads' HO_3.out).2.2 x7_3 p326 q326
                    (try rw [← Nbq23.out] at hx326_0)
                    (try rw [← Nbq23.out] at hx326_1)
                    obtain rfl : ad324 = ad326 := (by injection e326)
                    obtain ⟨ce326, hce326, hMe326, hcc326⟩ := Kd.N_get HO_3.out z27 x7_3 p326 (by first | exact q326 | exact of_decide_eq_true (by first | (with_reducible assumption) | assumption) | (have e_ := (Kd.N_reads' HO_3.out).1; omega))
                    obtain ⟨ua326_5, uc326_5, rfl, ul326_5, ge326_5⟩ := k27_openF hMe326
                    have hv326_5 := hcc326 5 _ rfl
                    rw [add_field _ _ 5 (by omega)] at hv326_5
                    replace hv326_5 := Option.some.inj (hv326_5.symm.trans hx326_5)
                    injection hv326_5 with hva_ hvn_ hvc_
                    rw [hva_] at ge326_5
                    rw [hvc_] at ul326_5
                    have HL326_5 := zzm (show Kd.V k34 34 _ w.heap.size _ _ ((rd_T27 t318 x7_3).f5) from Kd.V_mk ul326_5 ge326_5)
                    clear hva_ hvn_ hvc_ ge326_5 ul326_5
                    clear hcc326 hce326
                    have HR326_5 := zzm hi326_5
                    have HC326_5 := zzm hl326_5
                    clear hi326_5 hl326_5
                    replace p326 := eq_true p326
                    replace q326 := eq_true q326
                    have p327 : 0 ≤ (x7_3 : Int) := of_decide_eq_true (by first | (with_reducible assumption) | assumption)
                    have q327 : x7_3 < (t318.length : Int) := of_decide_eq_true (by first | (with_reducible assumption) | assumption)
                    obtain ⟨ad327, A327_5, c327_5, e327, hx327_0, hx327_1, hx327_2, hx327_3, hx327_4, hx327_5, hl327_5, hi327_5⟩ := at_T27 (Kd.N_reads' HO_3.out).2.2 x7_3 p327 q327
                    (try rw [← Nbq23.out] at hx327_0)
                    (try rw [← Nbq23.out] at hx327_1)
                    obtain rfl : ad324 = ad327 := (by injection e327)
                    obtain ⟨ce327, hce327, hMe327, hcc327⟩ := Kd.N_get HO_3.out z27 x7_3 p327 (by first | exact q327 | exact of_decide_eq_true (by first | (with_reducible assumption) | assumption) | (have e_ := (Kd.N_reads' HO_3.out).1; omega))
                    obtain ⟨ua327_5, uc327_5, rfl, ul327_5, ge327_5⟩ := k27_openF hMe327
                    have hv327_5 := hcc327 5 _ rfl
                    rw [add_field _ _ 5 (by omega)] at hv327_5
                    replace hv327_5 := Option.some.inj (hv327_5.symm.trans hx327_5)
                    injection hv327_5 with hva_ hvn_ hvc_
                    rw [hva_] at ge327_5
                    rw [hvc_] at ul327_5
                    have HL327_5 := zzm (show Kd.V k34 34 _ w.heap.size _ _ ((rd_T27 t318 x7_3).f5) from Kd.V_mk ul327_5 ge327_5)
                    clear hva_ hvn_ hvc_ ge327_5 ul327_5
                    clear hcc327 hce327
                    have HR327_5 := zzm hi327_5
                    have HC327_5 := zzm hl327_5
                    clear hi327_5 hl327_5
                    replace p327 := eq_true p327
                    replace q327 := eq_true q327
                    have ea_ := Option.some.inj (hx326_5.symm.trans hx327_5)
                    injection ea_ with ea_ en_ ec_
                    subst ea_
                    subst ec_
                    clear en_
                    have p328 : 0 ≤ (x6_2 : Int) := of_decide_eq_true (by first | (with_reducible assumption) | assumption)
                    have q328 : x6_2 < (t318.length : Int) := of_decide_eq_true (by first | (with_reducible assumption) | assumption)
                    obtain ⟨ad328, A328_5, c328_5, e328, hx328_0, hx328_1, hx328_2, hx328_3, hx328_4, hx328_5, hl328_5, hi328_5⟩ := at_T27 (Kd.N_reads' HO_3.out).2.2 x6_2 p328 q328
                    (try rw [← Nbq23.out] at hx328_0)
                    (try rw [← Nbq23.out] at hx328_1)
                    obtain rfl : ad324 = ad328 := (by injection e328)
                    obtain ⟨ce328, hce328, hMe328, hcc328⟩ := Kd.N_get HO_3.out z27 x6_2 p328 (by first | exact q328 | exact of_decide_eq_true (by first | (with_reducible assumption) | assumption) | (have e_ := (Kd.N_reads' HO_3.out).1; omega))
                    obtain ⟨ua328_5, uc328_5, rfl, ul328_5, ge328_5⟩ := k27_openF hMe328
                    have hv328_5 := hcc328 5 _ rfl
                    rw [add_field _ _ 5 (by omega)] at hv328_5
                    replace hv328_5 := Option.some.inj (hv328_5.symm.trans hx328_5)
                    injection hv328_5 with hva_ hvn_ hvc_
                    rw [hva_] at ge328_5
                    rw [hvc_] at ul328_5
                    have HL328_5 := zzm (show Kd.V k34 34 _ w.heap.size _ _ ((rd_T27 t318 x6_2).f5) from Kd.V_mk ul328_5 ge328_5)
                    clear hva_ hvn_ hvc_ ge328_5 ul328_5
                    clear hcc328 hce328
                    have HR328_5 := zzm hi328_5
                    have HC328_5 := zzm hl328_5
                    clear hi328_5 hl328_5
                    replace p328 := eq_true p328
                    replace q328 := eq_true q328
                    go_wp2
                    repeat (go_quiet (fail); try go_wp2)
                    go_ret
                    exact ⟨by first | rfl | (simp [errW_none, errW_some] <;> rfl) | (simp [*, errW_none, errW_some] <;> rfl), by repeat (first | (with_reducible first | exact HB.out | apply zza | apply zzb | apply zzc) | exact HB.out)⟩
                   ·
                    rw [if_neg c27] at H
                    have c27b0 : (((rd_T27 t318 x7_3).f2) == ((rd_T27 t318 x6_2).f2)) = false := beq_eq_false_iff_ne.mpr c27
                    have c27b1 : (((rd_T27 t318 x7_3).f2) != ((rd_T27 t318 x6_2).f2)) = true := bne_iff_ne.mpr c27
                    have H' := zzm H
                    clear H
                    have p326 : 0 ≤ (x7_3 : Int) := of_decide_eq_true (by first | (with_reducible assumption) | assumption)
                    have q326 : x7_3 < (t318.length : Int) := of_decide_eq_true (by first | (with_reducible assumption) | assumption)
                    obtain ⟨ad326, A326_5, c326_5, e326, hx326_0, hx326_1, hx326_2, hx326_3, hx326_4, hx326_5, hl326_5, hi326_5⟩ := at_T27 (Kd.N_reads' HO_3.out).2.2 x7_3 p326 q326
                    (try rw [← Nbq23.out] at hx326_0)
                    (try rw [← Nbq23.out] at hx326_1)
                    obtain rfl : ad324 = ad326 := (by injection e326)
                    obtain ⟨ce326, hce326, hMe326, hcc326⟩ := Kd.N_get HO_3.out z27 x7_3 p326 (by first | exact q326 | exact of_decide_eq_true (by first | (with_reducible assumption) | assumption) | (have e_ := (Kd.N_reads' HO_3.out).1; omega))
                    obtain ⟨ua326_5, uc326_5, rfl, ul326_5, ge326_5⟩ := k27_openF hMe326
                    have hv326_5 := hcc326 5 _ rfl
                    rw [add_field _ _ 5 (by omega)] at hv326_5
                    replace hv326_5 := Option.some.inj (hv326_5.symm.trans hx326_5)
                    injection hv326_5 with hva_ hvn_ hvc_
                    rw [hva_] at ge326_5
                    rw [hvc_] at ul326_5
                    have HL326_5 := zzm (show Kd.V k34 34 _ w.heap.size _ _ ((rd_T27 t318 x7_3).f5) from Kd.V_mk ul326_5 ge326_5)
                    clear hva_ hvn_ hvc_ ge326_5 ul326_5
                    clear hcc326 hce326
                    have HR326_5 := zzm hi326_5
                    have HC326_5 := zzm hl326_5
                    clear hi326_5 hl326_5
                    replace p326 := eq_true p326
                    replace q326 := eq_true q326
                    have p327 : 0 ≤ (x7_3 : Int) := of_decide_eq_true (by first | (with_reducible assumption) | assumption)
                    have q327 : x7_3 < (t318.length : Int) := of_decide_eq_true (by first | (with_reducible assumption) | assumption)
                    obtain ⟨ad327, A327_5, c327_5, e327, hx327_0, hx327_1, hx327_2, hx327_3, hx327_4, hx327_5, hl327_5, hi327_5⟩ := at_T27 (Kd.N_reads' HO_3.out).2.2 x7_3 p327 q327
                    (try rw [← Nbq23.out] at hx327_0)
                    (try rw [← Nbq23.out] at hx327_1)
                    obtain rfl : ad324 = ad327 := (by injection e327)
                    obtain ⟨ce327, hce327, hMe327, hcc327⟩ := Kd.N_get HO_3.out z27 x7_3 p327 (by first | exact q327 | exact of_decide_eq_true (by first | (with_reducible assumption) | assumption) | (have e_ := (Kd.N_reads' HO_3.out).1; omega))
                    obtain ⟨ua327_5, uc327_5, rfl, ul327_5, ge327_5⟩ := k27_openF hMe327
                    have hv327_5 := hcc327 5 _ rfl
                    rw [add_field _ _ 5 (by omega)] at hv327_5
                    replace hv327_5 := Option.some.inj (hv327_5.symm.trans hx327_5)
                    injection hv327_5 with hva_ hvn_ hvc_
                    rw [hva_] at ge327_5
                    rw [hvc_] at ul327_5
                    have HL327_5 := zzm (show Kd.V k34 34 _ w.heap.size _ _ ((rd_T27 t318 x7_3).f5) from Kd.V_mk ul327_5 ge327_5)
                    clear hva_ hvn_ hvc_ ge327_5 ul327_5
                    clear hcc327 hce327
                    have HR327_5 := zzm hi327_5
                    have HC327_5 := zzm hl327_5
                    clear hi327_5 hl327_5
                    replace p327 := eq_true p327
                    replace q327 := eq_true q327
                    have ea_ := Option.some.inj (hx326_5.symm.trans hx327_5)
                    injection ea_ with ea_ en_ ec_
                    subst ea_
                    subst ec_
                    clear en_
                    have p328 : 0 ≤ (x6_2 : Int) := of_decide_eq_true (by first | (with_reducible assumption) | assumption)
                    have q328 : x6_2 < (t318.length : Int) := of_decide_eq_true (by first | (with_reducible assumption) | assumption)
                    obtain ⟨ad328, A328_5, c328_5, e328, hx328_0, hx328_1, hx328_2, hx328_3, hx328_4, hx328_5, hl328_5, hi328_5⟩ := at_T27 (Kd.N_reads' HO_3.out).2.2 x6_2 p328 q328
                    (try rw [← Nbq23.out] at hx328_0)
                    (try rw [← Nbq23.out] at hx328_1)
                    obtain rfl : ad324 = ad328 := (by injection e328)
                    obtain ⟨ce328, hce328, hMe328, hcc328⟩ := Kd.N_get HO_3.out z27 x6_2 p328 (by first | exact q328 | exact of_decide_eq_true (by first | (with_reducible assumption) | assumption) | (have e_ := (Kd.N_reads' HO_3.out).1; omega))
                    obtain ⟨ua328_5, uc328_5, rfl, ul328_5, ge328_5⟩ := k27_openF hMe328
                    have hv328_5 := hcc328 5 _ rfl
                    rw [add_field _ _ 5 (by omega)] at hv328_5
                    replace hv328_5 := Option.some.inj (hv328_5.symm.trans hx328_5)
                    injection hv328_5 with hva_ hvn_ hvc_
                    rw [hva_] at ge328_5
                    rw [hvc_] at ul328_5
                    have HL328_5 := zzm (show Kd.V k34 34 _ w.heap.size _ _ ((rd_T27 t318 x6_2).f5) from Kd.V_mk ul328_5 ge328_5)
                    clear hva_ hvn_ hvc_ ge328_5 ul328_5
                    clear hcc328 hce328
                    have HR328_5 := zzm hi328_5
                    have HC328_5 := zzm hl328_5
                    clear hi328_5 hl328_5
                    replace p328 := eq_true p328
                    replace q328 := eq_true q328
                    go_wp2
                    repeat (go_quiet (fail); try go_wp2)
                    go_roundg k3
                    case measure => have := HJ5.out; have := HK2.out; have := HK3.out; omega
                    case rel => exact ⟨(wrap64 (x7_3 + 1)), (by first | rfl | (simp; done) | (simp [*]; done)), H', ⟨by have := HJ5.out; have := HK2.out; have := HK3.out; omega⟩, ⟨by (with_reducible repeat (first | apply Kd.N_alloc | apply Kd.N_drewN | apply Kd.N_drew)); exact HO_3.out⟩, ⟨by repeat (first | (with_reducible exact HR324_5.out) | (with_reducible refine Kd.C_alloc ?_ _) | (with_reducible refine Kd.C_drewN ?_ _) | (with_reducible refine Kd.C_drew ?_) | exact HR324_5.out)⟩, ⟨by repeat (first | (with_reducible exact HR325_3.out) | (with_reducible refine Kd.C_alloc ?_ _) | (with_reducible refine Kd.C_drewN ?_ _) | (with_reducible refine Kd.C_drew ?_) | exact HR325_3.out)⟩, ⟨by repeat (first | (with_reducible exact HR325_5.out) | (with_reducible refine Kd.C_alloc ?_ _) | (with_reducible refine Kd.C_drewN ?_ _) | (with_reducible refine Kd.C_drew ?_) | exact HR325_5.out)⟩, ⟨by repeat (first | (with_reducible first | exact HB.out | apply zza | apply zzb | apply zzc) | exact HB.out)⟩⟩
                  ·
                   rw [if_neg c26] at H
                   exact absurd H (by simp)
                 ·
                  rw [if_neg c25] at H
                  exact absurd H (by simp)
                ·
                 replace c24 := Bool.eq_false_iff.mpr c24
                 subst c24
                 have H1 : (laws_FnStable.l1 k3 t318 x6_2 (wrap64 (x7_3 + 1))) = some r := by rw [if_neg (show ¬ (false = true) by decide)] at H; exact H
                 clear H
                 have H := H1
                 clear H1
                 have H' := zzm H
                 clear H
                 have p326 : 0 ≤ (x7_3 : Int) := of_decide_eq_true (by first | (with_reducible assumption) | assumption)
                 have q326 : x7_3 < (t318.length : Int) := of_decide_eq_true (by first | (with_reducible assumption) | assumption)
                 obtain ⟨ad326, A326_5, c326_5, e326, hx326_0, hx326_1, hx326_2, hx326_3, hx326_4, hx326_5, hl326_5, hi326_5⟩ := at_T27 (Kd.N_reads' HO_3.out).2.2 x7_3 p326 q326
                 (try rw [← Nbq23.out] at hx326_0)
                 (try rw [← Nbq23.out] at hx326_1)
                 obtain rfl : ad324 = ad326 := (by injection e326)
                 obtain ⟨ce326, hce326, hMe326, hcc326⟩ := Kd.N_get HO_3.out z27 x7_3 p326 (by first | exact q326 | exact of_decide_eq_true (by first | (with_reducible assumption) | assumption) | (have e_ := (Kd.N_reads' HO_3.out).1; omega))
                 obtain ⟨ua326_5, uc326_5, rfl, ul326_5, ge326_5⟩ := k27_openF hMe326
                 have hv326_5 := hcc326 5 _ rfl
                 rw [add_field _ _ 5 (by omega)] at hv326_5
                 replace hv326_5 := Option.some.inj (hv326_5.symm.trans hx326_5)
                 injection hv326_5 with hva_ hvn_ hvc_
                 rw [hva_] at ge326_5
                 rw [hvc_] at ul326_5
                 have HL326_5 := zzm (show Kd.V k34 34 _ w.heap.size _ _ ((rd_T27 t318 x7_3).f5) from Kd.V_mk ul326_5 ge326_5)
                 clear hva_ hvn_ hvc_ ge326_5 ul326_5
                 clear hcc326 hce326
                 have HR326_5 := zzm hi326_5
                 have HC326_5 := zzm hl326_5
                 clear hi326_5 hl326_5
                 replace p326 := eq_true p326
                 replace q326 := eq_true q326
                 go_wp2
                 repeat (go_quiet (fail); try go_wp2)
                 go_roundg k3
                 case measure => have := HJ5.out; have := HK2.out; have := HK3.out; omega
                 case rel => exact ⟨(wrap64 (x7_3 + 1)), (by first | rfl | (simp; done) | (simp [*]; done)), H', ⟨by have := HJ5.out; have := HK2.out; have := HK3.out; omega⟩, ⟨by (with_reducible repeat (first | apply Kd.N_alloc | apply Kd.N_drewN | apply Kd.N_drew)); exact HO_3.out⟩, ⟨by repeat (first | (with_reducible exact HR324_5.out) | (with_reducible refine Kd.C_alloc ?_ _) | (with_reducible refine Kd.C_drewN ?_ _) | (with_reducible refine Kd.C_drew ?_) | exact HR324_5.out)⟩, ⟨by repeat (first | (with_reducible exact HR325_3.out) | (with_reducible refine Kd.C_alloc ?_ _) | (with_reducible refine Kd.C_drewN ?_ _) | (with_reducible refine Kd.C_drew ?_) | exact HR325_3.out)⟩, ⟨by repeat (first | (with_reducible exact HR325_5.out) | (with_reducible refine Kd.C_alloc ?_ _) | (with_reducible refine Kd.C_drewN ?_ _) | (with_reducible refine Kd.C_drew ?_) | exact HR325_5.out)⟩, ⟨by repeat (first | (with_reducible first | exact HB.out | apply zza | apply zzb | apply zzc) | exact HB.out)⟩⟩
               ·
                rw [if_neg c22] at H
                exact absurd H (by simp)
              ·
               rw [if_neg c21] at H
               have c21b0 : decide (x7_3 < (t318.length : Int)) = false := decide_eq_false c21
               clear c21
               by_cases c28 : 0 ≤ x6_2
               ·
                rw [if_pos c28] at H
                have c28b0 : decide (0 ≤ x6_2) = true := decide_eq_true c28
                clear c28
                by_cases c29 : x6_2 < (t318.length : Int)
                ·
                 rw [if_pos c29] at H
                 have c29b0 : decide (x6_2 < (t318.length : Int)) = true := decide_eq_true c29
                 clear c29
                 obtain rfl := Option.some.inj H
                 have p329 : 0 ≤ (x6_2 : Int) := of_decide_eq_true (by first | (with_reducible assumption) | assumption)
                 have q329 : x6_2 < (t318.length : Int) := of_decide_eq_true (by first | (with_reducible assumption) | assumption)
                 obtain ⟨ad329, A329_5, c329_5, e329, hx329_0, hx329_1, hx329_2, hx329_3, hx329_4, hx329_5, hl329_5, hi329_5⟩ := at_T27 (Kd.N_reads' HO_3.out).2.2 x6_2 p329 q329
                 obtain rfl : ad324 = ad329 := (by injection e329)
                 obtain ⟨ce329, hce329, hMe329, hcc329⟩ := Kd.N_get HO_3.out z27 x6_2 p329 (by first | exact q329 | exact of_decide_eq_true (by first | (with_reducible assumption) | assumption) | (have e_ := (Kd.N_reads' HO_3.out).1; omega))
                 obtain ⟨ua329_5, uc329_5, rfl, ul329_5, ge329_5⟩ := k27_openF hMe329
                 have hv329_5 := hcc329 5 _ rfl
                 rw [add_field _ _ 5 (by omega)] at hv329_5
                 replace hv329_5 := Option.some.inj (hv329_5.symm.trans hx329_5)
                 injection hv329_5 with hva_ hvn_ hvc_
                 rw [hva_] at ge329_5
                 rw [hvc_] at ul329_5
                 have HL329_5 := zzm (show Kd.V k34 34 _ w.heap.size _ _ ((rd_T27 t318 x6_2).f5) from Kd.V_mk ul329_5 ge329_5)
                 clear hva_ hvn_ hvc_ ge329_5 ul329_5
                 clear hcc329 hce329
                 have HR329_5 := zzm hi329_5
                 have HC329_5 := zzm hl329_5
                 clear hi329_5 hl329_5
                 replace p329 := eq_true p329
                 replace q329 := eq_true q329
                 go_wp2
                 repeat (go_quiet (fail); try go_wp2)
                 go_ret
                 exact ⟨by first | rfl | (simp [errW_none, errW_some] <;> rfl) | (simp [*, errW_none, errW_some] <;> rfl), by repeat (first | (with_reducible first | exact HB.out | apply zza | apply zzb | apply zzc) | exact HB.out)⟩
                ·
                 rw [if_neg c29] at H
                 exact absurd H (by simp)
               ·
                rw [if_neg c28] at H
                exact absurd H (by simp)
           ·
            rw [if_neg c20] at H
            have c20b0 : (((rd_T34 ((rd_T27 t318 x6_2).f5) 0).f0) == t321) = false := beq_eq_false_iff_ne.mpr c20
            have c20b1 : (((rd_T34 ((rd_T27 t318 x6_2).f5) 0).f0) != t321) = true := bne_iff_ne.mpr c20
            have H' := zzm H
            clear H
            have p324 : 0 ≤ (x6_2 : Int) := of_decide_eq_true (by first | (with_reducible assumption) | assumption)
            have q324 : x6_2 < (t318.length : Int) := of_decide_eq_true (by first | (with_reducible assumption) | assumption)
            obtain ⟨ad324, A324_5, c324_5, e324, hx324_0, hx324_1, hx324_2, hx324_3, hx324_4, hx324_5, hl324_5, hi324_5⟩ := at_T27 (Kd.N_reads' HO_3.out).2.2 x6_2 p324 q324
            cases e324
            obtain ⟨ce324, hce324, hMe324, hcc324⟩ := Kd.N_get HO_3.out z27 x6_2 p324 (by first | exact q324 | exact of_decide_eq_true (by first | (with_reducible assumption) | assumption) | (have e_ := (Kd.N_reads' HO_3.out).1; omega))
            obtain ⟨ua324_5, uc324_5, rfl, ul324_5, ge324_5⟩ := k27_openF hMe324
            have hv324_5 := hcc324 5 _ rfl
            rw [add_field _ _ 5 (by omega)] at hv324_5
            replace hv324_5 := Option.some.inj (hv324_5.symm.trans hx324_5)
            injection hv324_5 with hva_ hvn_ hvc_
            rw [hva_] at ge324_5
            rw [hvc_] at ul324_5
            have HL324_5 := zzm (show Kd.V k34 34 _ w.heap.size _ _ ((rd_T27 t318 x6_2).f5) from Kd.V_mk ul324_5 ge324_5)
            clear hva_ hvn_ hvc_ ge324_5 ul324_5
            clear hcc324 hce324
            have HR324_5 := zzm hi324_5
            have HC324_5 := zzm hl324_5
            clear hi324_5 hl324_5
            replace p324 := eq_true p324
            replace q324 := eq_true q324
            have p325 : 0 ≤ (0 : Int) := (by omega)
            have q325 : 0 < (((rd_T27 t318 x6_2).f5).length : Int) := of_decide_eq_true (by first | (with_reducible assumption) | assumption)
            obtain ⟨ad325, A325_3, c325_3, A325_5, c325_5, e325, hx325_0, hx325_1, hx325_2, hx325_3, hx325_4, hx325_5, hl325_3, hi325_3, hl325_5, hi325_5⟩ := at_T34 (by repeat (first | (with_reducible exact HR324_5.out) | (with_reducible refine Kd.C_alloc ?_ _) | (with_reducible refine Kd.C_drewN ?_ _) | (with_reducible refine Kd.C_drew ?_) | exact HR324_5.out)) 0 p325 q325
            cases e325
            obtain ⟨ce325, hce325, hMe325, hcc325⟩ := Kd.V_get HL324_5.out z34 0 p325 (by first | exact q325 | exact of_decide_eq_true (by first | (with_reducible assumption) | assumption) | (have e_ := (Kd.V_reads' HL324_5.out).1; omega))
            obtain ⟨ua325_3, uc325_3, ua325_5, uc325_5, rfl, ul325_3, ge325_3, ul325_5, ge325_5⟩ := k34_openF hMe325
            have hv325_3 := hcc325 3 _ rfl
            rw [add_field _ _ 3 (by omega)] at hv325_3
            replace hv325_3 := Option.some.inj (hv325_3.symm.trans hx325_3)
            injection hv325_3 with hva_ hvn_ hvc_
            rw [hva_] at ge325_3
            rw [hvc_] at ul325_3
            have HL325_3 := zzm (show Kd.V (Kd.int .i64) 3 _ w.heap.size _ _ ((rd_T34 ((rd_T27 t318 x6_2).f5) 0).f3) from Kd.V_mk ul325_3 ge325_3)
            clear hva_ hvn_ hvc_ ge325_3 ul325_3
            have hv325_5 := hcc325 5 _ rfl
            rw [add_field _ _ 5 (by omega)] at hv325_5
            replace hv325_5 := Option.some.inj (hv325_5.symm.trans hx325_5)
            injection hv325_5 with hva_ hvn_ hvc_
            rw [hva_] at ge325_5
            rw [hvc_] at ul325_5
            have HL325_5 := zzm (show Kd.V (Kd.int .i64) 3 _ w.heap.size _ _ ((rd_T34 ((rd_T27 t318 x6_2).f5) 0).f5) from Kd.V_mk ul325_5 ge325_5)
            clear hva_ hvn_ hvc_ ge325_5 ul325_5
            clear hcc325 hce325
            have qi325 : (0 < ((rd_T27 t318 x6_2).f5).length) = True := eq_true (by omega)
            (try rw [show ((0 : Int)).toNat = 0 from rfl] at hx325_0)
            (try rw [show 0 * 6 = 0 from rfl] at hx325_0)
            (try rw [Addr.add_zero'] at hx325_0)
            (try rw [show ((0 : Int)).toNat = 0 from rfl] at hx325_1)
            (try rw [show 0 * 6 = 0 from rfl] at hx325_1)
            (try rw [Addr.add_zero'] at hx325_1)
            (try rw [show ((0 : Int)).toNat = 0 from rfl] at hx325_2)
            (try rw [show 0 * 6 = 0 from rfl] at hx325_2)
            (try rw [Addr.add_zero'] at hx325_2)
            (try rw [show ((0 : Int)).toNat = 0 from rfl] at hx325_3)
            (try rw [show 0 * 6 = 0 from rfl] at hx325_3)
            (try rw [Addr.add_zero'] at hx325_3)
            (try rw [show ((0 : Int)).toNat = 0 from rfl] at hx325_4)
            (try rw [show 0 * 6 = 0 from rfl] at hx325_4)
            (try rw [Addr.add_zero'] at hx325_4)
            (try rw [show ((0 : Int)).toNat = 0 from rfl] at hx325_5)
            (try rw [show 0 * 6 = 0 from rfl] at hx325_5)
            (try rw [Addr.add_zero'] at hx325_5)
            have HR325_3 := zzm hi325_3
            have HC325_3 := zzm hl325_3
            clear hi325_3 hl325_3
            have HR325_5 := zzm hi325_5
            have HC325_5 := zzm hl325_5
            clear hi325_5 hl325_5
            replace p325 := eq_true p325
            replace q325 := eq_true q325
            go_wp2
            repeat (go_quiet (fail); try go_wp2)
            go_roundg k2
            case measure => have := HJ5.out; have := HK2.out; omega
            case rel => exact ⟨(wrap64 (x6_2 + 1)), (by first | rfl | (simp; done) | (simp [*]; done)), H', ⟨by have := HJ5.out; have := HK2.out; omega⟩, ⟨by (with_reducible repeat (first | apply Kd.N_alloc | apply Kd.N_drewN | apply Kd.N_drew)); exact HO_3.out⟩, ⟨by repeat (first | (with_reducible first | exact HB.out | apply zza | apply zzb | apply zzc) | exact HB.out)⟩⟩
          ·
           rw [if_neg c19] at H
           exact absurd H (by simp)
         ·
          rw [if_neg c18] at H
          exact absurd H (by simp)
        ·
         rw [if_neg c17] at H
         have c17b0 : decide (x6_2 < (t318.length : Int)) = false := decide_eq_false c17
         clear c17
         obtain rfl := Option.some.inj H
         go_wp2
         repeat (go_quiet (fail); try go_wp2)
         go_ret
         exact ⟨by first | rfl | (simp [errW_none, errW_some] <;> rfl) | (simp [*, errW_none, errW_some] <;> rfl), by repeat (first | (with_reducible first | exact HB.out | apply zza | apply zzb | apply zzc) | exact HB.out)⟩
def laws_FnStable.Pure : Prop := ∀ (l0 : List Int), l0.length ≤ maxLen → l0.length * 1 ≤ 140737488351232 → (∀ x ∈ l0, (Lit.int .u8 x).wf = true) → ∃ k, laws_FnStable.f k l0 = some true
theorem laws_FnStable.walk (P : laws_FnStable.Pure) (a0 : Option Addr) (len0 cap0 : Nat) (z0 : List Int) (w : World) (w0 : (a0 = none ∧ len0 = 0 ∧ cap0 = 0 ∧ z0 = []) ∨ ∃ x, a0 = some x ∧ len0 ≤ cap0 ∧ cap0 ≤ maxLen ∧ z0.length = cap0 ∧ (∀ i, i < z0.length → w.cell? (x.add i) = some (.int .u8 (z0.getD i 0))) ∧ ∀ n ∈ z0, (Lit.int .u8 n).wf = true) (y0 : len0 * 1 ≤ 140737488351232) :
  Calls Try.prog 6 #[.slice a0 len0 cap0] w fun e w' => e = .returned (.bool true) ∧ Below w.heap.size w w' := by
 obtain ⟨l0, rfl, hr0, hm0, hw0, hc0⟩ := ReadsInt.ofRowC w0
 obtain ⟨k, h⟩ := P l0 hm0 y0 hw0
 refine (laws_FnStable.calls k _ _ l0 true w (Kd.C_of_reads (d := (0 : Int)) (h1 := fun _ => rfl) hr0) hc0 h).mono ?_
 rintro e w' ⟨rfl, hd⟩
 exact ⟨rfl, hd⟩
end Go.Proofs.Yticpnjhkdfdkkaa.T
namespace Go.Proofs.Yticpnjhkdfdkkaa.Q
open Go.RowKit Go.Proofs.YticpnjhkdfdkkaaW.PrintWords
set_option linter.unusedVariables false
set_option linter.unusedSimpArgs false
theorem ev_succ {α : Type} {g : Nat → Option α} {r : α} (h : Ev (fun k => g (k + 1)) r) : Ev g r := Ev.step (f := fun k => g (k + 1)) (fun _ => rfl) h
theorem ev_of_all {α : Type} {g : Nat → Option α} {r : α} (h : ∀ k, g k = some r) : Ev g r := ⟨0, fun k _ => h k⟩
theorem ev_some {α : Type} (r : α) : Ev (fun _ => some r) r := ev_of_all fun _ => rfl
def Evs {α : Type} (g : Nat → Option α) (Q : α → Prop) : Prop := ∃ r, Ev g r ∧ Q r
theorem Evs.of {α : Type} {g : Nat → Option α} {Q : α → Prop} {r : α} (h : Ev g r) (hq : Q r) : Evs g Q := ⟨r, h, hq⟩
theorem Evs.done {α : Type} {Q : α → Prop} {r : α} (hq : Q r) : Evs (fun _ => some r) Q := ⟨r, ev_some r, hq⟩
theorem Evs.mono {α : Type} {g : Nat → Option α} {Q Q' : α → Prop} (h : Evs g Q) (hq : ∀ r, Q r → Q' r) : Evs g Q' := by
  obtain ⟨r, h1, h2⟩ := h
  exact ⟨r, h1, hq r h2⟩
theorem Evs.succ {α : Type} {g : Nat → Option α} {Q : α → Prop} (h : Evs (fun k => g (k + 1)) Q) : Evs g Q := by
  obtain ⟨r, h1, h2⟩ := h
  exact ⟨r, ev_succ h1, h2⟩
theorem Evs.bind {α β : Type} {g : Nat → Option α} {f : Nat → α → Option β} {Q : α → Prop} {R : β → Prop} (h : Evs g Q) (k : ∀ a, Q a → Evs (fun n => f n a) R) : Evs (fun n => (g n).bind (f n)) R := by
  obtain ⟨a, h1, h2⟩ := h
  obtain ⟨r, k1, k2⟩ := k a h2
  exact ⟨r, Ev.bind h1 k1, k2⟩
theorem bsome {α β : Type} (a : α) (f : α → Option β) : (some a).bind f = f a := Eq.trans (Option.bind_some a f) (Eq.refl _)
end Go.Proofs.Yticpnjhkdfdkkaa.Q
namespace Go.Proofs.Yticpnjhkdfdkkaa.Q
open Go.RowKit Go.Proofs.Yticpnjhkdfdkkaa.T Go.Proofs.YticpnjhkdfdkkaaW.PrintWords Go.Proofs.YticpnjhkdfdkkaaW.PrintLast
set_option linter.unusedVariables false
set_option linter.unusedSimpArgs false
theorem wrap_id {x : Int} (h0 : -9223372036854775808 ≤ x) (h1 : x < 9223372036854775808) : wrap64 x = x := by unfold wrap64; omega
theorem tmod_range {x n : Int} (h : 0 ≤ x) (hn : 1 ≤ n) : 0 ≤ Int.tmod x n ∧ Int.tmod x n < n := by
  rw [Int.tmod_eq_emod_of_nonneg h]
  exact ⟨Int.emod_nonneg _ (by omega), Int.emod_lt_of_pos _ (by omega)⟩
theorem xor_nonneg {a b : Int} (h1 : 0 ≤ a) (h2 : a < 4611686018427387904) (h3 : 0 ≤ b) (h4 : b < 4611686018427387904) : 0 ≤ Go.bits .xor .i64 a b := by
  obtain ⟨A, rfl⟩ := Int.eq_ofNat_of_zero_le h1
  obtain ⟨B, rfl⟩ := Int.eq_ofNat_of_zero_le h3
  have hx : A ^^^ B < 2 ^ 62 := Nat.xor_lt_two_pow (by omega) (by omega)
  have e1 : (BitVec.ofInt 64 (A : Int)).toNat = A := by
    rw [BitVec.ofInt_natCast, BitVec.toNat_ofNat]; exact Nat.mod_eq_of_lt (by omega)
  have e2 : (BitVec.ofInt 64 (B : Int)).toNat = B := by
    rw [BitVec.ofInt_natCast, BitVec.toNat_ofNat]; exact Nat.mod_eq_of_lt (by omega)
  show 0 ≤ IntKind.i64.wrap ((BitVec.ofInt 64 (A : Int) ^^^ BitVec.ofInt 64 (B : Int)).toNat : Int)
  rw [BitVec.toNat_xor, e1, e2]
  simp only [IntKind.wrap, IntKind.bits, IntKind.signed]
  simp
  omega
def Bytes (b : List Int) : Prop := ∀ x ∈ b, 0 ≤ x ∧ x ≤ 255
theorem rd_bytes {b : List Int} (h : Bytes b) (i : Int) : 0 ≤ rd b i ∧ rd b i ≤ 255 := by
  unfold rd
  rw [List.getD_eq_getElem?_getD]
  cases e : b[i.toNat]? with
  | none => simp
  | some x => exact h x (List.mem_of_getElem? e)
theorem pick_ev (b : List Int) (p n : Int) (hb : Bytes b) (hl : b.length ≤ 2000) (h0 : 0 ≤ p) (h1 : p ≤ 1000000000) (hn : 1 ≤ n) :
    ∃ v, Ev (fun k => spec_l6Rd_pick.f k b p n) (v, p + 1) ∧ 0 ≤ v ∧ v < n := by
  have e1 : wrap64 (p + 1) = p + 1 := wrap_id (by omega) (by omega)
  have e2 : wrap64 (p + 1 - 1) = p := by rw [wrap_id (by omega) (by omega)]; omega
  by_cases hz : b.length = 0
  · refine ⟨0, ⟨1, fun k hk => ?_⟩, by omega, by omega⟩
    obtain ⟨k, rfl⟩ : ∃ m, k = m + 1 := ⟨k - 1, by omega⟩
    show spec_l6Rd_pick.f (k + 1) b p n = _
    unfold spec_l6Rd_pick.f
    rw [if_neg (by omega), e1]
    simp [spec_l6Rd_pick.j0, hz]
  · have hz' : (((b.length : Int) == 0) = true) = False := by simp; intro h; simp [h] at hz
    by_cases hlt : p < (b.length : Int)
    · obtain ⟨r0, r1⟩ := rd_bytes hb p
      have := tmod_range (x := rd b p) r0 hn
      refine ⟨Int.tmod (rd b p) n, ⟨1, fun k hk => ?_⟩, this.1, this.2⟩
      obtain ⟨k, rfl⟩ : ∃ m, k = m + 1 := ⟨k - 1, by omega⟩
      show spec_l6Rd_pick.f (k + 1) b p n = _
      unfold spec_l6Rd_pick.f
      rw [if_neg (by omega), e1]
      simp only [spec_l6Rd_pick.j0, e2, hz']
      rw [if_neg (by simp), if_pos hlt, if_pos h0, if_neg (by omega), wrap_id (by omega) (by omega)]
    · obtain ⟨q0, q1⟩ := tmod_range (x := p) (n := (b.length : Int)) h0 (by omega)
      obtain ⟨r0, r1⟩ := rd_bytes hb (Int.tmod p (b.length : Int))
      have f1 : wrap64 (p * 7) = p * 7 := wrap_id (by omega) (by omega)
      have f2 : wrap64 (p * 7 + 3) = p * 7 + 3 := wrap_id (by omega) (by omega)
      obtain ⟨q2, q3⟩ := tmod_range (x := p * 7 + 3) (n := (b.length : Int)) (by omega) (by omega)
      obtain ⟨r2, r3⟩ := rd_bytes hb (Int.tmod (p * 7 + 3) (b.length : Int))
      have d0 : 0 ≤ Int.tdiv p (b.length : Int) ∧ Int.tdiv p (b.length : Int) ≤ p := by
        rw [Int.tdiv_eq_ediv_of_nonneg h0]
        exact ⟨Int.ediv_nonneg h0 (by omega), Int.ediv_le_self _ h0⟩
      obtain ⟨x, hx⟩ : ∃ x, x = rd b (Int.tmod p (b.length : Int)) := ⟨_, rfl⟩
      obtain ⟨y, hy⟩ : ∃ y, y = rd b (Int.tmod (p * 7 + 3) (b.length : Int)) := ⟨_, rfl⟩
      obtain ⟨z, hz2⟩ : ∃ z, z = Int.tdiv p (b.length : Int) := ⟨_, rfl⟩
      obtain ⟨s, hs⟩ : ∃ s, s = x * 131 + y * 1117 + p * 29 + z * 53 := ⟨_, rfl⟩
      rw [← hx] at r0 r1
      rw [← hy] at r2 r3
      rw [← hz2] at d0
      have s0 : 0 ≤ s ∧ s < 4611686018427387904 := by omega
      have t0 : 0 ≤ Int.tdiv s 64 ∧ Int.tdiv s 64 ≤ s := by
        rw [Int.tdiv_eq_ediv_of_nonneg s0.1]
        exact ⟨Int.ediv_nonneg s0.1 (by omega), Int.ediv_le_self _ s0.1⟩
      have w1 : wrap64 x = x := wrap_id (by omega) (by omega)
      have w2 : wrap64 y = y := wrap_id (by omega) (by omega)
      have w3 : wrap64 z = z := wrap_id (by omega) (by omega)
      have w4 : wrap64 (x * 131) = x * 131 := wrap_id (by omega) (by omega)
      have w5 : wrap64 (y * 1117) = y * 1117 := wrap_id (by omega) (by omega)
      have w6 : wrap64 (p * 29) = p * 29 := wrap_id (by omega) (by omega)
      have w7 : wrap64 (z * 53) = z * 53 := wrap_id (by omega) (by omega)
      have w8 : wrap64 (x * 131 + y * 1117) = x * 131 + y * 1117 := wrap_id (by omega) (by omega)
      have w9 : wrap64 (x * 131 + y * 1117 + p * 29) = x * 131 + y * 1117 + p * 29 := wrap_id (by omega) (by omega)
      have wa : wrap64 (x * 131 + y * 1117 + p * 29 + z * 53) = s := by rw [hs]; exact wrap_id (by omega) (by omega)
      have wb : wrap64 (Int.tdiv s 64) = Int.tdiv s 64 := wrap_id (by omega) (by omega)
      have := tmod_range (x := Go.bits .xor .i64 s (Int.tdiv s 64)) (n := n) (xor_nonneg s0.1 s0.2 t0.1 (by omega)) hn
      refine ⟨_, ⟨1, fun k hk => ?_⟩, this.1, this.2⟩
      obtain ⟨k, rfl⟩ : ∃ m, k = m + 1 := ⟨k - 1, by omega⟩
      show spec_l6Rd_pick.f (k + 1) b p n = _
      unfold spec_l6Rd_pick.f
      rw [if_neg (by omega), e1]
      simp only [spec_l6Rd_pick.j0, e2, hz', f1, f2]
      rw [if_neg (by simp), if_neg hlt, if_neg (by omega), if_pos q0, if_pos q1, if_pos q2, if_pos q3, if_neg (by omega), ← hx, ← hy, ← hz2, w1, w2, w3, w4, w5, w6, w7, w8, w9, wa, wb]
theorem pick_evs (b : List Int) (p n : Int) (hb : Bytes b) (hl : b.length ≤ 2000) (h0 : 0 ≤ p) (h1 : p ≤ 1000000000) (hn : 1 ≤ n) :
    Evs (fun k => spec_l6Rd_pick.f k b p n) (fun r => 0 ≤ r.1 ∧ r.1 < n ∧ r.2 = p + 1) := by
  obtain ⟨v, h, v0, v1⟩ := pick_ev b p n hb hl h0 h1 hn
  exact ⟨_, h, v0, v1, rfl⟩
end Go.Proofs.Yticpnjhkdfdkkaa.Q
namespace Go.Proofs.Yticpnjhkdfdkkaa.Q
open Go.RowKit Go.Proofs.Yticpnjhkdfdkkaa.T Go.Proofs.YticpnjhkdfdkkaaW.PrintWords Go.Proofs.YticpnjhkdfdkkaaW.PrintLast
set_option linter.unusedVariables false
set_option linter.unusedSimpArgs false
theorem impl_within_eq (a b c : Int) : impl_within.f a b c = some (decide (b ≤ a ∧ a ≤ c)) := by
  unfold impl_within.f
  by_cases h : a ≥ b
  · rw [if_pos h]
    have : (b ≤ a ∧ a ≤ c) ↔ a ≤ c := ⟨fun h => h.2, fun h' => ⟨h, h'⟩⟩
    simp [this]
  · rw [if_neg h]
    have : ¬ (b ≤ a ∧ a ≤ c) := fun h' => h h'.1
    simp [this]
theorem spec_l6In_eq (a b c : Int) : spec_l6In.f a b c = some (decide (b ≤ a ∧ a ≤ c)) := by
  unfold spec_l6In.f
  by_cases h : a ≥ b
  · rw [if_pos h]
    have : (b ≤ a ∧ a ≤ c) ↔ a ≤ c := ⟨fun h => h.2, fun h' => ⟨h, h'⟩⟩
    simp [this]
  · rw [if_neg h]
    have : ¬ (b ≤ a ∧ a ≤ c) := fun h' => h h'.1
    simp [this]
end Go.Proofs.Yticpnjhkdfdkkaa.Q
namespace Go.Proofs.Yticpnjhkdfdkkaa.Q
open Go.RowKit Go.Proofs.Yticpnjhkdfdkkaa.T Go.Proofs.YticpnjhkdfdkkaaW.PrintWords Go.Proofs.YticpnjhkdfdkkaaW.PrintLast
set_option linter.unusedVariables false
set_option linter.unusedSimpArgs false
theorem rd_nat (l : List Int) (j : Nat) (h : j < l.length) : rd l (j : Int) = l[j] := by
  unfold rd
  rw [Int.toNat_natCast, List.getD_eq_getElem?_getD, List.getElem?_eq_getElem h]
  rfl
theorem drop_int {l : List Int} {i : Nat} (h : i < l.length) : l.drop i = rd l i :: l.drop (i + 1) := by
  rw [List.drop_eq_getElem_cons h, rd_nat l i h]
def ab (l : List Int) : Bool := decide (∀ x ∈ l, 0 ≤ x ∧ x ≤ 255)
theorem ab_cons (x : Int) (l : List Int) : ab (x :: l) = (decide (0 ≤ x ∧ x ≤ 255) && ab l) := by
  rw [Bool.eq_iff_iff]
  simp [ab, List.forall_mem_cons]
theorem ab_nil : ab [] = true := by simp [ab]
theorem isByte_eq (a : Int) : impl_isByte.f a = some (decide (0 ≤ a ∧ a ≤ 255)) := by
  unfold impl_isByte.f
  by_cases h : a ≥ 0
  · rw [if_pos h]
    have : (0 ≤ a ∧ a ≤ 255) ↔ a ≤ 255 := ⟨fun h => h.2, fun h' => ⟨h, h'⟩⟩
    simp [this]
  · rw [if_neg h]
    have : ¬ (0 ≤ a ∧ a ≤ 255) := fun h' => h h'.1
    simp [this]
theorem baseValid_eq (a b : Int) : impl_baseValid.f a b = some (decide ((0 ≤ a ∧ a ≤ 99999) ∧ (0 ≤ b ∧ b ≤ 99999))) := by
  unfold impl_baseValid.f
  rw [impl_within_eq, impl_within_eq]
  by_cases h : 0 ≤ a ∧ a ≤ 99999 <;> simp [h]
theorem idValid_eqB (a : Int) : impl_idValid.f a = some (decide (0 ≤ a ∧ a ≤ 254)) := by
  unfold impl_idValid.f
  rw [impl_within_eq]
  rfl
theorem implAll_loop (l : List Int) (hl : l.length ≤ 1000000000000000) : ∀ (d i : Nat), l.length - i = d → i ≤ l.length → Ev (fun k => impl_allBytes.l0 k l (l.length : Int) (i : Int)) (ab (l.drop i)) := by
  intro d
  induction d with
  | zero =>
    intro i hd hi
    rw [show l.drop i = [] from List.drop_eq_nil_of_le (by omega), ab_nil]
    refine ev_succ ?_
    simp only [impl_allBytes.l0, if_neg (show ¬ (i : Int) < (l.length : Int) by omega)]
    exact ev_some _
  | succ d ih =>
    intro i hd hi
    have e1 : wrap64 ((i : Int) + 1) = ((i + 1 : Nat) : Int) := by rw [wrap_id (by omega) (by omega)]; omega
    rw [drop_int (show i < l.length by omega), ab_cons]
    refine ev_succ ?_
    simp only [impl_allBytes.l0, if_pos (show (i : Int) < (l.length : Int) by omega), if_pos (show (0 : Int) ≤ i by omega), isByte_eq, bsome, decide_eq_true_eq, e1]
    by_cases h : 0 ≤ rd l (i : Int) ∧ rd l (i : Int) ≤ 255
    · simp only [if_pos h, decide_eq_true h, Bool.true_and]
      exact ih (i + 1) (by omega) (by omega)
    · simp only [if_neg h, decide_eq_false h, Bool.false_and]
      exact ev_some _
theorem implAll (l : List Int) (hl : l.length ≤ 1000000000000000) : Ev (fun k => impl_allBytes.f k l) (ab l) := by
  unfold impl_allBytes.f
  have := implAll_loop l hl l.length 0 (by omega) (by omega)
  simpa using this
theorem specAll_loop (l : List Int) (hl : l.length ≤ 1000000000000000) : ∀ (d i : Nat), l.length - i = d → i ≤ l.length → Ev (fun k => spec_l1Ok.l0 k l (i : Int)) (ab (l.drop i)) := by
  intro d
  induction d with
  | zero =>
    intro i hd hi
    rw [show l.drop i = [] from List.drop_eq_nil_of_le (by omega), ab_nil]
    refine ev_succ ?_
    simp only [spec_l1Ok.l0, if_neg (show ¬ (i : Int) < (l.length : Int) by omega)]
    exact ev_some _
  | succ d ih =>
    intro i hd hi
    have e1 : wrap64 ((i : Int) + 1) = ((i + 1 : Nat) : Int) := by rw [wrap_id (by omega) (by omega)]; omega
    rw [drop_int (show i < l.length by omega), ab_cons]
    refine ev_succ ?_
    simp only [spec_l1Ok.l0, if_pos (show (i : Int) < (l.length : Int) by omega), if_pos (show (0 : Int) ≤ i by omega), spec_l6In_eq, bsome, decide_eq_true_eq, e1]
    by_cases h : 0 ≤ rd l (i : Int) ∧ rd l (i : Int) ≤ 255
    · simp only [if_pos h, decide_eq_true h, Bool.true_and]
      exact ih (i + 1) (by omega) (by omega)
    · simp only [if_neg h, decide_eq_false h, Bool.false_and]
      exact ev_some _
theorem specAll (l : List Int) (hl : l.length ≤ 1000000000000000) : Ev (fun k => spec_l1Ok.f k l) (ab l) := by
  unfold spec_l1Ok.f
  have := specAll_loop l hl l.length 0 (by omega) (by omega)
  simpa using this
def pv (has : Bool) (l : List Int) : Bool := if has = true then decide (l.length ≤ 12) && ab l else decide (l.length = 0)
theorem implPart (has : Bool) (l : List Int) (hl : l.length ≤ 1000000000000000) : Ev (fun k => impl_partValid.f k has l) (pv has l) := by
  unfold impl_partValid.f pv
  cases has with
  | true =>
    simp only [if_true]
    by_cases h : (l.length : Int) ≤ 12
    · simp only [if_pos h, decide_eq_true (show l.length ≤ 12 by omega), Bool.true_and]
      exact Ev.bind (implAll l hl) (ev_some _)
    · simp only [if_neg h, decide_eq_false (show ¬ l.length ≤ 12 by omega), Bool.false_and]
      exact ev_some _
  | false =>
    simp only [Bool.false_eq_true, if_false]
    rw [show ((l.length : Int) == 0) = decide (l.length = 0) by rw [Bool.eq_iff_iff]; simp]
    exact ev_some _
theorem specPart (has : Bool) (l : List Int) (hl : l.length ≤ 1000000000000000) : Ev (fun k => spec_l3Part.f k has l) (pv has l) := by
  unfold spec_l3Part.f pv
  cases has with
  | true =>
    simp only [if_true]
    refine Ev.bind (specAll l hl) ?_
    by_cases h : ab l = true
    · simp only [if_pos h, h, Bool.and_true]
      rw [show decide ((l.length : Int) ≤ 12) = decide (l.length ≤ 12) by rw [decide_eq_decide]; omega]
      exact ev_some _
    · simp only [if_neg h, show ab l = false by simpa using h, Bool.and_false]
      exact ev_some _
  | false =>
    simp only [Bool.false_eq_true, if_false]
    by_cases h : l.length = 0
    · simp only [if_pos (show (l.length : Int) = 0 by omega), decide_eq_true h]
      refine Ev.bind (specAll l hl) ?_
      have hn : l = [] := List.length_eq_zero_iff.1 h
      subst hn
      simp only [ab_nil, if_true]
      exact ev_some _
    · simp only [if_neg (show ¬ (l.length : Int) = 0 by omega), decide_eq_false h]
      exact ev_some _
abbrev Rc := S34
abbrev rr (l : List Rc) (i : Int) : Rc := rd_T34 l i
theorem rr_nat (l : List Rc) (j : Nat) (h : j < l.length) : rr l (j : Int) = l[j] := by
  unfold rr rd_T34
  rw [Int.toNat_natCast, List.getD_eq_getElem?_getD, List.getElem?_eq_getElem h]
  rfl
def smallR (r : Rc) : Prop := r.f3.length ≤ 1000000000000000 ∧ r.f5.length ≤ 1000000000000000
def smallRs (l : List Rc) : Prop := l.length ≤ 1000000000000000 ∧ ∀ r ∈ l, smallR r
theorem smallRs_at {l : List Rc} (h : smallRs l) (j : Nat) (hj : j < l.length) : smallR (rr l (j : Int)) := by
  rw [rr_nat l j hj]
  exact h.2 _ (List.getElem_mem hj)
def rv (r : Rc) : Bool := decide ((0 ≤ r.f0 ∧ r.f0 ≤ 99999) ∧ (0 ≤ r.f1 ∧ r.f1 ≤ 99999)) && (pv r.f2 r.f3 && pv r.f4 r.f5)
theorem implRec (r : Rc) (h : smallR r) : Ev (fun k => impl_RecordValid.f k r.f0 r.f1 r.f2 r.f3 r.f4 r.f5) (rv r) := by
  unfold impl_RecordValid.f rv
  simp only [baseValid_eq, bsome, decide_eq_true_eq]
  by_cases h0 : (0 ≤ r.f0 ∧ r.f0 ≤ 99999) ∧ (0 ≤ r.f1 ∧ r.f1 ≤ 99999)
  · simp only [if_pos h0, decide_eq_true h0, Bool.true_and]
    refine Ev.bind (implPart _ _ h.1) ?_
    by_cases h1 : pv r.f2 r.f3 = true
    · simp only [if_pos h1, h1, Bool.true_and]
      exact Ev.bind (implPart _ _ h.2) (ev_some _)
    · simp only [if_neg h1, show pv r.f2 r.f3 = false by simpa using h1, Bool.false_and]
      exact ev_some _
  · simp only [if_neg h0, decide_eq_false h0, Bool.false_and]
    exact ev_some _
theorem specRec (r : Rc) (h : smallR r) : Ev (fun k => spec_RecordValid.f k r.f0 r.f1 r.f2 r.f3 r.f4 r.f5) (rv r) := by
  unfold spec_RecordValid.f rv
  simp only [spec_l6In_eq, bsome, decide_eq_true_eq]
  by_cases h0 : 0 ≤ r.f0 ∧ r.f0 ≤ 99999
  · by_cases h1 : 0 ≤ r.f1 ∧ r.f1 ≤ 99999
    · simp only [if_pos h0, if_pos h1, decide_eq_true (show (0 ≤ r.f0 ∧ r.f0 ≤ 99999) ∧ (0 ≤ r.f1 ∧ r.f1 ≤ 99999) from ⟨h0, h1⟩), Bool.true_and]
      refine Ev.bind (specPart _ _ h.1) ?_
      by_cases h2 : pv r.f2 r.f3 = true
      · simp only [if_pos h2, h2, Bool.true_and]
        exact Ev.bind (specPart _ _ h.2) (ev_some _)
      · simp only [if_neg h2, show pv r.f2 r.f3 = false by simpa using h2, Bool.false_and]
        exact ev_some _
    · simp only [if_pos h0, if_neg h1, decide_eq_false (show ¬ ((0 ≤ r.f0 ∧ r.f0 ≤ 99999) ∧ (0 ≤ r.f1 ∧ r.f1 ≤ 99999)) from fun h => h1 h.2), Bool.false_and]
      exact ev_some _
  · simp only [if_neg h0, decide_eq_false (show ¬ ((0 ≤ r.f0 ∧ r.f0 ≤ 99999) ∧ (0 ≤ r.f1 ∧ r.f1 ≤ 99999)) from fun h => h0 h.1), Bool.false_and]
    exact ev_some _
def RF (l : List Rc) (i : Nat) : Prop := ∀ j, i ≤ j → j < l.length → rv (rr l j) = true ∧ (0 < j → (rr l ((j : Int) - 1)).f0 < (rr l j).f0)
theorem RF_end {l : List Rc} {i : Nat} (h : l.length ≤ i) : RF l i := fun j h1 h2 => by omega
theorem RF_step {l : List Rc} {i : Nat} (h : i < l.length) : RF l i ↔ (rv (rr l i) = true ∧ (0 < i → (rr l ((i : Int) - 1)).f0 < (rr l i).f0)) ∧ RF l (i + 1) := by
  constructor
  · intro hv
    exact ⟨hv i (Nat.le_refl _) h, fun j h1 h2 => hv j (by omega) h2⟩
  · rintro ⟨h1, h2⟩ j h3 h4
    by_cases e : j = i
    · subst e; exact h1
    · exact h2 j (by omega) h4
theorem implRecs_loop (l : List Rc) (hl : smallRs l) (a0 a1 : Bool) (a2 a3 a4 : Int) : ∀ (d i : Nat), l.length - i = d → i ≤ l.length → Evs (fun k => impl_BatchValid.l0 k l (l.length : Int) (i : Int) a0 a1 a2 a3 a4 l) (fun b => b = true ↔ RF l i) := by
  intro d
  induction d with
  | zero =>
    intro i hd hi
    refine Evs.succ ?_
    simp only [impl_BatchValid.l0, if_neg (show ¬ (i : Int) < (l.length : Int) by omega)]
    exact Evs.done (by simp; exact RF_end (by omega))
  | succ d ih =>
    intro i hd hi
    have hll := hl.1
    have hn := ih (i + 1) (by omega) (by omega)
    have e1 : wrap64 ((i : Int) + 1) = ((i + 1 : Nat) : Int) := by rw [wrap_id (by omega) (by omega)]; omega
    have e2 : wrap64 ((i : Int) - 1) = (i : Int) - 1 := wrap_id (by omega) (by omega)
    rw [RF_step (show i < l.length by omega)]
    refine Evs.succ ?_
    simp only [impl_BatchValid.l0, if_pos (show (i : Int) < (l.length : Int) by omega), if_pos (show (0 : Int) ≤ i by omega), e1, e2]
    refine Evs.bind (Evs.of (implRec (rr l (i : Int)) (smallRs_at hl i (by omega))) rfl : Evs _ (fun x => x = rv (rr l (i : Int)))) ?_
    rintro _ rfl
    by_cases h1 : rv (rr l (i : Int)) = true
    · simp only [if_pos h1]
      by_cases h0 : (i : Int) > 0
      · simp only [if_pos h0, if_pos (show 0 ≤ (i : Int) - 1 by omega), if_pos (show (i : Int) - 1 < (l.length : Int) by omega)]
        by_cases h2 : (rr l ((i : Int) - 1)).f0 ≥ (rr l (i : Int)).f0
        · simp only [if_pos h2]
          refine Evs.done ?_
          simp only [Bool.false_eq_true, false_iff]
          rintro ⟨⟨_, h3⟩, _⟩
          have := h3 (by omega)
          omega
        · simp only [if_neg h2]
          refine hn.mono fun b hb => ?_
          rw [hb]
          exact ⟨fun h => ⟨⟨h1, fun _ => by omega⟩, h⟩, fun h => h.2⟩
      · simp only [if_neg h0]
        refine hn.mono fun b hb => ?_
        rw [hb]
        exact ⟨fun h => ⟨⟨h1, fun h' => absurd h' (by omega)⟩, h⟩, fun h => h.2⟩
    · simp only [if_neg h1]
      exact Evs.done (by simp only [Bool.false_eq_true, false_iff]; exact fun h => h1 h.1.1)
theorem specRecs_loop (l : List Rc) (hl : smallRs l) : ∀ (d i : Nat), l.length - i = d → i ≤ l.length → Evs (fun k => spec_l5Records.l0 k l (i : Int)) (fun b => b = true ↔ RF l i ∧ 1 ≤ l.length ∧ l.length ≤ 6) := by
  intro d
  induction d with
  | zero =>
    intro i hd hi
    refine Evs.succ ?_
    simp only [spec_l5Records.l0, if_neg (show ¬ (i : Int) < (l.length : Int) by omega), spec_l6In_eq, bsome]
    exact Evs.done (by simp only [decide_eq_true_eq]; exact ⟨fun h => ⟨RF_end (by omega), by omega, by omega⟩, fun h => by have := h.2; omega⟩)
  | succ d ih =>
    intro i hd hi
    have hll := hl.1
    have hn := ih (i + 1) (by omega) (by omega)
    have e1 : wrap64 ((i : Int) + 1) = ((i + 1 : Nat) : Int) := by rw [wrap_id (by omega) (by omega)]; omega
    have e2 : wrap64 ((i : Int) - 1) = (i : Int) - 1 := wrap_id (by omega) (by omega)
    rw [RF_step (show i < l.length by omega)]
    refine Evs.succ ?_
    simp only [spec_l5Records.l0, if_pos (show (i : Int) < (l.length : Int) by omega), if_pos (show (0 : Int) ≤ i by omega), e1, e2]
    refine Evs.bind (Evs.of (specRec (rr l (i : Int)) (smallRs_at hl i (by omega))) rfl : Evs _ (fun x => x = rv (rr l (i : Int)))) ?_
    rintro _ rfl
    by_cases h1 : rv (rr l (i : Int)) = true
    · simp only [if_pos h1]
      by_cases h0 : (i : Int) > 0
      · simp only [if_pos h0, if_pos (show 0 ≤ (i : Int) - 1 by omega), if_pos (show (i : Int) - 1 < (l.length : Int) by omega)]
        by_cases h2 : (rr l ((i : Int) - 1)).f0 ≥ (rr l (i : Int)).f0
        · simp only [if_pos h2]
          refine Evs.done ?_
          simp only [Bool.false_eq_true, false_iff]
          rintro ⟨⟨⟨_, h3⟩, _⟩, _⟩
          have := h3 (by omega)
          omega
        · simp only [if_neg h2]
          refine hn.mono fun b hb => ?_
          rw [hb]
          exact ⟨fun h => ⟨⟨⟨h1, fun _ => by omega⟩, h.1⟩, h.2⟩, fun h => ⟨h.1.2, h.2⟩⟩
      · simp only [if_neg h0]
        refine hn.mono fun b hb => ?_
        rw [hb]
        exact ⟨fun h => ⟨⟨⟨h1, fun h' => absurd h' (by omega)⟩, h.1⟩, h.2⟩, fun h => ⟨h.1.2, h.2⟩⟩
    · simp only [if_neg h1]
      exact Evs.done (by simp only [Bool.false_eq_true, false_iff]; exact fun h => h1 h.1.1.1)
def VB (a1 : Bool) (a2 a3 a4 : Int) (l : List Rc) : Prop :=
  (if a2 = 255 then a3 = 0 ∧ a4 = 0 ∧ a1 = false else (0 ≤ a2 ∧ a2 ≤ 254) ∧ (0 ≤ a3 ∧ a3 ≤ 99) ∧ (0 ≤ a4 ∧ a4 ≤ 9999)) ∧ (1 ≤ l.length ∧ l.length ≤ 6) ∧ (a1 = true → l.length = 1) ∧ RF l 0
theorem implB_j0 (a0 a1 : Bool) (a2 a3 a4 : Int) (l : List Rc) (hl : smallRs l) : Evs (fun k => impl_BatchValid.j0 k a0 a1 a2 a3 a4 l) (fun b => b = true ↔ (1 ≤ l.length ∧ l.length ≤ 6) ∧ (a1 = true → l.length = 1) ∧ RF l 0) := by
  have hr := implRecs_loop l hl a0 a1 a2 a3 a4 l.length 0 (by omega) (by omega)
  refine Evs.succ ?_
  simp only [impl_BatchValid.j0, impl_within_eq, bsome, decide_eq_true_eq]
  by_cases h : 1 ≤ (l.length : Int) ∧ (l.length : Int) ≤ 6
  · simp only [if_pos h]
    cases a1 with
    | true =>
      simp only [if_true]
      refine Evs.succ ?_
      by_cases h1 : l.length = 1
      · simp only [impl_BatchValid.j1, show ((l.length : Int) != 1) = false by rw [h1]; rfl, Bool.false_eq_true, if_false]
        refine hr.mono fun b hb => ?_
        rw [hb]
        exact ⟨fun h2 => ⟨by omega, fun _ => h1, h2⟩, fun h2 => h2.2.2⟩
      · simp only [impl_BatchValid.j1, show ((l.length : Int) != 1) = true by simp; omega, if_true]
        exact Evs.done (by simp only [Bool.false_eq_true, false_iff]; exact fun h2 => h1 (h2.2.1 trivial))
    | false =>
      simp only [Bool.false_eq_true, if_false]
      refine Evs.succ ?_
      simp only [impl_BatchValid.j1, Bool.false_eq_true, if_false]
      refine hr.mono fun b hb => ?_
      rw [hb]
      exact ⟨fun h2 => ⟨by omega, (fun h3 => h3.elim), h2⟩, fun h2 => h2.2.2⟩
  · simp only [if_neg h]
    refine Evs.succ ?_
    simp only [impl_BatchValid.j1, if_true]
    exact Evs.done (by simp only [Bool.false_eq_true, false_iff]; exact fun h2 => h ⟨by have := h2.1.1; omega, by have := h2.1.2; omega⟩)
theorem implB_evs (a0 a1 : Bool) (a2 a3 a4 : Int) (l : List Rc) (hl : smallRs l) : Evs (fun k => impl_BatchValid.f k a0 a1 a2 a3 a4 l) (fun b => b = true ↔ VB a1 a2 a3 a4 l) := by
  have hj := implB_j0 a0 a1 a2 a3 a4 l hl
  unfold impl_BatchValid.f VB
  by_cases h : a2 = 255
  · simp only [if_pos h]
    by_cases h3 : a3 = 0
    · simp only [if_pos h3]
      by_cases h4 : a4 = 0
      · simp only [if_pos h4]
        cases a1 with
        | true =>
          simp only [if_true]
          exact Evs.done (by simp)
        | false =>
          simp only [Bool.false_eq_true, if_false]
          refine hj.mono fun b hb => ?_
          rw [hb]
          exact ⟨fun h2 => ⟨⟨h3, h4, trivial⟩, h2.1, (fun h5 => h5.elim), h2.2.2⟩, fun h2 => ⟨h2.2.1, (fun h5 => by cases h5), h2.2.2.2⟩⟩
      · simp only [if_neg h4]
        exact Evs.done (by simp only [Bool.false_eq_true, false_iff]; exact fun h2 => h4 h2.1.2.1)
    · simp only [if_neg h3]
      exact Evs.done (by simp only [Bool.false_eq_true, false_iff]; exact fun h2 => h3 h2.1.1)
  · simp only [if_neg h, idValid_eqB, impl_within_eq, bsome, decide_eq_true_eq]
    by_cases h2 : 0 ≤ a2 ∧ a2 ≤ 254
    · simp only [if_pos h2]
      by_cases h3 : 0 ≤ a3 ∧ a3 ≤ 99
      · simp only [if_pos h3]
        by_cases h4 : 0 ≤ a4 ∧ a4 ≤ 9999
        · simp only [if_pos h4]
          refine hj.mono fun b hb => ?_
          rw [hb]
          exact ⟨fun h5 => ⟨⟨h2, h3, h4⟩, h5⟩, fun h5 => h5.2⟩
        · simp only [if_neg h4]
          exact Evs.done (by simp only [Bool.false_eq_true, false_iff]; exact fun h5 => h4 h5.1.2.2)
      · simp only [if_neg h3]
        exact Evs.done (by simp only [Bool.false_eq_true, false_iff]; exact fun h5 => h3 h5.1.2.1)
    · simp only [if_neg h2]
      exact Evs.done (by simp only [Bool.false_eq_true, false_iff]; exact fun h5 => h2 h5.1.1)
theorem specB_j0_true (a0 a1 : Bool) (a2 a3 a4 : Int) (l : List Rc) : Evs (fun k => spec_BatchValid.j0 k true a0 a1 a2 a3 a4 l) (fun b => b = false) := by
  refine Evs.succ ?_
  simp only [spec_BatchValid.j0, if_true]
  exact Evs.done rfl
theorem specB_evs (a0 a1 : Bool) (a2 a3 a4 : Int) (l : List Rc) (hl : smallRs l) : Evs (fun k => spec_BatchValid.f k a0 a1 a2 a3 a4 l) (fun b => b = true ↔ VB a1 a2 a3 a4 l) := by
  have hr := specRecs_loop l hl l.length 0 (by omega) (by omega)
  have no : ∀ {P : Prop}, ¬ P → ∀ b : Bool, b = false → (b = true ↔ P) := fun hP b hb => by rw [hb]; simp only [Bool.false_eq_true, false_iff]; exact hP
  unfold spec_BatchValid.f
  unfold spec_l5Records.f
  refine Evs.bind hr ?_
  intro t ht
  by_cases h : t = true
  · obtain ⟨hRF, hl1⟩ := ht.1 h
    simp only [if_pos h, spec_l6In_eq, bsome, decide_eq_true_eq]
    by_cases h2 : 0 ≤ a2 ∧ a2 ≤ 255
    · simp only [if_pos h2]
      by_cases h3 : 0 ≤ a3 ∧ a3 ≤ 99
      · simp only [if_pos h3]
        by_cases h4 : 0 ≤ a4 ∧ a4 ≤ 9999
        · simp only [decide_eq_true h4, Bool.not_true]
          refine Evs.succ ?_
          simp only [spec_BatchValid.j0, Bool.false_eq_true, if_false]
          unfold VB
          by_cases h5 : a2 = 255
          · simp only [if_pos h5]
            by_cases h6 : a3 = 0
            · simp only [if_pos h6]
              by_cases h7 : a4 = 0
              · simp only [if_pos h7]
                refine Evs.done ?_
                cases a1
                · simp; exact ⟨⟨h6, h7⟩, hl1, hRF⟩
                · simp
              · simp only [if_neg h7]
                exact Evs.done (no (fun h8 => h7 h8.1.2.1) _ rfl)
            · simp only [if_neg h6]
              exact Evs.done (no (fun h8 => h6 h8.1.1) _ rfl)
          · simp only [if_neg h5]
            cases a1 with
            | true =>
              simp only [if_true]
              refine Evs.done ?_
              simp only [beq_iff_eq]
              exact ⟨fun h8 => ⟨⟨by omega, h3, h4⟩, hl1, fun _ => by omega, hRF⟩, fun h8 => by have := h8.2.2.1 trivial; omega⟩
            | false =>
              simp only [Bool.false_eq_true, if_false]
              refine Evs.done ?_
              simp only [true_iff]
              exact ⟨⟨by omega, h3, h4⟩, hl1, (fun h8 => h8.elim), hRF⟩
        · simp only [decide_eq_false h4, Bool.not_false]
          refine (specB_j0_true a0 a1 a2 a3 a4 l).mono (no ?_)
          unfold VB
          split
          · rintro ⟨⟨_, h8, _⟩, _⟩
            exact h4 (by omega)
          · exact fun h8 => h4 h8.1.2.2
      · simp only [if_neg h3]
        refine (specB_j0_true a0 a1 a2 a3 a4 l).mono (no ?_)
        unfold VB
        split
        · rintro ⟨⟨h8, _, _⟩, _⟩
          exact h3 (by omega)
        · exact fun h8 => h3 h8.1.2.1
    · simp only [if_neg h2]
      refine (specB_j0_true a0 a1 a2 a3 a4 l).mono (no ?_)
      unfold VB
      split
      · rename_i h8
        exact fun _ => h2 (by omega)
      · exact fun h8 => h2 (by have := h8.1.1; omega)
  · simp only [if_neg h]
    refine (specB_j0_true a0 a1 a2 a3 a4 l).mono (no ?_)
    exact fun h8 => h (ht.2 ⟨h8.2.2.2, h8.2.1⟩)
open Classical in
noncomputable def vb (a1 : Bool) (a2 a3 a4 : Int) (l : List Rc) : Bool := decide (VB a1 a2 a3 a4 l)
theorem vb_iff (a1 : Bool) (a2 a3 a4 : Int) (l : List Rc) : vb a1 a2 a3 a4 l = true ↔ VB a1 a2 a3 a4 l := by unfold vb; simp
theorem implB (a0 a1 : Bool) (a2 a3 a4 : Int) (l : List Rc) (hl : smallRs l) : Ev (fun k => impl_BatchValid.f k a0 a1 a2 a3 a4 l) (vb a1 a2 a3 a4 l) := by
  obtain ⟨b, hb, h⟩ := implB_evs a0 a1 a2 a3 a4 l hl
  rw [show vb a1 a2 a3 a4 l = b by rw [Bool.eq_iff_iff, vb_iff, h]]
  exact hb
theorem specB (a0 a1 : Bool) (a2 a3 a4 : Int) (l : List Rc) (hl : smallRs l) : Ev (fun k => spec_BatchValid.f k a0 a1 a2 a3 a4 l) (vb a1 a2 a3 a4 l) := by
  obtain ⟨b, hb, h⟩ := specB_evs a0 a1 a2 a3 a4 l hl
  rw [show vb a1 a2 a3 a4 l = b by rw [Bool.eq_iff_iff, vb_iff, h]]
  exact hb
end Go.Proofs.Yticpnjhkdfdkkaa.Q
namespace Go.Proofs.Yticpnjhkdfdkkaa.Q
open Go.RowKit Go.Proofs.Yticpnjhkdfdkkaa.T Go.Proofs.YticpnjhkdfdkkaaW.PrintWords Go.Proofs.YticpnjhkdfdkkaaW.PrintLast
set_option linter.unusedVariables false
set_option linter.unusedSimpArgs false
theorem bytes_of {l : List Int} (h : ∀ x ∈ l, (Lit.int .u8 x).wf = true) : Bytes l := by
  intro x hx
  have := h x hx
  simp [Lit.wf, IntKind.min, IntKind.max, IntKind.signed, IntKind.bits] at this
  omega
theorem open_ev (l : List Int) (h : Bytes l) : ∃ b, spec_l6Open.f l = some (b, 0) ∧ Bytes b ∧ b.length ≤ 2000 := by
  unfold spec_l6Open.f
  by_cases hc : (l.length : Int) > 2000
  · rw [if_pos hc, if_pos (by omega)]
    exact ⟨_, rfl, fun x hx => h x (List.mem_of_mem_take hx), by rw [List.length_take]; omega⟩
  · rw [if_neg hc]
    exact ⟨_, rfl, h, by omega⟩
end Go.Proofs.Yticpnjhkdfdkkaa.Q
namespace Go.Proofs.Yticpnjhkdfdkkaa.Q
open Go.RowKit Go.Proofs.Yticpnjhkdfdkkaa.T Go.Proofs.YticpnjhkdfdkkaaW.PrintWords Go.Proofs.YticpnjhkdfdkkaaW.PrintLast
set_option linter.unusedVariables false
set_option linter.unusedSimpArgs false
theorem lim2 {n c : Nat} (h : n ≤ 2000) (hc : 2000 < c) : n < c := by omega
theorem part_loop (bs : List Int) (hb : Bytes bs) (hl : bs.length ≤ 2000) : ∀ (d : Nat) (l : List Int) (n i p : Int), n - i ≤ d → 0 ≤ i → (l.length : Int) ≤ i → (l.length : Int) ≤ 12 → n ≤ 12 → 0 ≤ p → p + 2 * d ≤ 900000000 →
    Evs (fun k => spec_l91Part.l0 k l n i bs p) (fun r => r.2.1.length ≤ 12 ∧ p ≤ r.2.2 ∧ r.2.2 ≤ p + 2 * d) := by
  intro d
  induction d with
  | zero =>
    intro l n i p hd hi hll h12 hn h0 h1
    refine Evs.succ ?_
    simp only [spec_l91Part.l0, if_neg (show ¬ i < n by omega)]
    exact Evs.done ⟨by dsimp only; omega, by dsimp only; omega, by dsimp only; omega⟩
  | succ d ih =>
    intro l n i p hd hi hll h12 hn h0 h1
    refine Evs.succ ?_
    by_cases hlt : i < n
    · have e1 : wrap64 (i + 1) = i + 1 := wrap_id (by omega) (by omega)
      simp only [spec_l91Part.l0, if_pos hlt, bsome, e1]
      refine Evs.bind (pick_evs bs p 256 hb hl h0 (by omega) (by omega)) ?_
      rintro ⟨u, _⟩ ⟨u0, u1, rfl⟩
      refine Evs.bind (pick_evs bs (p + 1) 4 hb hl (by omega) (by omega) (by omega)) ?_
      rintro ⟨v, _⟩ ⟨v0, v1, rfl⟩
      simp only [if_pos v0, if_pos (show v < (([1, 2, 3, u] : List Int).length : Int) from v1), if_pos (show l.length < 17592186044416 from lim2 (by omega) (by omega))]
      have h := ih (l ++ [rd [1, 2, 3, u] v]) n (i + 1) (p + 1 + 1) (by omega) (by omega) (by simp; omega) (by simp; omega) hn (by omega) (by omega)
      exact h.mono (fun r hr => ⟨hr.1, by have := hr.2.1; omega, by have := hr.2.2; omega⟩)
    · simp only [spec_l91Part.l0, if_neg hlt]
      exact Evs.done ⟨by dsimp only; omega, by dsimp only; omega, by dsimp only; omega⟩
theorem part_evs (bs : List Int) (hb : Bytes bs) (hl : bs.length ≤ 2000) (p : Int) (h0 : 0 ≤ p) (h1 : p ≤ 800000000) : Evs (fun k => spec_l91Part.f k bs p) (fun r => r.2.1.length ≤ 12 ∧ p ≤ r.2.2 ∧ r.2.2 ≤ p + 30) := by
  unfold spec_l91Part.f
  refine Evs.bind (pick_evs bs p 4 hb hl h0 (by omega) (by omega)) ?_
  rintro ⟨u, _⟩ ⟨u0, u1, rfl⟩
  by_cases hu : u = 0
  · simp only [if_pos hu]
    exact Evs.done ⟨by simp, by dsimp only; omega, by dsimp only; omega⟩
  · simp only [if_neg hu, bsome]
    refine Evs.bind (pick_evs bs (p + 1) 5 hb hl (by omega) (by omega) (by omega)) ?_
    rintro ⟨v, _⟩ ⟨v0, v1, rfl⟩
    refine Evs.bind (pick_evs bs (p + 1 + 1) 12 hb hl (by omega) (by omega) (by omega)) ?_
    rintro ⟨x, _⟩ ⟨x0, x1, rfl⟩
    by_cases hx : x = 0
    · simp only [if_pos hx]
      refine Evs.succ ?_
      simp only [spec_l91Part.j0]
      have h := part_loop bs hb hl 12 [] 12 0 (p + 1 + 1 + 1) (by omega) (by omega) (by simp) (by simp) (by omega) (by omega) (by omega)
      exact h.mono (fun r hr => ⟨hr.1, by have := hr.2.1; omega, by have := hr.2.2; omega⟩)
    · simp only [if_neg hx]
      refine Evs.succ ?_
      simp only [spec_l91Part.j0]
      have h := part_loop bs hb hl 12 [] v 0 (p + 1 + 1 + 1) (by omega) (by omega) (by simp) (by simp) (by omega) (by omega) (by omega)
      exact h.mono (fun r hr => ⟨hr.1, by have := hr.2.1; omega, by have := hr.2.2; omega⟩)
def drawnR (n : Nat) (l : List Rc) : Prop := l.length ≤ n ∧ ∀ r ∈ l, r.f3.length ≤ 12 ∧ r.f5.length ≤ 12
theorem drawnR_small {n : Nat} (hn : n ≤ 100000) {l : List Rc} (h : drawnR n l) : smallRs l := ⟨by have := h.1; omega, fun r hr => ⟨by have := (h.2 r hr).1; omega, by have := (h.2 r hr).2; omega⟩⟩
theorem drawnR_add {n : Nat} {l : List Rc} (h : drawnR n l) {r : Rc} (h3 : r.f3.length ≤ 12) (h5 : r.f5.length ≤ 12) : drawnR (n + 1) (l ++ [r]) := by
  refine ⟨by have := h.1; simp; omega, fun x hx => ?_⟩
  rcases List.mem_append.1 hx with hx | hx
  · exact h.2 x hx
  · rw [List.mem_singleton.1 hx]
    exact ⟨h3, h5⟩
theorem drawnR_mono {n m : Nat} {l : List Rc} (h : drawnR n l) (hm : n ≤ m) : drawnR m l := ⟨by have := h.1; omega, h.2⟩
theorem recs_loop (bs : List Int) (hb : Bytes bs) (hl : bs.length ≤ 2000) (n : Int) (hn : n ≤ 100) : ∀ (d : Nat) (o : Int) (l : List Rc) (t i p : Int), n - i ≤ d → 0 ≤ i → drawnR i.toNat l → (0 < i → 0 < l.length) → 0 ≤ p → p + 70 * d ≤ 700000000 →
    Evs (fun k => spec_l91Records.l0 k o l n t i bs p) (fun r => drawnR (max i n).toNat r.1 ∧ (0 < max i n → 0 < r.1.length) ∧ p ≤ r.2 ∧ r.2 ≤ p + 70 * d) := by
  intro d
  induction d with
  | zero =>
    intro o l t i p hd hi hll hpos h0 h1
    refine Evs.succ ?_
    simp only [spec_l91Records.l0, if_neg (show ¬ i < n by omega)]
    exact Evs.done ⟨by dsimp only; exact drawnR_mono hll (by omega), by dsimp only; intro h; exact hpos (by omega), by dsimp only; omega, by dsimp only; omega⟩
  | succ d ih =>
    intro o l t i p hd hi hll hpos h0 h1
    refine Evs.succ ?_
    by_cases hlt : i < n
    · have e1 : wrap64 (i + 1) = i + 1 := wrap_id (by omega) (by omega)
      have hlen := hll.1
      simp only [spec_l91Records.l0, if_pos hlt]
      refine Evs.bind (part_evs bs hb hl p h0 (by omega)) ?_
      rintro ⟨kh, kl, p1⟩ ⟨hk, q0, q1⟩
      dsimp only at hk q0 q1 ⊢
      refine Evs.bind (part_evs bs hb hl p1 (by omega) (by omega)) ?_
      rintro ⟨vh, vl, p2⟩ ⟨hv, q2, q3⟩
      dsimp only at hv q2 q3 ⊢
      have main : ∀ (c : Bool) (q : Int), 0 ≤ q → p ≤ q → q ≤ p2 + 1 → Evs (fun k => spec_l91Records.j1 k o l n t i vh vl c bs q o t kh kl false) (fun r => drawnR (max i n).toNat r.1 ∧ (0 < max i n → 0 < r.1.length) ∧ p ≤ r.2 ∧ r.2 ≤ p + 70 * (d + 1 : Nat)) := by
        intro c q hq0 hq1 hq2
        refine Evs.succ ?_
        have hlim : l.length < 1759218604441 := lim2 (by omega) (by omega)
        cases c with
        | true =>
          simp only [spec_l91Records.j1, if_true, if_pos hlim, e1]
          refine Evs.bind (pick_evs bs q 3 hb hl (by omega) (by omega) (by omega)) ?_
          rintro ⟨u, _⟩ ⟨u0, u1, rfl⟩
          refine Evs.bind (pick_evs bs (q + 1) 5 hb hl (by omega) (by omega) (by omega)) ?_
          rintro ⟨v, _⟩ ⟨v0, v1, rfl⟩
          refine Evs.bind (pick_evs bs (q + 1 + 1) 30 hb hl (by omega) (by omega) (by omega)) ?_
          rintro ⟨x, _⟩ ⟨x0, x1, rfl⟩
          have h := ih (wrap64 (wrap64 (o + 1) + wrap64 (Int.tdiv v 4))) (l ++ [⟨o, t, kh, [u], vh, vl⟩]) (mx (wrap64 (wrap64 (t + x) - 6)) 0) (i + 1) (q + 1 + 1 + 1) (by omega) (by omega) (drawnR_mono (drawnR_add hll (by simp) hv) (by omega)) (fun _ => by simp) (by omega) (by omega)
          rw [show max (i + 1) n = max i n by omega] at h
          exact h.mono (fun r hr => ⟨hr.1, hr.2.1, by have := hr.2.2.1; omega, by have := hr.2.2.2; omega⟩)
        | false =>
          simp only [spec_l91Records.j1, Bool.false_eq_true, if_false, if_pos hlim, e1]
          refine Evs.bind (pick_evs bs q 5 hb hl (by omega) (by omega) (by omega)) ?_
          rintro ⟨v, _⟩ ⟨v0, v1, rfl⟩
          refine Evs.bind (pick_evs bs (q + 1) 30 hb hl (by omega) (by omega) (by omega)) ?_
          rintro ⟨x, _⟩ ⟨x0, x1, rfl⟩
          have h := ih (wrap64 (wrap64 (o + 1) + wrap64 (Int.tdiv v 4))) (l ++ [⟨o, t, kh, kl, vh, vl⟩]) (mx (wrap64 (wrap64 (t + x) - 6)) 0) (i + 1) (q + 1 + 1) (by omega) (by omega) (drawnR_mono (drawnR_add hll hk hv) (by omega)) (fun _ => by simp) (by omega) (by omega)
          rw [show max (i + 1) n = max i n by omega] at h
          exact h.mono (fun r hr => ⟨hr.1, hr.2.1, by have := hr.2.2.1; omega, by have := hr.2.2.2; omega⟩)
      by_cases hkh : kh = true
      · simp only [if_pos hkh]
        refine Evs.bind (pick_evs bs p2 2 hb hl (by omega) (by omega) (by omega)) ?_
        rintro ⟨u, _⟩ ⟨u0, u1, rfl⟩
        exact main (u == 0) (p2 + 1) (by omega) (by omega) (by omega)
      · simp only [if_neg hkh]
        exact main false p2 (by omega) (by omega) (by omega)
    · simp only [spec_l91Records.l0, if_neg hlt]
      exact Evs.done ⟨by dsimp only; exact drawnR_mono hll (by omega), by dsimp only; intro h; exact hpos (by omega), by dsimp only; omega, by dsimp only; omega⟩
theorem recs_evs (bs : List Int) (hb : Bytes bs) (hl : bs.length ≤ 2000) (p o m : Int) (h0 : 0 ≤ p) (h1 : p ≤ 600000000) (hm : 1 ≤ m) (hm2 : m ≤ 10) : Evs (fun k => spec_l91Records.f k bs p o m) (fun r => drawnR m.toNat r.1 ∧ 0 < r.1.length ∧ p ≤ r.2 ∧ r.2 ≤ p + 800) := by
  unfold spec_l91Records.f
  refine Evs.bind (pick_evs bs p m hb hl h0 (by omega) hm) ?_
  rintro ⟨u, _⟩ ⟨u0, u1, rfl⟩
  refine Evs.bind (pick_evs bs (p + 1) 200 hb hl (by omega) (by omega) (by omega)) ?_
  rintro ⟨v, _⟩ ⟨v0, v1, rfl⟩
  simp only [show wrap64 (1 + u) = 1 + u from wrap_id (by omega) (by omega)]
  have h := recs_loop bs hb hl (1 + u) (by omega) 10 o [] v 0 (p + 1 + 1) (by omega) (by omega) ⟨by simp, fun r hr => by cases hr⟩ (fun h => by omega) (by omega) (by omega)
  exact h.mono (fun r hr => ⟨drawnR_mono hr.1 (by omega), hr.2.1 (by omega), by have := hr.2.2.1; omega, by have := hr.2.2.2; omega⟩)
end Go.Proofs.Yticpnjhkdfdkkaa.Q
namespace Go.Proofs.Yticpnjhkdfdkkaa.Q
open Go.RowKit Go.Proofs.Yticpnjhkdfdkkaa.T Go.Proofs.YticpnjhkdfdkkaaW.PrintWords Go.Proofs.YticpnjhkdfdkkaaW.PrintLast
set_option linter.unusedVariables false
set_option linter.unusedSimpArgs false
abbrev Bt := S27
abbrev rb (l : List Bt) (i : Int) : Bt := rd_T27 l i
theorem rb_nat (l : List Bt) (j : Nat) (h : j < l.length) : rb l (j : Int) = l[j] := by
  unfold rb rd_T27
  rw [Int.toNat_natCast, List.getD_eq_getElem?_getD, List.getElem?_eq_getElem h]
  rfl
def smallBs (l : List Bt) : Prop := l.length ≤ 1000000 ∧ ∀ b ∈ l, smallRs b.f5
theorem smallBs_at {l : List Bt} (h : smallBs l) (j : Nat) (hj : j < l.length) : smallRs (rb l (j : Int)).f5 := by
  rw [rb_nat l j hj]
  exact h.2 _ (List.getElem_mem hj)
def fOff (b : Bt) : Int := (rr b.f5 0).f0
def lOff (b : Bt) : Int := (rr b.f5 ((b.f5.length : Int) - 1)).f0
def vB (b : Bt) : Prop := VB b.f1 b.f2 b.f3 b.f4 b.f5
theorem vB_pos {b : Bt} (h : vB b) : 1 ≤ b.f5.length ∧ b.f5.length ≤ 6 := h.2.1
theorem first_eq {b : Bt} (h : vB b) : impl_Batch_first.f b.f0 b.f1 b.f2 b.f3 b.f4 b.f5 = some (fOff b) := by
  have := vB_pos h
  unfold impl_Batch_first.f
  rw [if_pos (show 0 < (b.f5.length : Int) by omega)]
  rfl
theorem last_eq {b : Bt} (h : vB b) : impl_Batch_last.f b.f0 b.f1 b.f2 b.f3 b.f4 b.f5 = some (lOff b) := by
  have := vB_pos h
  have e : wrap64 ((b.f5.length : Int) - 1) = (b.f5.length : Int) - 1 := wrap_id (by omega) (by omega)
  unfold impl_Batch_last.f
  rw [e, if_pos (show 0 ≤ (b.f5.length : Int) - 1 by omega), if_pos (show (b.f5.length : Int) - 1 < (b.f5.length : Int) by omega)]
  rfl
theorem lastS_eq {b : Bt} (h : vB b) : spec_l12Last.f b.f0 b.f1 b.f2 b.f3 b.f4 b.f5 = some (lOff b) := by
  have := vB_pos h
  have e : wrap64 ((b.f5.length : Int) - 1) = (b.f5.length : Int) - 1 := wrap_id (by omega) (by omega)
  unfold spec_l12Last.f
  rw [e, if_pos (show 0 ≤ (b.f5.length : Int) - 1 by omega), if_pos (show (b.f5.length : Int) - 1 < (b.f5.length : Int) by omega)]
  rfl
theorem RF_lt {l : List Rc} (h : RF l 0) : ∀ (d i : Nat), i + d + 1 < l.length → (rr l (i : Int)).f0 < (rr l ((i + d + 1 : Nat) : Int)).f0
  | 0, i, hi => by
    have := (h (i + 1) (by omega) hi).2 (by omega)
    rw [show ((i + 1 : Nat) : Int) - 1 = (i : Int) by omega] at this
    exact this
  | d + 1, i, hi => by
    have h1 := RF_lt h d i (by omega)
    have := (h (i + d + 2) (by omega) (by omega)).2 (by omega)
    rw [show ((i + d + 2 : Nat) : Int) - 1 = ((i + d + 1 : Nat) : Int) by omega] at this
    exact Int.lt_trans h1 this
theorem fOff_le {b : Bt} (h : vB b) : fOff b ≤ lOff b := by
  have hp := vB_pos h
  unfold fOff lOff
  by_cases h1 : b.f5.length = 1
  · rw [h1]
    exact Int.le_refl _
  · have := RF_lt h.2.2.2 (b.f5.length - 2) 0 (by omega)
    rw [show ((0 + (b.f5.length - 2) + 1 : Nat) : Int) = (b.f5.length : Int) - 1 by omega] at this
    exact Int.le_of_lt this
theorem fOff_range {b : Bt} (h : vB b) : 0 ≤ fOff b ∧ fOff b ≤ 99999 := by
  have hp := vB_pos h
  have := (h.2.2.2 0 (Nat.le_refl _) (by omega)).1
  unfold rv at this
  rw [Bool.and_eq_true, decide_eq_true_eq] at this
  exact this.1.1
theorem lOff_range {b : Bt} (h : vB b) : 0 ≤ lOff b ∧ lOff b ≤ 99999 := by
  have hp := vB_pos h
  have := (h.2.2.2 (b.f5.length - 1) (Nat.zero_le _) (by omega)).1
  unfold rv at this
  rw [Bool.and_eq_true, decide_eq_true_eq] at this
  rw [show ((b.f5.length - 1 : Nat) : Int) = (b.f5.length : Int) - 1 by omega] at this
  exact this.1.1
def LF (l : List Bt) (i : Nat) : Prop := ∀ j, i ≤ j → j < l.length → vB (rb l j) ∧ (0 < j → lOff (rb l ((j : Int) - 1)) < fOff (rb l j))
def VL (l : List Bt) : Prop := l.length ≤ 8 ∧ LF l 0
theorem LF_end {l : List Bt} {i : Nat} (h : l.length ≤ i) : LF l i := fun j h1 h2 => by omega
theorem LF_step {l : List Bt} {i : Nat} (h : i < l.length) : LF l i ↔ (vB (rb l i) ∧ (0 < i → lOff (rb l ((i : Int) - 1)) < fOff (rb l i))) ∧ LF l (i + 1) := by
  constructor
  · intro hl
    exact ⟨hl i (Nat.le_refl _) h, fun j h1 h2 => hl j (by omega) h2⟩
  · rintro ⟨h0, h1⟩ j hj1 hj2
    by_cases he : j = i
    · subst he; exact h0
    · exact h1 j (by omega) hj2
open Classical in
noncomputable def vl (l : List Bt) : Bool := decide (VL l)
theorem vl_iff (l : List Bt) : vl l = true ↔ VL l := by unfold vl; simp
theorem vl_of {b : Bool} {l : List Bt} (h : b = true ↔ VL l) : b = vl l := by
  rw [Bool.eq_iff_iff, h, vl_iff]
theorem vb_vB (b : Bt) : vb b.f1 b.f2 b.f3 b.f4 b.f5 = true ↔ vB b := vb_iff _ _ _ _ _
theorem implLog_loop (l : List Bt) (hl : smallBs l) : ∀ (d i : Nat), l.length - i = d → i ≤ l.length → (∀ j, j < i → vB (rb l (j : Int))) → Evs (fun k => impl_LogValid.l0 k l l (l.length : Int) (i : Int)) (fun b => b = true ↔ LF l i) := by
  have hs := hl.1
  intro d
  induction d with
  | zero =>
    intro i hd hi _
    refine Evs.succ ?_
    simp only [impl_LogValid.l0, if_neg (show ¬ (i : Int) < (l.length : Int) by omega)]
    exact Evs.done ⟨fun _ => LF_end (by omega), fun _ => rfl⟩
  | succ d ih =>
    intro i hd hi hv
    have hlt : i < l.length := by omega
    have e1 : wrap64 ((i : Int) + 1) = ((i + 1 : Nat) : Int) := by rw [wrap_id (by omega) (by omega)]; omega
    refine Evs.succ ?_
    simp only [impl_LogValid.l0, if_pos (show (i : Int) < (l.length : Int) by omega), if_pos (show (0 : Int) ≤ (i : Int) by omega), e1]
    refine Evs.bind (Evs.of (implB (rb l i).f0 (rb l i).f1 (rb l i).f2 (rb l i).f3 (rb l i).f4 (rb l i).f5 (smallBs_at hl i hlt)) rfl) ?_
    rintro _ rfl
    by_cases hb : vB (rb l i)
    · have hb2 := (vb_vB (rb l i)).2 hb
      simp only [if_pos hb2]
      have hv2 : ∀ j, j < i + 1 → vB (rb l (j : Int)) := fun j hj => by
        by_cases he : j = i
        · subst he; exact hb
        · exact hv j (by omega)
      by_cases h0 : i = 0
      · subst h0
        simp only [if_neg (show ¬ ((0 : Nat) : Int) > 0 by omega)]
        refine (ih 1 (by omega) (by omega) hv2).mono fun b hb3 => ?_
        rw [hb3, LF_step hlt]
        exact ⟨fun h => ⟨⟨hb, fun h => absurd h (by omega)⟩, h⟩, fun h => h.2⟩
      · have e2 : wrap64 ((i : Int) - 1) = (i : Int) - 1 := wrap_id (by omega) (by omega)
        have hp : vB (rb l ((i : Int) - 1)) := by have := hv (i - 1) (by omega); rwa [show ((i - 1 : Nat) : Int) = (i : Int) - 1 by omega] at this
        have f1 := last_eq hp
        have f2 := first_eq hb
        simp only [if_pos (show (i : Int) > 0 by omega), e2, if_pos (show 0 ≤ (i : Int) - 1 by omega), if_pos (show (i : Int) - 1 < (l.length : Int) by omega)]
        rw [show (rd_T27 l ((i : Int) - 1)) = rb l ((i : Int) - 1) from rfl, show (rd_T27 l (i : Int)) = rb l (i : Int) from rfl, f1, f2]
        simp only [bsome]
        by_cases hc : lOff (rb l ((i : Int) - 1)) ≥ fOff (rb l i)
        · simp only [if_pos hc]
          refine Evs.done ?_
          rw [LF_step hlt]
          simp only [Bool.false_eq_true, false_iff]
          intro h
          have := h.1.2 (by omega)
          omega
        · simp only [if_neg hc]
          refine (ih (i + 1) (by omega) (by omega) hv2).mono fun b hb3 => ?_
          rw [hb3, LF_step hlt]
          exact ⟨fun h => ⟨⟨hb, fun _ => by omega⟩, h⟩, fun h => h.2⟩
    · have hb2 : ¬ vb (rb l i).f1 (rb l i).f2 (rb l i).f3 (rb l i).f4 (rb l i).f5 = true := fun h => hb ((vb_vB (rb l i)).1 h)
      simp only [if_neg hb2]
      refine Evs.done ?_
      rw [LF_step hlt]
      simp only [Bool.false_eq_true, false_iff]
      exact fun h => hb h.1.1
theorem implLog (l : List Bt) (hl : smallBs l) : Ev (fun k => impl_LogValid.f k l) (vl l) := by
  have hs := hl.1
  unfold impl_LogValid.f
  by_cases h : (l.length : Int) > 8
  · simp only [if_pos h]
    have : vl l = false := by rw [← Bool.not_eq_true, vl_iff]; exact fun h2 => by have := h2.1; omega
    rw [this]
    exact ev_some _
  · simp only [if_neg h]
    obtain ⟨b, h1, h2⟩ := implLog_loop l hl l.length 0 (by omega) (by omega) (fun j hj => by omega)
    have : b = vl l := vl_of (h2.trans ⟨fun h3 => ⟨by omega, h3⟩, fun h3 => h3.2⟩)
    rw [← this]
    exact h1
theorem specLog_loop (l : List Bt) (hl : smallBs l) : ∀ (d i : Nat), l.length - i = d → i ≤ l.length → (∀ j, j < i → vB (rb l (j : Int))) → Evs (fun k => spec_LogValid.l0 k l (i : Int)) (fun b => b = true ↔ LF l i ∧ l.length ≤ 8) := by
  have hs := hl.1
  intro d
  induction d with
  | zero =>
    intro i hd hi _
    refine Evs.succ ?_
    simp only [spec_LogValid.l0, if_neg (show ¬ (i : Int) < (l.length : Int) by omega)]
    refine Evs.done ?_
    rw [decide_eq_true_eq]
    exact ⟨fun h => ⟨LF_end (by omega), by omega⟩, fun h => by omega⟩
  | succ d ih =>
    intro i hd hi hv
    have hlt : i < l.length := by omega
    have e1 : wrap64 ((i : Int) + 1) = ((i + 1 : Nat) : Int) := by rw [wrap_id (by omega) (by omega)]; omega
    refine Evs.succ ?_
    simp only [spec_LogValid.l0, if_pos (show (i : Int) < (l.length : Int) by omega), if_pos (show (0 : Int) ≤ (i : Int) by omega), e1]
    refine Evs.bind (Evs.of (specB (rb l i).f0 (rb l i).f1 (rb l i).f2 (rb l i).f3 (rb l i).f4 (rb l i).f5 (smallBs_at hl i hlt)) rfl) ?_
    rintro _ rfl
    by_cases hb : vB (rb l i)
    · have hb2 := (vb_vB (rb l i)).2 hb
      simp only [if_pos hb2]
      have hv2 : ∀ j, j < i + 1 → vB (rb l (j : Int)) := fun j hj => by
        by_cases he : j = i
        · subst he; exact hb
        · exact hv j (by omega)
      by_cases h0 : i = 0
      · subst h0
        simp only [if_neg (show ¬ ((0 : Nat) : Int) > 0 by omega)]
        refine (ih 1 (by omega) (by omega) hv2).mono fun b hb3 => ?_
        rw [hb3, LF_step hlt]
        exact ⟨fun h => ⟨⟨⟨hb, fun h => absurd h (by omega)⟩, h.1⟩, h.2⟩, fun h => ⟨h.1.2, h.2⟩⟩
      · have e2 : wrap64 ((i : Int) - 1) = (i : Int) - 1 := wrap_id (by omega) (by omega)
        have hp : vB (rb l ((i : Int) - 1)) := by have := hv (i - 1) (by omega); rwa [show ((i - 1 : Nat) : Int) = (i : Int) - 1 by omega] at this
        have f1 := lastS_eq hp
        have hpos := (vB_pos hb).1
        simp only [if_pos (show (i : Int) > 0 by omega), e2, if_pos (show 0 ≤ (i : Int) - 1 by omega), if_pos (show (i : Int) - 1 < (l.length : Int) by omega)]
        rw [show (rd_T27 l ((i : Int) - 1)) = rb l ((i : Int) - 1) from rfl, show (rd_T27 l (i : Int)) = rb l (i : Int) from rfl, f1]
        simp only [bsome, if_pos (show 0 < ((rb l (i : Int)).f5.length : Int) by omega)]
        by_cases hc : lOff (rb l ((i : Int) - 1)) ≥ fOff (rb l i)
        · simp only [if_pos (show lOff (rb l ((i : Int) - 1)) ≥ (rd_T34 (rb l (i : Int)).f5 0).f0 from hc)]
          refine Evs.done ?_
          rw [LF_step hlt]
          simp only [Bool.false_eq_true, false_iff]
          intro h
          have := h.1.1.2 (by omega)
          omega
        · simp only [if_neg (show ¬ lOff (rb l ((i : Int) - 1)) ≥ (rd_T34 (rb l (i : Int)).f5 0).f0 from hc)]
          refine (ih (i + 1) (by omega) (by omega) hv2).mono fun b hb3 => ?_
          rw [hb3, LF_step hlt]
          exact ⟨fun h => ⟨⟨⟨hb, fun _ => by omega⟩, h.1⟩, h.2⟩, fun h => ⟨h.1.2, h.2⟩⟩
    · have hb2 : ¬ vb (rb l i).f1 (rb l i).f2 (rb l i).f3 (rb l i).f4 (rb l i).f5 = true := fun h => hb ((vb_vB (rb l i)).1 h)
      simp only [if_neg hb2]
      refine Evs.done ?_
      rw [LF_step hlt]
      simp only [Bool.false_eq_true, false_iff]
      exact fun h => hb h.1.1.1
theorem specLog (l : List Bt) (hl : smallBs l) : Ev (fun k => spec_LogValid.f k l) (vl l) := by
  unfold spec_LogValid.f
  obtain ⟨b, h1, h2⟩ := specLog_loop l hl l.length 0 (by omega) (by omega) (fun j hj => by omega)
  have : b = vl l := vl_of (h2.trans ⟨fun h3 => ⟨h3.2, h3.1⟩, fun h3 => ⟨h3.2, h3.1⟩⟩)
  rw [← this]
  exact h1
theorem VL_at {l : List Bt} (h : VL l) (j : Nat) (hj : j < l.length) : vB (rb l (j : Int)) := (h.2 j (Nat.zero_le _) hj).1
theorem VL_lt {l : List Bt} (h : VL l) : ∀ (d i : Nat), i + d + 1 < l.length → fOff (rb l (i : Int)) < fOff (rb l ((i + d + 1 : Nat) : Int))
  | 0, i, hi => by
    have h1 := (h.2 (i + 1) (Nat.zero_le _) hi).2 (by omega)
    rw [show ((i + 1 : Nat) : Int) - 1 = (i : Int) by omega] at h1
    have := fOff_le (VL_at h i (by omega))
    exact Int.lt_of_le_of_lt this h1
  | d + 1, i, hi => by
    have h0 := VL_lt h d i (by omega)
    have h1 := (h.2 (i + d + 2) (Nat.zero_le _) (by omega)).2 (by omega)
    rw [show ((i + d + 2 : Nat) : Int) - 1 = ((i + d + 1 : Nat) : Int) by omega] at h1
    have := fOff_le (VL_at h (i + d + 1) (by omega))
    exact Int.lt_trans h0 (Int.lt_of_le_of_lt this h1)
theorem VL_lt' {l : List Bt} (h : VL l) {i j : Nat} (hij : i < j) (hj : j < l.length) : fOff (rb l (i : Int)) < fOff (rb l (j : Int)) := by
  have := VL_lt h (j - i - 1) i (by omega)
  rwa [show i + (j - i - 1) + 1 = j by omega] at this
theorem VL_inj {l : List Bt} (h : VL l) {i j : Nat} (hi : i < l.length) (hj : j < l.length) (he : fOff (rb l (i : Int)) = fOff (rb l (j : Int))) : i = j := by
  rcases Nat.lt_trichotomy i j with h1 | h1 | h1
  · have := VL_lt' h h1 hj; omega
  · exact h1
  · have := VL_lt' h h1 hi; omega
end Go.Proofs.Yticpnjhkdfdkkaa.Q
namespace Go.Proofs.Yticpnjhkdfdkkaa.Q
open Go.RowKit Go.Proofs.Yticpnjhkdfdkkaa.T Go.Proofs.YticpnjhkdfdkkaaW.PrintWords Go.Proofs.YticpnjhkdfdkkaaW.PrintLast
set_option linter.unusedVariables false
set_option linter.unusedSimpArgs false
theorem markRow_small (o t : Int) (g : Bool) : smallRs (markRow o t g) := by
  refine ⟨by simp [markRow], fun r hr => ?_⟩
  rw [List.mem_singleton.1 hr]
  exact ⟨by simp, by simp⟩
noncomputable def markB (p e o t : Int) (g : Bool) : Bool × Bool × Int × Int × Int × List Rc × Bool := if vb true p e 0 (markRow o t g) = true then (false, true, p, e, 0, markRow o t g, true) else (false, false, 0, 0, 0, [], false)
theorem specMark (p e o t : Int) (g : Bool) : Ev (fun k => spec_MarkBatch.f k p e o t g) (markB p e o t g) := by
  have h := specB false true p e 0 (markRow o t g) (markRow_small o t g)
  unfold spec_MarkBatch.f markB
  refine Ev.bind h ?_
  by_cases hv : vb true p e 0 (markRow o t g) = true
  · simp only [if_pos hv]; exact ev_some _
  · simp only [if_neg hv]; exact ev_some _
end Go.Proofs.Yticpnjhkdfdkkaa.Q
namespace Go.Proofs.Yticpnjhkdfdkkaa.Q
open Go.RowKit Go.Proofs.Yticpnjhkdfdkkaa.T Go.Proofs.YticpnjhkdfdkkaaW.PrintWords Go.Proofs.YticpnjhkdfdkkaaW.PrintLast
set_option linter.unusedVariables false
set_option linter.unusedSimpArgs false
def drawnBs (n : Nat) (l : List Bt) : Prop := l.length ≤ n ∧ ∀ b ∈ l, drawnR 5 b.f5
theorem drawnBs_add {n : Nat} {l : List Bt} (h : drawnBs n l) {b : Bt} (hb : drawnR 5 b.f5) : drawnBs (n + 1) (l ++ [b]) := by
  refine ⟨by have := h.1; simp; omega, fun x hx => ?_⟩
  rcases List.mem_append.1 hx with hx | hx
  · exact h.2 x hx
  · rw [List.mem_singleton.1 hx]; exact hb
theorem drawnBs_mono {n m : Nat} {l : List Bt} (h : drawnBs n l) (hm : n ≤ m) : drawnBs m l := ⟨by have := h.1; omega, h.2⟩
theorem drawnBs_small {l : List Bt} (h : drawnBs 10 l) : smallBs l := ⟨by have := h.1; omega, fun b hb => drawnR_small (by omega) (h.2 b hb)⟩
theorem drawnBs_set {n : Nat} {l : List Bt} (h : drawnBs n l) (i : Nat) {b : Bt} (hb : drawnR 5 b.f5) : drawnBs n (l.set i b) := by
  refine ⟨by rw [List.length_set]; exact h.1, fun x hx => ?_⟩
  rcases List.mem_or_eq_of_mem_set hx with hx | hx
  · exact h.2 x hx
  · rw [hx]; exact hb
theorem markRow_drawn (o t : Int) (g : Bool) : drawnR 5 (markRow o t g) := by
  refine ⟨by simp [markRow], fun r hr => ?_⟩
  rw [List.mem_singleton.1 hr]
  exact ⟨by simp, by simp⟩
theorem decided_loop (bs : List Int) (hb : Bytes bs) (hl : bs.length ≤ 2000) (n : Int) (hn : n ≤ 10) (hn2 : 1 ≤ n) : ∀ (d : Nat) (l : List Bt) (o i p : Int), n - i ≤ d → 0 ≤ i → i ≤ n → drawnBs i.toNat l → (0 < i → 0 < l.length) → 0 ≤ p → p + 1000 * d ≤ 400000000 →
    Evs (fun k => spec_l92Decided.l0 k l n o i bs p) (fun r => drawnBs 10 r.1) := by
  intro d
  induction d with
  | zero =>
    intro l o i p hd hi hin hdr hpos h0 h1
    refine Evs.succ ?_
    simp only [spec_l92Decided.l0, if_neg (show ¬ i < n by omega)]
    refine Evs.bind (pick_evs bs p 24 hb hl h0 (by omega) (by omega)) ?_
    rintro ⟨u, _⟩ ⟨u0, u1, rfl⟩
    by_cases hu : u = 0
    · have hlp := hpos (by omega)
      simp only [if_pos hu, if_pos (show 0 < (l.length : Int) by omega)]
      refine Evs.done (drawnBs_set (drawnBs_mono hdr (by omega)) _ ?_)
      show drawnR 5 (rb l ((0 : Nat) : Int)).f5
      rw [rb_nat l 0 hlp]
      exact hdr.2 _ (List.getElem_mem hlp)
    · simp only [if_neg hu]
      exact Evs.done (drawnBs_mono hdr (by omega))
  | succ d ih =>
    intro l o i p hd hi hin hdr hpos h0 h1
    by_cases hlt : i < n
    · have e1 : wrap64 (i + 1) = i + 1 := wrap_id (by omega) (by omega)
      have hlen := hdr.1
      refine Evs.succ ?_
      simp only [spec_l92Decided.l0, if_pos hlt]
      refine Evs.bind (pick_evs bs p 2 hb hl h0 (by omega) (by omega)) ?_
      rintro ⟨u, _⟩ ⟨u0, u1, rfl⟩
      refine Evs.bind (recs_evs bs hb hl (p + 1) o 2 (by omega) (by omega) (by omega) (by omega)) ?_
      rintro ⟨rs, q⟩ ⟨hd4, hrp, q0, q1⟩
      dsimp only at hd4 hrp q0 q1 ⊢
      have hlen2 := hd4.1
      refine Evs.bind (pick_evs bs q 6 hb hl (by omega) (by omega) (by omega)) ?_
      rintro ⟨v, _⟩ ⟨v0, v1, rfl⟩
      have next : ∀ (b : Bt) (o' p' : Int), drawnR 5 b.f5 → 0 ≤ p' → p' ≤ p + 1000 → Evs (fun k => spec_l92Decided.l0 k (l ++ [b]) n o' (i + 1) bs p') (fun r => drawnBs 10 r.1) := fun b o' p' hb' h0' h1' =>
        ih (l ++ [b]) o' (i + 1) p' (by omega) (by omega) (by omega) (drawnBs_mono (drawnBs_add hdr hb') (by omega)) (fun _ => by simp) h0' (by omega)
      have hlim : l.length < 2513169434916 := lim2 (by omega) (by omega)
      have w1 : ∀ x : List Rc, 0 < x.length → x.length ≤ 5 → wrap64 ((x.length : Int) - 1) = (x.length : Int) - 1 := fun x hx hx2 => wrap_id (by omega) (by omega)
      have main : ∀ c : Bool, Evs (fun k => spec_l92Decided.j1 k l n o i v c bs (q + 1) false false u 0 0 rs) (fun r => drawnBs 10 r.1) := by
        intro c
        refine Evs.succ ?_
        cases c with
        | true =>
          simp only [spec_l92Decided.j1, if_true]
          refine Evs.bind (pick_evs bs (q + 1) 2 hb hl (by omega) (by omega) (by omega)) ?_
          rintro ⟨a, _⟩ ⟨a0, a1, rfl⟩
          refine Evs.bind (pick_evs bs (q + 1 + 1) 100 hb hl (by omega) (by omega) (by omega)) ?_
          rintro ⟨c1, _⟩ ⟨c0, c2, rfl⟩
          refine Evs.bind (pick_evs bs (q + 1 + 1 + 1) 2 hb hl (by omega) (by omega) (by omega)) ?_
          rintro ⟨e, _⟩ ⟨e0, e2, rfl⟩
          refine Evs.bind (Evs.of (specMark a 0 o c1 (e == 0)) rfl) ?_
          rintro _ rfl
          unfold markB
          by_cases hv : vb true a 0 0 (markRow o c1 (e == 0)) = true
          · have hml : (markRow o c1 (e == 0)).length = 1 := by simp [markRow]
            simp only [if_pos hv, if_true, if_pos hlim, w1 _ (show 0 < (markRow o c1 (e == 0)).length by omega) (by omega), if_pos (show 0 ≤ ((markRow o c1 (e == 0)).length : Int) - 1 by omega), if_pos (show ((markRow o c1 (e == 0)).length : Int) - 1 < ((markRow o c1 (e == 0)).length : Int) by omega), e1]
            exact next _ _ _ (markRow_drawn _ _ _) (by omega) (by omega)
          · simp only [if_neg hv, Bool.false_eq_true, if_false, if_pos hlim, w1 rs hrp (by omega), if_pos (show 0 ≤ (rs.length : Int) - 1 by omega), if_pos (show (rs.length : Int) - 1 < (rs.length : Int) by omega), e1]
            exact next _ _ _ (drawnR_mono hd4 (by omega)) (by omega) (by omega)
        | false =>
          simp only [spec_l92Decided.j1, Bool.false_eq_true, if_false]
          by_cases hv2 : v = 2
          · simp only [if_pos hv2, if_pos hlim, w1 rs hrp (by omega), if_pos (show 0 ≤ (rs.length : Int) - 1 by omega), if_pos (show (rs.length : Int) - 1 < (rs.length : Int) by omega), e1]
            exact next _ _ _ (drawnR_mono hd4 (by omega)) (by omega) (by omega)
          · simp only [if_neg hv2, if_pos hlim, w1 rs hrp (by omega), if_pos (show 0 ≤ (rs.length : Int) - 1 by omega), if_pos (show (rs.length : Int) - 1 < (rs.length : Int) by omega), e1]
            exact next _ _ _ (drawnR_mono hd4 (by omega)) (by omega) (by omega)
      by_cases hv0 : v = 0
      · simp only [if_pos hv0]; exact main _
      · simp only [if_neg hv0]; exact main _
    · have hni : i = n := by omega
      subst hni
      refine Evs.succ ?_
      simp only [spec_l92Decided.l0, if_neg (show ¬ i < i by omega)]
      refine Evs.bind (pick_evs bs p 24 hb hl h0 (by omega) (by omega)) ?_
      rintro ⟨u, _⟩ ⟨u0, u1, rfl⟩
      by_cases hu : u = 0
      · have hlp := hpos (by omega)
        simp only [if_pos hu, if_pos (show 0 < (l.length : Int) by omega)]
        refine Evs.done (drawnBs_set (drawnBs_mono hdr (by omega)) _ ?_)
        show drawnR 5 (rb l ((0 : Nat) : Int)).f5
        rw [rb_nat l 0 hlp]
        exact hdr.2 _ (List.getElem_mem hlp)
      · simp only [if_neg hu]
        exact Evs.done (drawnBs_mono hdr (by omega))
theorem decided_evs (bs : List Int) (hb : Bytes bs) (hl : bs.length ≤ 2000) : Evs (fun k => spec_l92Decided.f k bs 0) (fun r => drawnBs 10 r.1) := by
  unfold spec_l92Decided.f
  refine Evs.bind (pick_evs bs 0 6 hb hl (by omega) (by omega) (by omega)) ?_
  rintro ⟨u, _⟩ ⟨u0, u1, rfl⟩
  refine Evs.bind (pick_evs bs (0 + 1) 5 hb hl (by omega) (by omega) (by omega)) ?_
  rintro ⟨v, _⟩ ⟨v0, v1, rfl⟩
  have e : wrap64 (2 + u) = 2 + u := wrap_id (by omega) (by omega)
  simp only [e]
  exact decided_loop bs hb hl (2 + u) (by omega) (by omega) 10 [] v 0 (0 + 1 + 1) (by omega) (by omega) (by omega) ⟨by simp, fun b hb => by cases hb⟩ (fun h => by omega) (by omega) (by omega)
end Go.Proofs.Yticpnjhkdfdkkaa.Q
namespace Go.Proofs.Yticpnjhkdfdkkaa.Q
open Go.RowKit Go.Proofs.Yticpnjhkdfdkkaa.T Go.Proofs.YticpnjhkdfdkkaaW.PrintWords Go.Proofs.YticpnjhkdfdkkaaW.PrintLast
set_option linter.unusedVariables false
set_option linter.unusedSimpArgs false
abbrev pr (l : List Bt) (i : Nat) : Int := (rb l (i : Int)).f2
abbrev mk (l : List Bt) (i : Nat) : Bool := (rb l (i : Int)).f1
def nm (l : List Bt) : Nat → Nat → Option Nat
  | 0, _ => none
  | k + 1, i => match nm l k i with
    | some j => some j
    | none => if i < k ∧ mk l k = true ∧ pr l k = pr l i then some k else none
theorem nm_succ_some {l : List Bt} {k i j : Nat} (h : nm l k i = some j) : nm l (k + 1) i = some j := by simp only [nm, h]
theorem nm_le {l : List Bt} {i j : Nat} : ∀ {k m : Nat}, nm l k i = some j → k ≤ m → nm l m i = some j := by
  intro k m h hk
  induction m with
  | zero => have : k = 0 := by omega
            subst this; exact h
  | succ m ih =>
    by_cases he : k = m + 1
    · subst he; exact h
    · exact nm_succ_some (ih (by omega))
theorem nm_none {l : List Bt} {i : Nat} : ∀ {k : Nat}, nm l k i = none → ∀ j, i < j → j < k → ¬ (mk l j = true ∧ pr l j = pr l i)
  | 0, _, j, _, h => by omega
  | k + 1, h, j, h1, h2 => by
    simp only [nm] at h
    cases hn : nm l k i with
    | some j' => rw [hn] at h; cases h
    | none =>
      rw [hn] at h
      dsimp only at h
      split at h
      · cases h
      · rename_i hc
        by_cases he : j = k
        · subst he; exact fun h3 => hc ⟨h1, h3⟩
        · exact nm_none hn j h1 (by omega)
theorem nm_self {l : List Bt} : ∀ {k i : Nat}, k ≤ i + 1 → nm l k i = none
  | 0, _, _ => rfl
  | k + 1, i, h => by
    simp only [nm, nm_self (show k ≤ i + 1 by omega)]
    rw [if_neg (by omega)]
def wAt (l : List Bt) (k i : Nat) : Int := if pr l i = 255 then 1 else if mk l i = true then 3 else match nm l k i with
  | none => 0
  | some j => if tellsP (rb l (j : Int)) = true then 1 else 2
def bAt (l : List Bt) (k i : Nat) : Int := if pr l i = 255 then -1 else if mk l i = true then -1 else match nm l k i with
  | none => -1
  | some j => (j : Int)
def opens (l : List Bt) (k i : Nat) : Bool := decide (pr l i ≠ 255) && (!mk l i && (nm l k i).isNone)
theorem fold_fin (l : List Bt) (i : Nat) : ∀ (xs : List Nat) (s : FSt), (∀ x ∈ xs, x < s.ws.length ∧ x < s.bs.length) →
    (xs.foldl (fin1 l i) s).op = s.op ++ xs.filter (fun x => decide (pr l x ≠ pr l i)) ∧
    (∀ y, (xs.foldl (fin1 l i) s).ws.getD y 0 = if y ∈ xs ∧ pr l y = pr l i then (if tellsP (rb l (i : Int)) = true then 1 else 2) else s.ws.getD y 0) ∧
    (∀ y, (xs.foldl (fin1 l i) s).bs.getD y 0 = if y ∈ xs ∧ pr l y = pr l i then (i : Int) else s.bs.getD y 0)
  | [], s, _ => by simp
  | x :: xs, s, h => by
    have hx := h x (by simp)
    by_cases hp : pr l x = pr l i
    · have hf : fin1 l i s x = ⟨s.ws.set x (if tellsP (rb l (i : Int)) = true then 1 else 2), s.bs.set x (i : Int), s.op⟩ := if_pos hp
      have ih := fold_fin l i xs (fin1 l i s x) (fun y hy => by rw [hf]; simpa using h y (by simp [hy]))
      rw [List.foldl_cons]
      rw [hf] at ih ⊢
      refine ⟨?_, fun y => ?_, fun y => ?_⟩
      · rw [ih.1]; simp [hp]
      · rw [ih.2.1 y]
        by_cases hy : y = x
        · subst hy
          simp [hp, List.getD_eq_getElem?_getD, List.getElem?_set_self hx.1]
        · simp [hy, List.getD_eq_getElem?_getD, List.getElem?_set_ne (Ne.symm hy)]
      · rw [ih.2.2 y]
        by_cases hy : y = x
        · subst hy
          simp [hp, List.getD_eq_getElem?_getD, List.getElem?_set_self hx.2]
        · simp [hy, List.getD_eq_getElem?_getD, List.getElem?_set_ne (Ne.symm hy)]
    · have hf : fin1 l i s x = ⟨s.ws, s.bs, s.op ++ [x]⟩ := if_neg hp
      have ih := fold_fin l i xs (fin1 l i s x) (fun y hy => by rw [hf]; exact h y (by simp [hy]))
      rw [List.foldl_cons]
      rw [hf] at ih ⊢
      refine ⟨?_, fun y => ?_, fun y => ?_⟩
      · rw [ih.1]; simp [hp]
      · rw [ih.2.1 y]
        by_cases hy : y = x
        · subst hy; simp [hp]
        · simp [hy]
      · rw [ih.2.2 y]
        by_cases hy : y = x
        · subst hy; simp [hp]
        · simp [hy]
structure FP (l : List Bt) (k : Nat) (s : FSt) : Prop where
  op : s.op = (List.range k).filter (opens l k)
  ws : ∀ i, i < k → s.ws.getD i 0 = wAt l k i
  wz : ∀ i, k ≤ i → s.ws.getD i 0 = 0
  bs : ∀ i, i < k → s.bs.getD i 0 = bAt l k i
theorem nm_step {l : List Bt} {k i : Nat} (h : ¬ (mk l k = true ∧ pr l k = pr l i)) : nm l (k + 1) i = nm l k i := by
  cases hn : nm l k i with
  | some j => exact nm_succ_some hn
  | none => simp only [nm, hn]; rw [if_neg (fun h2 => h h2.2)]
theorem FP_step {l : List Bt} {k : Nat} (hk : k < l.length) {s : FSt} (hok : FOk l.length k s) (h : FP l k s) : FP l (k + 1) (fstep l s k) := by
  have hlw := hok.lw
  have hlb := hok.lb
  have gs : ∀ (a : List Int) (i x : Nat) (v : Int), x < a.length → (a.set x v).getD i 0 = if i = x then v else a.getD i 0 := by
    intro a i x v hx
    by_cases hi : i = x
    · subst hi; simp [List.getD_eq_getElem?_getD, List.getElem?_set_self hx]
    · simp [hi, List.getD_eq_getElem?_getD, List.getElem?_set_ne (Ne.symm hi)]
  unfold fstep
  by_cases h255 : pr l k = 255
  · rw [if_pos h255]
    have same : ∀ i, pr l i ≠ 255 → nm l (k + 1) i = nm l k i := fun i hi => nm_step (fun h2 => hi (h2.2.symm.trans h255))
    refine ⟨?_, fun i hi => ?_, fun i hi => ?_, fun i hi => ?_⟩
    · dsimp only
      rw [h.op, List.range_succ, List.filter_append]
      have h1 : [k].filter (opens l (k + 1)) = [] := by simp [opens, h255]
      rw [h1, List.append_nil]
      refine List.filter_congr (fun i hi => ?_)
      unfold opens
      by_cases hp : pr l i = 255
      · simp [hp]
      · rw [same i hp]
    · dsimp only
      rw [gs _ _ _ _ (by omega)]
      by_cases he : i = k
      · rw [if_pos he, he]; unfold wAt; rw [if_pos h255]
      · rw [if_neg he, h.ws i (by omega)]
        unfold wAt
        by_cases hp : pr l i = 255
        · rw [if_pos hp, if_pos hp]
        · rw [if_neg hp, if_neg hp, same i hp]
    · dsimp only
      rw [gs _ _ _ _ (by omega), if_neg (by omega)]
      exact h.wz i (by omega)
    · dsimp only
      rw [gs _ _ _ _ (by omega)]
      by_cases he : i = k
      · rw [if_pos he, he]; unfold bAt; rw [if_pos h255]
      · rw [if_neg he, h.bs i (by omega)]
        unfold bAt
        by_cases hp : pr l i = 255
        · rw [if_pos hp, if_pos hp]
        · rw [if_neg hp, if_neg hp, same i hp]
  · rw [if_neg h255]
    by_cases hm : mk l k = false
    · rw [if_pos hm]
      have same : ∀ i, nm l (k + 1) i = nm l k i := fun i => nm_step (fun h2 => by rw [hm] at h2; cases h2.1)
      have hk0 : nm l (k + 1) k = none := nm_self (Nat.le_refl _)
      refine ⟨?_, fun i hi => ?_, fun i hi => ?_, fun i hi => ?_⟩
      · dsimp only
        rw [h.op, List.range_succ, List.filter_append]
        have h1 : [k].filter (opens l (k + 1)) = [k] := by simp [opens, h255, hm, hk0]
        rw [h1]
        congr 1
        refine List.filter_congr (fun i hi => ?_)
        unfold opens
        rw [same i]
      · dsimp only
        by_cases he : i = k
        · rw [he, h.wz k (Nat.le_refl _)]
          unfold wAt
          rw [if_neg h255, if_neg (by rw [hm]; simp), hk0]
        · rw [h.ws i (by omega)]
          unfold wAt
          rw [same i]
      · dsimp only
        exact h.wz i (by omega)
      · dsimp only
        rw [gs _ _ _ _ (by omega)]
        by_cases he : i = k
        · rw [if_pos he, he]; unfold bAt; rw [if_neg h255, if_neg (by rw [hm]; simp), hk0]
        · rw [if_neg he, h.bs i (by omega)]
          unfold bAt
          rw [same i]
    · have hm' : mk l k = true := by simpa using hm
      rw [if_neg hm]
      have hop : ∀ x, x ∈ s.op ↔ x < k ∧ pr l x ≠ 255 ∧ mk l x = false ∧ nm l k x = none := by
        intro x
        rw [h.op, List.mem_filter, List.mem_range]
        simp [opens]
      have hF := fold_fin l k s.op ⟨s.ws.set k 3, s.bs.set k (-1), []⟩ (fun x hx => by
        have := hok.op x hx
        simp only [List.length_set]
        omega)
      dsimp only at hF
      have hn : ∀ i, i < k → nm l (k + 1) i = match nm l k i with | some j => some j | none => if pr l k = pr l i then some k else none := by
        intro i hi
        simp only [nm]
        cases nm l k i with
        | some j => rfl
        | none => simp [hi, hm']
      refine ⟨?_, fun i hi => ?_, fun i hi => ?_, fun i hi => ?_⟩
      · rw [hF.1, List.nil_append, h.op, List.range_succ, List.filter_append, List.filter_filter]
        have h1 : [k].filter (opens l (k + 1)) = [] := by simp [opens, hm']
        rw [h1, List.append_nil]
        refine List.filter_congr (fun i hi => ?_)
        rw [List.mem_range] at hi
        unfold opens
        rw [hn i hi]
        cases hni : nm l k i with
        | some j => simp
        | none =>
          by_cases hp : pr l k = pr l i
          · simp [hp]
          · have hp2 : ¬ pr l i = pr l k := fun e => hp e.symm
            simp [hp, hp2]
      · rw [hF.2.1 i]
        by_cases he : i = k
        · subst he
          rw [if_neg (by rw [hop]; omega), gs _ _ _ _ (by omega), if_pos rfl]
          unfold wAt
          rw [if_neg h255, if_pos hm']
        · have hik : i < k := by omega
          rw [gs _ _ _ _ (by omega), if_neg he, h.ws i hik]
          unfold wAt
          by_cases hp : pr l i = 255
          · rw [if_neg (by rw [hop]; exact fun h2 => h2.1.2.1 hp), if_pos hp, if_pos hp]
          · rw [if_neg hp, if_neg hp]
            by_cases hmi : mk l i = true
            · rw [if_neg (by rw [hop]; intro h2; rw [hmi] at h2; cases h2.1.2.2.1), if_pos hmi, if_pos hmi]
            · rw [if_neg hmi, if_neg hmi, hn i hik]
              cases hni : nm l k i with
              | some j => rw [if_neg (by rw [hop, hni]; intro h2; cases h2.1.2.2.2)]
              | none =>
                by_cases hpk : pr l i = pr l k
                · rw [if_pos ⟨(hop i).2 ⟨hik, hp, by simpa using hmi, hni⟩, hpk⟩]
                  simp [hpk]
                · rw [if_neg (fun h2 => hpk h2.2)]
                  have hp2 : ¬ pr l k = pr l i := fun e => hpk e.symm
                  simp [hp2]
      · rw [hF.2.1 i, if_neg (by rw [hop]; omega), gs _ _ _ _ (by omega), if_neg (by omega)]
        exact h.wz i (by omega)
      · rw [hF.2.2 i]
        by_cases he : i = k
        · subst he
          rw [if_neg (by rw [hop]; omega), gs _ _ _ _ (by omega), if_pos rfl]
          unfold bAt
          rw [if_neg h255, if_pos hm']
        · have hik : i < k := by omega
          rw [gs _ _ _ _ (by omega), if_neg he, h.bs i hik]
          unfold bAt
          by_cases hp : pr l i = 255
          · rw [if_neg (by rw [hop]; exact fun h2 => h2.1.2.1 hp), if_pos hp, if_pos hp]
          · rw [if_neg hp, if_neg hp]
            by_cases hmi : mk l i = true
            · rw [if_neg (by rw [hop]; intro h2; rw [hmi] at h2; cases h2.1.2.2.1), if_pos hmi, if_pos hmi]
            · rw [if_neg hmi, if_neg hmi, hn i hik]
              cases hni : nm l k i with
              | some j => rw [if_neg (by rw [hop, hni]; intro h2; cases h2.1.2.2.2)]
              | none =>
                by_cases hpk : pr l i = pr l k
                · rw [if_pos ⟨(hop i).2 ⟨hik, hp, by simpa using hmi, hni⟩, hpk⟩]
                  simp [hpk]
                · rw [if_neg (fun h2 => hpk h2.2)]
                  have hp2 : ¬ pr l k = pr l i := fun e => hpk e.symm
                  simp [hp2]
theorem FP_all (l : List Bt) : ∀ k, k ≤ l.length → FP l k (fatesTo l k)
  | 0, _ => ⟨by simp [fatesTo, fates0], fun i h => by omega, fun i h => by simp [fatesTo, fates0, List.getD_eq_getElem?_getD, List.getElem?_replicate]; split <;> rfl, fun i h => by omega⟩
  | k + 1, h => by
    rw [fatesTo_succ]
    exact FP_step (by omega) (fates_ok l k (by omega)) (FP_all l k (by omega))
theorem fates_len (l : List Bt) : (fatesTo l l.length).ws.length = l.length ∧ (fatesTo l l.length).bs.length = l.length := ⟨(fates_ok l _ (Nat.le_refl _)).lw, (fates_ok l _ (Nat.le_refl _)).lb⟩
theorem fates_w (l : List Bt) (i : Nat) (h : i < l.length) : rd (fatesTo l l.length).ws (i : Int) = wAt l l.length i := by
  have := (FP_all l l.length (Nat.le_refl _)).ws i h
  unfold rd
  rwa [Int.toNat_natCast]
theorem fates_fit {l : List Bt} (h : VL l) : impl_fatesOf.f l = some ((fatesTo l l.length).ws, (fatesTo l l.length).bs) := by
  unfold impl_fatesOf.f
  rw [if_pos]
  unfold fatesFit
  rw [Bool.and_eq_true, decide_eq_true_eq, List.all_eq_true]
  refine ⟨by have := h.1; omega, fun b hb => ?_⟩
  obtain ⟨j, hj, rfl⟩ := List.getElem_of_mem hb
  have := (vB_pos (VL_at h j hj)).1
  rw [rb_nat l j hj] at this
  exact decide_eq_true (by omega)
end Go.Proofs.Yticpnjhkdfdkkaa.Q
namespace Go.Proofs.Yticpnjhkdfdkkaa.Q
open Go.RowKit Go.Proofs.Yticpnjhkdfdkkaa.T Go.Proofs.YticpnjhkdfdkkaaW.PrintWords Go.Proofs.YticpnjhkdfdkkaaW.PrintLast
set_option linter.unusedVariables false
set_option linter.unusedSimpArgs false
def nmI : Option Nat → Int
  | none => -1
  | some j => (j : Int)
theorem specMark_loop (l : List Bt) (hl : l.length ≤ 1000000) (i : Nat) (hi : i < l.length) : ∀ (d j : Nat), l.length - j = d → i < j → j ≤ l.length → nm l j i = none → Ev (fun k => spec_l22Mark.l0 k l (i : Int) (j : Int)) (nmI (nm l l.length i)) := by
  intro d
  induction d with
  | zero =>
    intro j hd h1 h2 hn
    have hj : j = l.length := by omega
    subst hj
    refine ev_succ ?_
    simp only [spec_l22Mark.l0, if_neg (show ¬ (l.length : Int) < (l.length : Int) by omega), hn]
    exact ev_some _
  | succ d ih =>
    intro j hd h1 h2 hn
    have e1 : wrap64 ((j : Int) + 1) = ((j + 1 : Nat) : Int) := by rw [wrap_id (by omega) (by omega)]; omega
    refine ev_succ ?_
    simp only [spec_l22Mark.l0, if_pos (show (j : Int) < (l.length : Int) by omega), if_pos (show (0 : Int) ≤ (j : Int) by omega), e1]
    have next : ¬ (mk l j = true ∧ pr l j = pr l i) → Ev (fun k => spec_l22Mark.l0 k l (i : Int) ((j + 1 : Nat) : Int)) (nmI (nm l l.length i)) := fun h => ih (j + 1) (by omega) (by omega) (by omega) (by rw [nm_step h]; exact hn)
    by_cases hm : mk l j = true
    · simp only [if_pos (show (rd_T27 l (j : Int)).f1 = true from hm), if_pos (show (0 : Int) ≤ (i : Int) by omega), if_pos (show (i : Int) < (l.length : Int) by omega)]
      by_cases hp : pr l j = pr l i
      · simp only [if_pos (show (rd_T27 l (j : Int)).f2 = (rd_T27 l (i : Int)).f2 from hp)]
        have h3 : nm l (j + 1) i = some j := by simp only [nm, hn]; rw [if_pos ⟨h1, hm, hp⟩]
        rw [nm_le h3 (by omega)]
        exact ev_some _
      · simp only [if_neg (show ¬ (rd_T27 l (j : Int)).f2 = (rd_T27 l (i : Int)).f2 from hp)]
        exact next (fun h => hp h.2)
    · simp only [if_neg (show ¬ (rd_T27 l (j : Int)).f1 = true from hm)]
      exact next (fun h => hm h.1)
theorem specMarkAt (l : List Bt) (hl : l.length ≤ 1000000) (i : Nat) (hi : i < l.length) : Ev (fun k => spec_l22Mark.f k l (i : Int)) (nmI (nm l l.length i)) := by
  unfold spec_l22Mark.f
  have e1 : wrap64 ((i : Int) + 1) = ((i + 1 : Nat) : Int) := by rw [wrap_id (by omega) (by omega)]; omega
  rw [e1]
  exact specMark_loop l hl i hi _ (i + 1) rfl (by omega) (by omega) (nm_self (Nat.le_refl _))
theorem ours_eq (b : Bt) : spec_l22Ours.f b.f0 b.f1 b.f2 b.f3 b.f4 b.f5 = some (decide (b.f2 ≠ 255) && !b.f1) := by
  unfold spec_l22Ours.f
  by_cases h : b.f2 = 255
  · rw [if_pos h]; simp [h]
  · rw [if_neg h]; simp [h]
theorem nmI_neg (o : Option Nat) : nmI o < 0 ↔ o = none := by
  cases o with
  | none => simp [nmI]
  | some j => simp only [nmI]; constructor
              · intro h; omega
              · intro h; cases h
theorem opens_iff (l : List Bt) (k i : Nat) : opens l k i = true ↔ pr l i ≠ 255 ∧ mk l i = false ∧ nm l k i = none := by
  unfold opens
  simp
theorem wAt_zero (l : List Bt) (k i : Nat) : wAt l k i = 0 ↔ opens l k i = true := by
  rw [opens_iff]
  unfold wAt
  by_cases h : pr l i = 255
  · simp [h]
  · by_cases h2 : mk l i = true
    · simp [h, h2]
    · cases h3 : nm l k i with
      | none => simp [h, h2]
      | some j => by_cases h4 : tellsP (rb l (j : Int)) = true <;> simp [h, h2, h4]
def tailP (l : List Bt) : Int := if l.length = 0 then 0 else lOff (rb l ((l.length : Int) - 1)) + 1
def EndP (l : List Bt) (r : Int) : Prop := (∃ i, i < l.length ∧ opens l l.length i = true ∧ (∀ j, j < i → opens l l.length j = false) ∧ r = fOff (rb l (i : Int))) ∨ ((∀ j, j < l.length → opens l l.length j = false) ∧ r = tailP l)
theorem EndP_unique {l : List Bt} {r r' : Int} (h : EndP l r) (h' : EndP l r') : r = r' := by
  rcases h with ⟨i, h1, h2, h3, h4⟩ | ⟨h1, h2⟩
  · rcases h' with ⟨i', h1', h2', h3', h4'⟩ | ⟨h1', h2'⟩
    · have : i = i' := by
        rcases Nat.lt_trichotomy i i' with h | h | h
        · have := h3' i h; rw [h2] at this; cases this
        · exact h
        · have := h3 i' h; rw [h2'] at this; cases this
      rw [h4, h4', this]
    · have := h1' i h1; rw [h2] at this; cases this
  · rcases h' with ⟨i', h1', h2', h3', h4'⟩ | ⟨h1', h2'⟩
    · have := h1 i' h1'; rw [h2'] at this; cases this
    · rw [h2, h2']
theorem EndP_pos {l : List Bt} (h : VL l) {r : Int} (he : EndP l r) : 0 ≤ r := by
  rcases he with ⟨i, h1, _, _, rfl⟩ | ⟨_, rfl⟩
  · exact (fOff_range (VL_at h i h1)).1
  · unfold tailP
    split
    · omega
    · have := lOff_range (VL_at h (l.length - 1) (by omega))
      rw [show ((l.length - 1 : Nat) : Int) = (l.length : Int) - 1 by omega] at this
      omega
theorem VL_last {l : List Bt} (h : VL l) (h0 : l.length ≠ 0) : vB (rb l ((l.length : Int) - 1)) := by
  have := VL_at h (l.length - 1) (by omega)
  rwa [show ((l.length - 1 : Nat) : Int) = (l.length : Int) - 1 by omega] at this
def StP (l : List Bt) (r : Int) : Prop := (VL l ∧ EndP l r) ∨ (¬ VL l ∧ r = -1)
theorem StP_unique {l : List Bt} {r r' : Int} (h : StP l r) (h' : StP l r') : r = r' := by
  rcases h with ⟨h1, h2⟩ | ⟨h1, h2⟩
  · rcases h' with ⟨_, h2'⟩ | ⟨h1', _⟩
    · exact EndP_unique h2 h2'
    · exact absurd h1 h1'
  · rcases h' with ⟨h1', _⟩ | ⟨_, h2'⟩
    · exact absurd h1' h1
    · rw [h2, h2']
theorem vl_true {l : List Bt} (h : VL l) : vl l = true := (vl_iff l).2 h
theorem vl_false {l : List Bt} (h : ¬ VL l) : vl l = false := by rw [← Bool.not_eq_true, vl_iff]; exact h
theorem implEnd (l : List Bt) (hl : smallBs l) (h : VL l) : Ev (fun k => impl_ReadEnd.f k l) (tailP l) := by
  have hs := hl.1
  unfold impl_ReadEnd.f tailP
  refine Ev.bind (implLog l hl) ?_
  rw [vl_true h]
  simp only [if_true]
  by_cases h0 : l.length = 0
  · rw [if_pos h0]
    simp only [if_pos (show (l.length : Int) = 0 by omega)]
    exact ev_some _
  · have e : wrap64 ((l.length : Int) - 1) = (l.length : Int) - 1 := wrap_id (by omega) (by omega)
    have hv := VL_last h h0
    have hr := lOff_range hv
    have e2 : wrap64 (lOff (rb l ((l.length : Int) - 1)) + 1) = lOff (rb l ((l.length : Int) - 1)) + 1 := wrap_id (by omega) (by omega)
    have f := last_eq hv
    rw [if_neg h0]
    simp only [if_neg (show ¬ (l.length : Int) = 0 by omega), e, if_pos (show 0 ≤ (l.length : Int) - 1 by omega), if_pos (show (l.length : Int) - 1 < (l.length : Int) by omega)]
    rw [show (rd_T27 l ((l.length : Int) - 1)) = rb l ((l.length : Int) - 1) from rfl, f]
    simp only [bsome, e2]
    exact ev_some _
theorem implStable_loop (l : List Bt) (hl : smallBs l) (h : VL l) : ∀ (d i : Nat), l.length - i = d → i ≤ l.length → (∀ j, j < i → opens l l.length j = false) → Evs (fun k => impl_StableEnd.l0 k l (fatesTo l l.length).ws (l.length : Int) (i : Int)) (EndP l) := by
  have hs := hl.1
  have hw := (fates_len l).1
  intro d
  induction d with
  | zero =>
    intro i hd hi ho
    refine Evs.succ ?_
    simp only [impl_StableEnd.l0, if_neg (show ¬ (i : Int) < (l.length : Int) by omega)]
    refine Evs.bind (Evs.of (implEnd l hl h) rfl) ?_
    rintro _ rfl
    exact Evs.done (.inr ⟨fun j hj => ho j (by omega), rfl⟩)
  | succ d ih =>
    intro i hd hi ho
    have hlt : i < l.length := by omega
    have e1 : wrap64 ((i : Int) + 1) = ((i + 1 : Nat) : Int) := by rw [wrap_id (by omega) (by omega)]; omega
    refine Evs.succ ?_
    simp only [impl_StableEnd.l0, if_pos (show (i : Int) < (l.length : Int) by omega), if_pos (show (0 : Int) ≤ (i : Int) by omega), hw, e1, fates_w l i hlt]
    by_cases hz : opens l l.length i = true
    · simp only [if_pos ((wAt_zero l l.length i).2 hz)]
      have f := first_eq (VL_at h i hlt)
      rw [show (rd_T27 l (i : Int)) = rb l (i : Int) from rfl, f]
      simp only [bsome]
      exact Evs.done (.inl ⟨i, hlt, hz, ho, rfl⟩)
    · simp only [if_neg (fun h2 => hz ((wAt_zero l l.length i).1 h2))]
      refine ih (i + 1) (by omega) (by omega) (fun j hj => ?_)
      by_cases he : j = i
      · subst he; simpa using hz
      · exact ho j (by omega)
theorem implStable (l : List Bt) (hl : smallBs l) : Evs (fun k => impl_StableEnd.f k l) (StP l) := by
  unfold impl_StableEnd.f
  refine Evs.bind (Evs.of (implLog l hl) rfl) ?_
  rintro _ rfl
  by_cases h : VL l
  · rw [vl_true h]
    simp only [if_true, fates_fit h, bsome]
    have := implStable_loop l hl h l.length 0 (by omega) (by omega) (fun j hj => by omega)
    have h2 := (fates_len l).1
    simp only [h2]
    exact this.mono (fun r hr => Or.inl ⟨h, hr⟩)
  · rw [vl_false h]
    simp only [Bool.false_eq_true, if_false]
    exact Evs.done (.inr ⟨h, rfl⟩)
theorem specEnd_loop (l : List Bt) (hl : smallBs l) (h : VL l) : ∀ (d i : Nat), l.length - i = d → i ≤ l.length → (∀ j, j < i → opens l l.length j = false) → Evs (fun k => spec_l22End.l0 k l (i : Int)) (EndP l) := by
  have hs := hl.1
  intro d
  induction d with
  | zero =>
    intro i hd hi ho
    refine Evs.succ ?_
    simp only [spec_l22End.l0, if_neg (show ¬ (i : Int) < (l.length : Int) by omega)]
    by_cases h0 : l.length = 0
    · simp only [if_pos (show (l.length : Int) = 0 by omega)]
      exact Evs.done (.inr ⟨fun j hj => by omega, by unfold tailP; rw [if_pos h0]⟩)
    · have e : wrap64 ((l.length : Int) - 1) = (l.length : Int) - 1 := wrap_id (by omega) (by omega)
      have hv := VL_last h h0
      have hr := lOff_range hv
      have e2 : wrap64 (lOff (rb l ((l.length : Int) - 1)) + 1) = lOff (rb l ((l.length : Int) - 1)) + 1 := wrap_id (by omega) (by omega)
      have f := lastS_eq hv
      simp only [if_neg (show ¬ (l.length : Int) = 0 by omega), e, if_pos (show 0 ≤ (l.length : Int) - 1 by omega), if_pos (show (l.length : Int) - 1 < (l.length : Int) by omega)]
      rw [show (rd_T27 l ((l.length : Int) - 1)) = rb l ((l.length : Int) - 1) from rfl, f]
      simp only [bsome, e2]
      exact Evs.done (.inr ⟨fun j hj => ho j (by omega), by unfold tailP; rw [if_neg h0]⟩)
  | succ d ih =>
    intro i hd hi ho
    have hlt : i < l.length := by omega
    have e1 : wrap64 ((i : Int) + 1) = ((i + 1 : Nat) : Int) := by rw [wrap_id (by omega) (by omega)]; omega
    have next : opens l l.length i = false → Evs (fun k => spec_l22End.l0 k l ((i + 1 : Nat) : Int)) (EndP l) := fun hz => ih (i + 1) (by omega) (by omega) (fun j hj => by
      by_cases he : j = i
      · subst he; exact hz
      · exact ho j (by omega))
    refine Evs.succ ?_
    have f := ours_eq (rb l (i : Int))
    simp only [spec_l22End.l0, if_pos (show (i : Int) < (l.length : Int) by omega), if_pos (show (0 : Int) ≤ (i : Int) by omega), e1]
    rw [show (rd_T27 l (i : Int)) = rb l (i : Int) from rfl, f]
    simp only [bsome]
    by_cases hu : (decide ((rb l (i : Int)).f2 ≠ 255) && !(rb l (i : Int)).f1) = true
    · simp only [if_pos hu]
      refine Evs.bind (Evs.of (specMarkAt l hs i hlt) rfl) ?_
      rintro _ rfl
      have hu2 : pr l i ≠ 255 ∧ mk l i = false := by simpa using hu
      cases hn : nm l l.length i with
      | none =>
        have hpos := (vB_pos (VL_at h i hlt)).1
        simp only [if_pos ((nmI_neg none).2 rfl), if_pos (show 0 < ((rb l (i : Int)).f5.length : Int) by omega)]
        exact Evs.done (.inl ⟨i, hlt, (opens_iff _ _ _).2 ⟨hu2.1, hu2.2, hn⟩, ho, rfl⟩)
      | some j =>
        simp only [if_neg (show ¬ nmI (some j) < 0 from fun h2 => by have := (nmI_neg _).1 h2; cases this)]
        exact next (by rw [← Bool.not_eq_true, opens_iff, hn]; exact fun h2 => by cases h2.2.2)
    · simp only [if_neg hu]
      exact next (by rw [← Bool.not_eq_true, opens_iff]; exact fun h2 => hu (by simp [h2.1, h2.2.1]))
theorem specStable (l : List Bt) (hl : smallBs l) : Evs (fun k => spec_StableEnd.f k l) (StP l) := by
  unfold spec_StableEnd.f
  refine Evs.bind (Evs.of (specLog l hl) rfl) ?_
  rintro _ rfl
  by_cases h : VL l
  · rw [vl_true h]
    simp only [if_true]
    unfold spec_l22End.f
    refine Evs.bind (specEnd_loop l hl h l.length 0 (by omega) (by omega) (fun j hj => by omega)) ?_
    intro r hr
    exact Evs.done (.inl ⟨h, hr⟩)
  · rw [vl_false h]
    simp only [Bool.false_eq_true, if_false]
    exact Evs.done (.inr ⟨h, rfl⟩)
end Go.Proofs.Yticpnjhkdfdkkaa.Q
namespace Go.Proofs.Yticpnjhkdfdkkaa.Pure
open Go.RowKit Go.Proofs.Yticpnjhkdfdkkaa.T Go.Proofs.YticpnjhkdfdkkaaW.PrintWords Go.Proofs.YticpnjhkdfdkkaaW.PrintLast Go.Proofs.Yticpnjhkdfdkkaa.Q
set_option linter.unusedVariables false
set_option linter.unusedSimpArgs false
theorem drawStable {l0 : List Int} (hb : Bytes l0) : Evs (fun k => spec_DrawStableEnd.f k l0) (fun r => drawnBs 10 r) := by
  obtain ⟨b, ho, hb2, hbl⟩ := open_ev l0 hb
  unfold spec_DrawStableEnd.f
  simp only [ho, bsome]
  refine Evs.bind (decided_evs b hb2 hbl) ?_
  rintro ⟨r, p⟩ h
  exact Evs.done h
theorem stable_l1 (l : List Bt) (hl : l.length ≤ 1000000) (i : Nat) (hi : i < l.length) (ho : opens l l.length i = true) : ∀ (d j : Nat), l.length - j = d → i ≤ j → j ≤ l.length → Ev (fun k => laws_FnStable.l1 k l (i : Int) (j : Int)) true := by
  obtain ⟨h1, h2, h3⟩ := (opens_iff _ _ _).1 ho
  intro d
  induction d with
  | zero =>
    intro j hd hij hj
    refine ev_succ ?_
    simp only [laws_FnStable.l1, if_neg (show ¬ (j : Int) < (l.length : Int) by omega), if_pos (show (0 : Int) ≤ (i : Int) by omega), if_pos (show (i : Int) < (l.length : Int) by omega)]
    rw [show ((rd_T27 l (i : Int)).f2 != 255) = true by simpa using h1]
    exact ev_some _
  | succ d ih =>
    intro j hd hij hj
    have e1 : wrap64 ((j : Int) + 1) = ((j + 1 : Nat) : Int) := by rw [wrap_id (by omega) (by omega)]; omega
    have next := ih (j + 1) (by omega) (by omega) (by omega)
    refine ev_succ ?_
    simp only [laws_FnStable.l1, if_pos (show (j : Int) < (l.length : Int) by omega), if_pos (show (0 : Int) ≤ (j : Int) by omega), e1]
    by_cases hm : mk l j = true
    · have hne : i ≠ j := fun e => by subst e; rw [h2] at hm; cases hm
      have hp : ¬ pr l j = pr l i := fun h => nm_none h3 j (by omega) (by omega) ⟨hm, h⟩
      simp only [if_pos (show (rd_T27 l (j : Int)).f1 = true from hm), if_pos (show (0 : Int) ≤ (i : Int) by omega), if_pos (show (i : Int) < (l.length : Int) by omega), if_neg (show ¬ (rd_T27 l (j : Int)).f2 = (rd_T27 l (i : Int)).f2 from hp)]
      exact next
    · simp only [if_neg (show ¬ (rd_T27 l (j : Int)).f1 = true from hm)]
      exact next
theorem stable_l0 (l : List Bt) (hl : l.length ≤ 1000000) (h : VL l) (i : Nat) (hi : i < l.length) (ho : opens l l.length i = true) : ∀ (d j : Nat), i - j = d → j ≤ i → Ev (fun k => laws_FnStable.l0 k l (fOff (rb l (i : Int))) (j : Int)) true := by
  intro d
  induction d with
  | zero =>
    intro j hd hj
    have he : j = i := by omega
    subst he
    have hpos := (vB_pos (VL_at h j hi)).1
    refine ev_succ ?_
    simp only [laws_FnStable.l0, if_pos (show (j : Int) < (l.length : Int) by omega), if_pos (show (0 : Int) ≤ (j : Int) by omega), if_pos (show 0 < ((rd_T27 l (j : Int)).f5.length : Int) from (by have : 1 ≤ (rb l (j : Int)).f5.length := hpos; show 0 < ((rb l (j : Int)).f5.length : Int); omega))]
    simp only [if_pos (show (rd_T34 (rd_T27 l (j : Int)).f5 0).f0 = fOff (rb l (j : Int)) from rfl)]
    exact stable_l1 l hl j hi ho _ j rfl (Nat.le_refl _) (by omega)
  | succ d ih =>
    intro j hd hj
    have e1 : wrap64 ((j : Int) + 1) = ((j + 1 : Nat) : Int) := by rw [wrap_id (by omega) (by omega)]; omega
    have hpos := (vB_pos (VL_at h j (by omega))).1
    have hne : ¬ fOff (rb l (j : Int)) = fOff (rb l (i : Int)) := fun e => by have := VL_inj h (by omega) hi e; omega
    refine ev_succ ?_
    simp only [laws_FnStable.l0, if_pos (show (j : Int) < (l.length : Int) by omega), if_pos (show (0 : Int) ≤ (j : Int) by omega), if_pos (show 0 < ((rd_T27 l (j : Int)).f5.length : Int) from (by have : 1 ≤ (rb l (j : Int)).f5.length := hpos; show 0 < ((rb l (j : Int)).f5.length : Int); omega)), e1]
    simp only [if_neg (show ¬ (rd_T34 (rd_T27 l (j : Int)).f5 0).f0 = fOff (rb l (i : Int)) from hne)]
    exact ih (j + 1) (by omega) (by omega)
theorem FnStable : laws_FnStable.Pure := by
  intro l0 _ _ hb0
  refine Ev.rounds ?_
  have hb := bytes_of hb0
  unfold laws_FnStable.f
  by_cases h : (l0.length : Int) > 1048576
  · simp only [if_pos h]
    exact ev_some _
  · simp only [if_neg h]
    obtain ⟨l, hd, hdr⟩ := drawStable hb
    have hs := drawnBs_small hdr
    refine Ev.bind hd ?_
    obtain ⟨r, h1, p1⟩ := implStable l hs
    obtain ⟨r', h2, p2⟩ := specStable l hs
    obtain rfl := StP_unique p1 p2
    refine Ev.bind h1 ?_
    refine Ev.bind h2 ?_
    simp only [if_true]
    refine ev_succ ?_
    rcases p1 with ⟨hv, he⟩ | ⟨hv, rfl⟩
    · have hp := EndP_pos hv he
      simp only [laws_FnStable.j0, decide_eq_false (show ¬ r < 0 by omega), Bool.false_eq_true, if_false]
      refine Ev.bind (implEnd l hs hv) ?_
      by_cases ht : r = tailP l
      · simp only [if_pos ht]
        exact ev_some _
      · simp only [if_neg ht]
        rcases he with ⟨i, hi, ho, _, rfl⟩ | ⟨_, he⟩
        · exact stable_l0 l hs.1 hv i hi ho i 0 (by omega) (by omega)
        · exact absurd he ht
    · simp only [laws_FnStable.j0, decide_eq_true (show (-1 : Int) < 0 by omega), if_true, beq_self_eq_true]
      exact ev_some _
end Go.Proofs.Yticpnjhkdfdkkaa.Pure
namespace Go.Proofs.Yticpnjhkdfdkkaa.fnStable
open Go.ChangeShapes Go.WideShapes Go.ChangeAt Go.RowKit
open Go.ChangeMaps (open_string shut_string)
set_option linter.unusedVariables false
theorem own : ownKnob Try.prog.godebug = none := by kernel_rfl
theorem laidOut : laidOutB Try.prog = true := by kernel_rfl
def IsRow (k : IntKind) (w : World) (a : Option Addr) (len cap : Nat) (zs : List Int) : Prop :=
  (a = none ∧ len = 0 ∧ cap = 0 ∧ zs = []) ∨
  ∃ x, a = some x ∧ len ≤ cap ∧ cap ≤ maxLen ∧ zs.length = cap ∧ (∀ i, i < zs.length → w.cell? (x.add i) = some (.int k (zs.getD i 0))) ∧ ∀ n ∈ zs, (Lit.int k n).wf = true
set_option maxRecDepth 100000 in
theorem lifted (os : Os) (started : os.Started) (H : Type) (enc : TypeId × Value → H) :
    ReturnsInHanded {} Try.checked os 6 .any (Rows.fnStableSpec.pre6 enc Try.prog Try.f6 Rows.fnStableRow.domain false) (Rows.fnStableSpec.post enc Try.prog Try.f6 false true false false) := by
  refine returnsInHanded_of_change_sized (C := Try.checked) own started (by kernel_rfl) Try.func6
    (ChangeSpec.witness6 (enc := enc) (C := Try.checked) false ⟨#[], #[.slice none 0 0], []⟩ 8 (by kernel_rfl) (by kernel_rfl) (by kernel_rfl) (by kernel_rfl)) ?_
  intro W base args ds gs before hval0 hW hcnd hsz0 _
  have hsz : (DataW.weightsEach Try.prog (Try.f6.params.toList ++ Rows.fnStableSpec.plain.varTypes Try.prog) (ds ++ gs)).all (· ≤ reachBytes) = true := hsz0
  have hval : ∀ (j : Nat) t v, Try.f6.params[j]? = some t → args[j]? = some v → Value.okWide Try.prog W .any base t v := hval0
  have hW' := hW
  obtain ⟨p, q, hA0, hV, rfl, hfz, hnd⟩ := hW
  have hA : DataW.TrodAll enc Try.prog W 0 (fun _ => true) true Try.f6.params.toList args.toList ds p := hA0
  rw [Try.params6] at hA hval hsz
  obtain ⟨v0, vs0, d0, ds0, p0, q0, hargs, rfl, rfl, h0, r0⟩ := trodAll_cons hA
  obtain ⟨rfl, rfl, rfl⟩ := trodAll_nil r0
  obtain rfl : args = #[v0] := by cases args; simp_all
  obtain ⟨rfl, rfl⟩ := trodVars_none hV
  obtain ⟨a0, len0, cap0, rfl⟩ := okWide_slice Try.underlying22 (hval 0 22 v0 rfl rfl)
  have k0 := h0
  have lt0 : ∀ x ∈ p0, x.block < W.heap.size := by obtain ⟨m, hm⟩ := k0; exact DataW.trod_lt m _ _ _ hm
  obtain ⟨z0, w0⟩ : ∃ zs, IsRow .u8 W a0 len0 cap0 zs := by
    obtain ⟨fuel, hf⟩ := h0
    rcases open_ints Try.underlying22 Try.underlying5 (by kernel_rfl) hf with ⟨hcs, _⟩ | ⟨x, l, c, zs, hcs, _, hl, hm, hz, _, hcell, hwz⟩
    · simp [Value.cells] at hcs
      obtain ⟨rfl, rfl, rfl⟩ := hcs
      exact ⟨[], .inl ⟨rfl, rfl, rfl, rfl⟩⟩
    · simp [Value.cells] at hcs
      obtain ⟨rfl, rfl, rfl⟩ := hcs
      exact ⟨zs, .inr ⟨_, rfl, hl, hm, by simpa using hz, hcell, hwz⟩⟩
  have y0 : len0 * 1 ≤ 140737488351232 := Go.Proofs.YticpnjhkdfdkkaaW.PrintWords.sized_ints hsz (j := 0) (t := 22) rfl rfl Try.underlying22 Try.underlying5 (by kernel_rfl) (by kernel_rfl) h0
  clear hA0 hval0 hsz0 hsz
  refine (T.laws_FnStable.walk Pure.FnStable a0 len0 cap0 z0 W w0 y0).mono fun e W' ⟨he, bel⟩ => ?_
  subst he
  exact ⟨_, rfl, _, _, _, [], _, [], hW', trodAll_mk1 (shut_bool Try.underlying4 _), (trodAll_cons_mk (Below.trod laidOut (by kernel_rfl) (of_decide_eq_true (by kernel_rfl)) k0 bel lt0) trodAll_mk0), rfl, bel.frame _, fun h => by cases h⟩
theorem closed : joinedFacts Try.prog 6 Try.f6 Rows.fnStableSpec Rows.fnStableRow = true :=
  Head.closed_of _ _ _ _ _ (by kernel_rfl) (by kernel_rfl) (by kernel_rfl) (by kernel_rfl) (by kernel_rfl) (by kernel_rfl) (by kernel_rfl) (by kernel_rfl) (by kernel_rfl) (by kernel_rfl) (by kernel_rfl) (by kernel_rfl) (by kernel_rfl) (by kernel_rfl) (by kernel_rfl) (by kernel_rfl) (by kernel_rfl) (by kernel_rfl) (by kernel_rfl) (by kernel_rfl) (by kernel_rfl) (by kernel_rfl) (by kernel_rfl) (by kernel_rfl) (by kernel_rfl) Head.may_enter (by rw [Head.lifts_final]; kernel_rfl) (by rw [Head.make_is]; kernel_rfl) (by kernel_rfl) (by kernel_rfl) (by kernel_rfl) (by kernel_rfl)
theorem over : Rows.fnStableRow.holds Try.pinned (OpenSpec.ofChange Rows.fnStableSpec) :=
  OpenClaim.holds_of_wide 6 Try.f6 rfl rfl rfl rfl rfl rfl rfl ⟨rfl, rfl, rfl, rfl, rfl⟩ rfl rfl rfl rfl rfl (by kernel_rfl) Try.func6 closed
    (of_decide_eq_true (by kernel_rfl)) (by unfold Func.isWrapper; first | (rw [if_pos (by decide +kernel)]; kernel_rfl) | (rw [if_neg (by decide +kernel)]; exact ⟨rfl, rfl⟩))
    (fun os started H enc _ => lifted os started H enc)
theorem proved : Rows.FnStableSaid := over
end Go.Proofs.Yticpnjhkdfdkkaa.fnStable
namespace Go.Proofs.Yticpnjhkdfdkkaa
theorem fnStable_holds : Rows.FnStableSaid := fnStable.proved
end Go.Proofs.Yticpnjhkdfdkkaa
