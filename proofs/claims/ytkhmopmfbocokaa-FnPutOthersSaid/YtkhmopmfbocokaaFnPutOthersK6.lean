/- FnPutOthers, part 7 of 7: merged by wip/tools/pack2.py out of the texts that the row reaches; the pure statement is the session's own. -/
import Derived.RowKit
import Derived.Test.YtkhmopmfbocokaaRows
import Derived.WalkKit
import Derived.ProofKit
import Derived.OpenShut
import Derived.ShutString
import Derived.ChangeOld
import Derived.Below
import Derived.SizedLaws
import Derived.Test.YtkhmopmfbocokaaFnPutOthersK5
namespace Go.Proofs.Ytkhmopmfbocokaa.T
open Go.RowKit Go.Proofs.YtkhmopmfbocokaaW.PrintWords Go.Proofs.YtkhmopmfbocokaaW.PrintLast Go.Proofs.YtkhmopmfbocokaaW.PrintMore
attribute [local go_sem] max2_int max_two
set_option linter.unusedVariables false
set_option linter.unusedSimpArgs false
mutual
def laws_FnPutOthers.j0 : Nat → List (S39) → List (S39) → Int → List (S39) → Int → Bool → Bool → Bool → Int → Int → Int → List (S79) → Option (Bool)
 | 0, _, _, _, _, _, _, _, _, _, _, _, _ => none
 | k + 1, x3, x5, x6, x7, x8, x45, x422000, x422001, x422002, x422003, x422004, x422005 => if x45 = true then (if x6 = x8 then ((laws_sameProducers.f k x5 x7).bind fun t431 => (some t431)) else (some false)) else (laws_FnPutOthers.l0 k x3 x5 (([] : List (S39))) (([] : List (S39))) 0 x422000 x422001 x422002 x422003 x422004 x422005)
def laws_FnPutOthers.l0 : Nat → List (S39) → List (S39) → List (S39) → List (S39) → Int → Bool → Bool → Int → Int → Int → List (S79) → Option (Bool)
 | 0, _, _, _, _, _, _, _, _, _, _, _ => none
 | k + 1, x3, x5, x9, x10, x11, x422000, x422001, x422002, x422003, x422004, x422005 => if x11 < (x3.length : Int) then (if 0 ≤ x11 then (if ((rd_T39 x3 x11).f0) = x422002 then (laws_FnPutOthers.l0 k x3 x5 x9 x10 (wrap64 (x11 + 1)) x422000 x422001 x422002 x422003 x422004 x422005) else (if x9.length < 5864062014805 then (laws_FnPutOthers.l0 k x3 x5 (x9 ++ [(⟨(rd_T39 x3 x11).f0, (rd_T39 x3 x11).f1, (rd_T39 x3 x11).f2⟩ : S39)]) x10 (wrap64 (x11 + 1)) x422000 x422001 x422002 x422003 x422004 x422005) else (none))) else (none)) else (laws_FnPutOthers.l1 k x5 x9 x10 0 x422000 x422001 x422002 x422003 x422004 x422005)
def laws_FnPutOthers.l1 : Nat → List (S39) → List (S39) → List (S39) → Int → Bool → Bool → Int → Int → Int → List (S79) → Option (Bool)
 | 0, _, _, _, _, _, _, _, _, _, _ => none
 | k + 1, x5, x9, x10, x12, x422000, x422001, x422002, x422003, x422004, x422005 => if x12 < (x5.length : Int) then (if 0 ≤ x12 then (if ((rd_T39 x5 x12).f0) = x422002 then (laws_FnPutOthers.l1 k x5 x9 x10 (wrap64 (x12 + 1)) x422000 x422001 x422002 x422003 x422004 x422005) else (if x10.length < 5864062014805 then (laws_FnPutOthers.l1 k x5 x9 (x10 ++ [(⟨(rd_T39 x5 x12).f0, (rd_T39 x5 x12).f1, (rd_T39 x5 x12).f2⟩ : S39)]) (wrap64 (x12 + 1)) x422000 x422001 x422002 x422003 x422004 x422005) else (none))) else (none)) else ((laws_sameProducers.f k x9 x10).bind fun t448 => (if t448 = true then (some ((wrap64 ((x5.length : Int) - (x10.length : Int))) == 1)) else (some false)))
end
def laws_FnPutOthers.f (k : Nat) (l0 : List Int) : Option (Bool) := if (l0.length : Int) > 1048576 then (some true) else ((spec_DrawProducersPut.f k l0).bind fun bt410 => ((impl_ProducersPut.f k bt410.1 bt410.2.1 bt410.2.2.1 bt410.2.2.2.1 bt410.2.2.2.2.1 bt410.2.2.2.2.2.1 bt410.2.2.2.2.2.2).bind fun bt422 => ((spec_ProducersPut.f k bt410.1 bt410.2.1 bt410.2.2.1 bt410.2.2.2.1 bt410.2.2.2.2.1 bt410.2.2.2.2.2.1 bt410.2.2.2.2.2.2).bind fun bt426 => (if bt422.2 = bt426.2 then ((laws_sameProducers.f k bt422.1 bt426.1).bind fun t430 => (if t430 = true then (laws_FnPutOthers.j0 k bt410.1 bt422.1 bt422.2 bt426.1 bt426.2 (bt422.2 != 0) bt410.2.1 bt410.2.2.1 bt410.2.2.2.1 bt410.2.2.2.2.1 bt410.2.2.2.2.2.1 bt410.2.2.2.2.2.2) else (laws_FnPutOthers.j0 k bt410.1 bt422.1 bt422.2 bt426.1 bt426.2 true bt410.2.1 bt410.2.2.1 bt410.2.2.2.1 bt410.2.2.2.2.1 bt410.2.2.2.2.2.1 bt410.2.2.2.2.2.2))) else (laws_FnPutOthers.j0 k bt410.1 bt422.1 bt422.2 bt426.1 bt426.2 true bt410.2.1 bt410.2.2.1 bt410.2.2.2.1 bt410.2.2.2.2.1 bt410.2.2.2.2.2.1 bt410.2.2.2.2.2.2)))))
set_option maxHeartbeats 8000000 in
set_option maxRecDepth 100000 in
theorem laws_FnPutOthers.calls (k : Nat) (A0 : Option Addr) (c0 : Nat) (l0 : List Int) (r : Bool) (w : World) (hr0 : Kd.C (Kd.int .u8) w A0 l0.length l0) (hc0 : l0.length ≤ c0) (h : laws_FnPutOthers.f k l0 = some r) :
  Calls Try.prog 10 #[.slice A0 l0.length c0] w fun e w' => e = .returned (.bool r) ∧ Below w.heap.size w w' := by
 have hu34 := Try.underlying34; have hu39 := Try.underlying39; have HR0 := zzm hr0; have HC0 := zzm hc0; clear hr0 hc0; have HB := zzm (Below.refl w.heap.size w); have H : (if (l0.length : Int) > 1048576 then (some true) else ((spec_DrawProducersPut.f k l0).bind fun bt410 => ((impl_ProducersPut.f k bt410.1 bt410.2.1 bt410.2.2.1 bt410.2.2.2.1 bt410.2.2.2.2.1 bt410.2.2.2.2.2.1 bt410.2.2.2.2.2.2).bind fun bt422 => ((spec_ProducersPut.f k bt410.1 bt410.2.1 bt410.2.2.1 bt410.2.2.2.1 bt410.2.2.2.2.1 bt410.2.2.2.2.2.1 bt410.2.2.2.2.2.2).bind fun bt426 => (if bt422.2 = bt426.2 then ((laws_sameProducers.f k bt422.1 bt426.1).bind fun t430 => (if t430 = true then (laws_FnPutOthers.j0 k bt410.1 bt422.1 bt422.2 bt426.1 bt426.2 (bt422.2 != 0) bt410.2.1 bt410.2.2.1 bt410.2.2.2.1 bt410.2.2.2.2.1 bt410.2.2.2.2.2.1 bt410.2.2.2.2.2.2) else (laws_FnPutOthers.j0 k bt410.1 bt422.1 bt422.2 bt426.1 bt426.2 true bt410.2.1 bt410.2.2.1 bt410.2.2.2.1 bt410.2.2.2.2.1 bt410.2.2.2.2.2.1 bt410.2.2.2.2.2.2))) else (laws_FnPutOthers.j0 k bt410.1 bt422.1 bt422.2 bt426.1 bt426.2 true bt410.2.1 bt410.2.2.1 bt410.2.2.2.1 bt410.2.2.2.2.1 bt410.2.2.2.2.2.1 bt410.2.2.2.2.2.2)))))) = some r := h; clear h; by_cases c2 : (l0.length : Int) > 1048576
 ·
  rw [if_pos c2] at H; have c2b0 : decide (1048576 < (l0.length : Int)) = true := decide_eq_true c2; have c2b1 : decide (1048576 < l0.length) = true := decide_eq_true (by omega); clear c2; obtain rfl := Option.some.inj H; go_enter Try.func10, Try.ntmps10; go_wp2; repeat (go_quiet (fail); try go_wp2)
  go_ret; exact ⟨by first | rfl | (simp [errW_none, errW_some] <;> rfl) | (simp [*, errW_none, errW_some] <;> rfl), by repeat (first | (with_reducible first | exact HB.out | apply zza | apply zzb | apply zzc) | exact HB.out)⟩
 ·
  rw [if_neg c2] at H; have c2b0 : decide (1048576 < (l0.length : Int)) = false := decide_eq_false c2; have c2b1 : decide (1048576 < l0.length) = false := decide_eq_false (by omega); clear c2; replace H := Option.bind_eq_some_iff.mp H; obtain ⟨⟨t410, t413, t414, t415, t416, t417, t418⟩, A30, H⟩ := H; replace H : ((impl_ProducersPut.f k t410 t413 t414 t415 t416 t417 t418).bind fun bt422 => ((spec_ProducersPut.f k t410 t413 t414 t415 t416 t417 t418).bind fun bt426 => (if bt422.2 = bt426.2 then ((laws_sameProducers.f k bt422.1 bt426.1).bind fun t430 => (if t430 = true then (laws_FnPutOthers.j0 k t410 bt422.1 bt422.2 bt426.1 bt426.2 (bt422.2 != 0) t413 t414 t415 t416 t417 t418) else (laws_FnPutOthers.j0 k t410 bt422.1 bt422.2 bt426.1 bt426.2 true t413 t414 t415 t416 t417 t418))) else (laws_FnPutOthers.j0 k t410 bt422.1 bt422.2 bt426.1 bt426.2 true t413 t414 t415 t416 t417 t418)))) = some r := H; have A3 := zzm A30; clear A30; replace H := Option.bind_eq_some_iff.mp H; obtain ⟨⟨t422, t425⟩, A40, H⟩ := H; replace H : ((spec_ProducersPut.f k t410 t413 t414 t415 t416 t417 t418).bind fun bt426 => (if t425 = bt426.2 then ((laws_sameProducers.f k t422 bt426.1).bind fun t430 => (if t430 = true then (laws_FnPutOthers.j0 k t410 t422 t425 bt426.1 bt426.2 (t425 != 0) t413 t414 t415 t416 t417 t418) else (laws_FnPutOthers.j0 k t410 t422 t425 bt426.1 bt426.2 true t413 t414 t415 t416 t417 t418))) else (laws_FnPutOthers.j0 k t410 t422 t425 bt426.1 bt426.2 true t413 t414 t415 t416 t417 t418))) = some r := H; have A4 := zzm A40; clear A40; replace H := Option.bind_eq_some_iff.mp H; obtain ⟨⟨t426, t429⟩, A50, H⟩ := H; replace H : (if t425 = t429 then ((laws_sameProducers.f k t422 t426).bind fun t430 => (if t430 = true then (laws_FnPutOthers.j0 k t410 t422 t425 t426 t429 (t425 != 0) t413 t414 t415 t416 t417 t418) else (laws_FnPutOthers.j0 k t410 t422 t425 t426 t429 true t413 t414 t415 t416 t417 t418))) else (laws_FnPutOthers.j0 k t410 t422 t425 t426 t429 true t413 t414 t415 t416 t417 t418)) = some r := H; have A5 := zzm A50; clear A50; have HC6 := zzm H; clear H; go_enter Try.func10, Try.ntmps10; go_upto_region 6 with (first | (go_at_call 28; (with_reducible refine (spec_DrawProducersPut.calls k _ _ l0 t410 t413 t414 t415 t416 t417 t418 _ ?side1 ?side2 A3.out).mono ?_); (case side1 => repeat (first | exact HR0.out | (with_reducible refine Kd.C_alloc ?_ _) | (with_reducible refine Kd.C_drewN ?_ _) | (with_reducible refine Kd.C_drew ?_))); (case side2 => exact HC0.out); rintro e w7 ⟨v411, v419, rfl, ho0, ho1, hb⟩; have n0_ := zzm (Kd.R_lower (Kd.R_mono (ok' := fun k_ => True) ho0 (fun _ hk_ => trivial)) (zzo (by repeat (first | (with_reducible first | exact HB.out | apply zza | apply zzb | apply zzc) | exact HB.out)))); have n1_ := zzm (Kd.N_lower (Kd.N_mono (ok' := fun k_ => some k_ ≠ (v411 : Value).ownBlock) ho1 (fun k_ hk_ => hk_.2)) (zzo (by repeat (first | (with_reducible first | exact HB.out | apply zza | apply zzb | apply zzc) | exact HB.out)))); have n2_ := zzm (zzp (by repeat (first | (with_reducible first | exact HB.out | apply zza | apply zzb | apply zzc) | exact HB.out)) hb); clear HB; have HO412 := n0_; have HO420 := n1_; have HB := n2_; clear n0_ n1_ n2_; (try clear hb); (try clear hb2); (try clear hk); (try clear hi); (try clear ho0); (try clear ho1)) | ((with_reducible refine gate_dst (N := 4) rfl ?_); (try (refine gate_guard (by rfl) ?_; dsimp only)); refine box_event ?hg (N := 4) ?hd (cs := #[.bool false, .bool false, .int .i64 0, .int .i64 0, .int .i64 0, .slice none 0 0]) (t := 34) ?hr ?_; (case hd => rfl); (case hg => rfl); (case hr => first | (go_simp; done) | (go_simp; rfl)); intro gb421 hg w8 hbox hb; have n0_ := zzm (Kd.R_below (by (with_reducible repeat (first | apply Kd.R_alloc | apply Kd.R_drewN | apply Kd.R_drew)); exact HO412.out) hb); have n1_ := zzm (Kd.N_below (Kd.N_elderB (by (with_reducible repeat (first | apply Kd.N_alloc | apply Kd.N_drewN | apply Kd.N_drew)); exact HO420.out) gb421 (Nat.le_of_eq hg.symm)) hb); have n2_ := zzm (zzp (by repeat (first | (with_reducible first | exact HB.out | apply zza | apply zzb | apply zzc) | exact HB.out)) hb); have n3_ := zzm (hbox); have n4_ := zzm ((by rw [hg]; exact (zzo (by repeat (first | (with_reducible first | exact HB.out | apply zza | apply zzb | apply zzc) | exact HB.out))) : w.heap.size ≤ gb421)); have n5_ := zzm ((by rw [hg]; exact (zzo (by repeat (first | (with_reducible first | exact HB.out | apply zza | apply zzb | apply zzc) | exact HB.out))) : w.heap.size ≤ gb421)); clear HO412 HO420 HB; have HO412 := n0_; have HO420 := n1_; have HB := n2_; have BK421 := n3_; have GW421 := n4_; have GE421 := n5_; clear n0_ n1_ n2_ n3_ n4_ n5_ hb hbox hg; obtain ⟨hcz9_0, hcz9_1, hcz9_2, hcz9_3, hcz9_4, hcz9_5, hfz9_0, hfz9_1, hfz9_2, hfz9_3, hfz9_4, hfz9_5⟩ := zzc6 BK421.out; obtain ⟨Ao10, co10, eo10⟩ := Kd.N_slice HO420.out; subst eo10; obtain ⟨Ao11, co11, eo11⟩ := Kd.R_slice HO412.out; subst eo11) | (go_at_call 29; (with_reducible refine (impl_ProducersPut.calls k _ _ t410 t413 t414 t415 t416 t417 _ _ t418 t422 t425 _ ?side1 ?side2 ?side3 ?side4 A4.out).mono ?_); (case side1 => refine (Kd.R_reads' (e := 39) (base := w.heap.size) (ok := fun k_ => True) (n := t410.length) (c := co11) ?_).2.2; exact (by (with_reducible repeat (first | apply Kd.R_alloc | apply Kd.R_drewN | apply Kd.R_drew)); exact (Kd.R_mono (Kd.R_far (p := ⟨gb421, 5, none⟩) (Kd.R_far (p := ⟨gb421, 4, none⟩) (Kd.R_far (p := ⟨gb421, 3, none⟩) (Kd.R_far (p := ⟨gb421, 2, none⟩) (Kd.R_far (p := ⟨gb421, 1, none⟩) (Kd.R_far (p := ⟨gb421, 0, none⟩) (Kd.R_types HO412.out BK421.out (by decide)) (fun _ hk => hk.2) (.bool t413)) (fun _ hk => hk.2) (.bool t414)) (fun _ hk => hk.2) (.int .i64 t415)) (fun _ hk => hk.2) (.int .i64 t416)) (fun _ hk => hk.2) (.int .i64 t417)) (fun _ hk => hk.2) (.slice Ao10 t418.length co10)) (fun _ h_ => h_.1)))); (case side2 => exact (Kd.R_reads' HO412.out).2.1); (case side3 => refine (Kd.N_reads' (e := 79) (base := w.heap.size) (ok := fun k_ => (some k_ ≠ (.slice Ao11 t410.length co11 : Value).ownBlock ∧ k_ ≠ gb421)) (n := t418.length) (c := co10) ?_).2.2; exact (by (with_reducible repeat (first | apply Kd.N_alloc | apply Kd.N_drewN | apply Kd.N_drew)); exact (Kd.N_mono (Kd.N_far (p := ⟨gb421, 5, none⟩) (Kd.N_far (p := ⟨gb421, 4, none⟩) (Kd.N_far (p := ⟨gb421, 3, none⟩) (Kd.N_far (p := ⟨gb421, 2, none⟩) (Kd.N_far (p := ⟨gb421, 1, none⟩) (Kd.N_far (p := ⟨gb421, 0, none⟩) (Kd.N_mono HO420.out (fun k_ hk => (⟨hk, hk.2⟩ : _ ∧ k_ ≠ gb421))) (fun _ hk => hk.2) (.bool t413)) (fun _ hk => hk.2) (.bool t414)) (fun _ hk => hk.2) (.int .i64 t415)) (fun _ hk => hk.2) (.int .i64 t416)) (fun _ hk => hk.2) (.int .i64 t417)) (fun _ hk => hk.2) (.slice Ao10 t418.length co10)) (fun _ h_ => h_.1)))); (case side4 => exact (Kd.N_reads' HO420.out).2.1); rintro e w12 ⟨v423, rfl, ho0, hb⟩; have n0_ := zzm (Kd.R_elder' (by (with_reducible repeat (first | apply Kd.R_alloc | apply Kd.R_drewN | apply Kd.R_drew)); exact (Kd.R_mono (Kd.R_far (p := ⟨gb421, 5, none⟩) (Kd.R_far (p := ⟨gb421, 4, none⟩) (Kd.R_far (p := ⟨gb421, 3, none⟩) (Kd.R_far (p := ⟨gb421, 2, none⟩) (Kd.R_far (p := ⟨gb421, 1, none⟩) (Kd.R_far (p := ⟨gb421, 0, none⟩) (Kd.R_types HO412.out BK421.out (by decide)) (fun _ hk => hk.2) (.bool t413)) (fun _ hk => hk.2) (.bool t414)) (fun _ hk => hk.2) (.int .i64 t415)) (fun _ hk => hk.2) (.int .i64 t416)) (fun _ hk => hk.2) (.int .i64 t417)) (fun _ hk => hk.2) (.slice Ao10 t418.length co10)) (fun _ h_ => h_.1))) (Kd.R_base ho0) hb); have n1_ := zzm (Kd.N_elder' (by (with_reducible repeat (first | apply Kd.N_alloc | apply Kd.N_drewN | apply Kd.N_drew)); exact (Kd.N_mono (Kd.N_far (p := ⟨gb421, 5, none⟩) (Kd.N_far (p := ⟨gb421, 4, none⟩) (Kd.N_far (p := ⟨gb421, 3, none⟩) (Kd.N_far (p := ⟨gb421, 2, none⟩) (Kd.N_far (p := ⟨gb421, 1, none⟩) (Kd.N_far (p := ⟨gb421, 0, none⟩) (Kd.N_mono HO420.out (fun k_ hk => (⟨hk, hk.2⟩ : _ ∧ k_ ≠ gb421))) (fun _ hk => hk.2) (.bool t413)) (fun _ hk => hk.2) (.bool t414)) (fun _ hk => hk.2) (.int .i64 t415)) (fun _ hk => hk.2) (.int .i64 t416)) (fun _ hk => hk.2) (.int .i64 t417)) (fun _ hk => hk.2) (.slice Ao10 t418.length co10)) (fun _ h_ => h_.1))) (Kd.R_base ho0) hb); have n2_ := zzm (Kd.R_lower (Kd.R_new' ho0 (Kd.R_lt (by (with_reducible repeat (first | apply Kd.R_alloc | apply Kd.R_drewN | apply Kd.R_drew)); exact (Kd.R_mono (Kd.R_far (p := ⟨gb421, 5, none⟩) (Kd.R_far (p := ⟨gb421, 4, none⟩) (Kd.R_far (p := ⟨gb421, 3, none⟩) (Kd.R_far (p := ⟨gb421, 2, none⟩) (Kd.R_far (p := ⟨gb421, 1, none⟩) (Kd.R_far (p := ⟨gb421, 0, none⟩) (Kd.R_types HO412.out BK421.out (by decide)) (fun _ hk => hk.2) (.bool t413)) (fun _ hk => hk.2) (.bool t414)) (fun _ hk => hk.2) (.int .i64 t415)) (fun _ hk => hk.2) (.int .i64 t416)) (fun _ hk => hk.2) (.int .i64 t417)) (fun _ hk => hk.2) (.slice Ao10 t418.length co10)) (fun _ h_ => h_.1))))) (zzo (by repeat (first | (with_reducible first | exact HB.out | apply zza | apply zzb | apply zzc | refine zzd ?_ GE421.out) | exact HB.out)))); have n3_ := zzm (zzh (g := gb421) (o := .cells #[.bool t413, .bool t414, .int .i64 t415, .int .i64 t416, .int .i64 t417, .slice Ao10 t418.length co10] 34 (0, 0)) (by (with_reducible repeat (first | refine zzf ?_ _ | refine zzg ?_ | refine zze ?_ _)); refine zzi (cs := #[.bool t413, .bool t414, .int .i64 t415, .int .i64 t416, .int .i64 t417, .slice none 0 0]) ?_ 5 _ rfl; (with_reducible repeat (first | refine zzf ?_ _ | refine zzg ?_ | refine zze ?_ _)); refine zzi (cs := #[.bool t413, .bool t414, .int .i64 t415, .int .i64 t416, .int .i64 0, .slice none 0 0]) ?_ 4 _ rfl; (with_reducible repeat (first | refine zzf ?_ _ | refine zzg ?_ | refine zze ?_ _)); refine zzi (cs := #[.bool t413, .bool t414, .int .i64 t415, .int .i64 0, .int .i64 0, .slice none 0 0]) ?_ 3 _ rfl; (with_reducible repeat (first | refine zzf ?_ _ | refine zzg ?_ | refine zze ?_ _)); refine zzi (cs := #[.bool t413, .bool t414, .int .i64 0, .int .i64 0, .int .i64 0, .slice none 0 0]) ?_ 2 _ rfl; (with_reducible repeat (first | refine zzf ?_ _ | refine zzg ?_ | refine zze ?_ _)); refine zzi (cs := #[.bool t413, .bool false, .int .i64 0, .int .i64 0, .int .i64 0, .slice none 0 0]) ?_ 1 _ rfl; (with_reducible repeat (first | refine zzf ?_ _ | refine zzg ?_ | refine zze ?_ _)); refine zzi (cs := #[.bool false, .bool false, .int .i64 0, .int .i64 0, .int .i64 0, .slice none 0 0]) ?_ 0 _ rfl; (with_reducible repeat (first | refine zzf ?_ _ | refine zzg ?_ | refine zze ?_ _)); exact BK421.out) hb); have n4_ := zzm (zzp (by repeat (first | (with_reducible first | exact HB.out | apply zza | apply zzb | apply zzc | refine zzd ?_ GE421.out) | exact HB.out)) hb); clear HO412 HO420 BK421 HB; have HO412 := n0_; have HO420 := n1_; have HO424 := n2_; have BK421 := n3_; have HB := n4_; clear n0_ n1_ n2_ n3_ n4_; (try clear hb); (try clear hb2); (try clear hk); (try clear hi); (try clear ho0); obtain ⟨hcz13_0, hcz13_1, hcz13_2, hcz13_3, hcz13_4, hcz13_5, hfz13_0, hfz13_1, hfz13_2, hfz13_3, hfz13_4, hfz13_5⟩ := zzc6 BK421.out) | (go_at_call 30; (with_reducible refine (spec_ProducersPut.calls k _ _ t410 t413 t414 t415 t416 t417 _ _ t418 t426 t429 _ ?side1 ?side2 ?side3 ?side4 A5.out).mono ?_); (case side1 => repeat (first | exact (Kd.R_reads' HO412.out).2.2 | (with_reducible refine Kd.C_alloc ?_ _) | (with_reducible refine Kd.C_drewN ?_ _) | (with_reducible refine Kd.C_drew ?_))); (case side2 => exact (Kd.R_reads' HO412.out).2.1); (case side3 => repeat (first | exact (Kd.N_reads' HO420.out).2.2 | (with_reducible refine Kd.C_alloc ?_ _) | (with_reducible refine Kd.C_drewN ?_ _) | (with_reducible refine Kd.C_drew ?_))); (case side4 => exact (Kd.N_reads' HO420.out).2.1); rintro e w14 ⟨v427, rfl, ho0, hb⟩; have n0_ := zzm (Kd.R_elder' (by (with_reducible repeat (first | apply Kd.R_alloc | apply Kd.R_drewN | apply Kd.R_drew)); exact HO412.out) (Kd.R_base ho0) hb); have n1_ := zzm (Kd.N_elder' (by (with_reducible repeat (first | apply Kd.N_alloc | apply Kd.N_drewN | apply Kd.N_drew)); exact HO420.out) (Kd.R_base ho0) hb); have n2_ := zzm (Kd.R_elder' (by (with_reducible repeat (first | apply Kd.R_alloc | apply Kd.R_drewN | apply Kd.R_drew)); exact HO424.out) (Kd.R_base ho0) hb); have n3_ := zzm (Kd.R_lower (Kd.R_new' (Kd.R_new' ho0 (Kd.R_lt (by (with_reducible repeat (first | apply Kd.R_alloc | apply Kd.R_drewN | apply Kd.R_drew)); exact HO412.out))) (Kd.R_lt (by (with_reducible repeat (first | apply Kd.R_alloc | apply Kd.R_drewN | apply Kd.R_drew)); exact HO424.out))) (zzo (by repeat (first | (with_reducible first | exact HB.out | apply zza | apply zzb | apply zzc | refine zzd ?_ GE421.out) | exact HB.out)))); have n4_ := zzm (zzh (g := gb421) (o := .cells #[.bool t413, .bool t414, .int .i64 t415, .int .i64 t416, .int .i64 t417, .slice Ao10 t418.length co10] 34 (0, 0)) (by (with_reducible repeat (first | refine zzf ?_ _ | refine zzg ?_ | refine zze ?_ _)); exact BK421.out) hb); have n5_ := zzm (zzp (by repeat (first | (with_reducible first | exact HB.out | apply zza | apply zzb | apply zzc | refine zzd ?_ GE421.out) | exact HB.out)) hb); clear HO412 HO420 HO424 BK421 HB; have HO412 := n0_; have HO420 := n1_; have HO424 := n2_; have HO428 := n3_; have BK421 := n4_; have HB := n5_; clear n0_ n1_ n2_ n3_ n4_ n5_; (try clear hb); (try clear hb2); (try clear hk); (try clear hi); (try clear ho0))); repeat (go_quiet (first | (go_at_call 28; (with_reducible refine (spec_DrawProducersPut.calls k _ _ l0 t410 t413 t414 t415 t416 t417 t418 _ ?side1 ?side2 A3.out).mono ?_); (case side1 => repeat (first | exact HR0.out | (with_reducible refine Kd.C_alloc ?_ _) | (with_reducible refine Kd.C_drewN ?_ _) | (with_reducible refine Kd.C_drew ?_))); (case side2 => exact HC0.out); rintro e w7 ⟨v411, v419, rfl, ho0, ho1, hb⟩; have n0_ := zzm (Kd.R_lower (Kd.R_mono (ok' := fun k_ => True) ho0 (fun _ hk_ => trivial)) (zzo (by repeat (first | (with_reducible first | exact HB.out | apply zza | apply zzb | apply zzc) | exact HB.out)))); have n1_ := zzm (Kd.N_lower (Kd.N_mono (ok' := fun k_ => some k_ ≠ (v411 : Value).ownBlock) ho1 (fun k_ hk_ => hk_.2)) (zzo (by repeat (first | (with_reducible first | exact HB.out | apply zza | apply zzb | apply zzc) | exact HB.out)))); have n2_ := zzm (zzp (by repeat (first | (with_reducible first | exact HB.out | apply zza | apply zzb | apply zzc) | exact HB.out)) hb); clear HB; have HO412 := n0_; have HO420 := n1_; have HB := n2_; clear n0_ n1_ n2_; (try clear hb); (try clear hb2); (try clear hk); (try clear hi); (try clear ho0); (try clear ho1)) | ((with_reducible refine gate_dst (N := 4) rfl ?_); (try (refine gate_guard (by rfl) ?_; dsimp only)); refine box_event ?hg (N := 4) ?hd (cs := #[.bool false, .bool false, .int .i64 0, .int .i64 0, .int .i64 0, .slice none 0 0]) (t := 34) ?hr ?_; (case hd => rfl); (case hg => rfl); (case hr => first | (go_simp; done) | (go_simp; rfl)); intro gb421 hg w8 hbox hb; have n0_ := zzm (Kd.R_below (by (with_reducible repeat (first | apply Kd.R_alloc | apply Kd.R_drewN | apply Kd.R_drew)); exact HO412.out) hb); have n1_ := zzm (Kd.N_below (Kd.N_elderB (by (with_reducible repeat (first | apply Kd.N_alloc | apply Kd.N_drewN | apply Kd.N_drew)); exact HO420.out) gb421 (Nat.le_of_eq hg.symm)) hb); have n2_ := zzm (zzp (by repeat (first | (with_reducible first | exact HB.out | apply zza | apply zzb | apply zzc) | exact HB.out)) hb); have n3_ := zzm (hbox); have n4_ := zzm ((by rw [hg]; exact (zzo (by repeat (first | (with_reducible first | exact HB.out | apply zza | apply zzb | apply zzc) | exact HB.out))) : w.heap.size ≤ gb421)); have n5_ := zzm ((by rw [hg]; exact (zzo (by repeat (first | (with_reducible first | exact HB.out | apply zza | apply zzb | apply zzc) | exact HB.out))) : w.heap.size ≤ gb421)); clear HO412 HO420 HB; have HO412 := n0_; have HO420 := n1_; have HB := n2_; have BK421 := n3_; have GW421 := n4_; have GE421 := n5_; clear n0_ n1_ n2_ n3_ n4_ n5_ hb hbox hg; obtain ⟨hcz9_0, hcz9_1, hcz9_2, hcz9_3, hcz9_4, hcz9_5, hfz9_0, hfz9_1, hfz9_2, hfz9_3, hfz9_4, hfz9_5⟩ := zzc6 BK421.out; obtain ⟨Ao10, co10, eo10⟩ := Kd.N_slice HO420.out; subst eo10; obtain ⟨Ao11, co11, eo11⟩ := Kd.R_slice HO412.out; subst eo11) | (go_at_call 29; (with_reducible refine (impl_ProducersPut.calls k _ _ t410 t413 t414 t415 t416 t417 _ _ t418 t422 t425 _ ?side1 ?side2 ?side3 ?side4 A4.out).mono ?_); (case side1 => refine (Kd.R_reads' (e := 39) (base := w.heap.size) (ok := fun k_ => True) (n := t410.length) (c := co11) ?_).2.2; exact (by (with_reducible repeat (first | apply Kd.R_alloc | apply Kd.R_drewN | apply Kd.R_drew)); exact (Kd.R_mono (Kd.R_far (p := ⟨gb421, 5, none⟩) (Kd.R_far (p := ⟨gb421, 4, none⟩) (Kd.R_far (p := ⟨gb421, 3, none⟩) (Kd.R_far (p := ⟨gb421, 2, none⟩) (Kd.R_far (p := ⟨gb421, 1, none⟩) (Kd.R_far (p := ⟨gb421, 0, none⟩) (Kd.R_types HO412.out BK421.out (by decide)) (fun _ hk => hk.2) (.bool t413)) (fun _ hk => hk.2) (.bool t414)) (fun _ hk => hk.2) (.int .i64 t415)) (fun _ hk => hk.2) (.int .i64 t416)) (fun _ hk => hk.2) (.int .i64 t417)) (fun _ hk => hk.2) (.slice Ao10 t418.length co10)) (fun _ h_ => h_.1)))); (case side2 => exact (Kd.R_reads' HO412.out).2.1); (case side3 => refine (Kd.N_reads' (e := 79) (base := w.heap.size) (ok := fun k_ => (some k_ ≠ (.slice Ao11 t410.length co11 : Value).ownBlock ∧ k_ ≠ gb421)) (n := t418.length) (c := co10) ?_).2.2; exact (by (with_reducible repeat (first | apply Kd.N_alloc | apply Kd.N_drewN | apply Kd.N_drew)); exact (Kd.N_mono (Kd.N_far (p := ⟨gb421, 5, none⟩) (Kd.N_far (p := ⟨gb421, 4, none⟩) (Kd.N_far (p := ⟨gb421, 3, none⟩) (Kd.N_far (p := ⟨gb421, 2, none⟩) (Kd.N_far (p := ⟨gb421, 1, none⟩) (Kd.N_far (p := ⟨gb421, 0, none⟩) (Kd.N_mono HO420.out (fun k_ hk => (⟨hk, hk.2⟩ : _ ∧ k_ ≠ gb421))) (fun _ hk => hk.2) (.bool t413)) (fun _ hk => hk.2) (.bool t414)) (fun _ hk => hk.2) (.int .i64 t415)) (fun _ hk => hk.2) (.int .i64 t416)) (fun _ hk => hk.2) (.int .i64 t417)) (fun _ hk => hk.2) (.slice Ao10 t418.length co10)) (fun _ h_ => h_.1)))); (case side4 => exact (Kd.N_reads' HO420.out).2.1); rintro e w12 ⟨v423, rfl, ho0, hb⟩; have n0_ := zzm (Kd.R_elder' (by (with_reducible repeat (first | apply Kd.R_alloc | apply Kd.R_drewN | apply Kd.R_drew)); exact (Kd.R_mono (Kd.R_far (p := ⟨gb421, 5, none⟩) (Kd.R_far (p := ⟨gb421, 4, none⟩) (Kd.R_far (p := ⟨gb421, 3, none⟩) (Kd.R_far (p := ⟨gb421, 2, none⟩) (Kd.R_far (p := ⟨gb421, 1, none⟩) (Kd.R_far (p := ⟨gb421, 0, none⟩) (Kd.R_types HO412.out BK421.out (by decide)) (fun _ hk => hk.2) (.bool t413)) (fun _ hk => hk.2) (.bool t414)) (fun _ hk => hk.2) (.int .i64 t415)) (fun _ hk => hk.2) (.int .i64 t416)) (fun _ hk => hk.2) (.int .i64 t417)) (fun _ hk => hk.2) (.slice Ao10 t418.length co10)) (fun _ h_ => h_.1))) (Kd.R_base ho0) hb); have n1_ := zzm (Kd.N_elder' (by (with_reducible repeat (first | apply Kd.N_alloc | apply Kd.N_drewN | apply Kd.N_drew)); exact (Kd.N_mono (Kd.N_far (p := ⟨gb421, 5, none⟩) (Kd.N_far (p := ⟨gb421, 4, none⟩) (Kd.N_far (p := ⟨gb421, 3, none⟩) (Kd.N_far (p := ⟨gb421, 2, none⟩) (Kd.N_far (p := ⟨gb421, 1, none⟩) (Kd.N_far (p := ⟨gb421, 0, none⟩) (Kd.N_mono HO420.out (fun k_ hk => (⟨hk, hk.2⟩ : _ ∧ k_ ≠ gb421))) (fun _ hk => hk.2) (.bool t413)) (fun _ hk => hk.2) (.bool t414)) (fun _ hk => hk.2) (.int .i64 t415)) (fun _ hk => hk.2) (.int .i64 t416)) (fun _ hk => hk.2) (.int .i64 t417)) (fun _ hk => hk.2) (.slice Ao10 t418.length co10)) (fun _ h_ => h_.1))) (Kd.R_base ho0) hb); have n2_ := zzm (Kd.R_lower (Kd.R_new' ho0 (Kd.R_lt (by (with_reducible repeat (first | apply Kd.R_alloc | apply Kd.R_drewN | apply Kd.R_drew)); exact (Kd.R_mono (Kd.R_far (p := ⟨gb421, 5, none⟩) (Kd.R_far (p := ⟨gb421, 4, none⟩) (Kd.R_far (p := ⟨gb421, 3, none⟩) (Kd.R_far (p := ⟨gb421, 2, none⟩) (Kd.R_far (p := ⟨gb421, 1, none⟩) (Kd.R_far (p := ⟨gb421, 0, none⟩) (Kd.R_types HO412.out BK421.out (by decide)) (fun _ hk => hk.2) (.bool t413)) (fun _ hk => hk.2) (.bool t414)) (fun _ hk => hk.2) (.int .i64 t415)) (fun _ hk => hk.2) (.int .i64 t416)) (fun _ hk => hk.2) (.int .i64 t417)) (fun _ hk => hk.2) (.slice Ao10 t418.length co10)) (fun _ h_ => h_.1))))) (zzo (by repeat (first | (with_reducible first | exact HB.out | apply zza | apply zzb | apply zzc | refine zzd ?_ GE421.out) | exact HB.out)))); have n3_ := zzm (zzh (g := gb421) (o := .cells #[.bool t413, .bool t414, .int .i64 t415, .int .i64 t416, .int .i64 t417, .slice Ao10 t418.length co10] 34 (0, 0)) (by (with_reducible repeat (first | refine zzf ?_ _ | refine zzg ?_ | refine zze ?_ _)); refine zzi (cs := #[.bool t413, .bool t414, .int .i64 t415, .int .i64 t416, .int .i64 t417, .slice none 0 0]) ?_ 5 _ rfl; (with_reducible repeat (first | refine zzf ?_ _ | refine zzg ?_ | refine zze ?_ _)); refine zzi (cs := #[.bool t413, .bool t414, .int .i64 t415, .int .i64 t416, .int .i64 0, .slice none 0 0]) ?_ 4 _ rfl; (with_reducible repeat (first | refine zzf ?_ _ | refine zzg ?_ | refine zze ?_ _)); refine zzi (cs := #[.bool t413, .bool t414, .int .i64 t415, .int .i64 0, .int .i64 0, .slice none 0 0]) ?_ 3 _ rfl; (with_reducible repeat (first | refine zzf ?_ _ | refine zzg ?_ | refine zze ?_ _)); refine zzi (cs := #[.bool t413, .bool t414, .int .i64 0, .int .i64 0, .int .i64 0, .slice none 0 0]) ?_ 2 _ rfl; (with_reducible repeat (first | refine zzf ?_ _ | refine zzg ?_ | refine zze ?_ _)); refine zzi (cs := #[.bool t413, .bool false, .int .i64 0, .int .i64 0, .int .i64 0, .slice none 0 0]) ?_ 1 _ rfl; (with_reducible repeat (first | refine zzf ?_ _ | refine zzg ?_ | refine zze ?_ _)); refine zzi (cs := #[.bool false, .bool false, .int .i64 0, .int .i64 0, .int .i64 0, .slice none 0 0]) ?_ 0 _ rfl; (with_reducible repeat (first | refine zzf ?_ _ | refine zzg ?_ | refine zze ?_ _)); exact BK421.out) hb); have n4_ := zzm (zzp (by repeat (first | (with_reducible first | exact HB.out | apply zza | apply zzb | apply zzc | refine zzd ?_ GE421.out) | exact HB.out)) hb); clear HO412 HO420 BK421 HB; have HO412 := n0_; have HO420 := n1_; have HO424 := n2_; have BK421 := n3_; have HB := n4_; clear n0_ n1_ n2_ n3_ n4_; (try clear hb); (try clear hb2); (try clear hk); (try clear hi); (try clear ho0); obtain ⟨hcz13_0, hcz13_1, hcz13_2, hcz13_3, hcz13_4, hcz13_5, hfz13_0, hfz13_1, hfz13_2, hfz13_3, hfz13_4, hfz13_5⟩ := zzc6 BK421.out) | (go_at_call 30; (with_reducible refine (spec_ProducersPut.calls k _ _ t410 t413 t414 t415 t416 t417 _ _ t418 t426 t429 _ ?side1 ?side2 ?side3 ?side4 A5.out).mono ?_); (case side1 => repeat (first | exact (Kd.R_reads' HO412.out).2.2 | (with_reducible refine Kd.C_alloc ?_ _) | (with_reducible refine Kd.C_drewN ?_ _) | (with_reducible refine Kd.C_drew ?_))); (case side2 => exact (Kd.R_reads' HO412.out).2.1); (case side3 => repeat (first | exact (Kd.N_reads' HO420.out).2.2 | (with_reducible refine Kd.C_alloc ?_ _) | (with_reducible refine Kd.C_drewN ?_ _) | (with_reducible refine Kd.C_drew ?_))); (case side4 => exact (Kd.N_reads' HO420.out).2.1); rintro e w14 ⟨v427, rfl, ho0, hb⟩; have n0_ := zzm (Kd.R_elder' (by (with_reducible repeat (first | apply Kd.R_alloc | apply Kd.R_drewN | apply Kd.R_drew)); exact HO412.out) (Kd.R_base ho0) hb); have n1_ := zzm (Kd.N_elder' (by (with_reducible repeat (first | apply Kd.N_alloc | apply Kd.N_drewN | apply Kd.N_drew)); exact HO420.out) (Kd.R_base ho0) hb); have n2_ := zzm (Kd.R_elder' (by (with_reducible repeat (first | apply Kd.R_alloc | apply Kd.R_drewN | apply Kd.R_drew)); exact HO424.out) (Kd.R_base ho0) hb); have n3_ := zzm (Kd.R_lower (Kd.R_new' (Kd.R_new' ho0 (Kd.R_lt (by (with_reducible repeat (first | apply Kd.R_alloc | apply Kd.R_drewN | apply Kd.R_drew)); exact HO412.out))) (Kd.R_lt (by (with_reducible repeat (first | apply Kd.R_alloc | apply Kd.R_drewN | apply Kd.R_drew)); exact HO424.out))) (zzo (by repeat (first | (with_reducible first | exact HB.out | apply zza | apply zzb | apply zzc | refine zzd ?_ GE421.out) | exact HB.out)))); have n4_ := zzm (zzh (g := gb421) (o := .cells #[.bool t413, .bool t414, .int .i64 t415, .int .i64 t416, .int .i64 t417, .slice Ao10 t418.length co10] 34 (0, 0)) (by (with_reducible repeat (first | refine zzf ?_ _ | refine zzg ?_ | refine zze ?_ _)); exact BK421.out) hb); have n5_ := zzm (zzp (by repeat (first | (with_reducible first | exact HB.out | apply zza | apply zzb | apply zzc | refine zzd ?_ GE421.out) | exact HB.out)) hb); clear HO412 HO420 HO424 BK421 HB; have HO412 := n0_; have HO420 := n1_; have HO424 := n2_; have HO428 := n3_; have BK421 := n4_; have HB := n5_; clear n0_ n1_ n2_ n3_ n4_ n5_; (try clear hb); (try clear hb2); (try clear hk); (try clear hi); (try clear ho0))); go_upto_region 6 with (first | (go_at_call 28; (with_reducible refine (spec_DrawProducersPut.calls k _ _ l0 t410 t413 t414 t415 t416 t417 t418 _ ?side1 ?side2 A3.out).mono ?_); (case side1 => repeat (first | exact HR0.out | (with_reducible refine Kd.C_alloc ?_ _) | (with_reducible refine Kd.C_drewN ?_ _) | (with_reducible refine Kd.C_drew ?_))); (case side2 => exact HC0.out); rintro e w7 ⟨v411, v419, rfl, ho0, ho1, hb⟩; have n0_ := zzm (Kd.R_lower (Kd.R_mono (ok' := fun k_ => True) ho0 (fun _ hk_ => trivial)) (zzo (by repeat (first | (with_reducible first | exact HB.out | apply zza | apply zzb | apply zzc) | exact HB.out)))); have n1_ := zzm (Kd.N_lower (Kd.N_mono (ok' := fun k_ => some k_ ≠ (v411 : Value).ownBlock) ho1 (fun k_ hk_ => hk_.2)) (zzo (by repeat (first | (with_reducible first | exact HB.out | apply zza | apply zzb | apply zzc) | exact HB.out)))); have n2_ := zzm (zzp (by repeat (first | (with_reducible first | exact HB.out | apply zza | apply zzb | apply zzc) | exact HB.out)) hb); clear HB; have HO412 := n0_; have HO420 := n1_; have HB := n2_; clear n0_ n1_ n2_; (try clear hb); (try clear hb2); (try clear hk); (try clear hi); (try clear ho0); (try clear ho1)) | ((with_reducible refine gate_dst (N := 4) rfl ?_); (try (refine gate_guard (by rfl) ?_; dsimp only)); refine box_event ?hg (N := 4) ?hd (cs := #[.bool false, .bool false, .int .i64 0, .int .i64 0, .int .i64 0, .slice none 0 0]) (t := 34) ?hr ?_; (case hd => rfl); (case hg => rfl); (case hr => first | (go_simp; done) | (go_simp; rfl)); intro gb421 hg w8 hbox hb; have n0_ := zzm (Kd.R_below (by (with_reducible repeat (first | apply Kd.R_alloc | apply Kd.R_drewN | apply Kd.R_drew)); exact HO412.out) hb); have n1_ := zzm (Kd.N_below (Kd.N_elderB (by (with_reducible repeat (first | apply Kd.N_alloc | apply Kd.N_drewN | apply Kd.N_drew)); exact HO420.out) gb421 (Nat.le_of_eq hg.symm)) hb); have n2_ := zzm (zzp (by repeat (first | (with_reducible first | exact HB.out | apply zza | apply zzb | apply zzc) | exact HB.out)) hb); have n3_ := zzm (hbox); have n4_ := zzm ((by rw [hg]; exact (zzo (by repeat (first | (with_reducible first | exact HB.out | apply zza | apply zzb | apply zzc) | exact HB.out))) : w.heap.size ≤ gb421)); have n5_ := zzm ((by rw [hg]; exact (zzo (by repeat (first | (with_reducible first | exact HB.out | apply zza | apply zzb | apply zzc) | exact HB.out))) : w.heap.size ≤ gb421)); clear HO412 HO420 HB; have HO412 := n0_; have HO420 := n1_; have HB := n2_; have BK421 := n3_; have GW421 := n4_; have GE421 := n5_; clear n0_ n1_ n2_ n3_ n4_ n5_ hb hbox hg; obtain ⟨hcz9_0, hcz9_1, hcz9_2, hcz9_3, hcz9_4, hcz9_5, hfz9_0, hfz9_1, hfz9_2, hfz9_3, hfz9_4, hfz9_5⟩ := zzc6 BK421.out; obtain ⟨Ao10, co10, eo10⟩ := Kd.N_slice HO420.out; subst eo10; obtain ⟨Ao11, co11, eo11⟩ := Kd.R_slice HO412.out; subst eo11) | (go_at_call 29; (with_reducible refine (impl_ProducersPut.calls k _ _ t410 t413 t414 t415 t416 t417 _ _ t418 t422 t425 _ ?side1 ?side2 ?side3 ?side4 A4.out).mono ?_); (case side1 => refine (Kd.R_reads' (e := 39) (base := w.heap.size) (ok := fun k_ => True) (n := t410.length) (c := co11) ?_).2.2; exact (by (with_reducible repeat (first | apply Kd.R_alloc | apply Kd.R_drewN | apply Kd.R_drew)); exact (Kd.R_mono (Kd.R_far (p := ⟨gb421, 5, none⟩) (Kd.R_far (p := ⟨gb421, 4, none⟩) (Kd.R_far (p := ⟨gb421, 3, none⟩) (Kd.R_far (p := ⟨gb421, 2, none⟩) (Kd.R_far (p := ⟨gb421, 1, none⟩) (Kd.R_far (p := ⟨gb421, 0, none⟩) (Kd.R_types HO412.out BK421.out (by decide)) (fun _ hk => hk.2) (.bool t413)) (fun _ hk => hk.2) (.bool t414)) (fun _ hk => hk.2) (.int .i64 t415)) (fun _ hk => hk.2) (.int .i64 t416)) (fun _ hk => hk.2) (.int .i64 t417)) (fun _ hk => hk.2) (.slice Ao10 t418.length co10)) (fun _ h_ => h_.1)))); (case side2 => exact (Kd.R_reads' HO412.out).2.1); (case side3 => refine (Kd.N_reads' (e := 79) (base := w.heap.size) (ok := fun k_ => (some k_ ≠ (.slice Ao11 t410.length co11 : Value).ownBlock ∧ k_ ≠ gb421)) (n := t418.length) (c := co10) ?_).2.2; exact (by (with_reducible repeat (first | apply Kd.N_alloc | apply Kd.N_drewN | apply Kd.N_drew)); exact (Kd.N_mono (Kd.N_far (p := ⟨gb421, 5, none⟩) (Kd.N_far (p := ⟨gb421, 4, none⟩) (Kd.N_far (p := ⟨gb421, 3, none⟩) (Kd.N_far (p := ⟨gb421, 2, none⟩) (Kd.N_far (p := ⟨gb421, 1, none⟩) (Kd.N_far (p := ⟨gb421, 0, none⟩) (Kd.N_mono HO420.out (fun k_ hk => (⟨hk, hk.2⟩ : _ ∧ k_ ≠ gb421))) (fun _ hk => hk.2) (.bool t413)) (fun _ hk => hk.2) (.bool t414)) (fun _ hk => hk.2) (.int .i64 t415)) (fun _ hk => hk.2) (.int .i64 t416)) (fun _ hk => hk.2) (.int .i64 t417)) (fun _ hk => hk.2) (.slice Ao10 t418.length co10)) (fun _ h_ => h_.1)))); (case side4 => exact (Kd.N_reads' HO420.out).2.1); rintro e w12 ⟨v423, rfl, ho0, hb⟩; have n0_ := zzm (Kd.R_elder' (by (with_reducible repeat (first | apply Kd.R_alloc | apply Kd.R_drewN | apply Kd.R_drew)); exact (Kd.R_mono (Kd.R_far (p := ⟨gb421, 5, none⟩) (Kd.R_far (p := ⟨gb421, 4, none⟩) (Kd.R_far (p := ⟨gb421, 3, none⟩) (Kd.R_far (p := ⟨gb421, 2, none⟩) (Kd.R_far (p := ⟨gb421, 1, none⟩) (Kd.R_far (p := ⟨gb421, 0, none⟩) (Kd.R_types HO412.out BK421.out (by decide)) (fun _ hk => hk.2) (.bool t413)) (fun _ hk => hk.2) (.bool t414)) (fun _ hk => hk.2) (.int .i64 t415)) (fun _ hk => hk.2) (.int .i64 t416)) (fun _ hk => hk.2) (.int .i64 t417)) (fun _ hk => hk.2) (.slice Ao10 t418.length co10)) (fun _ h_ => h_.1))) (Kd.R_base ho0) hb); have n1_ := zzm (Kd.N_elder' (by (with_reducible repeat (first | apply Kd.N_alloc | apply Kd.N_drewN | apply Kd.N_drew)); exact (Kd.N_mono (Kd.N_far (p := ⟨gb421, 5, none⟩) (Kd.N_far (p := ⟨gb421, 4, none⟩) (Kd.N_far (p := ⟨gb421, 3, none⟩) (Kd.N_far (p := ⟨gb421, 2, none⟩) (Kd.N_far (p := ⟨gb421, 1, none⟩) (Kd.N_far (p := ⟨gb421, 0, none⟩) (Kd.N_mono HO420.out (fun k_ hk => (⟨hk, hk.2⟩ : _ ∧ k_ ≠ gb421))) (fun _ hk => hk.2) (.bool t413)) (fun _ hk => hk.2) (.bool t414)) (fun _ hk => hk.2) (.int .i64 t415)) (fun _ hk => hk.2) (.int .i64 t416)) (fun _ hk => hk.2) (.int .i64 t417)) (fun _ hk => hk.2) (.slice Ao10 t418.length co10)) (fun _ h_ => h_.1))) (Kd.R_base ho0) hb); have n2_ := zzm (Kd.R_lower (Kd.R_new' ho0 (Kd.R_lt (by (with_reducible repeat (first | apply Kd.R_alloc | apply Kd.R_drewN | apply Kd.R_drew)); exact (Kd.R_mono (Kd.R_far (p := ⟨gb421, 5, none⟩) (Kd.R_far (p := ⟨gb421, 4, none⟩) (Kd.R_far (p := ⟨gb421, 3, none⟩) (Kd.R_far (p := ⟨gb421, 2, none⟩) (Kd.R_far (p := ⟨gb421, 1, none⟩) (Kd.R_far (p := ⟨gb421, 0, none⟩) (Kd.R_types HO412.out BK421.out (by decide)) (fun _ hk => hk.2) (.bool t413)) (fun _ hk => hk.2) (.bool t414)) (fun _ hk => hk.2) (.int .i64 t415)) (fun _ hk => hk.2) (.int .i64 t416)) (fun _ hk => hk.2) (.int .i64 t417)) (fun _ hk => hk.2) (.slice Ao10 t418.length co10)) (fun _ h_ => h_.1))))) (zzo (by repeat (first | (with_reducible first | exact HB.out | apply zza | apply zzb | apply zzc | refine zzd ?_ GE421.out) | exact HB.out)))); have n3_ := zzm (zzh (g := gb421) (o := .cells #[.bool t413, .bool t414, .int .i64 t415, .int .i64 t416, .int .i64 t417, .slice Ao10 t418.length co10] 34 (0, 0)) (by (with_reducible repeat (first | refine zzf ?_ _ | refine zzg ?_ | refine zze ?_ _)); refine zzi (cs := #[.bool t413, .bool t414, .int .i64 t415, .int .i64 t416, .int .i64 t417, .slice none 0 0]) ?_ 5 _ rfl; (with_reducible repeat (first | refine zzf ?_ _ | refine zzg ?_ | refine zze ?_ _)); refine zzi (cs := #[.bool t413, .bool t414, .int .i64 t415, .int .i64 t416, .int .i64 0, .slice none 0 0]) ?_ 4 _ rfl; (with_reducible repeat (first | refine zzf ?_ _ | refine zzg ?_ | refine zze ?_ _)); refine zzi (cs := #[.bool t413, .bool t414, .int .i64 t415, .int .i64 0, .int .i64 0, .slice none 0 0]) ?_ 3 _ rfl; (with_reducible repeat (first | refine zzf ?_ _ | refine zzg ?_ | refine zze ?_ _)); refine zzi (cs := #[.bool t413, .bool t414, .int .i64 0, .int .i64 0, .int .i64 0, .slice none 0 0]) ?_ 2 _ rfl; (with_reducible repeat (first | refine zzf ?_ _ | refine zzg ?_ | refine zze ?_ _)); refine zzi (cs := #[.bool t413, .bool false, .int .i64 0, .int .i64 0, .int .i64 0, .slice none 0 0]) ?_ 1 _ rfl; (with_reducible repeat (first | refine zzf ?_ _ | refine zzg ?_ | refine zze ?_ _)); refine zzi (cs := #[.bool false, .bool false, .int .i64 0, .int .i64 0, .int .i64 0, .slice none 0 0]) ?_ 0 _ rfl; (with_reducible repeat (first | refine zzf ?_ _ | refine zzg ?_ | refine zze ?_ _)); exact BK421.out) hb); have n4_ := zzm (zzp (by repeat (first | (with_reducible first | exact HB.out | apply zza | apply zzb | apply zzc | refine zzd ?_ GE421.out) | exact HB.out)) hb); clear HO412 HO420 BK421 HB; have HO412 := n0_; have HO420 := n1_; have HO424 := n2_; have BK421 := n3_; have HB := n4_; clear n0_ n1_ n2_ n3_ n4_; (try clear hb); (try clear hb2); (try clear hk); (try clear hi); (try clear ho0); obtain ⟨hcz13_0, hcz13_1, hcz13_2, hcz13_3, hcz13_4, hcz13_5, hfz13_0, hfz13_1, hfz13_2, hfz13_3, hfz13_4, hfz13_5⟩ := zzc6 BK421.out) | (go_at_call 30; (with_reducible refine (spec_ProducersPut.calls k _ _ t410 t413 t414 t415 t416 t417 _ _ t418 t426 t429 _ ?side1 ?side2 ?side3 ?side4 A5.out).mono ?_); (case side1 => repeat (first | exact (Kd.R_reads' HO412.out).2.2 | (with_reducible refine Kd.C_alloc ?_ _) | (with_reducible refine Kd.C_drewN ?_ _) | (with_reducible refine Kd.C_drew ?_))); (case side2 => exact (Kd.R_reads' HO412.out).2.1); (case side3 => repeat (first | exact (Kd.N_reads' HO420.out).2.2 | (with_reducible refine Kd.C_alloc ?_ _) | (with_reducible refine Kd.C_drewN ?_ _) | (with_reducible refine Kd.C_drew ?_))); (case side4 => exact (Kd.N_reads' HO420.out).2.1); rintro e w14 ⟨v427, rfl, ho0, hb⟩; have n0_ := zzm (Kd.R_elder' (by (with_reducible repeat (first | apply Kd.R_alloc | apply Kd.R_drewN | apply Kd.R_drew)); exact HO412.out) (Kd.R_base ho0) hb); have n1_ := zzm (Kd.N_elder' (by (with_reducible repeat (first | apply Kd.N_alloc | apply Kd.N_drewN | apply Kd.N_drew)); exact HO420.out) (Kd.R_base ho0) hb); have n2_ := zzm (Kd.R_elder' (by (with_reducible repeat (first | apply Kd.R_alloc | apply Kd.R_drewN | apply Kd.R_drew)); exact HO424.out) (Kd.R_base ho0) hb); have n3_ := zzm (Kd.R_lower (Kd.R_new' (Kd.R_new' ho0 (Kd.R_lt (by (with_reducible repeat (first | apply Kd.R_alloc | apply Kd.R_drewN | apply Kd.R_drew)); exact HO412.out))) (Kd.R_lt (by (with_reducible repeat (first | apply Kd.R_alloc | apply Kd.R_drewN | apply Kd.R_drew)); exact HO424.out))) (zzo (by repeat (first | (with_reducible first | exact HB.out | apply zza | apply zzb | apply zzc | refine zzd ?_ GE421.out) | exact HB.out)))); have n4_ := zzm (zzh (g := gb421) (o := .cells #[.bool t413, .bool t414, .int .i64 t415, .int .i64 t416, .int .i64 t417, .slice Ao10 t418.length co10] 34 (0, 0)) (by (with_reducible repeat (first | refine zzf ?_ _ | refine zzg ?_ | refine zze ?_ _)); exact BK421.out) hb); have n5_ := zzm (zzp (by repeat (first | (with_reducible first | exact HB.out | apply zza | apply zzb | apply zzc | refine zzd ?_ GE421.out) | exact HB.out)) hb); clear HO412 HO420 HO424 BK421 HB; have HO412 := n0_; have HO420 := n1_; have HO424 := n2_; have HO428 := n3_; have BK421 := n4_; have HB := n5_; clear n0_ n1_ n2_ n3_ n4_ n5_; (try clear hb); (try clear hb2); (try clear hk); (try clear hi); (try clear ho0))))
  (try simp only [Act.put, zzq, zzr, zzs]); go_cut [45] (fun v45 wc => ∃ (kq : Nat) (x45_5 : Bool), v45 = .bool x45_5 ∧ Aside0 (laws_FnPutOthers.j0 kq t410 t422 t425 t426 t429 x45_5 t413 t414 t415 t416 t417 t418 = some r) ∧ Aside0 (kq ≤ k) ∧ Aside0 (Kd.R k39 39 wc w.heap.size (fun k_ => some k_ ≠ (v423 : Value).ownBlock ∧ some k_ ≠ (v427 : Value).ownBlock) (.slice Ao11 t410.length co11) t410) ∧ Aside0 (Kd.R k39 39 wc w.heap.size (fun k_ => some k_ ≠ ((.slice Ao11 t410.length co11) : Value).ownBlock ∧ some k_ ≠ (v427 : Value).ownBlock) v423 t422) ∧ Aside0 (Kd.R k39 39 wc w.heap.size (fun k_ => some k_ ≠ ((.slice Ao11 t410.length co11) : Value).ownBlock ∧ some k_ ≠ (v423 : Value).ownBlock) v427 t426) ∧ Aside0 (Kd.N k79 79 wc w.heap.size (fun k_ => some k_ ≠ ((.slice Ao11 t410.length co11) : Value).ownBlock ∧ some k_ ≠ (v423 : Value).ownBlock ∧ some k_ ≠ (v427 : Value).ownBlock ∧ k_ ≠ gb421) (.slice Ao10 t418.length co10) t418) ∧ Aside0 (wc.heap[gb421]? = some (.cells #[.bool t413, .bool t414, .int .i64 t415, .int .i64 t416, .int .i64 t417, (.slice Ao10 t418.length co10)] 34 (0, 0))) ∧ Aside0 (Below w.heap.size w wc))
  case first =>
   have H := HC6.out; clear HC6; by_cases c15 : t425 = t429
   ·
    rw [if_pos c15] at H; have c15b0 : (t425 == t429) = true := beq_iff_eq.mpr c15; have c15b1 : (t425 != t429) = false := bne_eq_false_iff_eq.mpr c15; clear c15; (first | rw [c15b0] | (simp only [i64_w, i32_w]; rw [c15b0]) | skip); replace H := Option.bind_eq_some_iff.mp H; obtain ⟨t430, A160, H⟩ := H; replace H : (if t430 = true then (laws_FnPutOthers.j0 k t410 t422 t425 t426 t429 (t425 != 0) t413 t414 t415 t416 t417 t418) else (laws_FnPutOthers.j0 k t410 t422 t425 t426 t429 true t413 t414 t415 t416 t417 t418)) = some r := H; have A16 := zzm A160; clear A160; by_cases c17 : t430 = true
    ·
     subst c17; have H1 : (laws_FnPutOthers.j0 k t410 t422 t425 t426 t429 (t425 != 0) t413 t414 t415 t416 t417 t418) = some r := by rw [if_pos rfl] at H; exact H
     clear H; have H := H1; clear H1; have H' := zzm H; clear H; obtain ⟨Ao18, co18, eo18⟩ := Kd.R_slice HO424.out; subst eo18; obtain ⟨Ao19, co19, eo19⟩ := Kd.R_slice HO428.out; subst eo19; go_wp2_with (first | (go_at_call 31; (with_reducible refine (laws_sameProducers.calls k _ _ t422 _ _ t426 true _ ?side1 ?side2 ?side3 ?side4 A16.out).mono ?_); (case side1 => repeat (first | exact (Kd.R_reads' HO424.out).2.2 | (with_reducible refine Kd.C_alloc ?_ _) | (with_reducible refine Kd.C_drewN ?_ _) | (with_reducible refine Kd.C_drew ?_))); (case side2 => exact (Kd.R_reads' HO424.out).2.1); (case side3 => repeat (first | exact (Kd.R_reads' HO428.out).2.2 | (with_reducible refine Kd.C_alloc ?_ _) | (with_reducible refine Kd.C_drewN ?_ _) | (with_reducible refine Kd.C_drew ?_))); (case side4 => exact (Kd.R_reads' HO428.out).2.1); rintro e w' ⟨rfl, ⟨nd, rfl⟩⟩; (try first | exact ⟨rfl, _, World.drewN_drewN _ _ _⟩ | exact ⟨rfl, _, Eq.trans (World.drewN_drewN _ _ _) (congrArg (World.drewN _) (Nat.add_assoc _ _ _))⟩))); repeat (go_quiet (first | (go_at_call 31; (with_reducible refine (laws_sameProducers.calls k _ _ t422 _ _ t426 true _ ?side1 ?side2 ?side3 ?side4 A16.out).mono ?_); (case side1 => repeat (first | exact (Kd.R_reads' HO424.out).2.2 | (with_reducible refine Kd.C_alloc ?_ _) | (with_reducible refine Kd.C_drewN ?_ _) | (with_reducible refine Kd.C_drew ?_))); (case side2 => exact (Kd.R_reads' HO424.out).2.1); (case side3 => repeat (first | exact (Kd.R_reads' HO428.out).2.2 | (with_reducible refine Kd.C_alloc ?_ _) | (with_reducible refine Kd.C_drewN ?_ _) | (with_reducible refine Kd.C_drew ?_))); (case side4 => exact (Kd.R_reads' HO428.out).2.1); rintro e w' ⟨rfl, ⟨nd, rfl⟩⟩; (try first | exact ⟨rfl, _, World.drewN_drewN _ _ _⟩ | exact ⟨rfl, _, Eq.trans (World.drewN_drewN _ _ _) (congrArg (World.drewN _) (Nat.add_assoc _ _ _))⟩))); try go_wp2_with (first | (go_at_call 31; (with_reducible refine (laws_sameProducers.calls k _ _ t422 _ _ t426 true _ ?side1 ?side2 ?side3 ?side4 A16.out).mono ?_); (case side1 => repeat (first | exact (Kd.R_reads' HO424.out).2.2 | (with_reducible refine Kd.C_alloc ?_ _) | (with_reducible refine Kd.C_drewN ?_ _) | (with_reducible refine Kd.C_drew ?_))); (case side2 => exact (Kd.R_reads' HO424.out).2.1); (case side3 => repeat (first | exact (Kd.R_reads' HO428.out).2.2 | (with_reducible refine Kd.C_alloc ?_ _) | (with_reducible refine Kd.C_drewN ?_ _) | (with_reducible refine Kd.C_drew ?_))); (case side4 => exact (Kd.R_reads' HO428.out).2.1); rintro e w' ⟨rfl, ⟨nd, rfl⟩⟩; (try first | exact ⟨rfl, _, World.drewN_drewN _ _ _⟩ | exact ⟨rfl, _, Eq.trans (World.drewN_drewN _ _ _) (congrArg (World.drewN _) (Nat.add_assoc _ _ _))⟩))))
     go_meet
     case rel => exact ⟨_, ((t425 != 0)), (by first | rfl | (simp; done) | (simp [*]; done)), H', ⟨by first | omega | exact Nat.le_refl _⟩, ⟨by (with_reducible repeat (first | apply Kd.R_alloc | apply Kd.R_drewN | apply Kd.R_drew)); exact Kd.R_mono HO412.out (fun _ hk => ⟨hk.1.2, hk.2⟩)⟩, ⟨by (with_reducible repeat (first | apply Kd.R_alloc | apply Kd.R_drewN | apply Kd.R_drew)); exact Kd.R_mono HO424.out (fun _ hk => ⟨hk.1.2, hk.2⟩)⟩, ⟨by (with_reducible repeat (first | apply Kd.R_alloc | apply Kd.R_drewN | apply Kd.R_drew)); exact Kd.R_mono HO428.out (fun _ hk => ⟨hk.1.2, hk.2⟩)⟩, ⟨by (with_reducible repeat (first | apply Kd.N_alloc | apply Kd.N_drewN | apply Kd.N_drew)); exact Kd.N_mono HO420.out (fun _ hk => ⟨hk.1.1.1, ⟨hk.1.2, ⟨hk.2, hk.1.1.2⟩⟩⟩)⟩, ⟨by (with_reducible repeat (first | refine zzf ?_ _ | refine zzg ?_ | refine zze ?_ _)); exact BK421.out⟩, ⟨by repeat (first | (with_reducible first | exact HB.out | apply zza | apply zzb | apply zzc | refine zzd ?_ GE421.out) | exact HB.out)⟩⟩
    ·
     replace c17 := Bool.eq_false_iff.mpr c17; subst c17; have H1 : (laws_FnPutOthers.j0 k t410 t422 t425 t426 t429 true t413 t414 t415 t416 t417 t418) = some r := by rw [if_neg (show ¬ (false = true) by decide)] at H; exact H
     clear H; have H := H1; clear H1; have H' := zzm H; clear H; obtain ⟨Ao20, co20, eo20⟩ := Kd.R_slice HO424.out; subst eo20; obtain ⟨Ao21, co21, eo21⟩ := Kd.R_slice HO428.out; subst eo21; go_wp2_with (first | (go_at_call 31; (with_reducible refine (laws_sameProducers.calls k _ _ t422 _ _ t426 false _ ?side1 ?side2 ?side3 ?side4 A16.out).mono ?_); (case side1 => repeat (first | exact (Kd.R_reads' HO424.out).2.2 | (with_reducible refine Kd.C_alloc ?_ _) | (with_reducible refine Kd.C_drewN ?_ _) | (with_reducible refine Kd.C_drew ?_))); (case side2 => exact (Kd.R_reads' HO424.out).2.1); (case side3 => repeat (first | exact (Kd.R_reads' HO428.out).2.2 | (with_reducible refine Kd.C_alloc ?_ _) | (with_reducible refine Kd.C_drewN ?_ _) | (with_reducible refine Kd.C_drew ?_))); (case side4 => exact (Kd.R_reads' HO428.out).2.1); rintro e w' ⟨rfl, ⟨nd, rfl⟩⟩; (try first | exact ⟨rfl, _, World.drewN_drewN _ _ _⟩ | exact ⟨rfl, _, Eq.trans (World.drewN_drewN _ _ _) (congrArg (World.drewN _) (Nat.add_assoc _ _ _))⟩))); repeat (go_quiet (first | (go_at_call 31; (with_reducible refine (laws_sameProducers.calls k _ _ t422 _ _ t426 false _ ?side1 ?side2 ?side3 ?side4 A16.out).mono ?_); (case side1 => repeat (first | exact (Kd.R_reads' HO424.out).2.2 | (with_reducible refine Kd.C_alloc ?_ _) | (with_reducible refine Kd.C_drewN ?_ _) | (with_reducible refine Kd.C_drew ?_))); (case side2 => exact (Kd.R_reads' HO424.out).2.1); (case side3 => repeat (first | exact (Kd.R_reads' HO428.out).2.2 | (with_reducible refine Kd.C_alloc ?_ _) | (with_reducible refine Kd.C_drewN ?_ _) | (with_reducible refine Kd.C_drew ?_))); (case side4 => exact (Kd.R_reads' HO428.out).2.1); rintro e w' ⟨rfl, ⟨nd, rfl⟩⟩; (try first | exact ⟨rfl, _, World.drewN_drewN _ _ _⟩ | exact ⟨rfl, _, Eq.trans (World.drewN_drewN _ _ _) (congrArg (World.drewN _) (Nat.add_assoc _ _ _))⟩))); try go_wp2_with (first | (go_at_call 31; (with_reducible refine (laws_sameProducers.calls k _ _ t422 _ _ t426 false _ ?side1 ?side2 ?side3 ?side4 A16.out).mono ?_); (case side1 => repeat (first | exact (Kd.R_reads' HO424.out).2.2 | (with_reducible refine Kd.C_alloc ?_ _) | (with_reducible refine Kd.C_drewN ?_ _) | (with_reducible refine Kd.C_drew ?_))); (case side2 => exact (Kd.R_reads' HO424.out).2.1); (case side3 => repeat (first | exact (Kd.R_reads' HO428.out).2.2 | (with_reducible refine Kd.C_alloc ?_ _) | (with_reducible refine Kd.C_drewN ?_ _) | (with_reducible refine Kd.C_drew ?_))); (case side4 => exact (Kd.R_reads' HO428.out).2.1); rintro e w' ⟨rfl, ⟨nd, rfl⟩⟩; (try first | exact ⟨rfl, _, World.drewN_drewN _ _ _⟩ | exact ⟨rfl, _, Eq.trans (World.drewN_drewN _ _ _) (congrArg (World.drewN _) (Nat.add_assoc _ _ _))⟩))))
     go_meet
     case rel => exact ⟨_, (true), (by first | rfl | (simp; done) | (simp [*]; done)), H', ⟨by first | omega | exact Nat.le_refl _⟩, ⟨by (with_reducible repeat (first | apply Kd.R_alloc | apply Kd.R_drewN | apply Kd.R_drew)); exact Kd.R_mono HO412.out (fun _ hk => ⟨hk.1.2, hk.2⟩)⟩, ⟨by (with_reducible repeat (first | apply Kd.R_alloc | apply Kd.R_drewN | apply Kd.R_drew)); exact Kd.R_mono HO424.out (fun _ hk => ⟨hk.1.2, hk.2⟩)⟩, ⟨by (with_reducible repeat (first | apply Kd.R_alloc | apply Kd.R_drewN | apply Kd.R_drew)); exact Kd.R_mono HO428.out (fun _ hk => ⟨hk.1.2, hk.2⟩)⟩, ⟨by (with_reducible repeat (first | apply Kd.N_alloc | apply Kd.N_drewN | apply Kd.N_drew)); exact Kd.N_mono HO420.out (fun _ hk => ⟨hk.1.1.1, ⟨hk.1.2, ⟨hk.2, hk.1.1.2⟩⟩⟩)⟩, ⟨by (with_reducible repeat (first | refine zzf ?_ _ | refine zzg ?_ | refine zze ?_ _)); exact BK421.out⟩, ⟨by repeat (first | (with_reducible first | exact HB.out | apply zza | apply zzb | apply zzc | refine zzd ?_ GE421.out) | exact HB.out)⟩⟩
   ·
    rw [if_neg c15] at H; have c15b0 : (t425 == t429) = false := beq_eq_false_iff_ne.mpr c15; have c15b1 : (t425 != t429) = true := bne_iff_ne.mpr c15; (first | rw [c15b0] | (simp only [i64_w, i32_w]; rw [c15b0]) | skip); have H' := zzm H; clear H; go_wp2; repeat (go_quiet (fail); try go_wp2)
    go_meet
    case rel => exact ⟨_, (true), (by first | rfl | (simp; done) | (simp [*]; done)), H', ⟨by first | omega | exact Nat.le_refl _⟩, ⟨by (with_reducible repeat (first | apply Kd.R_alloc | apply Kd.R_drewN | apply Kd.R_drew)); exact Kd.R_mono HO412.out (fun _ hk => ⟨hk.1.2, hk.2⟩)⟩, ⟨by (with_reducible repeat (first | apply Kd.R_alloc | apply Kd.R_drewN | apply Kd.R_drew)); exact Kd.R_mono HO424.out (fun _ hk => ⟨hk.1.2, hk.2⟩)⟩, ⟨by (with_reducible repeat (first | apply Kd.R_alloc | apply Kd.R_drewN | apply Kd.R_drew)); exact Kd.R_mono HO428.out (fun _ hk => ⟨hk.1.2, hk.2⟩)⟩, ⟨by (with_reducible repeat (first | apply Kd.N_alloc | apply Kd.N_drewN | apply Kd.N_drew)); exact Kd.N_mono HO420.out (fun _ hk => ⟨hk.1.1.1, ⟨hk.1.2, ⟨hk.2, hk.1.1.2⟩⟩⟩)⟩, ⟨by (with_reducible repeat (first | refine zzf ?_ _ | refine zzg ?_ | refine zze ?_ _)); exact BK421.out⟩, ⟨by repeat (first | (with_reducible first | exact HB.out | apply zza | apply zzb | apply zzc | refine zzd ?_ GE421.out) | exact HB.out)⟩⟩
  case rest =>
   clear HC6; try clear c1
   try clear c2
   try clear c2b0
   try clear c2b1
   try clear p2
   try clear c10
   try clear c15
   try clear c15b0
   try clear c15b1
   try clear c17
   try clear hcz13_0
   try clear hcz13_1
   try clear hcz13_2
   try clear hcz13_3
   try clear hcz13_4
   try clear hcz13_5
   try clear hcz9_0
   try clear hcz9_1
   try clear hcz9_2
   try clear hcz9_3
   try clear hcz9_4
   try clear hcz9_5
   try clear hfz13_0
   try clear hfz13_1
   try clear hfz13_2
   try clear hfz13_3
   try clear hfz13_4
   try clear hfz13_5
   try clear hfz9_0
   try clear hfz9_1
   try clear hfz9_2
   try clear hfz9_3
   try clear hfz9_4
   try clear hfz9_5
   obtain ⟨kq, x45_5, rfl, HA, HJ5, HO_3, HO_5, HO_7, HO_422005, BK421, HB⟩ := hcut; cases kq with
   | zero => exact absurd HA.out (by simp [laws_FnPutOthers.j0])
   | succ kj5 =>
    have H := HA.out; clear HA; simp only [laws_FnPutOthers.j0] at H; by_cases c22 : x45_5 = true
    ·
     subst c22; have H1 : (if t425 = t429 then ((laws_sameProducers.f kj5 t422 t426).bind fun t431 => (some t431)) else (some false)) = some r := by rw [if_pos rfl] at H; exact H
     clear H; have H := H1; clear H1; by_cases c23 : t425 = t429
     ·
      rw [if_pos c23] at H; have c23b0 : (t425 == t429) = true := beq_iff_eq.mpr c23; have c23b1 : (t425 != t429) = false := bne_eq_false_iff_eq.mpr c23; clear c23; replace H := Option.bind_eq_some_iff.mp H; obtain ⟨t431, A240, H⟩ := H; replace H : (some t431) = some r := H; have A24 := zzm A240; clear A240; obtain rfl := Option.some.inj H; obtain ⟨Ao25, co25, eo25⟩ := Kd.R_slice HO_5.out; subst eo25; obtain ⟨Ao26, co26, eo26⟩ := Kd.R_slice HO_7.out; subst eo26; go_wp2_with (first | (go_at_call 31; (with_reducible refine (laws_sameProducers.calls kj5 _ _ t422 _ _ t426 t431 _ ?side1 ?side2 ?side3 ?side4 A24.out).mono ?_); (case side1 => repeat (first | exact (Kd.R_reads' HO_5.out).2.2 | (with_reducible refine Kd.C_alloc ?_ _) | (with_reducible refine Kd.C_drewN ?_ _) | (with_reducible refine Kd.C_drew ?_))); (case side2 => exact (Kd.R_reads' HO_5.out).2.1); (case side3 => repeat (first | exact (Kd.R_reads' HO_7.out).2.2 | (with_reducible refine Kd.C_alloc ?_ _) | (with_reducible refine Kd.C_drewN ?_ _) | (with_reducible refine Kd.C_drew ?_))); (case side4 => exact (Kd.R_reads' HO_7.out).2.1); rintro e w' ⟨rfl, ⟨nd, rfl⟩⟩; (try first | exact ⟨rfl, _, World.drewN_drewN _ _ _⟩ | exact ⟨rfl, _, Eq.trans (World.drewN_drewN _ _ _) (congrArg (World.drewN _) (Nat.add_assoc _ _ _))⟩))); repeat (go_quiet (first | (go_at_call 31; (with_reducible refine (laws_sameProducers.calls kj5 _ _ t422 _ _ t426 t431 _ ?side1 ?side2 ?side3 ?side4 A24.out).mono ?_); (case side1 => repeat (first | exact (Kd.R_reads' HO_5.out).2.2 | (with_reducible refine Kd.C_alloc ?_ _) | (with_reducible refine Kd.C_drewN ?_ _) | (with_reducible refine Kd.C_drew ?_))); (case side2 => exact (Kd.R_reads' HO_5.out).2.1); (case side3 => repeat (first | exact (Kd.R_reads' HO_7.out).2.2 | (with_reducible refine Kd.C_alloc ?_ _) | (with_reducible refine Kd.C_drewN ?_ _) | (with_reducible refine Kd.C_drew ?_))); (case side4 => exact (Kd.R_reads' HO_7.out).2.1); rintro e w' ⟨rfl, ⟨nd, rfl⟩⟩; (try first | exact ⟨rfl, _, World.drewN_drewN _ _ _⟩ | exact ⟨rfl, _, Eq.trans (World.drewN_drewN _ _ _) (congrArg (World.drewN _) (Nat.add_assoc _ _ _))⟩))); try go_wp2_with (first | (go_at_call 31; (with_reducible refine (laws_sameProducers.calls kj5 _ _ t422 _ _ t426 t431 _ ?side1 ?side2 ?side3 ?side4 A24.out).mono ?_); (case side1 => repeat (first | exact (Kd.R_reads' HO_5.out).2.2 | (with_reducible refine Kd.C_alloc ?_ _) | (with_reducible refine Kd.C_drewN ?_ _) | (with_reducible refine Kd.C_drew ?_))); (case side2 => exact (Kd.R_reads' HO_5.out).2.1); (case side3 => repeat (first | exact (Kd.R_reads' HO_7.out).2.2 | (with_reducible refine Kd.C_alloc ?_ _) | (with_reducible refine Kd.C_drewN ?_ _) | (with_reducible refine Kd.C_drew ?_))); (case side4 => exact (Kd.R_reads' HO_7.out).2.1); rintro e w' ⟨rfl, ⟨nd, rfl⟩⟩; (try first | exact ⟨rfl, _, World.drewN_drewN _ _ _⟩ | exact ⟨rfl, _, Eq.trans (World.drewN_drewN _ _ _) (congrArg (World.drewN _) (Nat.add_assoc _ _ _))⟩))))
      go_ret; exact ⟨by first | rfl | (simp [errW_none, errW_some] <;> rfl) | (simp [*, errW_none, errW_some] <;> rfl), by repeat (first | (with_reducible first | exact HB.out | apply zza | apply zzb | apply zzc | refine zzd ?_ GE421.out) | exact HB.out)⟩
     ·
      rw [if_neg c23] at H; have c23b0 : (t425 == t429) = false := beq_eq_false_iff_ne.mpr c23; have c23b1 : (t425 != t429) = true := bne_iff_ne.mpr c23; obtain rfl := Option.some.inj H; go_wp2; repeat (go_quiet (fail); try go_wp2)
      go_ret; exact ⟨by first | rfl | (simp [errW_none, errW_some] <;> rfl) | (simp [*, errW_none, errW_some] <;> rfl), by repeat (first | (with_reducible first | exact HB.out | apply zza | apply zzb | apply zzc | refine zzd ?_ GE421.out) | exact HB.out)⟩
    ·
     replace c22 := Bool.eq_false_iff.mpr c22; subst c22; have H1 : (laws_FnPutOthers.l0 kj5 t410 t422 (([] : List (S39))) (([] : List (S39))) 0 t413 t414 t415 t416 t417 t418) = some r := by rw [if_neg (show ¬ (false = true) by decide)] at H; exact H
     clear H; have H := H1; clear H1; obtain ⟨y432, hy432⟩ : ∃ y_ : List (S39), y_ = (([] : List (S39))) := ⟨_, rfl⟩; replace H : (laws_FnPutOthers.l0 kj5 t410 t422 y432 (([] : List (S39))) 0 t413 t414 t415 t416 t417 t418) = some r := by first | (rw [hy432]; with_reducible exact H) | (have H2_ := (Option.bind_some _ _).symm.trans H; rw [hy432]; with_reducible exact H2_) | (have H2_ := (Option.bind_some _ _).symm.trans H; with_reducible exact H2_) | with_reducible exact H | (rw [hy432]; exact H) | exact H
     have Ny432 := zzm hy432; clear hy432; obtain ⟨y435, hy435⟩ : ∃ y_ : List (S39), y_ = (([] : List (S39))) := ⟨_, rfl⟩; replace H : (laws_FnPutOthers.l0 kj5 t410 t422 y432 y435 0 t413 t414 t415 t416 t417 t418) = some r := by first | (rw [hy435]; with_reducible exact H) | (have H2_ := (Option.bind_some _ _).symm.trans H; rw [hy435]; with_reducible exact H2_) | (have H2_ := (Option.bind_some _ _).symm.trans H; with_reducible exact H2_) | with_reducible exact H | (rw [hy435]; exact H) | exact H
     have Ny435 := zzm hy435; clear hy435; have H' := zzm H; clear H; go_wp2_with (first | ((with_reducible refine gate_dst (N := 54) rfl ?_); (try (refine gate_guard (by rfl) ?_; dsimp only)); refine Kd.R_lit k39 _ 39 ?hg (N := 54) ?hd (xs := ([] : List (S39))) (inner := []) (ok := fun _ => True) (okp := fun _ => True) ?hr ?hp (fun _ hk => hk) trivial (Below.refl _ _) (Nat.le_refl _) (by simp) ?_; (case hd => rfl); (case hg => rfl); (case hr => first | (go_simp; done) | (go_simp; rfl)); (case hp => exact (Reps.none _ _)); intro v433 w27 ho28 hb hg_ hnew_; clear hg_ hnew_; (first | rw [← Ny432.out] at ho28 | (simp only [Int.reduceToNat] at ho28; rw [← Ny432.out] at ho28)); have n0_ := zzm (Kd.R_elder' (by (with_reducible repeat (first | apply Kd.R_alloc | apply Kd.R_drewN | apply Kd.R_drew)); exact HO_3.out) (Kd.R_base ho28) hb); have n1_ := zzm (Kd.R_elder' (by (with_reducible repeat (first | apply Kd.R_alloc | apply Kd.R_drewN | apply Kd.R_drew)); exact HO_5.out) (Kd.R_base ho28) hb); have n2_ := zzm (Kd.R_elder' (by (with_reducible repeat (first | apply Kd.R_alloc | apply Kd.R_drewN | apply Kd.R_drew)); exact HO_7.out) (Kd.R_base ho28) hb); have n3_ := zzm (Kd.N_elder' (by (with_reducible repeat (first | apply Kd.N_alloc | apply Kd.N_drewN | apply Kd.N_drew)); exact HO_422005.out) (Kd.R_base ho28) hb); have n4_ := zzm (Kd.R_lower (Kd.R_new' (Kd.R_new' (Kd.R_new' ho28 (Kd.R_lt (by (with_reducible repeat (first | apply Kd.R_alloc | apply Kd.R_drewN | apply Kd.R_drew)); exact HO_3.out))) (Kd.R_lt (by (with_reducible repeat (first | apply Kd.R_alloc | apply Kd.R_drewN | apply Kd.R_drew)); exact HO_5.out))) (Kd.R_lt (by (with_reducible repeat (first | apply Kd.R_alloc | apply Kd.R_drewN | apply Kd.R_drew)); exact HO_7.out))) (zzo (by repeat (first | (with_reducible first | exact HB.out | apply zza | apply zzb | apply zzc | refine zzd ?_ GE421.out) | exact HB.out)))); have n5_ := zzm (zzh (g := gb421) (o := .cells #[.bool t413, .bool t414, .int .i64 t415, .int .i64 t416, .int .i64 t417, .slice Ao10 t418.length co10] 34 (0, 0)) (by (with_reducible repeat (first | refine zzf ?_ _ | refine zzg ?_ | refine zze ?_ _)); exact BK421.out) hb); have n6_ := zzm (zzp (by repeat (first | (with_reducible first | exact HB.out | apply zza | apply zzb | apply zzc | refine zzd ?_ GE421.out) | exact HB.out)) hb); clear HO_3 HO_5 HO_7 HO_422005 BK421 HB; have HO_3 := n0_; have HO_5 := n1_; have HO_7 := n2_; have HO_422005 := n3_; have HO434 := n4_; have BK421 := n5_; have HB := n6_; clear n0_ n1_ n2_ n3_ n4_ n5_ n6_ hb ho28) | ((with_reducible refine gate_dst (N := 55) rfl ?_); (try (refine gate_guard (by rfl) ?_; dsimp only)); refine Kd.R_lit k39 _ 39 ?hg (N := 55) ?hd (xs := ([] : List (S39))) (inner := []) (ok := fun _ => True) (okp := fun _ => True) ?hr ?hp (fun _ hk => hk) trivial (Below.refl _ _) (Nat.le_refl _) (by simp) ?_; (case hd => rfl); (case hg => rfl); (case hr => first | (go_simp; done) | (go_simp; rfl)); (case hp => exact (Reps.none _ _)); intro v436 w29 ho30 hb hg_ hnew_; clear hg_ hnew_; (first | rw [← Ny435.out] at ho30 | (simp only [Int.reduceToNat] at ho30; rw [← Ny435.out] at ho30)); have n0_ := zzm (Kd.R_elder' (by (with_reducible repeat (first | apply Kd.R_alloc | apply Kd.R_drewN | apply Kd.R_drew)); exact HO_3.out) (Kd.R_base ho30) hb); have n1_ := zzm (Kd.R_elder' (by (with_reducible repeat (first | apply Kd.R_alloc | apply Kd.R_drewN | apply Kd.R_drew)); exact HO_5.out) (Kd.R_base ho30) hb); have n2_ := zzm (Kd.R_elder' (by (with_reducible repeat (first | apply Kd.R_alloc | apply Kd.R_drewN | apply Kd.R_drew)); exact HO_7.out) (Kd.R_base ho30) hb); have n3_ := zzm (Kd.N_elder' (by (with_reducible repeat (first | apply Kd.N_alloc | apply Kd.N_drewN | apply Kd.N_drew)); exact HO_422005.out) (Kd.R_base ho30) hb); have n4_ := zzm (Kd.R_elder' (by (with_reducible repeat (first | apply Kd.R_alloc | apply Kd.R_drewN | apply Kd.R_drew)); exact HO434.out) (Kd.R_base ho30) hb); have n5_ := zzm (Kd.R_lower (Kd.R_new' (Kd.R_new' (Kd.R_new' (Kd.R_new' ho30 (Kd.R_lt (by (with_reducible repeat (first | apply Kd.R_alloc | apply Kd.R_drewN | apply Kd.R_drew)); exact HO_3.out))) (Kd.R_lt (by (with_reducible repeat (first | apply Kd.R_alloc | apply Kd.R_drewN | apply Kd.R_drew)); exact HO_5.out))) (Kd.R_lt (by (with_reducible repeat (first | apply Kd.R_alloc | apply Kd.R_drewN | apply Kd.R_drew)); exact HO_7.out))) (Kd.R_lt (by (with_reducible repeat (first | apply Kd.R_alloc | apply Kd.R_drewN | apply Kd.R_drew)); exact HO434.out))) (zzo (by repeat (first | (with_reducible first | exact HB.out | apply zza | apply zzb | apply zzc | refine zzd ?_ GE421.out) | exact HB.out)))); have n6_ := zzm (zzh (g := gb421) (o := .cells #[.bool t413, .bool t414, .int .i64 t415, .int .i64 t416, .int .i64 t417, .slice Ao10 t418.length co10] 34 (0, 0)) (by (with_reducible repeat (first | refine zzf ?_ _ | refine zzg ?_ | refine zze ?_ _)); exact BK421.out) hb); have n7_ := zzm (zzp (by repeat (first | (with_reducible first | exact HB.out | apply zza | apply zzb | apply zzc | refine zzd ?_ GE421.out) | exact HB.out)) hb); clear HO_3 HO_5 HO_7 HO_422005 HO434 BK421 HB; have HO_3 := n0_; have HO_5 := n1_; have HO_7 := n2_; have HO_422005 := n3_; have HO434 := n4_; have HO437 := n5_; have BK421 := n6_; have HB := n7_; clear n0_ n1_ n2_ n3_ n4_ n5_ n6_ n7_ hb ho30)); repeat (go_quiet (first | ((with_reducible refine gate_dst (N := 54) rfl ?_); (try (refine gate_guard (by rfl) ?_; dsimp only)); refine Kd.R_lit k39 _ 39 ?hg (N := 54) ?hd (xs := ([] : List (S39))) (inner := []) (ok := fun _ => True) (okp := fun _ => True) ?hr ?hp (fun _ hk => hk) trivial (Below.refl _ _) (Nat.le_refl _) (by simp) ?_; (case hd => rfl); (case hg => rfl); (case hr => first | (go_simp; done) | (go_simp; rfl)); (case hp => exact (Reps.none _ _)); intro v433 w27 ho28 hb hg_ hnew_; clear hg_ hnew_; (first | rw [← Ny432.out] at ho28 | (simp only [Int.reduceToNat] at ho28; rw [← Ny432.out] at ho28)); have n0_ := zzm (Kd.R_elder' (by (with_reducible repeat (first | apply Kd.R_alloc | apply Kd.R_drewN | apply Kd.R_drew)); exact HO_3.out) (Kd.R_base ho28) hb); have n1_ := zzm (Kd.R_elder' (by (with_reducible repeat (first | apply Kd.R_alloc | apply Kd.R_drewN | apply Kd.R_drew)); exact HO_5.out) (Kd.R_base ho28) hb); have n2_ := zzm (Kd.R_elder' (by (with_reducible repeat (first | apply Kd.R_alloc | apply Kd.R_drewN | apply Kd.R_drew)); exact HO_7.out) (Kd.R_base ho28) hb); have n3_ := zzm (Kd.N_elder' (by (with_reducible repeat (first | apply Kd.N_alloc | apply Kd.N_drewN | apply Kd.N_drew)); exact HO_422005.out) (Kd.R_base ho28) hb); have n4_ := zzm (Kd.R_lower (Kd.R_new' (Kd.R_new' (Kd.R_new' ho28 (Kd.R_lt (by (with_reducible repeat (first | apply Kd.R_alloc | apply Kd.R_drewN | apply Kd.R_drew)); exact HO_3.out))) (Kd.R_lt (by (with_reducible repeat (first | apply Kd.R_alloc | apply Kd.R_drewN | apply Kd.R_drew)); exact HO_5.out))) (Kd.R_lt (by (with_reducible repeat (first | apply Kd.R_alloc | apply Kd.R_drewN | apply Kd.R_drew)); exact HO_7.out))) (zzo (by repeat (first | (with_reducible first | exact HB.out | apply zza | apply zzb | apply zzc | refine zzd ?_ GE421.out) | exact HB.out)))); have n5_ := zzm (zzh (g := gb421) (o := .cells #[.bool t413, .bool t414, .int .i64 t415, .int .i64 t416, .int .i64 t417, .slice Ao10 t418.length co10] 34 (0, 0)) (by (with_reducible repeat (first | refine zzf ?_ _ | refine zzg ?_ | refine zze ?_ _)); exact BK421.out) hb); have n6_ := zzm (zzp (by repeat (first | (with_reducible first | exact HB.out | apply zza | apply zzb | apply zzc | refine zzd ?_ GE421.out) | exact HB.out)) hb); clear HO_3 HO_5 HO_7 HO_422005 BK421 HB; have HO_3 := n0_; have HO_5 := n1_; have HO_7 := n2_; have HO_422005 := n3_; have HO434 := n4_; have BK421 := n5_; have HB := n6_; clear n0_ n1_ n2_ n3_ n4_ n5_ n6_ hb ho28) | ((with_reducible refine gate_dst (N := 55) rfl ?_); (try (refine gate_guard (by rfl) ?_; dsimp only)); refine Kd.R_lit k39 _ 39 ?hg (N := 55) ?hd (xs := ([] : List (S39))) (inner := []) (ok := fun _ => True) (okp := fun _ => True) ?hr ?hp (fun _ hk => hk) trivial (Below.refl _ _) (Nat.le_refl _) (by simp) ?_; (case hd => rfl); (case hg => rfl); (case hr => first | (go_simp; done) | (go_simp; rfl)); (case hp => exact (Reps.none _ _)); intro v436 w29 ho30 hb hg_ hnew_; clear hg_ hnew_; (first | rw [← Ny435.out] at ho30 | (simp only [Int.reduceToNat] at ho30; rw [← Ny435.out] at ho30)); have n0_ := zzm (Kd.R_elder' (by (with_reducible repeat (first | apply Kd.R_alloc | apply Kd.R_drewN | apply Kd.R_drew)); exact HO_3.out) (Kd.R_base ho30) hb); have n1_ := zzm (Kd.R_elder' (by (with_reducible repeat (first | apply Kd.R_alloc | apply Kd.R_drewN | apply Kd.R_drew)); exact HO_5.out) (Kd.R_base ho30) hb); have n2_ := zzm (Kd.R_elder' (by (with_reducible repeat (first | apply Kd.R_alloc | apply Kd.R_drewN | apply Kd.R_drew)); exact HO_7.out) (Kd.R_base ho30) hb); have n3_ := zzm (Kd.N_elder' (by (with_reducible repeat (first | apply Kd.N_alloc | apply Kd.N_drewN | apply Kd.N_drew)); exact HO_422005.out) (Kd.R_base ho30) hb); have n4_ := zzm (Kd.R_elder' (by (with_reducible repeat (first | apply Kd.R_alloc | apply Kd.R_drewN | apply Kd.R_drew)); exact HO434.out) (Kd.R_base ho30) hb); have n5_ := zzm (Kd.R_lower (Kd.R_new' (Kd.R_new' (Kd.R_new' (Kd.R_new' ho30 (Kd.R_lt (by (with_reducible repeat (first | apply Kd.R_alloc | apply Kd.R_drewN | apply Kd.R_drew)); exact HO_3.out))) (Kd.R_lt (by (with_reducible repeat (first | apply Kd.R_alloc | apply Kd.R_drewN | apply Kd.R_drew)); exact HO_5.out))) (Kd.R_lt (by (with_reducible repeat (first | apply Kd.R_alloc | apply Kd.R_drewN | apply Kd.R_drew)); exact HO_7.out))) (Kd.R_lt (by (with_reducible repeat (first | apply Kd.R_alloc | apply Kd.R_drewN | apply Kd.R_drew)); exact HO434.out))) (zzo (by repeat (first | (with_reducible first | exact HB.out | apply zza | apply zzb | apply zzc | refine zzd ?_ GE421.out) | exact HB.out)))); have n6_ := zzm (zzh (g := gb421) (o := .cells #[.bool t413, .bool t414, .int .i64 t415, .int .i64 t416, .int .i64 t417, .slice Ao10 t418.length co10] 34 (0, 0)) (by (with_reducible repeat (first | refine zzf ?_ _ | refine zzg ?_ | refine zze ?_ _)); exact BK421.out) hb); have n7_ := zzm (zzp (by repeat (first | (with_reducible first | exact HB.out | apply zza | apply zzb | apply zzc | refine zzd ?_ GE421.out) | exact HB.out)) hb); clear HO_3 HO_5 HO_7 HO_422005 HO434 BK421 HB; have HO_3 := n0_; have HO_5 := n1_; have HO_7 := n2_; have HO_422005 := n3_; have HO434 := n4_; have HO437 := n5_; have BK421 := n6_; have HB := n7_; clear n0_ n1_ n2_ n3_ n4_ n5_ n6_ n7_ hb ho30)); try go_wp2_with (first | ((with_reducible refine gate_dst (N := 54) rfl ?_); (try (refine gate_guard (by rfl) ?_; dsimp only)); refine Kd.R_lit k39 _ 39 ?hg (N := 54) ?hd (xs := ([] : List (S39))) (inner := []) (ok := fun _ => True) (okp := fun _ => True) ?hr ?hp (fun _ hk => hk) trivial (Below.refl _ _) (Nat.le_refl _) (by simp) ?_; (case hd => rfl); (case hg => rfl); (case hr => first | (go_simp; done) | (go_simp; rfl)); (case hp => exact (Reps.none _ _)); intro v433 w27 ho28 hb hg_ hnew_; clear hg_ hnew_; (first | rw [← Ny432.out] at ho28 | (simp only [Int.reduceToNat] at ho28; rw [← Ny432.out] at ho28)); have n0_ := zzm (Kd.R_elder' (by (with_reducible repeat (first | apply Kd.R_alloc | apply Kd.R_drewN | apply Kd.R_drew)); exact HO_3.out) (Kd.R_base ho28) hb); have n1_ := zzm (Kd.R_elder' (by (with_reducible repeat (first | apply Kd.R_alloc | apply Kd.R_drewN | apply Kd.R_drew)); exact HO_5.out) (Kd.R_base ho28) hb); have n2_ := zzm (Kd.R_elder' (by (with_reducible repeat (first | apply Kd.R_alloc | apply Kd.R_drewN | apply Kd.R_drew)); exact HO_7.out) (Kd.R_base ho28) hb); have n3_ := zzm (Kd.N_elder' (by (with_reducible repeat (first | apply Kd.N_alloc | apply Kd.N_drewN | apply Kd.N_drew)); exact HO_422005.out) (Kd.R_base ho28) hb); have n4_ := zzm (Kd.R_lower (Kd.R_new' (Kd.R_new' (Kd.R_new' ho28 (Kd.R_lt (by (with_reducible repeat (first | apply Kd.R_alloc | apply Kd.R_drewN | apply Kd.R_drew)); exact HO_3.out))) (Kd.R_lt (by (with_reducible repeat (first | apply Kd.R_alloc | apply Kd.R_drewN | apply Kd.R_drew)); exact HO_5.out))) (Kd.R_lt (by (with_reducible repeat (first | apply Kd.R_alloc | apply Kd.R_drewN | apply Kd.R_drew)); exact HO_7.out))) (zzo (by repeat (first | (with_reducible first | exact HB.out | apply zza | apply zzb | apply zzc | refine zzd ?_ GE421.out) | exact HB.out)))); have n5_ := zzm (zzh (g := gb421) (o := .cells #[.bool t413, .bool t414, .int .i64 t415, .int .i64 t416, .int .i64 t417, .slice Ao10 t418.length co10] 34 (0, 0)) (by (with_reducible repeat (first | refine zzf ?_ _ | refine zzg ?_ | refine zze ?_ _)); exact BK421.out) hb); have n6_ := zzm (zzp (by repeat (first | (with_reducible first | exact HB.out | apply zza | apply zzb | apply zzc | refine zzd ?_ GE421.out) | exact HB.out)) hb); clear HO_3 HO_5 HO_7 HO_422005 BK421 HB; have HO_3 := n0_; have HO_5 := n1_; have HO_7 := n2_; have HO_422005 := n3_; have HO434 := n4_; have BK421 := n5_; have HB := n6_; clear n0_ n1_ n2_ n3_ n4_ n5_ n6_ hb ho28) | ((with_reducible refine gate_dst (N := 55) rfl ?_); (try (refine gate_guard (by rfl) ?_; dsimp only)); refine Kd.R_lit k39 _ 39 ?hg (N := 55) ?hd (xs := ([] : List (S39))) (inner := []) (ok := fun _ => True) (okp := fun _ => True) ?hr ?hp (fun _ hk => hk) trivial (Below.refl _ _) (Nat.le_refl _) (by simp) ?_; (case hd => rfl); (case hg => rfl); (case hr => first | (go_simp; done) | (go_simp; rfl)); (case hp => exact (Reps.none _ _)); intro v436 w29 ho30 hb hg_ hnew_; clear hg_ hnew_; (first | rw [← Ny435.out] at ho30 | (simp only [Int.reduceToNat] at ho30; rw [← Ny435.out] at ho30)); have n0_ := zzm (Kd.R_elder' (by (with_reducible repeat (first | apply Kd.R_alloc | apply Kd.R_drewN | apply Kd.R_drew)); exact HO_3.out) (Kd.R_base ho30) hb); have n1_ := zzm (Kd.R_elder' (by (with_reducible repeat (first | apply Kd.R_alloc | apply Kd.R_drewN | apply Kd.R_drew)); exact HO_5.out) (Kd.R_base ho30) hb); have n2_ := zzm (Kd.R_elder' (by (with_reducible repeat (first | apply Kd.R_alloc | apply Kd.R_drewN | apply Kd.R_drew)); exact HO_7.out) (Kd.R_base ho30) hb); have n3_ := zzm (Kd.N_elder' (by (with_reducible repeat (first | apply Kd.N_alloc | apply Kd.N_drewN | apply Kd.N_drew)); exact HO_422005.out) (Kd.R_base ho30) hb); have n4_ := zzm (Kd.R_elder' (by (with_reducible repeat (first | apply Kd.R_alloc | apply Kd.R_drewN | apply Kd.R_drew)); exact HO434.out) (Kd.R_base ho30) hb); have n5_ := zzm (Kd.R_lower (Kd.R_new' (Kd.R_new' (Kd.R_new' (Kd.R_new' ho30 (Kd.R_lt (by (with_reducible repeat (first | apply Kd.R_alloc | apply Kd.R_drewN | apply Kd.R_drew)); exact HO_3.out))) (Kd.R_lt (by (with_reducible repeat (first | apply Kd.R_alloc | apply Kd.R_drewN | apply Kd.R_drew)); exact HO_5.out))) (Kd.R_lt (by (with_reducible repeat (first | apply Kd.R_alloc | apply Kd.R_drewN | apply Kd.R_drew)); exact HO_7.out))) (Kd.R_lt (by (with_reducible repeat (first | apply Kd.R_alloc | apply Kd.R_drewN | apply Kd.R_drew)); exact HO434.out))) (zzo (by repeat (first | (with_reducible first | exact HB.out | apply zza | apply zzb | apply zzc | refine zzd ?_ GE421.out) | exact HB.out)))); have n6_ := zzm (zzh (g := gb421) (o := .cells #[.bool t413, .bool t414, .int .i64 t415, .int .i64 t416, .int .i64 t417, .slice Ao10 t418.length co10] 34 (0, 0)) (by (with_reducible repeat (first | refine zzf ?_ _ | refine zzg ?_ | refine zze ?_ _)); exact BK421.out) hb); have n7_ := zzm (zzp (by repeat (first | (with_reducible first | exact HB.out | apply zza | apply zzb | apply zzc | refine zzd ?_ GE421.out) | exact HB.out)) hb); clear HO_3 HO_5 HO_7 HO_422005 HO434 BK421 HB; have HO_3 := n0_; have HO_5 := n1_; have HO_7 := n2_; have HO_422005 := n3_; have HO434 := n4_; have HO437 := n5_; have BK421 := n6_; have HB := n7_; clear n0_ n1_ n2_ n3_ n4_ n5_ n6_ n7_ hb ho30)))
     go_loopg [9, 11] kj5 (fun kq v9 v11 w' => ∃ (x9_2 : List (S39)) (x11_2 : Int), v11 = .int .i64 x11_2 ∧ Aside0 (laws_FnPutOthers.l0 kq t410 t422 x9_2 y435 x11_2 t413 t414 t415 t416 t417 t418 = some r) ∧ Aside0 (kq ≤ kj5) ∧ Aside0 (Kd.R k39 39 w' w.heap.size (fun k_ => some k_ ≠ (v423 : Value).ownBlock ∧ some k_ ≠ (v9 : Value).ownBlock ∧ some k_ ≠ (v436 : Value).ownBlock) (.slice Ao11 t410.length co11) t410) ∧ Aside0 (Kd.R k39 39 w' w.heap.size (fun k_ => some k_ ≠ ((.slice Ao11 t410.length co11) : Value).ownBlock ∧ some k_ ≠ (v9 : Value).ownBlock ∧ some k_ ≠ (v436 : Value).ownBlock) v423 t422) ∧ Aside0 (Kd.R k39 39 w' w.heap.size (fun k_ => some k_ ≠ ((.slice Ao11 t410.length co11) : Value).ownBlock ∧ some k_ ≠ (v423 : Value).ownBlock ∧ some k_ ≠ (v436 : Value).ownBlock) v9 x9_2) ∧ Aside0 (Kd.R k39 39 w' w.heap.size (fun k_ => some k_ ≠ ((.slice Ao11 t410.length co11) : Value).ownBlock ∧ some k_ ≠ (v423 : Value).ownBlock ∧ some k_ ≠ (v9 : Value).ownBlock) v436 y435) ∧ Aside0 (Kd.N k79 79 w' w.heap.size (fun k_ => some k_ ≠ ((.slice Ao11 t410.length co11) : Value).ownBlock ∧ some k_ ≠ (v423 : Value).ownBlock ∧ some k_ ≠ (v9 : Value).ownBlock ∧ some k_ ≠ (v436 : Value).ownBlock ∧ k_ ≠ gb421) (.slice Ao10 t418.length co10) t418) ∧ Aside0 (w'.heap[gb421]? = some (.cells #[.bool t413, .bool t414, .int .i64 t415, .int .i64 t416, .int .i64 t417, (.slice Ao10 t418.length co10)] 34 (0, 0))) ∧ Aside0 (Below w.heap.size w w'))
     case atStart => exact ⟨(y432), (0), (by first | rfl | (simp; done) | (simp [*]; done)), H', ⟨Nat.le_refl _⟩, ⟨by (with_reducible repeat (first | apply Kd.R_alloc | apply Kd.R_drewN | apply Kd.R_drew)); exact Kd.R_mono HO_3.out (fun _ hk => ⟨hk.1.1.1, ⟨hk.1.2, hk.2⟩⟩)⟩, ⟨by (with_reducible repeat (first | apply Kd.R_alloc | apply Kd.R_drewN | apply Kd.R_drew)); exact Kd.R_mono HO_5.out (fun _ hk => ⟨hk.1.1.1, ⟨hk.1.2, hk.2⟩⟩)⟩, ⟨by (with_reducible repeat (first | apply Kd.R_alloc | apply Kd.R_drewN | apply Kd.R_drew)); exact Kd.R_mono HO434.out (fun _ hk => ⟨hk.1.1.1.2, ⟨hk.1.1.2, hk.2⟩⟩)⟩, ⟨by (with_reducible repeat (first | apply Kd.R_alloc | apply Kd.R_drewN | apply Kd.R_drew)); exact Kd.R_mono HO437.out (fun _ hk => ⟨hk.1.1.1.2, ⟨hk.1.1.2, hk.2⟩⟩)⟩, ⟨by (with_reducible repeat (first | apply Kd.N_alloc | apply Kd.N_drewN | apply Kd.N_drew)); exact Kd.N_mono HO_422005.out (fun _ hk => ⟨hk.1.1.1, ⟨hk.1.1.2.1, ⟨hk.1.2, ⟨hk.2, hk.1.1.2.2.2⟩⟩⟩⟩)⟩, ⟨by (with_reducible repeat (first | refine zzf ?_ _ | refine zzg ?_ | refine zze ?_ _)); exact BK421.out⟩, ⟨by repeat (first | (with_reducible first | exact HB.out | apply zza | apply zzb | apply zzc | refine zzd ?_ GE421.out) | exact HB.out)⟩⟩
     case round =>
      clear H'; try clear c1
      try clear c2
      try clear c2b0
      try clear c2b1
      try clear p2
      try clear c10
      try clear c15
      try clear c15b0
      try clear c15b1
      try clear c17
      try clear c22
      try clear c23
      try clear c23b0
      try clear c23b1
      try clear hcz13_0
      try clear hcz13_1
      try clear hcz13_2
      try clear hcz13_3
      try clear hcz13_4
      try clear hcz13_5
      try clear hcz9_0
      try clear hcz9_1
      try clear hcz9_2
      try clear hcz9_3
      try clear hcz9_4
      try clear hcz9_5
      try clear hfz13_0
      try clear hfz13_1
      try clear hfz13_2
      try clear hfz13_3
      try clear hfz13_4
      try clear hfz13_5
      try clear hfz9_0
      try clear hfz9_1
      try clear hfz9_2
      try clear hfz9_3
      try clear hfz9_4
      try clear hfz9_5
      try clear p2
      obtain ⟨x9_2, x11_2, rfl, HA, HK2, HO_3, HO_5, HO_9, HO_10, HO_422005, BK421, HB⟩ := hrel; cases gk with
      | zero => exact absurd HA.out (by simp [laws_FnPutOthers.l0])
      | succ k2 =>
       have H := HA.out; clear HA; simp only [laws_FnPutOthers.l0] at H; by_cases c31 : x11_2 < (t410.length : Int)
       ·
        rw [if_pos c31] at H; have c31b0 : decide (x11_2 < (t410.length : Int)) = true := decide_eq_true c31; clear c31; by_cases c32 : 0 ≤ x11_2
        ·
         rw [if_pos c32] at H; have c32b0 : decide (0 ≤ x11_2) = true := decide_eq_true c32; clear c32; by_cases c33 : ((rd_T39 t410 x11_2).f0) = t415
         ·
          rw [if_pos c33] at H; have c33b0 : (((rd_T39 t410 x11_2).f0) == t415) = true := beq_iff_eq.mpr c33; have c33b1 : (((rd_T39 t410 x11_2).f0) != t415) = false := bne_eq_false_iff_eq.mpr c33; clear c33; have H' := zzm H; clear H; have p438 : 0 ≤ (x11_2 : Int) := of_decide_eq_true (by first | (with_reducible assumption) | assumption); have q438 : x11_2 < (t410.length : Int) := of_decide_eq_true (by first | (with_reducible assumption) | assumption); obtain ⟨ad438, e438, hx438_0, hx438_1, hx438_2⟩ := at_T39 (Kd.R_reads' HO_3.out).2.2 x11_2 p438 q438; cases e438; replace p438 := eq_true p438; replace q438 := eq_true q438; obtain ⟨hcz34_0, hcz34_1, hcz34_2, hcz34_3, hcz34_4, hcz34_5, hfz34_0, hfz34_1, hfz34_2, hfz34_3, hfz34_4, hfz34_5⟩ := zzc6 BK421.out; go_wp2; repeat (go_quiet (fail); try go_wp2)
          go_roundg k2
          case measure => have := HJ5.out; have := HK2.out; omega
          case rel => exact ⟨(x9_2), (wrap64 (x11_2 + 1)), (by first | rfl | (simp; done) | (simp [*]; done)), H', ⟨by have := HJ5.out; have := HK2.out; omega⟩, ⟨by (with_reducible repeat (first | apply Kd.R_alloc | apply Kd.R_drewN | apply Kd.R_drew)); exact HO_3.out⟩, ⟨by (with_reducible repeat (first | apply Kd.R_alloc | apply Kd.R_drewN | apply Kd.R_drew)); exact HO_5.out⟩, ⟨by (with_reducible repeat (first | apply Kd.R_alloc | apply Kd.R_drewN | apply Kd.R_drew)); exact HO_9.out⟩, ⟨by (with_reducible repeat (first | apply Kd.R_alloc | apply Kd.R_drewN | apply Kd.R_drew)); exact HO_10.out⟩, ⟨by (with_reducible repeat (first | apply Kd.N_alloc | apply Kd.N_drewN | apply Kd.N_drew)); exact HO_422005.out⟩, ⟨by (with_reducible repeat (first | refine zzf ?_ _ | refine zzg ?_ | refine zze ?_ _)); exact BK421.out⟩, ⟨by repeat (first | (with_reducible first | exact HB.out | apply zza | apply zzb | apply zzc | refine zzd ?_ GE421.out) | exact HB.out)⟩⟩
         ·
          rw [if_neg c33] at H; have c33b0 : (((rd_T39 t410 x11_2).f0) == t415) = false := beq_eq_false_iff_ne.mpr c33; have c33b1 : (((rd_T39 t410 x11_2).f0) != t415) = true := bne_iff_ne.mpr c33; by_cases c35 : x9_2.length < 5864062014805
          ·
           rw [if_pos c35] at H; have LMc35 := zzm c35; clear c35; obtain ⟨y440, hy440⟩ : ∃ y_ : List (S39), y_ = (x9_2 ++ [(⟨(rd_T39 t410 x11_2).f0, (rd_T39 t410 x11_2).f1, (rd_T39 t410 x11_2).f2⟩ : S39)]) := ⟨_, rfl⟩; replace H : (laws_FnPutOthers.l0 k2 t410 t422 y440 y435 (wrap64 (x11_2 + 1)) t413 t414 t415 t416 t417 t418) = some r := by first | (rw [hy440]; with_reducible exact H) | (have H2_ := (Option.bind_some _ _).symm.trans H; rw [hy440]; with_reducible exact H2_) | (have H2_ := (Option.bind_some _ _).symm.trans H; with_reducible exact H2_) | with_reducible exact H | (rw [hy440]; exact H) | exact H
           have Ny440 := zzm hy440; clear hy440; have H' := zzm H; clear H; have p438 : 0 ≤ (x11_2 : Int) := of_decide_eq_true (by first | (with_reducible assumption) | assumption); have q438 : x11_2 < (t410.length : Int) := of_decide_eq_true (by first | (with_reducible assumption) | assumption); obtain ⟨ad438, e438, hx438_0, hx438_1, hx438_2⟩ := at_T39 (Kd.R_reads' HO_3.out).2.2 x11_2 p438 q438; cases e438; replace p438 := eq_true p438; replace q438 := eq_true q438; obtain ⟨hcz36_0, hcz36_1, hcz36_2, hcz36_3, hcz36_4, hcz36_5, hfz36_0, hfz36_1, hfz36_2, hfz36_3, hfz36_4, hfz36_5⟩ := zzc6 BK421.out; have p439 : 0 ≤ (x11_2 : Int) := of_decide_eq_true (by first | (with_reducible assumption) | assumption); have q439 : x11_2 < (t410.length : Int) := of_decide_eq_true (by first | (with_reducible assumption) | assumption); obtain ⟨ad439, e439, hx439_0, hx439_1, hx439_2⟩ := at_T39 (Kd.R_reads' HO_3.out).2.2 x11_2 p439 q439; obtain rfl : ad438 = ad439 := (by injection e439); replace p439 := eq_true p439; replace q439 := eq_true q439; go_wp2_with (first | ((with_reducible refine gate_builtin (b := .append) (xs := #[.tmp 70, .tmp 75]) rfl ?_); (try (refine gate_guard (by rfl) ?_; dsimp only)); at_builtin; refine Kd.R_append k39 (w0 := w) w.heap.size rfl (.tmp 70) (.tmp 75) 23 39 (.agg #[(.int .i64 0), (.int .i64 0), (.int .i64 0)]) 24 rfl Try.underlying23 info39 rfl (by decide) (by omega) u9 x9_2 (⟨(rd_T39 t410 x11_2).f0, (rd_T39 t410 x11_2).f1, (rd_T39 t410 x11_2).f2⟩ : S39) [.int .i64 ((rd_T39 t410 x11_2).f0), .int .i64 ((rd_T39 t410 x11_2).f1), .int .i64 ((rd_T39 t410 x11_2).f2)] (fun k_ => some k_ ≠ (.slice (some ad438) t410.length co11 : Value).ownBlock ∧ some k_ ≠ (v423 : Value).ownBlock ∧ some k_ ≠ (v436 : Value).ownBlock) (fun _ => False) rfl rfl ?aP (fun _ hk => hk.elim) ?aF ?aO ?aB ?aS ?aL ?_; (case aP => exact k39_mkM _ _ _ (⟨(rd_T39 t410 x11_2).f0, (rd_T39 t410 x11_2).f1, (rd_T39 t410 x11_2).f2⟩ : S39)); (case aB => exact (by repeat (first | (with_reducible first | exact HB.out | apply zza | apply zzb | apply zzc | refine zzd ?_ GE421.out) | exact HB.out))); (case aF => exact (fun k_ hk => ⟨Kd.fresh' (Kd.R_lt (by (with_reducible repeat (first | apply Kd.R_alloc | apply Kd.R_drewN | apply Kd.R_drew)); exact HO_3.out)) k_ hk, Kd.fresh' (Kd.R_lt (by (with_reducible repeat (first | apply Kd.R_alloc | apply Kd.R_drewN | apply Kd.R_drew)); exact HO_5.out)) k_ hk, Kd.fresh' (Kd.R_lt (by (with_reducible repeat (first | apply Kd.R_alloc | apply Kd.R_drewN | apply Kd.R_drew)); exact HO_10.out)) k_ hk⟩)); (case aO => exact (by (with_reducible repeat (first | apply Kd.R_alloc | apply Kd.R_drewN | apply Kd.R_drew)); exact HO_9.out)); (case aS => exact (zzo (by repeat (first | (with_reducible first | exact HB.out | apply zza | apply zzb | apply zzc | refine zzd ?_ GE421.out) | exact HB.out)))); (case aL => have := LMc35.out; omega); intro v441 w37 ho hb hg hat; rw [← Ny440.out] at ho; have n0_ := zzm (Kd.R_after (ok := (fun k_ => some k_ ≠ (v423 : Value).ownBlock ∧ some k_ ≠ (v436 : Value).ownBlock)) (by (with_reducible repeat (first | apply Kd.R_alloc | apply Kd.R_drewN | apply Kd.R_drew)); exact Kd.R_mono HO_3.out (fun _ hk => ⟨⟨hk.1, hk.2.2⟩, hk.2.1⟩)) hg hat); have n1_ := zzm (Kd.R_after (ok := (fun k_ => some k_ ≠ (.slice (some ad438) t410.length co11 : Value).ownBlock ∧ some k_ ≠ (v436 : Value).ownBlock)) (by (with_reducible repeat (first | apply Kd.R_alloc | apply Kd.R_drewN | apply Kd.R_drew)); exact Kd.R_mono HO_5.out (fun _ hk => ⟨⟨hk.1, hk.2.2⟩, hk.2.1⟩)) hg hat); have n2_ := zzm (Kd.R_after (ok := (fun k_ => some k_ ≠ (.slice (some ad438) t410.length co11 : Value).ownBlock ∧ some k_ ≠ (v423 : Value).ownBlock)) (by (with_reducible repeat (first | apply Kd.R_alloc | apply Kd.R_drewN | apply Kd.R_drew)); exact Kd.R_mono HO_10.out (fun _ hk => ⟨⟨hk.1, hk.2.1⟩, hk.2.2⟩)) hg hat); have n3_ := zzm (Kd.N_afterv (ok := (fun k_ => some k_ ≠ (.slice (some ad438) t410.length co11 : Value).ownBlock ∧ some k_ ≠ (v423 : Value).ownBlock ∧ some k_ ≠ (v436 : Value).ownBlock ∧ k_ ≠ gb421)) (by (with_reducible repeat (first | apply Kd.N_alloc | apply Kd.N_drewN | apply Kd.N_drew)); exact Kd.N_mono HO_422005.out (fun _ hk => ⟨⟨hk.1, ⟨hk.2.1, ⟨hk.2.2.2.1, hk.2.2.2.2⟩⟩⟩, hk.2.2.1⟩)) hg hat); have n4_ := zzm (blk_grown (g := gb421) (o := .cells #[.bool t413, .bool t414, .int .i64 t415, .int .i64 t416, .int .i64 t417, .slice Ao10 t418.length co10] 34 (0, 0)) (by (with_reducible repeat (first | refine zzf ?_ _ | refine zzg ?_ | refine zze ?_ _)); exact BK421.out) hg (Kd.R_ne HO_9.out BK421.out (by decide))); have n5_ := zzm (hb); have n6_ := zzm (ho); clear HO_3 HO_5 HO_10 HO_422005 BK421 HB HO_9; have HO_3 := n0_; have HO_5 := n1_; have HO_10 := n2_; have HO_422005 := n3_; have BK421 := n4_; have HB := n5_; have HO442 := n6_; clear n0_ n1_ n2_ n3_ n4_ n5_ n6_ ho hb hg hat)); repeat (go_quiet (first | ((with_reducible refine gate_builtin (b := .append) (xs := #[.tmp 70, .tmp 75]) rfl ?_); (try (refine gate_guard (by rfl) ?_; dsimp only)); at_builtin; refine Kd.R_append k39 (w0 := w) w.heap.size rfl (.tmp 70) (.tmp 75) 23 39 (.agg #[(.int .i64 0), (.int .i64 0), (.int .i64 0)]) 24 rfl Try.underlying23 info39 rfl (by decide) (by omega) u9 x9_2 (⟨(rd_T39 t410 x11_2).f0, (rd_T39 t410 x11_2).f1, (rd_T39 t410 x11_2).f2⟩ : S39) [.int .i64 ((rd_T39 t410 x11_2).f0), .int .i64 ((rd_T39 t410 x11_2).f1), .int .i64 ((rd_T39 t410 x11_2).f2)] (fun k_ => some k_ ≠ (.slice (some ad438) t410.length co11 : Value).ownBlock ∧ some k_ ≠ (v423 : Value).ownBlock ∧ some k_ ≠ (v436 : Value).ownBlock) (fun _ => False) rfl rfl ?aP (fun _ hk => hk.elim) ?aF ?aO ?aB ?aS ?aL ?_; (case aP => exact k39_mkM _ _ _ (⟨(rd_T39 t410 x11_2).f0, (rd_T39 t410 x11_2).f1, (rd_T39 t410 x11_2).f2⟩ : S39)); (case aB => exact (by repeat (first | (with_reducible first | exact HB.out | apply zza | apply zzb | apply zzc | refine zzd ?_ GE421.out) | exact HB.out))); (case aF => exact (fun k_ hk => ⟨Kd.fresh' (Kd.R_lt (by (with_reducible repeat (first | apply Kd.R_alloc | apply Kd.R_drewN | apply Kd.R_drew)); exact HO_3.out)) k_ hk, Kd.fresh' (Kd.R_lt (by (with_reducible repeat (first | apply Kd.R_alloc | apply Kd.R_drewN | apply Kd.R_drew)); exact HO_5.out)) k_ hk, Kd.fresh' (Kd.R_lt (by (with_reducible repeat (first | apply Kd.R_alloc | apply Kd.R_drewN | apply Kd.R_drew)); exact HO_10.out)) k_ hk⟩)); (case aO => exact (by (with_reducible repeat (first | apply Kd.R_alloc | apply Kd.R_drewN | apply Kd.R_drew)); exact HO_9.out)); (case aS => exact (zzo (by repeat (first | (with_reducible first | exact HB.out | apply zza | apply zzb | apply zzc | refine zzd ?_ GE421.out) | exact HB.out)))); (case aL => have := LMc35.out; omega); intro v441 w37 ho hb hg hat; rw [← Ny440.out] at ho; have n0_ := zzm (Kd.R_after (ok := (fun k_ => some k_ ≠ (v423 : Value).ownBlock ∧ some k_ ≠ (v436 : Value).ownBlock)) (by (with_reducible repeat (first | apply Kd.R_alloc | apply Kd.R_drewN | apply Kd.R_drew)); exact Kd.R_mono HO_3.out (fun _ hk => ⟨⟨hk.1, hk.2.2⟩, hk.2.1⟩)) hg hat); have n1_ := zzm (Kd.R_after (ok := (fun k_ => some k_ ≠ (.slice (some ad438) t410.length co11 : Value).ownBlock ∧ some k_ ≠ (v436 : Value).ownBlock)) (by (with_reducible repeat (first | apply Kd.R_alloc | apply Kd.R_drewN | apply Kd.R_drew)); exact Kd.R_mono HO_5.out (fun _ hk => ⟨⟨hk.1, hk.2.2⟩, hk.2.1⟩)) hg hat); have n2_ := zzm (Kd.R_after (ok := (fun k_ => some k_ ≠ (.slice (some ad438) t410.length co11 : Value).ownBlock ∧ some k_ ≠ (v423 : Value).ownBlock)) (by (with_reducible repeat (first | apply Kd.R_alloc | apply Kd.R_drewN | apply Kd.R_drew)); exact Kd.R_mono HO_10.out (fun _ hk => ⟨⟨hk.1, hk.2.1⟩, hk.2.2⟩)) hg hat); have n3_ := zzm (Kd.N_afterv (ok := (fun k_ => some k_ ≠ (.slice (some ad438) t410.length co11 : Value).ownBlock ∧ some k_ ≠ (v423 : Value).ownBlock ∧ some k_ ≠ (v436 : Value).ownBlock ∧ k_ ≠ gb421)) (by (with_reducible repeat (first | apply Kd.N_alloc | apply Kd.N_drewN | apply Kd.N_drew)); exact Kd.N_mono HO_422005.out (fun _ hk => ⟨⟨hk.1, ⟨hk.2.1, ⟨hk.2.2.2.1, hk.2.2.2.2⟩⟩⟩, hk.2.2.1⟩)) hg hat); have n4_ := zzm (blk_grown (g := gb421) (o := .cells #[.bool t413, .bool t414, .int .i64 t415, .int .i64 t416, .int .i64 t417, .slice Ao10 t418.length co10] 34 (0, 0)) (by (with_reducible repeat (first | refine zzf ?_ _ | refine zzg ?_ | refine zze ?_ _)); exact BK421.out) hg (Kd.R_ne HO_9.out BK421.out (by decide))); have n5_ := zzm (hb); have n6_ := zzm (ho); clear HO_3 HO_5 HO_10 HO_422005 BK421 HB HO_9; have HO_3 := n0_; have HO_5 := n1_; have HO_10 := n2_; have HO_422005 := n3_; have BK421 := n4_; have HB := n5_; have HO442 := n6_; clear n0_ n1_ n2_ n3_ n4_ n5_ n6_ ho hb hg hat)); try go_wp2_with (first | ((with_reducible refine gate_builtin (b := .append) (xs := #[.tmp 70, .tmp 75]) rfl ?_); (try (refine gate_guard (by rfl) ?_; dsimp only)); at_builtin; refine Kd.R_append k39 (w0 := w) w.heap.size rfl (.tmp 70) (.tmp 75) 23 39 (.agg #[(.int .i64 0), (.int .i64 0), (.int .i64 0)]) 24 rfl Try.underlying23 info39 rfl (by decide) (by omega) u9 x9_2 (⟨(rd_T39 t410 x11_2).f0, (rd_T39 t410 x11_2).f1, (rd_T39 t410 x11_2).f2⟩ : S39) [.int .i64 ((rd_T39 t410 x11_2).f0), .int .i64 ((rd_T39 t410 x11_2).f1), .int .i64 ((rd_T39 t410 x11_2).f2)] (fun k_ => some k_ ≠ (.slice (some ad438) t410.length co11 : Value).ownBlock ∧ some k_ ≠ (v423 : Value).ownBlock ∧ some k_ ≠ (v436 : Value).ownBlock) (fun _ => False) rfl rfl ?aP (fun _ hk => hk.elim) ?aF ?aO ?aB ?aS ?aL ?_; (case aP => exact k39_mkM _ _ _ (⟨(rd_T39 t410 x11_2).f0, (rd_T39 t410 x11_2).f1, (rd_T39 t410 x11_2).f2⟩ : S39)); (case aB => exact (by repeat (first | (with_reducible first | exact HB.out | apply zza | apply zzb | apply zzc | refine zzd ?_ GE421.out) | exact HB.out))); (case aF => exact (fun k_ hk => ⟨Kd.fresh' (Kd.R_lt (by (with_reducible repeat (first | apply Kd.R_alloc | apply Kd.R_drewN | apply Kd.R_drew)); exact HO_3.out)) k_ hk, Kd.fresh' (Kd.R_lt (by (with_reducible repeat (first | apply Kd.R_alloc | apply Kd.R_drewN | apply Kd.R_drew)); exact HO_5.out)) k_ hk, Kd.fresh' (Kd.R_lt (by (with_reducible repeat (first | apply Kd.R_alloc | apply Kd.R_drewN | apply Kd.R_drew)); exact HO_10.out)) k_ hk⟩)); (case aO => exact (by (with_reducible repeat (first | apply Kd.R_alloc | apply Kd.R_drewN | apply Kd.R_drew)); exact HO_9.out)); (case aS => exact (zzo (by repeat (first | (with_reducible first | exact HB.out | apply zza | apply zzb | apply zzc | refine zzd ?_ GE421.out) | exact HB.out)))); (case aL => have := LMc35.out; omega); intro v441 w37 ho hb hg hat; rw [← Ny440.out] at ho; have n0_ := zzm (Kd.R_after (ok := (fun k_ => some k_ ≠ (v423 : Value).ownBlock ∧ some k_ ≠ (v436 : Value).ownBlock)) (by (with_reducible repeat (first | apply Kd.R_alloc | apply Kd.R_drewN | apply Kd.R_drew)); exact Kd.R_mono HO_3.out (fun _ hk => ⟨⟨hk.1, hk.2.2⟩, hk.2.1⟩)) hg hat); have n1_ := zzm (Kd.R_after (ok := (fun k_ => some k_ ≠ (.slice (some ad438) t410.length co11 : Value).ownBlock ∧ some k_ ≠ (v436 : Value).ownBlock)) (by (with_reducible repeat (first | apply Kd.R_alloc | apply Kd.R_drewN | apply Kd.R_drew)); exact Kd.R_mono HO_5.out (fun _ hk => ⟨⟨hk.1, hk.2.2⟩, hk.2.1⟩)) hg hat); have n2_ := zzm (Kd.R_after (ok := (fun k_ => some k_ ≠ (.slice (some ad438) t410.length co11 : Value).ownBlock ∧ some k_ ≠ (v423 : Value).ownBlock)) (by (with_reducible repeat (first | apply Kd.R_alloc | apply Kd.R_drewN | apply Kd.R_drew)); exact Kd.R_mono HO_10.out (fun _ hk => ⟨⟨hk.1, hk.2.1⟩, hk.2.2⟩)) hg hat); have n3_ := zzm (Kd.N_afterv (ok := (fun k_ => some k_ ≠ (.slice (some ad438) t410.length co11 : Value).ownBlock ∧ some k_ ≠ (v423 : Value).ownBlock ∧ some k_ ≠ (v436 : Value).ownBlock ∧ k_ ≠ gb421)) (by (with_reducible repeat (first | apply Kd.N_alloc | apply Kd.N_drewN | apply Kd.N_drew)); exact Kd.N_mono HO_422005.out (fun _ hk => ⟨⟨hk.1, ⟨hk.2.1, ⟨hk.2.2.2.1, hk.2.2.2.2⟩⟩⟩, hk.2.2.1⟩)) hg hat); have n4_ := zzm (blk_grown (g := gb421) (o := .cells #[.bool t413, .bool t414, .int .i64 t415, .int .i64 t416, .int .i64 t417, .slice Ao10 t418.length co10] 34 (0, 0)) (by (with_reducible repeat (first | refine zzf ?_ _ | refine zzg ?_ | refine zze ?_ _)); exact BK421.out) hg (Kd.R_ne HO_9.out BK421.out (by decide))); have n5_ := zzm (hb); have n6_ := zzm (ho); clear HO_3 HO_5 HO_10 HO_422005 BK421 HB HO_9; have HO_3 := n0_; have HO_5 := n1_; have HO_10 := n2_; have HO_422005 := n3_; have BK421 := n4_; have HB := n5_; have HO442 := n6_; clear n0_ n1_ n2_ n3_ n4_ n5_ n6_ ho hb hg hat)))
           go_roundg k2
           case measure => have := HJ5.out; have := HK2.out; omega
           case rel => exact ⟨(y440), (wrap64 (x11_2 + 1)), (by first | rfl | (simp; done) | (simp [*]; done)), H', ⟨by have := HJ5.out; have := HK2.out; omega⟩, ⟨by (with_reducible repeat (first | apply Kd.R_alloc | apply Kd.R_drewN | apply Kd.R_drew)); exact Kd.R_mono HO_3.out (fun _ hk => ⟨hk.1.1, ⟨hk.2, hk.1.2⟩⟩)⟩, ⟨by (with_reducible repeat (first | apply Kd.R_alloc | apply Kd.R_drewN | apply Kd.R_drew)); exact Kd.R_mono HO_5.out (fun _ hk => ⟨hk.1.1, ⟨hk.2, hk.1.2⟩⟩)⟩, ⟨by (with_reducible repeat (first | apply Kd.R_alloc | apply Kd.R_drewN | apply Kd.R_drew)); exact HO442.out⟩, ⟨by (with_reducible repeat (first | apply Kd.R_alloc | apply Kd.R_drewN | apply Kd.R_drew)); exact Kd.R_mono HO_10.out (fun _ hk => ⟨hk.1.1, ⟨hk.1.2, hk.2⟩⟩)⟩, ⟨by (with_reducible repeat (first | apply Kd.N_alloc | apply Kd.N_drewN | apply Kd.N_drew)); exact Kd.N_mono HO_422005.out (fun _ hk => ⟨hk.1.1, ⟨hk.1.2.1, ⟨hk.2, ⟨hk.1.2.2.1, hk.1.2.2.2⟩⟩⟩⟩)⟩, ⟨by (with_reducible repeat (first | refine zzf ?_ _ | refine zzg ?_ | refine zze ?_ _)); exact BK421.out⟩, ⟨by repeat (first | (with_reducible first | exact HB.out | apply zza | apply zzb | apply zzc | refine zzd ?_ GE421.out) | exact HB.out)⟩⟩
          ·
           rw [if_neg c35] at H; exact absurd H (by simp)
        ·
         rw [if_neg c32] at H; exact absurd H (by simp)
       ·
        rw [if_neg c31] at H; have c31b0 : decide (x11_2 < (t410.length : Int)) = false := decide_eq_false c31; clear c31; have H' := zzm H; clear H; go_wp2; repeat (go_quiet (fail); try go_wp2)
        go_loopg [10, 12] k2 (fun kq v10 v12 w' => ∃ (x10_3 : List (S39)) (x12_3 : Int), v12 = .int .i64 x12_3 ∧ Aside0 (laws_FnPutOthers.l1 kq t422 x9_2 x10_3 x12_3 t413 t414 t415 t416 t417 t418 = some r) ∧ Aside0 (kq ≤ k2) ∧ Aside0 (Kd.R k39 39 w' w.heap.size (fun k_ => some k_ ≠ (u9 : Value).ownBlock ∧ some k_ ≠ (v10 : Value).ownBlock) v423 t422) ∧ Aside0 (Kd.R k39 39 w' w.heap.size (fun k_ => some k_ ≠ (v423 : Value).ownBlock ∧ some k_ ≠ (v10 : Value).ownBlock) u9 x9_2) ∧ Aside0 (Kd.R k39 39 w' w.heap.size (fun k_ => some k_ ≠ (v423 : Value).ownBlock ∧ some k_ ≠ (u9 : Value).ownBlock) v10 x10_3) ∧ Aside0 (Kd.N k79 79 w' w.heap.size (fun k_ => some k_ ≠ (v423 : Value).ownBlock ∧ some k_ ≠ (u9 : Value).ownBlock ∧ some k_ ≠ (v10 : Value).ownBlock ∧ k_ ≠ gb421) (.slice Ao10 t418.length co10) t418) ∧ Aside0 (w'.heap[gb421]? = some (.cells #[.bool t413, .bool t414, .int .i64 t415, .int .i64 t416, .int .i64 t417, (.slice Ao10 t418.length co10)] 34 (0, 0))) ∧ Aside0 (Below w.heap.size w w'))
        case atStart => exact ⟨(y435), (0), (by first | rfl | (simp; done) | (simp [*]; done)), H', ⟨Nat.le_refl _⟩, ⟨by (with_reducible repeat (first | apply Kd.R_alloc | apply Kd.R_drewN | apply Kd.R_drew)); exact Kd.R_mono HO_5.out (fun _ hk => ⟨hk.2.1, hk.2.2⟩)⟩, ⟨by (with_reducible repeat (first | apply Kd.R_alloc | apply Kd.R_drewN | apply Kd.R_drew)); exact Kd.R_mono HO_9.out (fun _ hk => ⟨hk.2.1, hk.2.2⟩)⟩, ⟨by (with_reducible repeat (first | apply Kd.R_alloc | apply Kd.R_drewN | apply Kd.R_drew)); exact Kd.R_mono HO_10.out (fun _ hk => ⟨hk.2.1, hk.2.2⟩)⟩, ⟨by (with_reducible repeat (first | apply Kd.N_alloc | apply Kd.N_drewN | apply Kd.N_drew)); exact Kd.N_mono HO_422005.out (fun _ hk => ⟨hk.2.1, ⟨hk.2.2.1, ⟨hk.2.2.2.1, hk.2.2.2.2⟩⟩⟩)⟩, ⟨by (with_reducible repeat (first | refine zzf ?_ _ | refine zzg ?_ | refine zze ?_ _)); exact BK421.out⟩, ⟨by repeat (first | (with_reducible first | exact HB.out | apply zza | apply zzb | apply zzc | refine zzd ?_ GE421.out) | exact HB.out)⟩⟩
        case round =>
         clear H'; try clear c1
         try clear c2
         try clear c2b0
         try clear c2b1
         try clear p2
         try clear c3
         try clear p4
         try clear q4
         try clear hx4
         try clear p6
         try clear c10
         try clear c15
         try clear c15b0
         try clear c15b1
         try clear c17
         try clear c22
         try clear c23
         try clear c23b0
         try clear c23b1
         try clear c31
         try clear c31b0
         try clear c32
         try clear c32b0
         try clear c33
         try clear c33b0
         try clear c33b1
         try clear c35
         try clear hcz13_0
         try clear hcz13_1
         try clear hcz13_2
         try clear hcz13_3
         try clear hcz13_4
         try clear hcz13_5
         try clear hcz34_0
         try clear hcz34_1
         try clear hcz34_2
         try clear hcz34_3
         try clear hcz34_4
         try clear hcz34_5
         try clear hcz36_0
         try clear hcz36_1
         try clear hcz36_2
         try clear hcz36_3
         try clear hcz36_4
         try clear hcz36_5
         try clear hcz9_0
         try clear hcz9_1
         try clear hcz9_2
         try clear hcz9_3
         try clear hcz9_4
         try clear hcz9_5
         try clear hfz13_0
         try clear hfz13_1
         try clear hfz13_2
         try clear hfz13_3
         try clear hfz13_4
         try clear hfz13_5
         try clear hfz34_0
         try clear hfz34_1
         try clear hfz34_2
         try clear hfz34_3
         try clear hfz34_4
         try clear hfz34_5
         try clear hfz36_0
         try clear hfz36_1
         try clear hfz36_2
         try clear hfz36_3
         try clear hfz36_4
         try clear hfz36_5
         try clear hfz9_0
         try clear hfz9_1
         try clear hfz9_2
         try clear hfz9_3
         try clear hfz9_4
         try clear hfz9_5
         try clear hx438_0
         try clear hx438_1
         try clear hx438_2
         try clear hx439_0
         try clear hx439_1
         try clear hx439_2
         try clear p2
         try clear p438
         try clear p439
         try clear q438
         try clear q439
         obtain ⟨x10_3, x12_3, rfl, HA, HK3, HO_5, HO_9, HO_10, HO_422005, BK421, HB⟩ := hrel; cases gk with
         | zero => exact absurd HA.out (by simp [laws_FnPutOthers.l1])
         | succ k3 =>
          have H := HA.out; clear HA; simp only [laws_FnPutOthers.l1] at H; by_cases c38 : x12_3 < (t422.length : Int)
          ·
           rw [if_pos c38] at H; have c38b0 : decide (x12_3 < (t422.length : Int)) = true := decide_eq_true c38; clear c38; by_cases c39 : 0 ≤ x12_3
           ·
            rw [if_pos c39] at H; have c39b0 : decide (0 ≤ x12_3) = true := decide_eq_true c39; clear c39; by_cases c40 : ((rd_T39 t422 x12_3).f0) = t415
            ·
             rw [if_pos c40] at H; have c40b0 : (((rd_T39 t422 x12_3).f0) == t415) = true := beq_iff_eq.mpr c40; have c40b1 : (((rd_T39 t422 x12_3).f0) != t415) = false := bne_eq_false_iff_eq.mpr c40; clear c40; have H' := zzm H; clear H; obtain ⟨Ao41, co41, eo41⟩ := Kd.R_slice HO_5.out; subst eo41; have p443 : 0 ≤ (x12_3 : Int) := of_decide_eq_true (by first | (with_reducible assumption) | assumption); have q443 : x12_3 < (t422.length : Int) := of_decide_eq_true (by first | (with_reducible assumption) | assumption); obtain ⟨ad443, e443, hx443_0, hx443_1, hx443_2⟩ := at_T39 (Kd.R_reads' HO_5.out).2.2 x12_3 p443 q443; cases e443; replace p443 := eq_true p443; replace q443 := eq_true q443; obtain ⟨hcz42_0, hcz42_1, hcz42_2, hcz42_3, hcz42_4, hcz42_5, hfz42_0, hfz42_1, hfz42_2, hfz42_3, hfz42_4, hfz42_5⟩ := zzc6 BK421.out; go_wp2; repeat (go_quiet (fail); try go_wp2)
             go_roundg k3
             case measure => have := HJ5.out; have := HK2.out; have := HK3.out; omega
             case rel => exact ⟨(x10_3), (wrap64 (x12_3 + 1)), (by first | rfl | (simp; done) | (simp [*]; done)), H', ⟨by have := HJ5.out; have := HK2.out; have := HK3.out; omega⟩, ⟨by (with_reducible repeat (first | apply Kd.R_alloc | apply Kd.R_drewN | apply Kd.R_drew)); exact HO_5.out⟩, ⟨by (with_reducible repeat (first | apply Kd.R_alloc | apply Kd.R_drewN | apply Kd.R_drew)); exact HO_9.out⟩, ⟨by (with_reducible repeat (first | apply Kd.R_alloc | apply Kd.R_drewN | apply Kd.R_drew)); exact HO_10.out⟩, ⟨by (with_reducible repeat (first | apply Kd.N_alloc | apply Kd.N_drewN | apply Kd.N_drew)); exact HO_422005.out⟩, ⟨by (with_reducible repeat (first | refine zzf ?_ _ | refine zzg ?_ | refine zze ?_ _)); exact BK421.out⟩, ⟨by repeat (first | (with_reducible first | exact HB.out | apply zza | apply zzb | apply zzc | refine zzd ?_ GE421.out) | exact HB.out)⟩⟩
            ·
             rw [if_neg c40] at H; have c40b0 : (((rd_T39 t422 x12_3).f0) == t415) = false := beq_eq_false_iff_ne.mpr c40; have c40b1 : (((rd_T39 t422 x12_3).f0) != t415) = true := bne_iff_ne.mpr c40; by_cases c43 : x10_3.length < 5864062014805
             ·
              rw [if_pos c43] at H; have LMc43 := zzm c43; clear c43; obtain ⟨y445, hy445⟩ : ∃ y_ : List (S39), y_ = (x10_3 ++ [(⟨(rd_T39 t422 x12_3).f0, (rd_T39 t422 x12_3).f1, (rd_T39 t422 x12_3).f2⟩ : S39)]) := ⟨_, rfl⟩; replace H : (laws_FnPutOthers.l1 k3 t422 x9_2 y445 (wrap64 (x12_3 + 1)) t413 t414 t415 t416 t417 t418) = some r := by first | (rw [hy445]; with_reducible exact H) | (have H2_ := (Option.bind_some _ _).symm.trans H; rw [hy445]; with_reducible exact H2_) | (have H2_ := (Option.bind_some _ _).symm.trans H; with_reducible exact H2_) | with_reducible exact H | (rw [hy445]; exact H) | exact H
              have Ny445 := zzm hy445; clear hy445; have H' := zzm H; clear H; obtain ⟨Ao44, co44, eo44⟩ := Kd.R_slice HO_5.out; subst eo44; have p443 : 0 ≤ (x12_3 : Int) := of_decide_eq_true (by first | (with_reducible assumption) | assumption); have q443 : x12_3 < (t422.length : Int) := of_decide_eq_true (by first | (with_reducible assumption) | assumption); obtain ⟨ad443, e443, hx443_0, hx443_1, hx443_2⟩ := at_T39 (Kd.R_reads' HO_5.out).2.2 x12_3 p443 q443; cases e443; replace p443 := eq_true p443; replace q443 := eq_true q443; obtain ⟨hcz45_0, hcz45_1, hcz45_2, hcz45_3, hcz45_4, hcz45_5, hfz45_0, hfz45_1, hfz45_2, hfz45_3, hfz45_4, hfz45_5⟩ := zzc6 BK421.out; have p444 : 0 ≤ (x12_3 : Int) := of_decide_eq_true (by first | (with_reducible assumption) | assumption); have q444 : x12_3 < (t422.length : Int) := of_decide_eq_true (by first | (with_reducible assumption) | assumption); obtain ⟨ad444, e444, hx444_0, hx444_1, hx444_2⟩ := at_T39 (Kd.R_reads' HO_5.out).2.2 x12_3 p444 q444; obtain rfl : ad443 = ad444 := (by injection e444); replace p444 := eq_true p444; replace q444 := eq_true q444; go_wp2_with (first | ((with_reducible refine gate_builtin (b := .append) (xs := #[.tmp 91, .tmp 96]) rfl ?_); (try (refine gate_guard (by rfl) ?_; dsimp only)); at_builtin; refine Kd.R_append k39 (w0 := w) w.heap.size rfl (.tmp 91) (.tmp 96) 23 39 (.agg #[(.int .i64 0), (.int .i64 0), (.int .i64 0)]) 24 rfl Try.underlying23 info39 rfl (by decide) (by omega) u10 x10_3 (⟨(rd_T39 t422 x12_3).f0, (rd_T39 t422 x12_3).f1, (rd_T39 t422 x12_3).f2⟩ : S39) [.int .i64 ((rd_T39 t422 x12_3).f0), .int .i64 ((rd_T39 t422 x12_3).f1), .int .i64 ((rd_T39 t422 x12_3).f2)] (fun k_ => some k_ ≠ (.slice (some ad443) t422.length co44 : Value).ownBlock ∧ some k_ ≠ (u9 : Value).ownBlock) (fun _ => False) rfl rfl ?aP (fun _ hk => hk.elim) ?aF ?aO ?aB ?aS ?aL ?_; (case aP => exact k39_mkM _ _ _ (⟨(rd_T39 t422 x12_3).f0, (rd_T39 t422 x12_3).f1, (rd_T39 t422 x12_3).f2⟩ : S39)); (case aB => exact (by repeat (first | (with_reducible first | exact HB.out | apply zza | apply zzb | apply zzc | refine zzd ?_ GE421.out) | exact HB.out))); (case aF => exact (fun k_ hk => ⟨Kd.fresh' (Kd.R_lt (by (with_reducible repeat (first | apply Kd.R_alloc | apply Kd.R_drewN | apply Kd.R_drew)); exact HO_5.out)) k_ hk, Kd.fresh' (Kd.R_lt (by (with_reducible repeat (first | apply Kd.R_alloc | apply Kd.R_drewN | apply Kd.R_drew)); exact HO_9.out)) k_ hk⟩)); (case aO => exact (by (with_reducible repeat (first | apply Kd.R_alloc | apply Kd.R_drewN | apply Kd.R_drew)); exact HO_10.out)); (case aS => exact (zzo (by repeat (first | (with_reducible first | exact HB.out | apply zza | apply zzb | apply zzc | refine zzd ?_ GE421.out) | exact HB.out)))); (case aL => have := LMc43.out; omega); intro v446 w46 ho hb hg hat; rw [← Ny445.out] at ho; have n0_ := zzm (Kd.R_after (ok := (fun k_ => some k_ ≠ (u9 : Value).ownBlock)) (by (with_reducible repeat (first | apply Kd.R_alloc | apply Kd.R_drewN | apply Kd.R_drew)); exact HO_5.out) hg hat); have n1_ := zzm (Kd.R_after (ok := (fun k_ => some k_ ≠ (.slice (some ad443) t422.length co44 : Value).ownBlock)) (by (with_reducible repeat (first | apply Kd.R_alloc | apply Kd.R_drewN | apply Kd.R_drew)); exact HO_9.out) hg hat); have n2_ := zzm (Kd.N_afterv (ok := (fun k_ => some k_ ≠ (.slice (some ad443) t422.length co44 : Value).ownBlock ∧ some k_ ≠ (u9 : Value).ownBlock ∧ k_ ≠ gb421)) (by (with_reducible repeat (first | apply Kd.N_alloc | apply Kd.N_drewN | apply Kd.N_drew)); exact Kd.N_mono HO_422005.out (fun _ hk => ⟨⟨hk.1, ⟨hk.2.1, hk.2.2.2⟩⟩, hk.2.2.1⟩)) hg hat); have n3_ := zzm (blk_grown (g := gb421) (o := .cells #[.bool t413, .bool t414, .int .i64 t415, .int .i64 t416, .int .i64 t417, .slice Ao10 t418.length co10] 34 (0, 0)) (by (with_reducible repeat (first | refine zzf ?_ _ | refine zzg ?_ | refine zze ?_ _)); exact BK421.out) hg (Kd.R_ne HO_10.out BK421.out (by decide))); have n4_ := zzm (hb); have n5_ := zzm (ho); clear HO_5 HO_9 HO_422005 BK421 HB HO_10; have HO_5 := n0_; have HO_9 := n1_; have HO_422005 := n2_; have BK421 := n3_; have HB := n4_; have HO447 := n5_; clear n0_ n1_ n2_ n3_ n4_ n5_ ho hb hg hat)); repeat (go_quiet (first | ((with_reducible refine gate_builtin (b := .append) (xs := #[.tmp 91, .tmp 96]) rfl ?_); (try (refine gate_guard (by rfl) ?_; dsimp only)); at_builtin; refine Kd.R_append k39 (w0 := w) w.heap.size rfl (.tmp 91) (.tmp 96) 23 39 (.agg #[(.int .i64 0), (.int .i64 0), (.int .i64 0)]) 24 rfl Try.underlying23 info39 rfl (by decide) (by omega) u10 x10_3 (⟨(rd_T39 t422 x12_3).f0, (rd_T39 t422 x12_3).f1, (rd_T39 t422 x12_3).f2⟩ : S39) [.int .i64 ((rd_T39 t422 x12_3).f0), .int .i64 ((rd_T39 t422 x12_3).f1), .int .i64 ((rd_T39 t422 x12_3).f2)] (fun k_ => some k_ ≠ (.slice (some ad443) t422.length co44 : Value).ownBlock ∧ some k_ ≠ (u9 : Value).ownBlock) (fun _ => False) rfl rfl ?aP (fun _ hk => hk.elim) ?aF ?aO ?aB ?aS ?aL ?_; (case aP => exact k39_mkM _ _ _ (⟨(rd_T39 t422 x12_3).f0, (rd_T39 t422 x12_3).f1, (rd_T39 t422 x12_3).f2⟩ : S39)); (case aB => exact (by repeat (first | (with_reducible first | exact HB.out | apply zza | apply zzb | apply zzc | refine zzd ?_ GE421.out) | exact HB.out))); (case aF => exact (fun k_ hk => ⟨Kd.fresh' (Kd.R_lt (by (with_reducible repeat (first | apply Kd.R_alloc | apply Kd.R_drewN | apply Kd.R_drew)); exact HO_5.out)) k_ hk, Kd.fresh' (Kd.R_lt (by (with_reducible repeat (first | apply Kd.R_alloc | apply Kd.R_drewN | apply Kd.R_drew)); exact HO_9.out)) k_ hk⟩)); (case aO => exact (by (with_reducible repeat (first | apply Kd.R_alloc | apply Kd.R_drewN | apply Kd.R_drew)); exact HO_10.out)); (case aS => exact (zzo (by repeat (first | (with_reducible first | exact HB.out | apply zza | apply zzb | apply zzc | refine zzd ?_ GE421.out) | exact HB.out)))); (case aL => have := LMc43.out; omega); intro v446 w46 ho hb hg hat; rw [← Ny445.out] at ho; have n0_ := zzm (Kd.R_after (ok := (fun k_ => some k_ ≠ (u9 : Value).ownBlock)) (by (with_reducible repeat (first | apply Kd.R_alloc | apply Kd.R_drewN | apply Kd.R_drew)); exact HO_5.out) hg hat); have n1_ := zzm (Kd.R_after (ok := (fun k_ => some k_ ≠ (.slice (some ad443) t422.length co44 : Value).ownBlock)) (by (with_reducible repeat (first | apply Kd.R_alloc | apply Kd.R_drewN | apply Kd.R_drew)); exact HO_9.out) hg hat); have n2_ := zzm (Kd.N_afterv (ok := (fun k_ => some k_ ≠ (.slice (some ad443) t422.length co44 : Value).ownBlock ∧ some k_ ≠ (u9 : Value).ownBlock ∧ k_ ≠ gb421)) (by (with_reducible repeat (first | apply Kd.N_alloc | apply Kd.N_drewN | apply Kd.N_drew)); exact Kd.N_mono HO_422005.out (fun _ hk => ⟨⟨hk.1, ⟨hk.2.1, hk.2.2.2⟩⟩, hk.2.2.1⟩)) hg hat); have n3_ := zzm (blk_grown (g := gb421) (o := .cells #[.bool t413, .bool t414, .int .i64 t415, .int .i64 t416, .int .i64 t417, .slice Ao10 t418.length co10] 34 (0, 0)) (by (with_reducible repeat (first | refine zzf ?_ _ | refine zzg ?_ | refine zze ?_ _)); exact BK421.out) hg (Kd.R_ne HO_10.out BK421.out (by decide))); have n4_ := zzm (hb); have n5_ := zzm (ho); clear HO_5 HO_9 HO_422005 BK421 HB HO_10; have HO_5 := n0_; have HO_9 := n1_; have HO_422005 := n2_; have BK421 := n3_; have HB := n4_; have HO447 := n5_; clear n0_ n1_ n2_ n3_ n4_ n5_ ho hb hg hat)); try go_wp2_with (first | ((with_reducible refine gate_builtin (b := .append) (xs := #[.tmp 91, .tmp 96]) rfl ?_); (try (refine gate_guard (by rfl) ?_; dsimp only)); at_builtin; refine Kd.R_append k39 (w0 := w) w.heap.size rfl (.tmp 91) (.tmp 96) 23 39 (.agg #[(.int .i64 0), (.int .i64 0), (.int .i64 0)]) 24 rfl Try.underlying23 info39 rfl (by decide) (by omega) u10 x10_3 (⟨(rd_T39 t422 x12_3).f0, (rd_T39 t422 x12_3).f1, (rd_T39 t422 x12_3).f2⟩ : S39) [.int .i64 ((rd_T39 t422 x12_3).f0), .int .i64 ((rd_T39 t422 x12_3).f1), .int .i64 ((rd_T39 t422 x12_3).f2)] (fun k_ => some k_ ≠ (.slice (some ad443) t422.length co44 : Value).ownBlock ∧ some k_ ≠ (u9 : Value).ownBlock) (fun _ => False) rfl rfl ?aP (fun _ hk => hk.elim) ?aF ?aO ?aB ?aS ?aL ?_; (case aP => exact k39_mkM _ _ _ (⟨(rd_T39 t422 x12_3).f0, (rd_T39 t422 x12_3).f1, (rd_T39 t422 x12_3).f2⟩ : S39)); (case aB => exact (by repeat (first | (with_reducible first | exact HB.out | apply zza | apply zzb | apply zzc | refine zzd ?_ GE421.out) | exact HB.out))); (case aF => exact (fun k_ hk => ⟨Kd.fresh' (Kd.R_lt (by (with_reducible repeat (first | apply Kd.R_alloc | apply Kd.R_drewN | apply Kd.R_drew)); exact HO_5.out)) k_ hk, Kd.fresh' (Kd.R_lt (by (with_reducible repeat (first | apply Kd.R_alloc | apply Kd.R_drewN | apply Kd.R_drew)); exact HO_9.out)) k_ hk⟩)); (case aO => exact (by (with_reducible repeat (first | apply Kd.R_alloc | apply Kd.R_drewN | apply Kd.R_drew)); exact HO_10.out)); (case aS => exact (zzo (by repeat (first | (with_reducible first | exact HB.out | apply zza | apply zzb | apply zzc | refine zzd ?_ GE421.out) | exact HB.out)))); (case aL => have := LMc43.out; omega); intro v446 w46 ho hb hg hat; rw [← Ny445.out] at ho; have n0_ := zzm (Kd.R_after (ok := (fun k_ => some k_ ≠ (u9 : Value).ownBlock)) (by (with_reducible repeat (first | apply Kd.R_alloc | apply Kd.R_drewN | apply Kd.R_drew)); exact HO_5.out) hg hat); have n1_ := zzm (Kd.R_after (ok := (fun k_ => some k_ ≠ (.slice (some ad443) t422.length co44 : Value).ownBlock)) (by (with_reducible repeat (first | apply Kd.R_alloc | apply Kd.R_drewN | apply Kd.R_drew)); exact HO_9.out) hg hat); have n2_ := zzm (Kd.N_afterv (ok := (fun k_ => some k_ ≠ (.slice (some ad443) t422.length co44 : Value).ownBlock ∧ some k_ ≠ (u9 : Value).ownBlock ∧ k_ ≠ gb421)) (by (with_reducible repeat (first | apply Kd.N_alloc | apply Kd.N_drewN | apply Kd.N_drew)); exact Kd.N_mono HO_422005.out (fun _ hk => ⟨⟨hk.1, ⟨hk.2.1, hk.2.2.2⟩⟩, hk.2.2.1⟩)) hg hat); have n3_ := zzm (blk_grown (g := gb421) (o := .cells #[.bool t413, .bool t414, .int .i64 t415, .int .i64 t416, .int .i64 t417, .slice Ao10 t418.length co10] 34 (0, 0)) (by (with_reducible repeat (first | refine zzf ?_ _ | refine zzg ?_ | refine zze ?_ _)); exact BK421.out) hg (Kd.R_ne HO_10.out BK421.out (by decide))); have n4_ := zzm (hb); have n5_ := zzm (ho); clear HO_5 HO_9 HO_422005 BK421 HB HO_10; have HO_5 := n0_; have HO_9 := n1_; have HO_422005 := n2_; have BK421 := n3_; have HB := n4_; have HO447 := n5_; clear n0_ n1_ n2_ n3_ n4_ n5_ ho hb hg hat)))
              go_roundg k3
              case measure => have := HJ5.out; have := HK2.out; have := HK3.out; omega
              case rel => exact ⟨(y445), (wrap64 (x12_3 + 1)), (by first | rfl | (simp; done) | (simp [*]; done)), H', ⟨by have := HJ5.out; have := HK2.out; have := HK3.out; omega⟩, ⟨by (with_reducible repeat (first | apply Kd.R_alloc | apply Kd.R_drewN | apply Kd.R_drew)); exact HO_5.out⟩, ⟨by (with_reducible repeat (first | apply Kd.R_alloc | apply Kd.R_drewN | apply Kd.R_drew)); exact HO_9.out⟩, ⟨by (with_reducible repeat (first | apply Kd.R_alloc | apply Kd.R_drewN | apply Kd.R_drew)); exact HO447.out⟩, ⟨by (with_reducible repeat (first | apply Kd.N_alloc | apply Kd.N_drewN | apply Kd.N_drew)); exact Kd.N_mono HO_422005.out (fun _ hk => ⟨hk.1.1, ⟨hk.1.2.1, ⟨hk.2, hk.1.2.2⟩⟩⟩)⟩, ⟨by (with_reducible repeat (first | refine zzf ?_ _ | refine zzg ?_ | refine zze ?_ _)); exact BK421.out⟩, ⟨by repeat (first | (with_reducible first | exact HB.out | apply zza | apply zzb | apply zzc | refine zzd ?_ GE421.out) | exact HB.out)⟩⟩
             ·
              rw [if_neg c43] at H; exact absurd H (by simp)
           ·
            rw [if_neg c39] at H; exact absurd H (by simp)
          ·
           rw [if_neg c38] at H; have c38b0 : decide (x12_3 < (t422.length : Int)) = false := decide_eq_false c38; clear c38; replace H := Option.bind_eq_some_iff.mp H; obtain ⟨t448, A470, H⟩ := H; replace H : (if t448 = true then (some ((wrap64 ((t422.length : Int) - (x10_3.length : Int))) == 1)) else (some false)) = some r := H; have A47 := zzm A470; clear A470; by_cases c48 : t448 = true
           ·
            subst c48; have H1 : (some ((wrap64 ((t422.length : Int) - (x10_3.length : Int))) == 1)) = some r := by rw [if_pos rfl] at H; exact H
            clear H; have H := H1; clear H1; obtain rfl := Option.some.inj H; obtain ⟨Ao49, co49, eo49⟩ := Kd.R_slice HO_5.out; subst eo49; obtain ⟨Ao50, co50, eo50⟩ := Kd.R_slice HO_9.out; subst eo50; obtain ⟨Ao51, co51, eo51⟩ := Kd.R_slice HO_10.out; subst eo51; go_wp2_with (first | (go_at_call 31; (with_reducible refine (laws_sameProducers.calls k3 _ _ x9_2 _ _ x10_3 true _ ?side1 ?side2 ?side3 ?side4 A47.out).mono ?_); (case side1 => repeat (first | exact (Kd.R_reads' HO_9.out).2.2 | (with_reducible refine Kd.C_alloc ?_ _) | (with_reducible refine Kd.C_drewN ?_ _) | (with_reducible refine Kd.C_drew ?_))); (case side2 => exact (Kd.R_reads' HO_9.out).2.1); (case side3 => repeat (first | exact (Kd.R_reads' HO_10.out).2.2 | (with_reducible refine Kd.C_alloc ?_ _) | (with_reducible refine Kd.C_drewN ?_ _) | (with_reducible refine Kd.C_drew ?_))); (case side4 => exact (Kd.R_reads' HO_10.out).2.1); rintro e w' ⟨rfl, ⟨nd, rfl⟩⟩; (try first | exact ⟨rfl, _, World.drewN_drewN _ _ _⟩ | exact ⟨rfl, _, Eq.trans (World.drewN_drewN _ _ _) (congrArg (World.drewN _) (Nat.add_assoc _ _ _))⟩))); repeat (go_quiet (first | (go_at_call 31; (with_reducible refine (laws_sameProducers.calls k3 _ _ x9_2 _ _ x10_3 true _ ?side1 ?side2 ?side3 ?side4 A47.out).mono ?_); (case side1 => repeat (first | exact (Kd.R_reads' HO_9.out).2.2 | (with_reducible refine Kd.C_alloc ?_ _) | (with_reducible refine Kd.C_drewN ?_ _) | (with_reducible refine Kd.C_drew ?_))); (case side2 => exact (Kd.R_reads' HO_9.out).2.1); (case side3 => repeat (first | exact (Kd.R_reads' HO_10.out).2.2 | (with_reducible refine Kd.C_alloc ?_ _) | (with_reducible refine Kd.C_drewN ?_ _) | (with_reducible refine Kd.C_drew ?_))); (case side4 => exact (Kd.R_reads' HO_10.out).2.1); rintro e w' ⟨rfl, ⟨nd, rfl⟩⟩; (try first | exact ⟨rfl, _, World.drewN_drewN _ _ _⟩ | exact ⟨rfl, _, Eq.trans (World.drewN_drewN _ _ _) (congrArg (World.drewN _) (Nat.add_assoc _ _ _))⟩))); try go_wp2_with (first | (go_at_call 31; (with_reducible refine (laws_sameProducers.calls k3 _ _ x9_2 _ _ x10_3 true _ ?side1 ?side2 ?side3 ?side4 A47.out).mono ?_); (case side1 => repeat (first | exact (Kd.R_reads' HO_9.out).2.2 | (with_reducible refine Kd.C_alloc ?_ _) | (with_reducible refine Kd.C_drewN ?_ _) | (with_reducible refine Kd.C_drew ?_))); (case side2 => exact (Kd.R_reads' HO_9.out).2.1); (case side3 => repeat (first | exact (Kd.R_reads' HO_10.out).2.2 | (with_reducible refine Kd.C_alloc ?_ _) | (with_reducible refine Kd.C_drewN ?_ _) | (with_reducible refine Kd.C_drew ?_))); (case side4 => exact (Kd.R_reads' HO_10.out).2.1); rintro e w' ⟨rfl, ⟨nd, rfl⟩⟩; (try first | exact ⟨rfl, _, World.drewN_drewN _ _ _⟩ | exact ⟨rfl, _, Eq.trans (World.drewN_drewN _ _ _) (congrArg (World.drewN _) (Nat.add_assoc _ _ _))⟩))))
            go_ret; exact ⟨by first | rfl | (simp [errW_none, errW_some] <;> rfl) | (simp [*, errW_none, errW_some] <;> rfl), by repeat (first | (with_reducible first | exact HB.out | apply zza | apply zzb | apply zzc | refine zzd ?_ GE421.out) | exact HB.out)⟩
           ·
            replace c48 := Bool.eq_false_iff.mpr c48; subst c48; have H1 : (some false) = some r := by rw [if_neg (show ¬ (false = true) by decide)] at H; exact H
            clear H; have H := H1; clear H1; obtain rfl := Option.some.inj H; obtain ⟨Ao52, co52, eo52⟩ := Kd.R_slice HO_5.out; subst eo52; obtain ⟨Ao53, co53, eo53⟩ := Kd.R_slice HO_9.out; subst eo53; obtain ⟨Ao54, co54, eo54⟩ := Kd.R_slice HO_10.out; subst eo54; go_wp2_with (first | (go_at_call 31; (with_reducible refine (laws_sameProducers.calls k3 _ _ x9_2 _ _ x10_3 false _ ?side1 ?side2 ?side3 ?side4 A47.out).mono ?_); (case side1 => repeat (first | exact (Kd.R_reads' HO_9.out).2.2 | (with_reducible refine Kd.C_alloc ?_ _) | (with_reducible refine Kd.C_drewN ?_ _) | (with_reducible refine Kd.C_drew ?_))); (case side2 => exact (Kd.R_reads' HO_9.out).2.1); (case side3 => repeat (first | exact (Kd.R_reads' HO_10.out).2.2 | (with_reducible refine Kd.C_alloc ?_ _) | (with_reducible refine Kd.C_drewN ?_ _) | (with_reducible refine Kd.C_drew ?_))); (case side4 => exact (Kd.R_reads' HO_10.out).2.1); rintro e w' ⟨rfl, ⟨nd, rfl⟩⟩; (try first | exact ⟨rfl, _, World.drewN_drewN _ _ _⟩ | exact ⟨rfl, _, Eq.trans (World.drewN_drewN _ _ _) (congrArg (World.drewN _) (Nat.add_assoc _ _ _))⟩))); repeat (go_quiet (first | (go_at_call 31; (with_reducible refine (laws_sameProducers.calls k3 _ _ x9_2 _ _ x10_3 false _ ?side1 ?side2 ?side3 ?side4 A47.out).mono ?_); (case side1 => repeat (first | exact (Kd.R_reads' HO_9.out).2.2 | (with_reducible refine Kd.C_alloc ?_ _) | (with_reducible refine Kd.C_drewN ?_ _) | (with_reducible refine Kd.C_drew ?_))); (case side2 => exact (Kd.R_reads' HO_9.out).2.1); (case side3 => repeat (first | exact (Kd.R_reads' HO_10.out).2.2 | (with_reducible refine Kd.C_alloc ?_ _) | (with_reducible refine Kd.C_drewN ?_ _) | (with_reducible refine Kd.C_drew ?_))); (case side4 => exact (Kd.R_reads' HO_10.out).2.1); rintro e w' ⟨rfl, ⟨nd, rfl⟩⟩; (try first | exact ⟨rfl, _, World.drewN_drewN _ _ _⟩ | exact ⟨rfl, _, Eq.trans (World.drewN_drewN _ _ _) (congrArg (World.drewN _) (Nat.add_assoc _ _ _))⟩))); try go_wp2_with (first | (go_at_call 31; (with_reducible refine (laws_sameProducers.calls k3 _ _ x9_2 _ _ x10_3 false _ ?side1 ?side2 ?side3 ?side4 A47.out).mono ?_); (case side1 => repeat (first | exact (Kd.R_reads' HO_9.out).2.2 | (with_reducible refine Kd.C_alloc ?_ _) | (with_reducible refine Kd.C_drewN ?_ _) | (with_reducible refine Kd.C_drew ?_))); (case side2 => exact (Kd.R_reads' HO_9.out).2.1); (case side3 => repeat (first | exact (Kd.R_reads' HO_10.out).2.2 | (with_reducible refine Kd.C_alloc ?_ _) | (with_reducible refine Kd.C_drewN ?_ _) | (with_reducible refine Kd.C_drew ?_))); (case side4 => exact (Kd.R_reads' HO_10.out).2.1); rintro e w' ⟨rfl, ⟨nd, rfl⟩⟩; (try first | exact ⟨rfl, _, World.drewN_drewN _ _ _⟩ | exact ⟨rfl, _, Eq.trans (World.drewN_drewN _ _ _) (congrArg (World.drewN _) (Nat.add_assoc _ _ _))⟩))))
            go_ret; exact ⟨by first | rfl | (simp [errW_none, errW_some] <;> rfl) | (simp [*, errW_none, errW_some] <;> rfl), by repeat (first | (with_reducible first | exact HB.out | apply zza | apply zzb | apply zzc | refine zzd ?_ GE421.out) | exact HB.out)⟩
def laws_FnPutOthers.Pure : Prop := ∀ (l0 : List Int), l0.length ≤ maxLen → l0.length * 1 ≤ 140737488351232 → (∀ x ∈ l0, (Lit.int .u8 x).wf = true) → ∃ k, laws_FnPutOthers.f k l0 = some true
theorem laws_FnPutOthers.walk (P : laws_FnPutOthers.Pure) (a0 : Option Addr) (len0 cap0 : Nat) (z0 : List Int) (w : World) (w0 : (a0 = none ∧ len0 = 0 ∧ cap0 = 0 ∧ z0 = []) ∨ ∃ x, a0 = some x ∧ len0 ≤ cap0 ∧ cap0 ≤ maxLen ∧ z0.length = cap0 ∧ (∀ i, i < z0.length → w.cell? (x.add i) = some (.int .u8 (z0.getD i 0))) ∧ ∀ n ∈ z0, (Lit.int .u8 n).wf = true) (y0 : len0 * 1 ≤ 140737488351232) :
  Calls Try.prog 10 #[.slice a0 len0 cap0] w fun e w' => e = .returned (.bool true) ∧ Below w.heap.size w w' := by
 obtain ⟨l0, rfl, hr0, hm0, hw0, hc0⟩ := ReadsInt.ofRowC w0; obtain ⟨k, h⟩ := P l0 hm0 y0 hw0; refine (laws_FnPutOthers.calls k _ _ l0 true w (Kd.C_of_reads (d := (0 : Int)) (h1 := fun _ => rfl) hr0) hc0 h).mono ?_; rintro e w' ⟨rfl, hd⟩; exact ⟨rfl, hd⟩
end Go.Proofs.Ytkhmopmfbocokaa.T
namespace Go.Proofs.Ytkhmopmfbocokaa.Q
open Go.RowKit Go.Proofs.YtkhmopmfbocokaaW.PrintWords
set_option linter.unusedVariables false
set_option linter.unusedSimpArgs false
theorem ev_succ {α : Type} {g : Nat → Option α} {r : α} (h : Ev (fun k => g (k + 1)) r) : Ev g r := Ev.step (f := fun k => g (k + 1)) (fun _ => rfl) h
theorem ev_of_all {α : Type} {g : Nat → Option α} {r : α} (h : ∀ k, g k = some r) : Ev g r := ⟨0, fun k _ => h k⟩
theorem ev_some {α : Type} (r : α) : Ev (fun _ => some r) r := ev_of_all fun _ => rfl
def Evs {α : Type} (g : Nat → Option α) (Q : α → Prop) : Prop := ∃ r, Ev g r ∧ Q r
theorem Evs.of {α : Type} {g : Nat → Option α} {Q : α → Prop} {r : α} (h : Ev g r) (hq : Q r) : Evs g Q := ⟨r, h, hq⟩
theorem Evs.done {α : Type} {Q : α → Prop} {r : α} (hq : Q r) : Evs (fun _ => some r) Q := ⟨r, ev_some r, hq⟩
theorem Evs.mono {α : Type} {g : Nat → Option α} {Q Q' : α → Prop} (h : Evs g Q) (hq : ∀ r, Q r → Q' r) : Evs g Q' := by
  obtain ⟨r, h1, h2⟩ := h
  exact ⟨r, h1, hq r h2⟩
theorem Evs.succ {α : Type} {g : Nat → Option α} {Q : α → Prop} (h : Evs (fun k => g (k + 1)) Q) : Evs g Q := by
  obtain ⟨r, h1, h2⟩ := h
  exact ⟨r, ev_succ h1, h2⟩
theorem Evs.bind {α β : Type} {g : Nat → Option α} {f : Nat → α → Option β} {Q : α → Prop} {R : β → Prop} (h : Evs g Q) (k : ∀ a, Q a → Evs (fun n => f n a) R) : Evs (fun n => (g n).bind (f n)) R := by
  obtain ⟨a, h1, h2⟩ := h
  obtain ⟨r, k1, k2⟩ := k a h2
  exact ⟨r, Ev.bind h1 k1, k2⟩
theorem bsome {α β : Type} (a : α) (f : α → Option β) : (some a).bind f = f a := Eq.trans (Option.bind_some a f) (Eq.refl _)
end Go.Proofs.Ytkhmopmfbocokaa.Q
namespace Go.Proofs.Ytkhmopmfbocokaa.Q
open Go.RowKit Go.Proofs.Ytkhmopmfbocokaa.T Go.Proofs.YtkhmopmfbocokaaW.PrintWords Go.Proofs.YtkhmopmfbocokaaW.PrintLast
set_option linter.unusedVariables false
set_option linter.unusedSimpArgs false
theorem wrap_id {x : Int} (h0 : -9223372036854775808 ≤ x) (h1 : x < 9223372036854775808) : wrap64 x = x := by unfold wrap64; omega
theorem tmod_range {x n : Int} (h : 0 ≤ x) (hn : 1 ≤ n) : 0 ≤ Int.tmod x n ∧ Int.tmod x n < n := by
  rw [Int.tmod_eq_emod_of_nonneg h]
  exact ⟨Int.emod_nonneg _ (by omega), Int.emod_lt_of_pos _ (by omega)⟩
theorem xor_nonneg {a b : Int} (h1 : 0 ≤ a) (h2 : a < 4611686018427387904) (h3 : 0 ≤ b) (h4 : b < 4611686018427387904) : 0 ≤ Go.bits .xor .i64 a b := by
  obtain ⟨A, rfl⟩ := Int.eq_ofNat_of_zero_le h1
  obtain ⟨B, rfl⟩ := Int.eq_ofNat_of_zero_le h3
  have hx : A ^^^ B < 2 ^ 62 := Nat.xor_lt_two_pow (by omega) (by omega)
  have e1 : (BitVec.ofInt 64 (A : Int)).toNat = A := by
    rw [BitVec.ofInt_natCast, BitVec.toNat_ofNat]; exact Nat.mod_eq_of_lt (by omega)
  have e2 : (BitVec.ofInt 64 (B : Int)).toNat = B := by
    rw [BitVec.ofInt_natCast, BitVec.toNat_ofNat]; exact Nat.mod_eq_of_lt (by omega)
  show 0 ≤ IntKind.i64.wrap ((BitVec.ofInt 64 (A : Int) ^^^ BitVec.ofInt 64 (B : Int)).toNat : Int)
  rw [BitVec.toNat_xor, e1, e2]
  simp only [IntKind.wrap, IntKind.bits, IntKind.signed]
  simp
  omega
def Bytes (b : List Int) : Prop := ∀ x ∈ b, 0 ≤ x ∧ x ≤ 255
theorem rd_bytes {b : List Int} (h : Bytes b) (i : Int) : 0 ≤ rd b i ∧ rd b i ≤ 255 := by
  unfold rd
  rw [List.getD_eq_getElem?_getD]
  cases e : b[i.toNat]? with
  | none => simp
  | some x => exact h x (List.mem_of_getElem? e)
theorem pick_ev (b : List Int) (p n : Int) (hb : Bytes b) (hl : b.length ≤ 2000) (h0 : 0 ≤ p) (h1 : p ≤ 1000000000) (hn : 1 ≤ n) :
    ∃ v, Ev (fun k => spec_l6Rd_pick.f k b p n) (v, p + 1) ∧ 0 ≤ v ∧ v < n := by
  have e1 : wrap64 (p + 1) = p + 1 := wrap_id (by omega) (by omega)
  have e2 : wrap64 (p + 1 - 1) = p := by rw [wrap_id (by omega) (by omega)]; omega
  by_cases hz : b.length = 0
  · refine ⟨0, ⟨1, fun k hk => ?_⟩, by omega, by omega⟩
    obtain ⟨k, rfl⟩ : ∃ m, k = m + 1 := ⟨k - 1, by omega⟩
    show spec_l6Rd_pick.f (k + 1) b p n = _
    unfold spec_l6Rd_pick.f
    rw [if_neg (by omega), e1]
    simp [spec_l6Rd_pick.j0, hz]
  · have hz' : (((b.length : Int) == 0) = true) = False := by simp; intro h; simp [h] at hz
    by_cases hlt : p < (b.length : Int)
    · obtain ⟨r0, r1⟩ := rd_bytes hb p
      have := tmod_range (x := rd b p) r0 hn
      refine ⟨Int.tmod (rd b p) n, ⟨1, fun k hk => ?_⟩, this.1, this.2⟩
      obtain ⟨k, rfl⟩ : ∃ m, k = m + 1 := ⟨k - 1, by omega⟩
      show spec_l6Rd_pick.f (k + 1) b p n = _
      unfold spec_l6Rd_pick.f
      rw [if_neg (by omega), e1]
      simp only [spec_l6Rd_pick.j0, e2, hz']
      rw [if_neg (by simp), if_pos hlt, if_pos h0, if_neg (by omega), wrap_id (by omega) (by omega)]
    · obtain ⟨q0, q1⟩ := tmod_range (x := p) (n := (b.length : Int)) h0 (by omega)
      obtain ⟨r0, r1⟩ := rd_bytes hb (Int.tmod p (b.length : Int))
      have f1 : wrap64 (p * 7) = p * 7 := wrap_id (by omega) (by omega)
      have f2 : wrap64 (p * 7 + 3) = p * 7 + 3 := wrap_id (by omega) (by omega)
      obtain ⟨q2, q3⟩ := tmod_range (x := p * 7 + 3) (n := (b.length : Int)) (by omega) (by omega)
      obtain ⟨r2, r3⟩ := rd_bytes hb (Int.tmod (p * 7 + 3) (b.length : Int))
      have d0 : 0 ≤ Int.tdiv p (b.length : Int) ∧ Int.tdiv p (b.length : Int) ≤ p := by
        rw [Int.tdiv_eq_ediv_of_nonneg h0]
        exact ⟨Int.ediv_nonneg h0 (by omega), Int.ediv_le_self _ h0⟩
      obtain ⟨x, hx⟩ : ∃ x, x = rd b (Int.tmod p (b.length : Int)) := ⟨_, rfl⟩
      obtain ⟨y, hy⟩ : ∃ y, y = rd b (Int.tmod (p * 7 + 3) (b.length : Int)) := ⟨_, rfl⟩
      obtain ⟨z, hz2⟩ : ∃ z, z = Int.tdiv p (b.length : Int) := ⟨_, rfl⟩
      obtain ⟨s, hs⟩ : ∃ s, s = x * 131 + y * 1117 + p * 29 + z * 53 := ⟨_, rfl⟩
      rw [← hx] at r0 r1
      rw [← hy] at r2 r3
      rw [← hz2] at d0
      have s0 : 0 ≤ s ∧ s < 4611686018427387904 := by omega
      have t0 : 0 ≤ Int.tdiv s 64 ∧ Int.tdiv s 64 ≤ s := by
        rw [Int.tdiv_eq_ediv_of_nonneg s0.1]
        exact ⟨Int.ediv_nonneg s0.1 (by omega), Int.ediv_le_self _ s0.1⟩
      have w1 : wrap64 x = x := wrap_id (by omega) (by omega)
      have w2 : wrap64 y = y := wrap_id (by omega) (by omega)
      have w3 : wrap64 z = z := wrap_id (by omega) (by omega)
      have w4 : wrap64 (x * 131) = x * 131 := wrap_id (by omega) (by omega)
      have w5 : wrap64 (y * 1117) = y * 1117 := wrap_id (by omega) (by omega)
      have w6 : wrap64 (p * 29) = p * 29 := wrap_id (by omega) (by omega)
      have w7 : wrap64 (z * 53) = z * 53 := wrap_id (by omega) (by omega)
      have w8 : wrap64 (x * 131 + y * 1117) = x * 131 + y * 1117 := wrap_id (by omega) (by omega)
      have w9 : wrap64 (x * 131 + y * 1117 + p * 29) = x * 131 + y * 1117 + p * 29 := wrap_id (by omega) (by omega)
      have wa : wrap64 (x * 131 + y * 1117 + p * 29 + z * 53) = s := by rw [hs]; exact wrap_id (by omega) (by omega)
      have wb : wrap64 (Int.tdiv s 64) = Int.tdiv s 64 := wrap_id (by omega) (by omega)
      have := tmod_range (x := Go.bits .xor .i64 s (Int.tdiv s 64)) (n := n) (xor_nonneg s0.1 s0.2 t0.1 (by omega)) hn
      refine ⟨_, ⟨1, fun k hk => ?_⟩, this.1, this.2⟩
      obtain ⟨k, rfl⟩ : ∃ m, k = m + 1 := ⟨k - 1, by omega⟩
      show spec_l6Rd_pick.f (k + 1) b p n = _
      unfold spec_l6Rd_pick.f
      rw [if_neg (by omega), e1]
      simp only [spec_l6Rd_pick.j0, e2, hz', f1, f2]
      rw [if_neg (by simp), if_neg hlt, if_neg (by omega), if_pos q0, if_pos q1, if_pos q2, if_pos q3, if_neg (by omega), ← hx, ← hy, ← hz2, w1, w2, w3, w4, w5, w6, w7, w8, w9, wa, wb]
theorem pick_evs (b : List Int) (p n : Int) (hb : Bytes b) (hl : b.length ≤ 2000) (h0 : 0 ≤ p) (h1 : p ≤ 1000000000) (hn : 1 ≤ n) :
    Evs (fun k => spec_l6Rd_pick.f k b p n) (fun r => 0 ≤ r.1 ∧ r.1 < n ∧ r.2 = p + 1) := by
  obtain ⟨v, h, v0, v1⟩ := pick_ev b p n hb hl h0 h1 hn
  exact ⟨_, h, v0, v1, rfl⟩
end Go.Proofs.Ytkhmopmfbocokaa.Q
namespace Go.Proofs.Ytkhmopmfbocokaa.Q
open Go.RowKit Go.Proofs.Ytkhmopmfbocokaa.T Go.Proofs.YtkhmopmfbocokaaW.PrintWords Go.Proofs.YtkhmopmfbocokaaW.PrintLast
set_option linter.unusedVariables false
set_option linter.unusedSimpArgs false
theorem impl_within_eq (a b c : Int) : impl_within.f a b c = some (decide (b ≤ a ∧ a ≤ c)) := by
  unfold impl_within.f
  by_cases h : a ≥ b
  · rw [if_pos h]
    have : (b ≤ a ∧ a ≤ c) ↔ a ≤ c := ⟨fun h => h.2, fun h' => ⟨h, h'⟩⟩
    simp [this]
  · rw [if_neg h]
    have : ¬ (b ≤ a ∧ a ≤ c) := fun h' => h h'.1
    simp [this]
theorem spec_l6In_eq (a b c : Int) : spec_l6In.f a b c = some (decide (b ≤ a ∧ a ≤ c)) := by
  unfold spec_l6In.f
  by_cases h : a ≥ b
  · rw [if_pos h]
    have : (b ≤ a ∧ a ≤ c) ↔ a ≤ c := ⟨fun h => h.2, fun h' => ⟨h, h'⟩⟩
    simp [this]
  · rw [if_neg h]
    have : ¬ (b ≤ a ∧ a ≤ c) := fun h' => h h'.1
    simp [this]
end Go.Proofs.Ytkhmopmfbocokaa.Q
namespace Go.Proofs.Ytkhmopmfbocokaa.Q
open Go.RowKit Go.Proofs.Ytkhmopmfbocokaa.T Go.Proofs.YtkhmopmfbocokaaW.PrintWords Go.Proofs.YtkhmopmfbocokaaW.PrintLast
set_option linter.unusedVariables false
set_option linter.unusedSimpArgs false
theorem rd_nat (l : List Int) (j : Nat) (h : j < l.length) : rd l (j : Int) = l[j] := by
  unfold rd
  rw [Int.toNat_natCast, List.getD_eq_getElem?_getD, List.getElem?_eq_getElem h]
  rfl
theorem drop_int {l : List Int} {i : Nat} (h : i < l.length) : l.drop i = rd l i :: l.drop (i + 1) := by
  rw [List.drop_eq_getElem_cons h, rd_nat l i h]
def ab (l : List Int) : Bool := decide (∀ x ∈ l, 0 ≤ x ∧ x ≤ 255)
theorem ab_cons (x : Int) (l : List Int) : ab (x :: l) = (decide (0 ≤ x ∧ x ≤ 255) && ab l) := by
  rw [Bool.eq_iff_iff]
  simp [ab, List.forall_mem_cons]
theorem ab_nil : ab [] = true := by simp [ab]
theorem isByte_eq (a : Int) : impl_isByte.f a = some (decide (0 ≤ a ∧ a ≤ 255)) := by
  unfold impl_isByte.f
  by_cases h : a ≥ 0
  · rw [if_pos h]
    have : (0 ≤ a ∧ a ≤ 255) ↔ a ≤ 255 := ⟨fun h => h.2, fun h' => ⟨h, h'⟩⟩
    simp [this]
  · rw [if_neg h]
    have : ¬ (0 ≤ a ∧ a ≤ 255) := fun h' => h h'.1
    simp [this]
theorem baseValid_eq (a b : Int) : impl_baseValid.f a b = some (decide ((0 ≤ a ∧ a ≤ 99999) ∧ (0 ≤ b ∧ b ≤ 99999))) := by
  unfold impl_baseValid.f
  rw [impl_within_eq, impl_within_eq]
  by_cases h : 0 ≤ a ∧ a ≤ 99999 <;> simp [h]
theorem idValid_eqB (a : Int) : impl_idValid.f a = some (decide (0 ≤ a ∧ a ≤ 254)) := by
  unfold impl_idValid.f
  rw [impl_within_eq]
  rfl
theorem implAll_loop (l : List Int) (hl : l.length ≤ 1000000000000000) : ∀ (d i : Nat), l.length - i = d → i ≤ l.length → Ev (fun k => impl_allBytes.l0 k l (l.length : Int) (i : Int)) (ab (l.drop i)) := by
  intro d
  induction d with
  | zero =>
    intro i hd hi
    rw [show l.drop i = [] from List.drop_eq_nil_of_le (by omega), ab_nil]
    refine ev_succ ?_
    simp only [impl_allBytes.l0, if_neg (show ¬ (i : Int) < (l.length : Int) by omega)]
    exact ev_some _
  | succ d ih =>
    intro i hd hi
    have e1 : wrap64 ((i : Int) + 1) = ((i + 1 : Nat) : Int) := by rw [wrap_id (by omega) (by omega)]; omega
    rw [drop_int (show i < l.length by omega), ab_cons]
    refine ev_succ ?_
    simp only [impl_allBytes.l0, if_pos (show (i : Int) < (l.length : Int) by omega), if_pos (show (0 : Int) ≤ i by omega), isByte_eq, bsome, decide_eq_true_eq, e1]
    by_cases h : 0 ≤ rd l (i : Int) ∧ rd l (i : Int) ≤ 255
    · simp only [if_pos h, decide_eq_true h, Bool.true_and]
      exact ih (i + 1) (by omega) (by omega)
    · simp only [if_neg h, decide_eq_false h, Bool.false_and]
      exact ev_some _
theorem implAll (l : List Int) (hl : l.length ≤ 1000000000000000) : Ev (fun k => impl_allBytes.f k l) (ab l) := by
  unfold impl_allBytes.f
  have := implAll_loop l hl l.length 0 (by omega) (by omega)
  simpa using this
theorem specAll_loop (l : List Int) (hl : l.length ≤ 1000000000000000) : ∀ (d i : Nat), l.length - i = d → i ≤ l.length → Ev (fun k => spec_l1Ok.l0 k l (i : Int)) (ab (l.drop i)) := by
  intro d
  induction d with
  | zero =>
    intro i hd hi
    rw [show l.drop i = [] from List.drop_eq_nil_of_le (by omega), ab_nil]
    refine ev_succ ?_
    simp only [spec_l1Ok.l0, if_neg (show ¬ (i : Int) < (l.length : Int) by omega)]
    exact ev_some _
  | succ d ih =>
    intro i hd hi
    have e1 : wrap64 ((i : Int) + 1) = ((i + 1 : Nat) : Int) := by rw [wrap_id (by omega) (by omega)]; omega
    rw [drop_int (show i < l.length by omega), ab_cons]
    refine ev_succ ?_
    simp only [spec_l1Ok.l0, if_pos (show (i : Int) < (l.length : Int) by omega), if_pos (show (0 : Int) ≤ i by omega), spec_l6In_eq, bsome, decide_eq_true_eq, e1]
    by_cases h : 0 ≤ rd l (i : Int) ∧ rd l (i : Int) ≤ 255
    · simp only [if_pos h, decide_eq_true h, Bool.true_and]
      exact ih (i + 1) (by omega) (by omega)
    · simp only [if_neg h, decide_eq_false h, Bool.false_and]
      exact ev_some _
theorem specAll (l : List Int) (hl : l.length ≤ 1000000000000000) : Ev (fun k => spec_l1Ok.f k l) (ab l) := by
  unfold spec_l1Ok.f
  have := specAll_loop l hl l.length 0 (by omega) (by omega)
  simpa using this
def pv (has : Bool) (l : List Int) : Bool := if has = true then decide (l.length ≤ 12) && ab l else decide (l.length = 0)
theorem implPart (has : Bool) (l : List Int) (hl : l.length ≤ 1000000000000000) : Ev (fun k => impl_partValid.f k has l) (pv has l) := by
  unfold impl_partValid.f pv
  cases has with
  | true =>
    simp only [if_true]
    by_cases h : (l.length : Int) ≤ 12
    · simp only [if_pos h, decide_eq_true (show l.length ≤ 12 by omega), Bool.true_and]
      exact Ev.bind (implAll l hl) (ev_some _)
    · simp only [if_neg h, decide_eq_false (show ¬ l.length ≤ 12 by omega), Bool.false_and]
      exact ev_some _
  | false =>
    simp only [Bool.false_eq_true, if_false]
    rw [show ((l.length : Int) == 0) = decide (l.length = 0) by rw [Bool.eq_iff_iff]; simp]
    exact ev_some _
theorem specPart (has : Bool) (l : List Int) (hl : l.length ≤ 1000000000000000) : Ev (fun k => spec_l3Part.f k has l) (pv has l) := by
  unfold spec_l3Part.f pv
  cases has with
  | true =>
    simp only [if_true]
    refine Ev.bind (specAll l hl) ?_
    by_cases h : ab l = true
    · simp only [if_pos h, h, Bool.and_true]
      rw [show decide ((l.length : Int) ≤ 12) = decide (l.length ≤ 12) by rw [decide_eq_decide]; omega]
      exact ev_some _
    · simp only [if_neg h, show ab l = false by simpa using h, Bool.and_false]
      exact ev_some _
  | false =>
    simp only [Bool.false_eq_true, if_false]
    by_cases h : l.length = 0
    · simp only [if_pos (show (l.length : Int) = 0 by omega), decide_eq_true h]
      refine Ev.bind (specAll l hl) ?_
      have hn : l = [] := List.length_eq_zero_iff.1 h
      subst hn
      simp only [ab_nil, if_true]
      exact ev_some _
    · simp only [if_neg (show ¬ (l.length : Int) = 0 by omega), decide_eq_false h]
      exact ev_some _
abbrev Rc := S79
abbrev rr (l : List Rc) (i : Int) : Rc := rd_T79 l i
theorem rr_nat (l : List Rc) (j : Nat) (h : j < l.length) : rr l (j : Int) = l[j] := by
  unfold rr rd_T79
  rw [Int.toNat_natCast, List.getD_eq_getElem?_getD, List.getElem?_eq_getElem h]
  rfl
def smallR (r : Rc) : Prop := r.f3.length ≤ 1000000000000000 ∧ r.f5.length ≤ 1000000000000000
def smallRs (l : List Rc) : Prop := l.length ≤ 1000000000000000 ∧ ∀ r ∈ l, smallR r
theorem smallRs_at {l : List Rc} (h : smallRs l) (j : Nat) (hj : j < l.length) : smallR (rr l (j : Int)) := by
  rw [rr_nat l j hj]
  exact h.2 _ (List.getElem_mem hj)
def rv (r : Rc) : Bool := decide ((0 ≤ r.f0 ∧ r.f0 ≤ 99999) ∧ (0 ≤ r.f1 ∧ r.f1 ≤ 99999)) && (pv r.f2 r.f3 && pv r.f4 r.f5)
theorem implRec (r : Rc) (h : smallR r) : Ev (fun k => impl_RecordValid.f k r.f0 r.f1 r.f2 r.f3 r.f4 r.f5) (rv r) := by
  unfold impl_RecordValid.f rv
  simp only [baseValid_eq, bsome, decide_eq_true_eq]
  by_cases h0 : (0 ≤ r.f0 ∧ r.f0 ≤ 99999) ∧ (0 ≤ r.f1 ∧ r.f1 ≤ 99999)
  · simp only [if_pos h0, decide_eq_true h0, Bool.true_and]
    refine Ev.bind (implPart _ _ h.1) ?_
    by_cases h1 : pv r.f2 r.f3 = true
    · simp only [if_pos h1, h1, Bool.true_and]
      exact Ev.bind (implPart _ _ h.2) (ev_some _)
    · simp only [if_neg h1, show pv r.f2 r.f3 = false by simpa using h1, Bool.false_and]
      exact ev_some _
  · simp only [if_neg h0, decide_eq_false h0, Bool.false_and]
    exact ev_some _
theorem specRec (r : Rc) (h : smallR r) : Ev (fun k => spec_RecordValid.f k r.f0 r.f1 r.f2 r.f3 r.f4 r.f5) (rv r) := by
  unfold spec_RecordValid.f rv
  simp only [spec_l6In_eq, bsome, decide_eq_true_eq]
  by_cases h0 : 0 ≤ r.f0 ∧ r.f0 ≤ 99999
  · by_cases h1 : 0 ≤ r.f1 ∧ r.f1 ≤ 99999
    · simp only [if_pos h0, if_pos h1, decide_eq_true (show (0 ≤ r.f0 ∧ r.f0 ≤ 99999) ∧ (0 ≤ r.f1 ∧ r.f1 ≤ 99999) from ⟨h0, h1⟩), Bool.true_and]
      refine Ev.bind (specPart _ _ h.1) ?_
      by_cases h2 : pv r.f2 r.f3 = true
      · simp only [if_pos h2, h2, Bool.true_and]
        exact Ev.bind (specPart _ _ h.2) (ev_some _)
      · simp only [if_neg h2, show pv r.f2 r.f3 = false by simpa using h2, Bool.false_and]
        exact ev_some _
    · simp only [if_pos h0, if_neg h1, decide_eq_false (show ¬ ((0 ≤ r.f0 ∧ r.f0 ≤ 99999) ∧ (0 ≤ r.f1 ∧ r.f1 ≤ 99999)) from fun h => h1 h.2), Bool.false_and]
      exact ev_some _
  · simp only [if_neg h0, decide_eq_false (show ¬ ((0 ≤ r.f0 ∧ r.f0 ≤ 99999) ∧ (0 ≤ r.f1 ∧ r.f1 ≤ 99999)) from fun h => h0 h.1), Bool.false_and]
    exact ev_some _
def RF (l : List Rc) (i : Nat) : Prop := ∀ j, i ≤ j → j < l.length → rv (rr l j) = true ∧ (0 < j → (rr l ((j : Int) - 1)).f0 < (rr l j).f0)
theorem RF_end {l : List Rc} {i : Nat} (h : l.length ≤ i) : RF l i := fun j h1 h2 => by omega
theorem RF_step {l : List Rc} {i : Nat} (h : i < l.length) : RF l i ↔ (rv (rr l i) = true ∧ (0 < i → (rr l ((i : Int) - 1)).f0 < (rr l i).f0)) ∧ RF l (i + 1) := by
  constructor
  · intro hv
    exact ⟨hv i (Nat.le_refl _) h, fun j h1 h2 => hv j (by omega) h2⟩
  · rintro ⟨h1, h2⟩ j h3 h4
    by_cases e : j = i
    · subst e; exact h1
    · exact h2 j (by omega) h4
theorem implRecs_loop (l : List Rc) (hl : smallRs l) (a0 a1 : Bool) (a2 a3 a4 : Int) : ∀ (d i : Nat), l.length - i = d → i ≤ l.length → Evs (fun k => impl_BatchValid.l0 k l (l.length : Int) (i : Int) a0 a1 a2 a3 a4 l) (fun b => b = true ↔ RF l i) := by
  intro d
  induction d with
  | zero =>
    intro i hd hi
    refine Evs.succ ?_
    simp only [impl_BatchValid.l0, if_neg (show ¬ (i : Int) < (l.length : Int) by omega)]
    exact Evs.done (by simp; exact RF_end (by omega))
  | succ d ih =>
    intro i hd hi
    have hll := hl.1
    have hn := ih (i + 1) (by omega) (by omega)
    have e1 : wrap64 ((i : Int) + 1) = ((i + 1 : Nat) : Int) := by rw [wrap_id (by omega) (by omega)]; omega
    have e2 : wrap64 ((i : Int) - 1) = (i : Int) - 1 := wrap_id (by omega) (by omega)
    rw [RF_step (show i < l.length by omega)]
    refine Evs.succ ?_
    simp only [impl_BatchValid.l0, if_pos (show (i : Int) < (l.length : Int) by omega), if_pos (show (0 : Int) ≤ i by omega), e1, e2]
    refine Evs.bind (Evs.of (implRec (rr l (i : Int)) (smallRs_at hl i (by omega))) rfl : Evs _ (fun x => x = rv (rr l (i : Int)))) ?_
    rintro _ rfl
    by_cases h1 : rv (rr l (i : Int)) = true
    · simp only [if_pos h1]
      by_cases h0 : (i : Int) > 0
      · simp only [if_pos h0, if_pos (show 0 ≤ (i : Int) - 1 by omega), if_pos (show (i : Int) - 1 < (l.length : Int) by omega)]
        by_cases h2 : (rr l ((i : Int) - 1)).f0 ≥ (rr l (i : Int)).f0
        · simp only [if_pos h2]
          refine Evs.done ?_
          simp only [Bool.false_eq_true, false_iff]
          rintro ⟨⟨_, h3⟩, _⟩
          have := h3 (by omega)
          omega
        · simp only [if_neg h2]
          refine hn.mono fun b hb => ?_
          rw [hb]
          exact ⟨fun h => ⟨⟨h1, fun _ => by omega⟩, h⟩, fun h => h.2⟩
      · simp only [if_neg h0]
        refine hn.mono fun b hb => ?_
        rw [hb]
        exact ⟨fun h => ⟨⟨h1, fun h' => absurd h' (by omega)⟩, h⟩, fun h => h.2⟩
    · simp only [if_neg h1]
      exact Evs.done (by simp only [Bool.false_eq_true, false_iff]; exact fun h => h1 h.1.1)
theorem specRecs_loop (l : List Rc) (hl : smallRs l) : ∀ (d i : Nat), l.length - i = d → i ≤ l.length → Evs (fun k => spec_l5Records.l0 k l (i : Int)) (fun b => b = true ↔ RF l i ∧ 1 ≤ l.length ∧ l.length ≤ 6) := by
  intro d
  induction d with
  | zero =>
    intro i hd hi
    refine Evs.succ ?_
    simp only [spec_l5Records.l0, if_neg (show ¬ (i : Int) < (l.length : Int) by omega), spec_l6In_eq, bsome]
    exact Evs.done (by simp only [decide_eq_true_eq]; exact ⟨fun h => ⟨RF_end (by omega), by omega, by omega⟩, fun h => by have := h.2; omega⟩)
  | succ d ih =>
    intro i hd hi
    have hll := hl.1
    have hn := ih (i + 1) (by omega) (by omega)
    have e1 : wrap64 ((i : Int) + 1) = ((i + 1 : Nat) : Int) := by rw [wrap_id (by omega) (by omega)]; omega
    have e2 : wrap64 ((i : Int) - 1) = (i : Int) - 1 := wrap_id (by omega) (by omega)
    rw [RF_step (show i < l.length by omega)]
    refine Evs.succ ?_
    simp only [spec_l5Records.l0, if_pos (show (i : Int) < (l.length : Int) by omega), if_pos (show (0 : Int) ≤ i by omega), e1, e2]
    refine Evs.bind (Evs.of (specRec (rr l (i : Int)) (smallRs_at hl i (by omega))) rfl : Evs _ (fun x => x = rv (rr l (i : Int)))) ?_
    rintro _ rfl
    by_cases h1 : rv (rr l (i : Int)) = true
    · simp only [if_pos h1]
      by_cases h0 : (i : Int) > 0
      · simp only [if_pos h0, if_pos (show 0 ≤ (i : Int) - 1 by omega), if_pos (show (i : Int) - 1 < (l.length : Int) by omega)]
        by_cases h2 : (rr l ((i : Int) - 1)).f0 ≥ (rr l (i : Int)).f0
        · simp only [if_pos h2]
          refine Evs.done ?_
          simp only [Bool.false_eq_true, false_iff]
          rintro ⟨⟨⟨_, h3⟩, _⟩, _⟩
          have := h3 (by omega)
          omega
        · simp only [if_neg h2]
          refine hn.mono fun b hb => ?_
          rw [hb]
          exact ⟨fun h => ⟨⟨⟨h1, fun _ => by omega⟩, h.1⟩, h.2⟩, fun h => ⟨h.1.2, h.2⟩⟩
      · simp only [if_neg h0]
        refine hn.mono fun b hb => ?_
        rw [hb]
        exact ⟨fun h => ⟨⟨⟨h1, fun h' => absurd h' (by omega)⟩, h.1⟩, h.2⟩, fun h => ⟨h.1.2, h.2⟩⟩
    · simp only [if_neg h1]
      exact Evs.done (by simp only [Bool.false_eq_true, false_iff]; exact fun h => h1 h.1.1.1)
def VB (a1 : Bool) (a2 a3 a4 : Int) (l : List Rc) : Prop :=
  (if a2 = 255 then a3 = 0 ∧ a4 = 0 ∧ a1 = false else (0 ≤ a2 ∧ a2 ≤ 254) ∧ (0 ≤ a3 ∧ a3 ≤ 99) ∧ (0 ≤ a4 ∧ a4 ≤ 9999)) ∧ (1 ≤ l.length ∧ l.length ≤ 6) ∧ (a1 = true → l.length = 1) ∧ RF l 0
theorem implB_j0 (a0 a1 : Bool) (a2 a3 a4 : Int) (l : List Rc) (hl : smallRs l) : Evs (fun k => impl_BatchValid.j0 k a0 a1 a2 a3 a4 l) (fun b => b = true ↔ (1 ≤ l.length ∧ l.length ≤ 6) ∧ (a1 = true → l.length = 1) ∧ RF l 0) := by
  have hr := implRecs_loop l hl a0 a1 a2 a3 a4 l.length 0 (by omega) (by omega)
  refine Evs.succ ?_
  simp only [impl_BatchValid.j0, impl_within_eq, bsome, decide_eq_true_eq]
  by_cases h : 1 ≤ (l.length : Int) ∧ (l.length : Int) ≤ 6
  · simp only [if_pos h]
    cases a1 with
    | true =>
      simp only [if_true]
      refine Evs.succ ?_
      by_cases h1 : l.length = 1
      · simp only [impl_BatchValid.j1, show ((l.length : Int) != 1) = false by rw [h1]; rfl, Bool.false_eq_true, if_false]
        refine hr.mono fun b hb => ?_
        rw [hb]
        exact ⟨fun h2 => ⟨by omega, fun _ => h1, h2⟩, fun h2 => h2.2.2⟩
      · simp only [impl_BatchValid.j1, show ((l.length : Int) != 1) = true by simp; omega, if_true]
        exact Evs.done (by simp only [Bool.false_eq_true, false_iff]; exact fun h2 => h1 (h2.2.1 trivial))
    | false =>
      simp only [Bool.false_eq_true, if_false]
      refine Evs.succ ?_
      simp only [impl_BatchValid.j1, Bool.false_eq_true, if_false]
      refine hr.mono fun b hb => ?_
      rw [hb]
      exact ⟨fun h2 => ⟨by omega, (fun h3 => h3.elim), h2⟩, fun h2 => h2.2.2⟩
  · simp only [if_neg h]
    refine Evs.succ ?_
    simp only [impl_BatchValid.j1, if_true]
    exact Evs.done (by simp only [Bool.false_eq_true, false_iff]; exact fun h2 => h ⟨by have := h2.1.1; omega, by have := h2.1.2; omega⟩)
theorem implB_evs (a0 a1 : Bool) (a2 a3 a4 : Int) (l : List Rc) (hl : smallRs l) : Evs (fun k => impl_BatchValid.f k a0 a1 a2 a3 a4 l) (fun b => b = true ↔ VB a1 a2 a3 a4 l) := by
  have hj := implB_j0 a0 a1 a2 a3 a4 l hl
  unfold impl_BatchValid.f VB
  by_cases h : a2 = 255
  · simp only [if_pos h]
    by_cases h3 : a3 = 0
    · simp only [if_pos h3]
      by_cases h4 : a4 = 0
      · simp only [if_pos h4]
        cases a1 with
        | true =>
          simp only [if_true]
          exact Evs.done (by simp)
        | false =>
          simp only [Bool.false_eq_true, if_false]
          refine hj.mono fun b hb => ?_
          rw [hb]
          exact ⟨fun h2 => ⟨⟨h3, h4, trivial⟩, h2.1, (fun h5 => h5.elim), h2.2.2⟩, fun h2 => ⟨h2.2.1, (fun h5 => by cases h5), h2.2.2.2⟩⟩
      · simp only [if_neg h4]
        exact Evs.done (by simp only [Bool.false_eq_true, false_iff]; exact fun h2 => h4 h2.1.2.1)
    · simp only [if_neg h3]
      exact Evs.done (by simp only [Bool.false_eq_true, false_iff]; exact fun h2 => h3 h2.1.1)
  · simp only [if_neg h, idValid_eqB, impl_within_eq, bsome, decide_eq_true_eq]
    by_cases h2 : 0 ≤ a2 ∧ a2 ≤ 254
    · simp only [if_pos h2]
      by_cases h3 : 0 ≤ a3 ∧ a3 ≤ 99
      · simp only [if_pos h3]
        by_cases h4 : 0 ≤ a4 ∧ a4 ≤ 9999
        · simp only [if_pos h4]
          refine hj.mono fun b hb => ?_
          rw [hb]
          exact ⟨fun h5 => ⟨⟨h2, h3, h4⟩, h5⟩, fun h5 => h5.2⟩
        · simp only [if_neg h4]
          exact Evs.done (by simp only [Bool.false_eq_true, false_iff]; exact fun h5 => h4 h5.1.2.2)
      · simp only [if_neg h3]
        exact Evs.done (by simp only [Bool.false_eq_true, false_iff]; exact fun h5 => h3 h5.1.2.1)
    · simp only [if_neg h2]
      exact Evs.done (by simp only [Bool.false_eq_true, false_iff]; exact fun h5 => h2 h5.1.1)
theorem specB_j0_true (a0 a1 : Bool) (a2 a3 a4 : Int) (l : List Rc) : Evs (fun k => spec_BatchValid.j0 k true a0 a1 a2 a3 a4 l) (fun b => b = false) := by
  refine Evs.succ ?_
  simp only [spec_BatchValid.j0, if_true]
  exact Evs.done rfl
theorem specB_evs (a0 a1 : Bool) (a2 a3 a4 : Int) (l : List Rc) (hl : smallRs l) : Evs (fun k => spec_BatchValid.f k a0 a1 a2 a3 a4 l) (fun b => b = true ↔ VB a1 a2 a3 a4 l) := by
  have hr := specRecs_loop l hl l.length 0 (by omega) (by omega)
  have no : ∀ {P : Prop}, ¬ P → ∀ b : Bool, b = false → (b = true ↔ P) := fun hP b hb => by rw [hb]; simp only [Bool.false_eq_true, false_iff]; exact hP
  unfold spec_BatchValid.f
  unfold spec_l5Records.f
  refine Evs.bind hr ?_
  intro t ht
  by_cases h : t = true
  · obtain ⟨hRF, hl1⟩ := ht.1 h
    simp only [if_pos h, spec_l6In_eq, bsome, decide_eq_true_eq]
    by_cases h2 : 0 ≤ a2 ∧ a2 ≤ 255
    · simp only [if_pos h2]
      by_cases h3 : 0 ≤ a3 ∧ a3 ≤ 99
      · simp only [if_pos h3]
        by_cases h4 : 0 ≤ a4 ∧ a4 ≤ 9999
        · simp only [decide_eq_true h4, Bool.not_true]
          refine Evs.succ ?_
          simp only [spec_BatchValid.j0, Bool.false_eq_true, if_false]
          unfold VB
          by_cases h5 : a2 = 255
          · simp only [if_pos h5]
            by_cases h6 : a3 = 0
            · simp only [if_pos h6]
              by_cases h7 : a4 = 0
              · simp only [if_pos h7]
                refine Evs.done ?_
                cases a1
                · simp; exact ⟨⟨h6, h7⟩, hl1, hRF⟩
                · simp
              · simp only [if_neg h7]
                exact Evs.done (no (fun h8 => h7 h8.1.2.1) _ rfl)
            · simp only [if_neg h6]
              exact Evs.done (no (fun h8 => h6 h8.1.1) _ rfl)
          · simp only [if_neg h5]
            cases a1 with
            | true =>
              simp only [if_true]
              refine Evs.done ?_
              simp only [beq_iff_eq]
              exact ⟨fun h8 => ⟨⟨by omega, h3, h4⟩, hl1, fun _ => by omega, hRF⟩, fun h8 => by have := h8.2.2.1 trivial; omega⟩
            | false =>
              simp only [Bool.false_eq_true, if_false]
              refine Evs.done ?_
              simp only [true_iff]
              exact ⟨⟨by omega, h3, h4⟩, hl1, (fun h8 => h8.elim), hRF⟩
        · simp only [decide_eq_false h4, Bool.not_false]
          refine (specB_j0_true a0 a1 a2 a3 a4 l).mono (no ?_)
          unfold VB
          split
          · rintro ⟨⟨_, h8, _⟩, _⟩
            exact h4 (by omega)
          · exact fun h8 => h4 h8.1.2.2
      · simp only [if_neg h3]
        refine (specB_j0_true a0 a1 a2 a3 a4 l).mono (no ?_)
        unfold VB
        split
        · rintro ⟨⟨h8, _, _⟩, _⟩
          exact h3 (by omega)
        · exact fun h8 => h3 h8.1.2.1
    · simp only [if_neg h2]
      refine (specB_j0_true a0 a1 a2 a3 a4 l).mono (no ?_)
      unfold VB
      split
      · rename_i h8
        exact fun _ => h2 (by omega)
      · exact fun h8 => h2 (by have := h8.1.1; omega)
  · simp only [if_neg h]
    refine (specB_j0_true a0 a1 a2 a3 a4 l).mono (no ?_)
    exact fun h8 => h (ht.2 ⟨h8.2.2.2, h8.2.1⟩)
open Classical in
noncomputable def vb (a1 : Bool) (a2 a3 a4 : Int) (l : List Rc) : Bool := decide (VB a1 a2 a3 a4 l)
theorem vb_iff (a1 : Bool) (a2 a3 a4 : Int) (l : List Rc) : vb a1 a2 a3 a4 l = true ↔ VB a1 a2 a3 a4 l := by unfold vb; simp
theorem implB (a0 a1 : Bool) (a2 a3 a4 : Int) (l : List Rc) (hl : smallRs l) : Ev (fun k => impl_BatchValid.f k a0 a1 a2 a3 a4 l) (vb a1 a2 a3 a4 l) := by
  obtain ⟨b, hb, h⟩ := implB_evs a0 a1 a2 a3 a4 l hl
  rw [show vb a1 a2 a3 a4 l = b by rw [Bool.eq_iff_iff, vb_iff, h]]
  exact hb
theorem specB (a0 a1 : Bool) (a2 a3 a4 : Int) (l : List Rc) (hl : smallRs l) : Ev (fun k => spec_BatchValid.f k a0 a1 a2 a3 a4 l) (vb a1 a2 a3 a4 l) := by
  obtain ⟨b, hb, h⟩ := specB_evs a0 a1 a2 a3 a4 l hl
  rw [show vb a1 a2 a3 a4 l = b by rw [Bool.eq_iff_iff, vb_iff, h]]
  exact hb
end Go.Proofs.Ytkhmopmfbocokaa.Q
namespace Go.Proofs.Ytkhmopmfbocokaa.Q
open Go.RowKit Go.Proofs.Ytkhmopmfbocokaa.T Go.Proofs.YtkhmopmfbocokaaW.PrintWords Go.Proofs.YtkhmopmfbocokaaW.PrintLast
set_option linter.unusedVariables false
set_option linter.unusedSimpArgs false
theorem bytes_of {l : List Int} (h : ∀ x ∈ l, (Lit.int .u8 x).wf = true) : Bytes l := by
  intro x hx
  have := h x hx
  simp [Lit.wf, IntKind.min, IntKind.max, IntKind.signed, IntKind.bits] at this
  omega
theorem open_ev (l : List Int) (h : Bytes l) : ∃ b, spec_l6Open.f l = some (b, 0) ∧ Bytes b ∧ b.length ≤ 2000 := by
  unfold spec_l6Open.f
  by_cases hc : (l.length : Int) > 2000
  · rw [if_pos hc, if_pos (by omega)]
    exact ⟨_, rfl, fun x hx => h x (List.mem_of_mem_take hx), by rw [List.length_take]; omega⟩
  · rw [if_neg hc]
    exact ⟨_, rfl, h, by omega⟩
end Go.Proofs.Ytkhmopmfbocokaa.Q
namespace Go.Proofs.Ytkhmopmfbocokaa.Q
open Go.RowKit Go.Proofs.Ytkhmopmfbocokaa.T Go.Proofs.YtkhmopmfbocokaaW.PrintWords Go.Proofs.YtkhmopmfbocokaaW.PrintLast
set_option linter.unusedVariables false
set_option linter.unusedSimpArgs false
theorem lim2 {n c : Nat} (h : n ≤ 2000) (hc : 2000 < c) : n < c := by omega
theorem part_loop (bs : List Int) (hb : Bytes bs) (hl : bs.length ≤ 2000) : ∀ (d : Nat) (l : List Int) (n i p : Int), n - i ≤ d → 0 ≤ i → (l.length : Int) ≤ i → (l.length : Int) ≤ 12 → n ≤ 12 → 0 ≤ p → p + 2 * d ≤ 900000000 →
    Evs (fun k => spec_l91Part.l0 k l n i bs p) (fun r => r.2.1.length ≤ 12 ∧ p ≤ r.2.2 ∧ r.2.2 ≤ p + 2 * d) := by
  intro d
  induction d with
  | zero =>
    intro l n i p hd hi hll h12 hn h0 h1
    refine Evs.succ ?_
    simp only [spec_l91Part.l0, if_neg (show ¬ i < n by omega)]
    exact Evs.done ⟨by dsimp only; omega, by dsimp only; omega, by dsimp only; omega⟩
  | succ d ih =>
    intro l n i p hd hi hll h12 hn h0 h1
    refine Evs.succ ?_
    by_cases hlt : i < n
    · have e1 : wrap64 (i + 1) = i + 1 := wrap_id (by omega) (by omega)
      simp only [spec_l91Part.l0, if_pos hlt, bsome, e1]
      refine Evs.bind (pick_evs bs p 256 hb hl h0 (by omega) (by omega)) ?_
      rintro ⟨u, _⟩ ⟨u0, u1, rfl⟩
      refine Evs.bind (pick_evs bs (p + 1) 4 hb hl (by omega) (by omega) (by omega)) ?_
      rintro ⟨v, _⟩ ⟨v0, v1, rfl⟩
      simp only [if_pos v0, if_pos (show v < (([1, 2, 3, u] : List Int).length : Int) from v1), if_pos (show l.length < 17592186044416 from lim2 (by omega) (by omega))]
      have h := ih (l ++ [rd [1, 2, 3, u] v]) n (i + 1) (p + 1 + 1) (by omega) (by omega) (by simp; omega) (by simp; omega) hn (by omega) (by omega)
      exact h.mono (fun r hr => ⟨hr.1, by have := hr.2.1; omega, by have := hr.2.2; omega⟩)
    · simp only [spec_l91Part.l0, if_neg hlt]
      exact Evs.done ⟨by dsimp only; omega, by dsimp only; omega, by dsimp only; omega⟩
theorem part_evs (bs : List Int) (hb : Bytes bs) (hl : bs.length ≤ 2000) (p : Int) (h0 : 0 ≤ p) (h1 : p ≤ 800000000) : Evs (fun k => spec_l91Part.f k bs p) (fun r => r.2.1.length ≤ 12 ∧ p ≤ r.2.2 ∧ r.2.2 ≤ p + 30) := by
  unfold spec_l91Part.f
  refine Evs.bind (pick_evs bs p 4 hb hl h0 (by omega) (by omega)) ?_
  rintro ⟨u, _⟩ ⟨u0, u1, rfl⟩
  by_cases hu : u = 0
  · simp only [if_pos hu]
    exact Evs.done ⟨by simp, by dsimp only; omega, by dsimp only; omega⟩
  · simp only [if_neg hu, bsome]
    refine Evs.bind (pick_evs bs (p + 1) 5 hb hl (by omega) (by omega) (by omega)) ?_
    rintro ⟨v, _⟩ ⟨v0, v1, rfl⟩
    refine Evs.bind (pick_evs bs (p + 1 + 1) 12 hb hl (by omega) (by omega) (by omega)) ?_
    rintro ⟨x, _⟩ ⟨x0, x1, rfl⟩
    by_cases hx : x = 0
    · simp only [if_pos hx]
      refine Evs.succ ?_
      simp only [spec_l91Part.j0]
      have h := part_loop bs hb hl 12 [] 12 0 (p + 1 + 1 + 1) (by omega) (by omega) (by simp) (by simp) (by omega) (by omega) (by omega)
      exact h.mono (fun r hr => ⟨hr.1, by have := hr.2.1; omega, by have := hr.2.2; omega⟩)
    · simp only [if_neg hx]
      refine Evs.succ ?_
      simp only [spec_l91Part.j0]
      have h := part_loop bs hb hl 12 [] v 0 (p + 1 + 1 + 1) (by omega) (by omega) (by simp) (by simp) (by omega) (by omega) (by omega)
      exact h.mono (fun r hr => ⟨hr.1, by have := hr.2.1; omega, by have := hr.2.2; omega⟩)
def drawnR (n : Nat) (l : List Rc) : Prop := l.length ≤ n ∧ ∀ r ∈ l, r.f3.length ≤ 12 ∧ r.f5.length ≤ 12
theorem drawnR_small {n : Nat} (hn : n ≤ 100000) {l : List Rc} (h : drawnR n l) : smallRs l := ⟨by have := h.1; omega, fun r hr => ⟨by have := (h.2 r hr).1; omega, by have := (h.2 r hr).2; omega⟩⟩
theorem drawnR_add {n : Nat} {l : List Rc} (h : drawnR n l) {r : Rc} (h3 : r.f3.length ≤ 12) (h5 : r.f5.length ≤ 12) : drawnR (n + 1) (l ++ [r]) := by
  refine ⟨by have := h.1; simp; omega, fun x hx => ?_⟩
  rcases List.mem_append.1 hx with hx | hx
  · exact h.2 x hx
  · rw [List.mem_singleton.1 hx]
    exact ⟨h3, h5⟩
theorem drawnR_mono {n m : Nat} {l : List Rc} (h : drawnR n l) (hm : n ≤ m) : drawnR m l := ⟨by have := h.1; omega, h.2⟩
theorem recs_loop (bs : List Int) (hb : Bytes bs) (hl : bs.length ≤ 2000) (n : Int) (hn : n ≤ 100) : ∀ (d : Nat) (o : Int) (l : List Rc) (t i p : Int), n - i ≤ d → 0 ≤ i → drawnR i.toNat l → (0 < i → 0 < l.length) → 0 ≤ p → p + 70 * d ≤ 700000000 →
    Evs (fun k => spec_l91Records.l0 k o l n t i bs p) (fun r => drawnR (max i n).toNat r.1 ∧ (0 < max i n → 0 < r.1.length) ∧ p ≤ r.2 ∧ r.2 ≤ p + 70 * d) := by
  intro d
  induction d with
  | zero =>
    intro o l t i p hd hi hll hpos h0 h1
    refine Evs.succ ?_
    simp only [spec_l91Records.l0, if_neg (show ¬ i < n by omega)]
    exact Evs.done ⟨by dsimp only; exact drawnR_mono hll (by omega), by dsimp only; intro h; exact hpos (by omega), by dsimp only; omega, by dsimp only; omega⟩
  | succ d ih =>
    intro o l t i p hd hi hll hpos h0 h1
    refine Evs.succ ?_
    by_cases hlt : i < n
    · have e1 : wrap64 (i + 1) = i + 1 := wrap_id (by omega) (by omega)
      have hlen := hll.1
      simp only [spec_l91Records.l0, if_pos hlt]
      refine Evs.bind (part_evs bs hb hl p h0 (by omega)) ?_
      rintro ⟨kh, kl, p1⟩ ⟨hk, q0, q1⟩
      dsimp only at hk q0 q1 ⊢
      refine Evs.bind (part_evs bs hb hl p1 (by omega) (by omega)) ?_
      rintro ⟨vh, vl, p2⟩ ⟨hv, q2, q3⟩
      dsimp only at hv q2 q3 ⊢
      have main : ∀ (c : Bool) (q : Int), 0 ≤ q → p ≤ q → q ≤ p2 + 1 → Evs (fun k => spec_l91Records.j1 k o l n t i vh vl c bs q o t kh kl false) (fun r => drawnR (max i n).toNat r.1 ∧ (0 < max i n → 0 < r.1.length) ∧ p ≤ r.2 ∧ r.2 ≤ p + 70 * (d + 1 : Nat)) := by
        intro c q hq0 hq1 hq2
        refine Evs.succ ?_
        have hlim : l.length < 1759218604441 := lim2 (by omega) (by omega)
        cases c with
        | true =>
          simp only [spec_l91Records.j1, if_true, if_pos hlim, e1]
          refine Evs.bind (pick_evs bs q 3 hb hl (by omega) (by omega) (by omega)) ?_
          rintro ⟨u, _⟩ ⟨u0, u1, rfl⟩
          refine Evs.bind (pick_evs bs (q + 1) 5 hb hl (by omega) (by omega) (by omega)) ?_
          rintro ⟨v, _⟩ ⟨v0, v1, rfl⟩
          refine Evs.bind (pick_evs bs (q + 1 + 1) 30 hb hl (by omega) (by omega) (by omega)) ?_
          rintro ⟨x, _⟩ ⟨x0, x1, rfl⟩
          have h := ih (wrap64 (wrap64 (o + 1) + wrap64 (Int.tdiv v 4))) (l ++ [⟨o, t, kh, [u], vh, vl⟩]) (mx (wrap64 (wrap64 (t + x) - 6)) 0) (i + 1) (q + 1 + 1 + 1) (by omega) (by omega) (drawnR_mono (drawnR_add hll (by simp) hv) (by omega)) (fun _ => by simp) (by omega) (by omega)
          rw [show max (i + 1) n = max i n by omega] at h
          exact h.mono (fun r hr => ⟨hr.1, hr.2.1, by have := hr.2.2.1; omega, by have := hr.2.2.2; omega⟩)
        | false =>
          simp only [spec_l91Records.j1, Bool.false_eq_true, if_false, if_pos hlim, e1]
          refine Evs.bind (pick_evs bs q 5 hb hl (by omega) (by omega) (by omega)) ?_
          rintro ⟨v, _⟩ ⟨v0, v1, rfl⟩
          refine Evs.bind (pick_evs bs (q + 1) 30 hb hl (by omega) (by omega) (by omega)) ?_
          rintro ⟨x, _⟩ ⟨x0, x1, rfl⟩
          have h := ih (wrap64 (wrap64 (o + 1) + wrap64 (Int.tdiv v 4))) (l ++ [⟨o, t, kh, kl, vh, vl⟩]) (mx (wrap64 (wrap64 (t + x) - 6)) 0) (i + 1) (q + 1 + 1) (by omega) (by omega) (drawnR_mono (drawnR_add hll hk hv) (by omega)) (fun _ => by simp) (by omega) (by omega)
          rw [show max (i + 1) n = max i n by omega] at h
          exact h.mono (fun r hr => ⟨hr.1, hr.2.1, by have := hr.2.2.1; omega, by have := hr.2.2.2; omega⟩)
      by_cases hkh : kh = true
      · simp only [if_pos hkh]
        refine Evs.bind (pick_evs bs p2 2 hb hl (by omega) (by omega) (by omega)) ?_
        rintro ⟨u, _⟩ ⟨u0, u1, rfl⟩
        exact main (u == 0) (p2 + 1) (by omega) (by omega) (by omega)
      · simp only [if_neg hkh]
        exact main false p2 (by omega) (by omega) (by omega)
    · simp only [spec_l91Records.l0, if_neg hlt]
      exact Evs.done ⟨by dsimp only; exact drawnR_mono hll (by omega), by dsimp only; intro h; exact hpos (by omega), by dsimp only; omega, by dsimp only; omega⟩
theorem recs_evs (bs : List Int) (hb : Bytes bs) (hl : bs.length ≤ 2000) (p o m : Int) (h0 : 0 ≤ p) (h1 : p ≤ 600000000) (hm : 1 ≤ m) (hm2 : m ≤ 10) : Evs (fun k => spec_l91Records.f k bs p o m) (fun r => drawnR m.toNat r.1 ∧ 0 < r.1.length ∧ p ≤ r.2 ∧ r.2 ≤ p + 800) := by
  unfold spec_l91Records.f
  refine Evs.bind (pick_evs bs p m hb hl h0 (by omega) hm) ?_
  rintro ⟨u, _⟩ ⟨u0, u1, rfl⟩
  refine Evs.bind (pick_evs bs (p + 1) 200 hb hl (by omega) (by omega) (by omega)) ?_
  rintro ⟨v, _⟩ ⟨v0, v1, rfl⟩
  simp only [show wrap64 (1 + u) = 1 + u from wrap_id (by omega) (by omega)]
  have h := recs_loop bs hb hl (1 + u) (by omega) 10 o [] v 0 (p + 1 + 1) (by omega) (by omega) ⟨by simp, fun r hr => by cases hr⟩ (fun h => by omega) (by omega) (by omega)
  exact h.mono (fun r hr => ⟨drawnR_mono hr.1 (by omega), hr.2.1 (by omega), by have := hr.2.2.1; omega, by have := hr.2.2.2; omega⟩)
def drawnB (p : Int) (c : Int) (r : Bool × Bool × Int × Int × Int × List Rc × Int) : Prop := drawnR 5 r.2.2.2.2.2.1 ∧ 0 < r.2.2.2.2.2.1.length ∧ p ≤ r.2.2.2.2.2.2 ∧ r.2.2.2.2.2.2 ≤ p + c ∧ 0 ≤ r.2.2.1
theorem batch_j0 (bs : List Int) (hb : Bytes bs) (hl : bs.length ≤ 2000) (p : Int) (h0 : 0 ≤ p) (h1 : p ≤ 600000000) (a0 a1 : Bool) (a2 a3 a4 : Int) (l : List Rc) (hd : drawnR 4 l) (hpos : 0 < l.length) (ha2 : 0 ≤ a2) : Evs (fun k => spec_l91Batch.j0 k bs p a0 a1 a2 a3 a4 l) (drawnB p 2) := by
  have hlen := hd.1
  refine Evs.succ ?_
  simp only [spec_l91Batch.j0]
  refine Evs.bind (pick_evs bs p 40 hb hl h0 (by omega) (by omega)) ?_
  rintro ⟨u, _⟩ ⟨u0, u1, rfl⟩
  by_cases hu : u = 0
  · simp only [if_pos hu, bsome]
    refine Evs.bind (pick_evs bs (p + 1) 3 hb hl (by omega) (by omega) (by omega)) ?_
    rintro ⟨v, _⟩ ⟨v0, v1, rfl⟩
    simp only [if_pos v0, if_pos (show v < (([(-1), 1, 100] : List Int).length : Int) from v1)]
    exact Evs.done ⟨drawnR_mono hd (by omega), hpos, by dsimp only; omega, by dsimp only; omega, ha2⟩
  · simp only [if_neg hu]
    by_cases hu1 : u = 1
    · simp only [if_pos hu1, if_pos (show 0 < (l.length : Int) by omega), if_pos (show l.length < 1759218604441 from lim2 (by omega) (by omega))]
      have h0m : rd_T79 l 0 ∈ l := by
        show rr l ((0 : Nat) : Int) ∈ l
        rw [rr_nat l 0 hpos]
        exact List.getElem_mem hpos
      exact Evs.done ⟨drawnR_add hd (hd.2 _ h0m).1 (hd.2 _ h0m).2, by simp, by dsimp only; omega, by dsimp only; omega, ha2⟩
    · simp only [if_neg hu1]
      by_cases hu2 : u = 2
      · simp only [if_pos hu2]
        exact Evs.done ⟨drawnR_mono hd (by omega), hpos, by dsimp only; omega, by dsimp only; omega, ha2⟩
      · simp only [if_neg hu2]
        exact Evs.done ⟨drawnR_mono hd (by omega), hpos, by dsimp only; omega, by dsimp only; omega, ha2⟩
theorem drawnB_mono {p q c c' : Int} {r : Bool × Bool × Int × Int × Int × List Rc × Int} (h : drawnB p c r) (h1 : q ≤ p) (h2 : p + c ≤ q + c') : drawnB q c' r := ⟨h.1, h.2.1, by have := h.2.2.1; omega, by have := h.2.2.2.1; omega, h.2.2.2.2⟩
theorem batch_evs (bs : List Int) (hb : Bytes bs) (hl : bs.length ≤ 2000) (p o : Int) (h0 : 0 ≤ p) (h1 : p ≤ 500000000) : Evs (fun k => spec_l91Batch.f k bs p o) (drawnB p 900) := by
  unfold spec_l91Batch.f
  refine Evs.bind (pick_evs bs p 2 hb hl h0 (by omega) (by omega)) ?_
  rintro ⟨u, _⟩ ⟨u0, u1, rfl⟩
  refine Evs.bind (recs_evs bs hb hl (p + 1) o 4 (by omega) (by omega) (by omega) (by omega)) ?_
  rintro ⟨l, q⟩ ⟨hd, hpos, q0, q1⟩
  dsimp only at hd hpos q0 q1 ⊢
  refine Evs.bind (pick_evs bs q 3 hb hl (by omega) (by omega) (by omega)) ?_
  rintro ⟨v, _⟩ ⟨v0, v1, rfl⟩
  by_cases hv : v = 0
  · simp only [if_pos hv]
    refine Evs.bind (pick_evs bs (q + 1) 3 hb hl (by omega) (by omega) (by omega)) ?_
    rintro ⟨x, _⟩ ⟨x0, x1, rfl⟩
    refine Evs.bind (pick_evs bs (q + 1 + 1) 3 hb hl (by omega) (by omega) (by omega)) ?_
    rintro ⟨y, _⟩ ⟨y0, y1, rfl⟩
    refine Evs.bind (pick_evs bs (q + 1 + 1 + 1) 5 hb hl (by omega) (by omega) (by omega)) ?_
    rintro ⟨z, _⟩ ⟨z0, z1, rfl⟩
    refine Evs.bind (pick_evs bs (q + 1 + 1 + 1 + 1) 3 hb hl (by omega) (by omega) (by omega)) ?_
    rintro ⟨s, _⟩ ⟨s0, s1, rfl⟩
    by_cases hs : s = 0
    · simp only [if_pos hs]
      refine Evs.bind (pick_evs bs (q + 1 + 1 + 1 + 1 + 1) 200 hb hl (by omega) (by omega) (by omega)) ?_
      rintro ⟨t, _⟩ ⟨t0, t1, rfl⟩
      refine Evs.bind (pick_evs bs (q + 1 + 1 + 1 + 1 + 1 + 1) 2 hb hl (by omega) (by omega) (by omega)) ?_
      rintro ⟨e, _⟩ ⟨e0, e1, rfl⟩
      refine (batch_j0 bs hb hl _ (by omega) (by omega) _ _ _ _ _ _ ⟨by simp, fun r hr => ?_⟩ (by simp) x0).mono (fun r hr => drawnB_mono hr (by omega) (by omega))
      rw [List.mem_singleton.1 hr]
      exact ⟨by simp, by simp⟩
    · simp only [if_neg hs]
      exact (batch_j0 bs hb hl _ (by omega) (by omega) _ _ _ _ _ _ hd hpos (by omega)).mono (fun r hr => drawnB_mono hr (by omega) (by omega))
  · simp only [if_neg hv]
    exact (batch_j0 bs hb hl _ (by omega) (by omega) _ _ _ _ _ _ hd hpos (by omega)).mono (fun r hr => drawnB_mono hr (by omega) (by omega))
end Go.Proofs.Ytkhmopmfbocokaa.Q
namespace Go.Proofs.Ytkhmopmfbocokaa.Q
set_option linter.unusedVariables false
set_option linter.unusedSimpArgs false
theorem pairwise_of_next {α : Type} {R : α → α → Prop} (tr : ∀ a b c, R a b → R b c → R a c) {l : List α} (h : ∀ j (h : j + 1 < l.length), R (l[j]'(by omega)) l[j + 1]) : l.Pairwise R := by
  rw [List.pairwise_iff_getElem]
  intro i j hi hj hij
  obtain ⟨d, rfl⟩ : ∃ d, j = i + 1 + d := ⟨j - i - 1, by omega⟩
  clear hij
  induction d with
  | zero => exact h i (by omega)
  | succ d ih => exact tr _ _ _ (ih (by omega)) (h (i + 1 + d) (by omega))
theorem next_of_pairwise {α : Type} {R : α → α → Prop} {l : List α} (h : l.Pairwise R) (j : Nat) (hj : j + 1 < l.length) : R (l[j]'(by omega)) l[j + 1] :=
  List.pairwise_iff_getElem.1 h j (j + 1) (by omega) hj (by omega)
end Go.Proofs.Ytkhmopmfbocokaa.Q
namespace Go.Proofs.Ytkhmopmfbocokaa.Q
open Go.RowKit Go.Proofs.Ytkhmopmfbocokaa.T Go.Proofs.YtkhmopmfbocokaaW.PrintWords Go.Proofs.YtkhmopmfbocokaaW.PrintLast
set_option linter.unusedVariables false
set_option linter.unusedSimpArgs false
abbrev Pr := S39
abbrev rp (l : List Pr) (i : Int) : Pr := rd_T39 l i
theorem rp_nat (l : List Pr) (j : Nat) (h : j < l.length) : rp l (j : Int) = l[j] := by
  unfold rp rd_T39
  rw [Int.toNat_natCast, List.getD_eq_getElem?_getD, List.getElem?_eq_getElem h]
  rfl
theorem Pr_ext {a b : Pr} (h0 : a.f0 = b.f0) (h1 : a.f1 = b.f1) (h2 : a.f2 = b.f2) : a = b := by
  cases a
  cases b
  simp at h0 h1 h2
  rw [h0, h1, h2]
instance : DecidableEq Pr := fun a b => decidable_of_iff (a.f0 = b.f0 ∧ a.f1 = b.f1 ∧ a.f2 = b.f2) ⟨fun h => Pr_ext h.1 h.2.1 h.2.2, fun h => by rw [h]; exact ⟨rfl, rfl, rfl⟩⟩
theorem drop_atP {l : List Pr} {i : Nat} (h : i < l.length) : l.drop i = rp l i :: l.drop (i + 1) := by
  rw [List.drop_eq_getElem_cons h, rp_nat l i h]
def okP (t : Pr) : Prop := (0 ≤ t.f0 ∧ t.f0 ≤ 254) ∧ (0 ≤ t.f1 ∧ t.f1 ≤ 99) ∧ (0 ≤ t.f2 ∧ t.f2 ≤ 99999)
def ltP (a b : Pr) : Prop := a.f0 < b.f0
def PF (l : List Pr) (i : Nat) : Prop := ∀ j, i ≤ j → j < l.length → okP (rp l j) ∧ (0 < j → ltP (rp l ((j : Int) - 1)) (rp l j))
def VP (l : List Pr) : Prop := l.length ≤ 20 ∧ PF l 0
open Classical in
noncomputable def vp (l : List Pr) : Bool := decide (VP l)
theorem vp_iff (l : List Pr) : vp l = true ↔ VP l := by unfold vp; simp
theorem prodsAll_vp (l : List Pr) : prodsAll l = vp l := by
  rw [Bool.eq_iff_iff, vp_iff]
  unfold prodsAll VP PF
  rw [Bool.and_eq_true, decide_eq_true_eq, decide_eq_true_eq]
  refine ⟨fun h => ⟨h.1, fun j _ hj => ?_⟩, fun h => ⟨h.1, fun j hj => ?_⟩⟩
  · have := h.2 j hj
    unfold prodAt at this
    rw [decide_eq_true_eq] at this
    exact this
  · unfold prodAt
    rw [decide_eq_true_eq]
    exact h.2 j (Nat.zero_le _) hj
theorem implPValid (l : List Pr) (hl : l.length ≤ 1000000000000) : Ev (fun k => impl_ProducersValid.f k l) (vp l) := by
  unfold impl_ProducersValid.f
  rw [prodsAll_vp]
  exact ev_some _
theorem specPValid (l : List Pr) (hl : l.length ≤ 1000000000000) : Ev (fun k => spec_ProducersValid.f k l) (vp l) := by
  unfold spec_ProducersValid.f
  rw [prodsAll_vp]
  exact ev_some _
theorem ltP_trans {a b c : Pr} (h : ltP a b) (h' : ltP b c) : ltP a c := Int.lt_trans h h'
theorem VP_iff (l : List Pr) : VP l ↔ l.length ≤ 20 ∧ (∀ t ∈ l, okP t) ∧ l.Pairwise ltP := by
  constructor
  · rintro ⟨h8, hv⟩
    refine ⟨h8, ?_, pairwise_of_next (R := ltP) (fun _ _ _ => ltP_trans) ?_⟩
    · intro t ht
      obtain ⟨j, hj, rfl⟩ := List.getElem_of_mem ht
      have := (hv j (Nat.zero_le _) hj).1
      rwa [rp_nat l j hj] at this
    · intro j hj
      have := (hv (j + 1) (Nat.zero_le _) hj).2 (by omega)
      rw [rp_nat l (j + 1) hj] at this
      rw [show ((j + 1 : Nat) : Int) - 1 = (j : Int) by omega, rp_nat l j (by omega)] at this
      exact this
  · rintro ⟨h8, hok, hp⟩
    refine ⟨h8, fun j _ hj => ⟨?_, fun h0 => ?_⟩⟩
    · rw [rp_nat l j hj]
      exact hok _ (List.getElem_mem hj)
    · obtain ⟨i, rfl⟩ : ∃ i, j = i + 1 := ⟨j - 1, by omega⟩
      rw [rp_nat l (i + 1) hj, show ((i + 1 : Nat) : Int) - 1 = (i : Int) by omega, rp_nat l i (by omega)]
      exact next_of_pairwise hp i hj
end Go.Proofs.Ytkhmopmfbocokaa.Q
namespace Go.Proofs.Ytkhmopmfbocokaa.Q
open Go.RowKit Go.Proofs.Ytkhmopmfbocokaa.T Go.Proofs.YtkhmopmfbocokaaW.PrintWords Go.Proofs.YtkhmopmfbocokaaW.PrintLast
set_option linter.unusedVariables false
set_option linter.unusedSimpArgs false
theorem lim {n c : Nat} (h : n ≤ 2000) (hc : 2000 < c) : n < c := by omega
theorem prods_end (bs : List Int) (hb : Bytes bs) (hl : bs.length ≤ 2000) (l : List Pr) (h4 : l.length ≤ 4) (f : Bool) (hf : f = true → 0 < l.length) (p : Int) (h0 : 0 ≤ p) (h1 : p ≤ 2000000) :
    Evs (fun k => spec_l92Producers.j1 k l f bs p) (fun r => r.1.length ≤ 4 ∧ p ≤ r.2 ∧ r.2 ≤ p + 2) := by
  refine Evs.succ ?_
  cases f with
  | false =>
    simp only [spec_l92Producers.j1, Bool.false_eq_true, if_false]
    exact Evs.done ⟨h4, by dsimp only; omega, by dsimp only; omega⟩
  | true =>
    have hpos := hf rfl
    simp only [spec_l92Producers.j1, if_true, bsome]
    refine Evs.bind (pick_evs bs p (l.length : Int) hb hl h0 (by omega) (by omega)) ?_
    rintro ⟨v, _⟩ ⟨v0, v1, rfl⟩
    refine Evs.bind (pick_evs bs (p + 1) 2 hb hl (by omega) (by omega) (by omega)) ?_
    rintro ⟨u, _⟩ ⟨u0, u1, rfl⟩
    simp only [if_pos u0, if_pos (show u < (([(-1), 100] : List Int).length : Int) from u1), if_pos v0, if_pos v1]
    exact Evs.done ⟨by dsimp only; rw [List.length_set]; exact h4, by dsimp only; omega, by dsimp only; omega⟩
theorem prods_loop (bs : List Int) (hb : Bytes bs) (hl : bs.length ≤ 2000) : ∀ (d : Nat) (l : List Pr) (i p : Int), 4 - i = d → 0 ≤ i → (l.length : Int) ≤ i → 0 ≤ p → p + 3 * d ≤ 1000000 →
    Evs (fun k => spec_l92Producers.l0 k l i bs p) (fun r => r.1.length ≤ 4 ∧ p ≤ r.2 ∧ r.2 ≤ p + 3 * d + 3) := by
  intro d
  induction d with
  | zero =>
    intro l i p hd hi hll h0 h1
    refine Evs.succ ?_
    simp only [spec_l92Producers.l0, if_neg (show ¬ i < 4 by omega)]
    by_cases hz : (l.length : Int) > 0
    · simp only [if_pos hz]
      refine Evs.bind (pick_evs bs p 24 hb hl h0 (by omega) (by omega)) ?_
      rintro ⟨v, _⟩ ⟨v0, v1, rfl⟩
      have h := prods_end bs hb hl l (by omega) (v == 0) (fun _ => by omega) (p + 1) (by omega) (by omega)
      exact h.mono (fun r hr => ⟨hr.1, by have := hr.2.1; omega, by have := hr.2.2; omega⟩)
    · simp only [if_neg hz]
      have h := prods_end bs hb hl l (by omega) false (fun h => by cases h) p (by omega) (by omega)
      exact h.mono (fun r hr => ⟨hr.1, by have := hr.2.1; omega, by have := hr.2.2; omega⟩)
  | succ d ih =>
    intro l i p hd hi hll h0 h1
    have e1 : wrap64 (i + 1) = i + 1 := wrap_id (by omega) (by omega)
    refine Evs.succ ?_
    simp only [spec_l92Producers.l0, if_pos (show i < 4 by omega), e1]
    refine Evs.bind (pick_evs bs p 3 hb hl h0 (by omega) (by omega)) ?_
    rintro ⟨v, _⟩ ⟨v0, v1, rfl⟩
    by_cases hv : v > 0
    · simp only [if_pos hv]
      refine Evs.bind (pick_evs bs (p + 1) 3 hb hl (by omega) (by omega) (by omega)) ?_
      rintro ⟨u, _⟩ ⟨u0, u1, rfl⟩
      refine Evs.bind (pick_evs bs (p + 1 + 1) 6 hb hl (by omega) (by omega) (by omega)) ?_
      rintro ⟨x, _⟩ ⟨x0, x1, rfl⟩
      simp only [if_pos (show l.length < 5864062014805 from lim (by omega) (by omega))]
      have h := ih (l ++ [⟨i, u, x⟩]) (i + 1) (p + 1 + 1 + 1) (by omega) (by omega) (by simp; omega) (by omega) (by omega)
      exact h.mono (fun r hr => ⟨hr.1, by have := hr.2.1; omega, by have := hr.2.2; omega⟩)
    · simp only [if_neg hv]
      have h := ih l (i + 1) (p + 1) (by omega) (by omega) (by omega) (by omega) (by omega)
      exact h.mono (fun r hr => ⟨hr.1, by have := hr.2.1; omega, by have := hr.2.2; omega⟩)
theorem prods_evs (bs : List Int) (hb : Bytes bs) (hl : bs.length ≤ 2000) (p : Int) (h0 : 0 ≤ p) (h1 : p ≤ 900000) : Evs (fun k => spec_l92Producers.f k bs p) (fun r => r.1.length ≤ 4 ∧ p ≤ r.2 ∧ r.2 ≤ p + 15) := by
  unfold spec_l92Producers.f
  have h := prods_loop bs hb hl 4 [] 0 p (by omega) (by omega) (by simp) h0 (by omega)
  refine Evs.mono h (fun r hr => ?_)
  exact ⟨hr.1, hr.2.1, by have := hr.2.2; omega⟩
end Go.Proofs.Ytkhmopmfbocokaa.Q
namespace Go.Proofs.Ytkhmopmfbocokaa.Q
open Go.RowKit Go.Proofs.Ytkhmopmfbocokaa.T Go.Proofs.YtkhmopmfbocokaaW.PrintWords Go.Proofs.YtkhmopmfbocokaaW.PrintLast
set_option linter.unusedVariables false
set_option linter.unusedSimpArgs false
def drawnN (r : List Pr × Bool × Bool × Int × Int × Int × List Rc × Int) : Prop := r.1.length ≤ 4 ∧ drawnR 5 r.2.2.2.2.2.2.1
theorem numbered_evs (bs : List Int) (hb : Bytes bs) (hl : bs.length ≤ 2000) (p : Int) (h0 : 0 ≤ p) (h1 : p ≤ 100000) : Evs (fun k => spec_l92Numbered.f k bs p) drawnN := by
  unfold spec_l92Numbered.f
  refine Evs.bind (prods_evs bs hb hl p h0 (by omega)) ?_
  rintro ⟨l, q⟩ ⟨h4, q0, q1⟩
  dsimp only at h4 q0 q1 ⊢
  refine Evs.bind (pick_evs bs q 40 hb hl (by omega) (by omega) (by omega)) ?_
  rintro ⟨u, _⟩ ⟨u0, u1, rfl⟩
  refine Evs.bind (batch_evs bs hb hl (q + 1) u (by omega) (by omega)) ?_
  rintro ⟨b0, b1, b2, b3, b4, rs, p2⟩ ⟨hd, hpos, p0, p1, _⟩
  dsimp only at hd hpos p0 p1 ⊢
  by_cases hz : (l.length : Int) > 0
  · simp only [if_pos hz]
    refine Evs.bind (pick_evs bs p2 4 hb hl (by omega) (by omega) (by omega)) ?_
    rintro ⟨v, _⟩ ⟨v0, v1, rfl⟩
    refine Evs.succ ?_
    by_cases hv : v > 0
    · simp only [spec_l92Numbered.j0, decide_eq_true hv, if_true]
      refine Evs.bind (pick_evs bs (p2 + 1) (l.length : Int) hb hl (by omega) (by omega) (by omega)) ?_
      rintro ⟨x, _⟩ ⟨x0, x1, rfl⟩
      simp only [if_pos x0, if_pos x1]
      refine Evs.bind (pick_evs bs (p2 + 1 + 1) 6 hb hl (by omega) (by omega) (by omega)) ?_
      rintro ⟨y, _⟩ ⟨y0, y1, rfl⟩
      by_cases hy : y = 0
      · simp only [if_pos hy]
        refine Evs.bind (pick_evs bs (p2 + 1 + 1 + 1) 5 hb hl (by omega) (by omega) (by omega)) ?_
        rintro ⟨z, _⟩ ⟨z0, z1, rfl⟩
        exact Evs.done ⟨h4, hd⟩
      · simp only [if_neg hy]
        by_cases hy1 : y = 1
        · simp only [if_pos hy1]
          refine Evs.bind (pick_evs bs (p2 + 1 + 1 + 1) 3 hb hl (by omega) (by omega) (by omega)) ?_
          rintro ⟨z, _⟩ ⟨z0, z1, rfl⟩
          refine Evs.bind (pick_evs bs (p2 + 1 + 1 + 1 + 1) 2 hb hl (by omega) (by omega) (by omega)) ?_
          rintro ⟨s, _⟩ ⟨s0, s1, rfl⟩
          exact Evs.done ⟨h4, hd⟩
        · simp only [if_neg hy1]
          exact Evs.done ⟨h4, hd⟩
    · simp only [spec_l92Numbered.j0, decide_eq_false hv, Bool.false_eq_true, if_false]
      exact Evs.done ⟨h4, hd⟩
  · simp only [if_neg hz]
    refine Evs.succ ?_
    simp only [spec_l92Numbered.j0, Bool.false_eq_true, if_false]
    exact Evs.done ⟨h4, hd⟩
end Go.Proofs.Ytkhmopmfbocokaa.Q
namespace Go.Proofs.Ytkhmopmfbocokaa.Q
open Go.RowKit Go.Proofs.Ytkhmopmfbocokaa.T Go.Proofs.YtkhmopmfbocokaaW.PrintWords Go.Proofs.YtkhmopmfbocokaaW.PrintLast
set_option linter.unusedVariables false
set_option linter.unusedSimpArgs false
def drawnC (r : List Pr × Bool × Bool × Int × Int × Int × List Rc) : Prop := r.1.length ≤ 4 ∧ smallRs r.2.2.2.2.2.2
theorem drawCheck {l0 : List Int} (hb : Bytes l0) : Evs (fun k => spec_DrawProducersCheck.f k l0) drawnC := by
  obtain ⟨b, ho, hb2, hbl⟩ := open_ev l0 hb
  unfold spec_DrawProducersCheck.f
  simp only [ho, bsome]
  refine Evs.bind (numbered_evs b hb2 hbl 0 (by omega) (by omega)) ?_
  rintro r ⟨h4, hd⟩
  exact Evs.done ⟨h4, drawnR_small (by omega) hd⟩
theorem drawPutP {l0 : List Int} (hb : Bytes l0) : Evs (fun k => spec_DrawProducersPut.f k l0) drawnC := by
  obtain ⟨b, ho, hb2, hbl⟩ := open_ev l0 hb
  unfold spec_DrawProducersPut.f
  simp only [ho, bsome]
  refine Evs.bind (numbered_evs b hb2 hbl 0 (by omega) (by omega)) ?_
  rintro r ⟨h4, hd⟩
  exact Evs.done ⟨h4, drawnR_small (by omega) hd⟩
end Go.Proofs.Ytkhmopmfbocokaa.Q
namespace Go.Proofs.Ytkhmopmfbocokaa.Q
open Go.RowKit Go.Proofs.Ytkhmopmfbocokaa.T Go.Proofs.YtkhmopmfbocokaaW.PrintWords Go.Proofs.YtkhmopmfbocokaaW.PrintLast
set_option linter.unusedVariables false
set_option linter.unusedSimpArgs false
theorem VP_mem {l : List Pr} (h : VP l) : ∀ t ∈ l, okP t := ((VP_iff l).1 h).2.1
theorem VP_sorted {l : List Pr} (h : VP l) : l.Pairwise ltP := ((VP_iff l).1 h).2.2
theorem VP_ids {l : List Pr} (h : VP l) : idsOk l = true := by
  unfold idsOk
  rw [List.all_eq_true]
  intro t ht
  have := (VP_mem h t ht).1
  simp
  omega
theorem VB_prod {a1 : Bool} {a2 a3 a4 : Int} {rs : List Rc} (h : VB a1 a2 a3 a4 rs) : 0 ≤ a2 ∧ a2 ≤ 255 := by
  have := h.1
  split at this
  · omega
  · omega
theorem prodOk_of {l : List Pr} (h : VP l) {a1 : Bool} {a2 a3 a4 : Int} {rs : List Rc} (hb : VB a1 a2 a3 a4 rs) : prodOk l a2 = true := by
  have := VB_prod hb
  unfold prodOk
  rw [VP_ids h]
  simp
  omega
def slotOf (t : Pr) : SlotV := ⟨true, t.f0, t.f1, t.f2⟩
theorem fold_not : ∀ (l : List Pr) (f : Nat → SlotV) (i : Nat), (∀ t ∈ l, t.f0.toNat ≠ i) → l.foldl slotPut f i = f i
  | [], f, i, h => rfl
  | a :: l, f, i, h => by
    rw [List.foldl_cons, fold_not l (slotPut f a) i (fun t ht => h t (List.mem_cons_of_mem _ ht))]
    unfold slotPut
    rw [if_neg (fun e => h a List.mem_cons_self e.symm)]
theorem fold_mem : ∀ (l : List Pr) (f : Nat → SlotV), l.Pairwise ltP → (∀ t ∈ l, 0 ≤ t.f0) → ∀ t ∈ l, l.foldl slotPut f t.f0.toNat = slotOf t
  | [], f, hs, h0, t, ht => by cases ht
  | a :: l, f, hs, h0, t, ht => by
    rw [List.foldl_cons]
    rw [List.pairwise_cons] at hs
    rcases List.mem_cons.1 ht with rfl | ht
    · rw [fold_not l _ _ (fun s hs' => by
        have h1 := hs.1 s hs'
        have h2 := h0 s (List.mem_cons_of_mem _ hs')
        have h3 := h0 t List.mem_cons_self
        unfold ltP at h1
        omega)]
      unfold slotPut slotOf
      rw [if_pos rfl]
    · exact fold_mem l _ hs.2 (fun s hs' => h0 s (List.mem_cons_of_mem _ hs')) t ht
theorem slotFn_mem {l : List Pr} (h : VP l) (t : Pr) (ht : t ∈ l) : slotFn l t.f0.toNat = slotOf t := fold_mem l _ (VP_sorted h) (fun s hs => (VP_mem h s hs).1.1) t ht
theorem slotFn_not {l : List Pr} (h : VP l) (i : Nat) (hi : ∀ t ∈ l, t.f0 ≠ (i : Int)) : slotFn l i = slot0 := by
  unfold slotFn
  rw [fold_not l _ i (fun t ht e => hi t ht (by have := (VP_mem h t ht).1.1; omega))]
def findP (l : List Pr) (p : Int) : Option Pr := l.find? (fun t => t.f0 == p)
theorem findP_some {l : List Pr} {p : Int} {t : Pr} (h : findP l p = some t) : t ∈ l ∧ t.f0 = p := by
  unfold findP at h
  exact ⟨List.mem_of_find?_eq_some h, by have := List.find?_some h; simpa using this⟩
theorem findP_none {l : List Pr} {p : Int} (h : findP l p = none) : ∀ t ∈ l, t.f0 ≠ p := by
  intro t ht
  have := List.find?_eq_none.1 h t ht
  simpa using this
def codeP (l : List Pr) (p e s : Int) : Int :=
  if p = 255 then 4 else match findP l p with
    | some t => if t.f1 > e then 3 else if t.f1 = e then seqCode s t.f2 else seqCode s 0
    | none => seqCode s 0
theorem codeAt_eq {l : List Pr} (h : VP l) (p e s : Int) (h0 : 0 ≤ p) : codeAt (slotFn l) p e s = codeP l p e s := by
  unfold codeAt codeP
  by_cases hp : p = 255
  · rw [if_pos hp, if_pos hp]
  · rw [if_neg hp, if_neg hp]
    cases hf : findP l p with
    | none =>
      rw [slotFn_not h p.toNat (fun t ht => by have := findP_none hf t ht; omega)]
      rfl
    | some t =>
      obtain ⟨h1, h2⟩ := findP_some hf
      subst h2
      rw [slotFn_mem h t h1]
      rfl
theorem codeP_ne5 (l : List Pr) (p e s : Int) : codeP l p e s ≠ 5 := by
  unfold codeP seqCode
  split
  · omega
  · split <;> repeat' (split <;> try omega)
noncomputable def pcode (l : List Pr) (a1 : Bool) (a2 a3 a4 : Int) (rs : List Rc) : Int := if vp l = true then (if vb a1 a2 a3 a4 rs = true then codeP l a2 a3 a4 else 5) else 5
def atP (l : List Pr) (x : Int) : Int := match l.findIdx? (fun t => t.f0 == x) with
  | some i => i
  | none => -1
theorem atP_cases (l : List Pr) (x : Int) : (atP l x = -1 ∧ findP l x = none ∧ ∀ j, j < l.length → (rp l (j : Int)).f0 ≠ x) ∨ ∃ i : Nat, i < l.length ∧ atP l x = i ∧ findP l x = some (rp l (i : Int)) ∧ (rp l (i : Int)).f0 = x ∧ ∀ j, j < i → (rp l (j : Int)).f0 ≠ x := by
  unfold atP findP
  cases h : l.findIdx? (fun t => t.f0 == x) with
  | none =>
    rw [List.findIdx?_eq_none_iff] at h
    refine .inl ⟨rfl, List.find?_eq_none.2 (fun t ht => by have := h t ht; simpa using this), fun j hj => ?_⟩
    have := h l[j] (List.getElem_mem hj)
    rw [rp_nat l j hj]
    simpa using this
  | some i =>
    rw [List.findIdx?_eq_some_iff_getElem] at h
    obtain ⟨hi, h1, h2⟩ := h
    refine .inr ⟨i, hi, rfl, ?_, ?_, fun j hj => ?_⟩
    · rw [rp_nat l i hi, List.find?_eq_some_iff_getElem]
      exact ⟨h1, i, hi, rfl, fun j hj => by have := h2 j hj; simpa using this⟩
    · rw [rp_nat l i hi]; simpa using h1
    · rw [rp_nat l j (by omega)]
      have := h2 j hj
      simpa using this
theorem specAtP_loop (l : List Pr) (x : Int) (hl : l.length ≤ 1000000000000) : ∀ (d i : Nat), l.length - i = d → i ≤ l.length → (∀ j, j < i → (rp l (j : Int)).f0 ≠ x) → Ev (fun k => spec_l21At.l0 k l x (i : Int)) (atP l x) := by
  intro d
  induction d with
  | zero =>
    intro i hd hi hn
    refine ev_succ ?_
    simp only [spec_l21At.l0, if_neg (show ¬ (i : Int) < (l.length : Int) by omega)]
    rcases atP_cases l x with ⟨h, _⟩ | ⟨j, hj, h, _, h1, _⟩
    · rw [h]; exact ev_some _
    · exact absurd h1 (hn j (by omega))
  | succ d ih =>
    intro i hd hi hn
    have e1 : wrap64 ((i : Int) + 1) = ((i + 1 : Nat) : Int) := by rw [wrap_id (by omega) (by omega)]; omega
    refine ev_succ ?_
    by_cases h : (rp l (i : Int)).f0 = x
    · simp only [spec_l21At.l0, if_pos (show (i : Int) < (l.length : Int) by omega), if_pos (show (0 : Int) ≤ i by omega), if_pos h]
      rcases atP_cases l x with ⟨_, _, h2⟩ | ⟨j, hj, h2, _, h3, h4⟩
      · exact absurd h (h2 i (by omega))
      · have : j = i := by
          rcases Nat.lt_trichotomy j i with h5 | h5 | h5
          · exact absurd h3 (hn j h5)
          · exact h5
          · exact absurd h (h4 i h5)
        rw [h2, this]
        exact ev_some _
    · simp only [spec_l21At.l0, if_pos (show (i : Int) < (l.length : Int) by omega), if_pos (show (0 : Int) ≤ i by omega), if_neg h, e1]
      refine ih (i + 1) (by omega) (by omega) (fun j hj => ?_)
      by_cases e : j = i
      · subst e; exact h
      · exact hn j (by omega)
theorem specAtP (l : List Pr) (x : Int) (hl : l.length ≤ 1000000000000) : Ev (fun k => spec_l21At.f k l x) (atP l x) := by
  unfold spec_l21At.f
  exact specAtP_loop l x hl l.length 0 (by omega) (by omega) (fun j hj => by omega)
theorem spec_seq (n : Int) (a0 a1 : Bool) (a2 a3 a4 : Int) (rs : List Rc) : Ev (fun k => spec_l21Check.j0 k n a0 a1 a2 a3 a4 rs) (seqCode a4 n) := by
  refine ev_succ ?_
  unfold seqCode
  simp only [spec_l21Check.j0]
  by_cases h : a4 < n
  · simp only [if_pos h]; exact ev_some _
  · simp only [if_neg h]
    by_cases h2 : a4 > n
    · simp only [if_pos h2]; exact ev_some _
    · simp only [if_neg h2]; exact ev_some _
theorem specCode (l : List Pr) (hl : l.length ≤ 1000000000000) (a0 a1 : Bool) (a2 a3 a4 : Int) (rs : List Rc) : Ev (fun k => spec_l21Check.f k l a0 a1 a2 a3 a4 rs) (codeP l a2 a3 a4) := by
  unfold spec_l21Check.f codeP
  by_cases hp : a2 = 255
  · simp only [if_pos hp]; exact ev_some _
  · simp only [if_neg hp]
    refine Ev.bind (specAtP l a2 hl) ?_
    rcases atP_cases l a2 with ⟨h, hf, _⟩ | ⟨i, hi, h, hf, h1, _⟩
    · rw [h, hf]
      simp only [if_neg (show ¬ ((-1 : Int) ≥ 0) by omega)]
      exact spec_seq _ _ _ _ _ _ _
    · rw [h, hf]
      simp only [if_pos (show (i : Int) ≥ 0 by omega), if_pos (show (0 : Int) ≤ i by omega), if_pos (show (i : Int) < (l.length : Int) by omega)]
      by_cases h2 : a3 < (rp l (i : Int)).f1
      · simp only [if_pos h2, if_pos (show (rp l (i : Int)).f1 > a3 from h2)]; exact ev_some _
      · simp only [if_neg h2, if_neg (show ¬ (rp l (i : Int)).f1 > a3 from h2)]
        by_cases h3 : a3 = (rp l (i : Int)).f1
        · simp only [if_pos h3, if_pos h3.symm]
          exact spec_seq _ _ _ _ _ _ _
        · simp only [if_neg h3, if_neg (fun h4 => h3 (Eq.symm h4))]
          exact spec_seq _ _ _ _ _ _ _
theorem specCheck (l : List Pr) (hl : l.length ≤ 1000000000000) (a0 a1 : Bool) (a2 a3 a4 : Int) (rs : List Rc) (hr : smallRs rs) : Ev (fun k => spec_ProducersCheck.f k l a0 a1 a2 a3 a4 rs) (pcode l a1 a2 a3 a4 rs) := by
  unfold spec_ProducersCheck.f pcode
  refine Ev.bind (specPValid l hl) ?_
  by_cases h : vp l = true
  · simp only [if_pos h]
    refine Ev.bind (specB a0 a1 a2 a3 a4 rs hr) ?_
    by_cases h2 : vb a1 a2 a3 a4 rs = true
    · simp only [if_pos h2]
      exact Ev.bind (specCode l hl a0 a1 a2 a3 a4 rs) (ev_some _)
    · simp only [if_neg h2]
      exact ev_some _
  · simp only [if_neg h]
    exact ev_some _
theorem pcode_cases (l : List Pr) (a1 : Bool) (a2 a3 a4 : Int) (rs : List Rc) (h : pcode l a1 a2 a3 a4 rs ≠ 5) : VP l ∧ VB a1 a2 a3 a4 rs ∧ pcode l a1 a2 a3 a4 rs = codeP l a2 a3 a4 := by
  unfold pcode at h ⊢
  by_cases h1 : vp l = true
  · by_cases h2 : vb a1 a2 a3 a4 rs = true
    · rw [if_pos h1, if_pos h2]
      exact ⟨(vp_iff l).1 h1, (vb_iff _ _ _ _ _).1 h2, rfl⟩
    · rw [if_pos h1, if_neg h2] at h
      exact absurd rfl h
  · rw [if_neg h1] at h
    exact absurd rfl h
theorem pcode_of {l : List Pr} (h : VP l) {a1 : Bool} {a2 a3 a4 : Int} {rs : List Rc} (hb : VB a1 a2 a3 a4 rs) : pcode l a1 a2 a3 a4 rs = codeP l a2 a3 a4 := by
  unfold pcode
  rw [if_pos ((vp_iff l).2 h), if_pos ((vb_iff _ _ _ _ _).2 hb)]
theorem sameP_loop (a : List Pr) (hs : a.length ≤ 1000000000000) : ∀ (d i : Nat), a.length - i = d → i ≤ a.length → Ev (fun k => laws_sameProducers.l0 k a a (i : Int)) true := by
  intro d
  induction d with
  | zero =>
    intro i hd hi
    refine ev_succ ?_
    simp only [laws_sameProducers.l0, if_neg (show ¬ (i : Int) < (a.length : Int) by omega)]
    exact ev_some _
  | succ d ih =>
    intro i hd hi
    have e1 : wrap64 ((i : Int) + 1) = ((i + 1 : Nat) : Int) := by rw [wrap_id (by omega) (by omega)]; omega
    refine ev_succ ?_
    simp only [laws_sameProducers.l0, if_pos (show (i : Int) < (a.length : Int) by omega), if_pos (show (0 : Int) ≤ i by omega), beq_self_eq_true, Bool.not_true, Bool.or_self, Bool.false_eq_true, if_false, e1]
    exact ih (i + 1) (by omega) (by omega)
theorem sameP (a : List Pr) (hs : a.length ≤ 1000000000000) : Ev (fun k => laws_sameProducers.f k a a) true := by
  unfold laws_sameProducers.f
  simp only [if_true]
  exact sameP_loop a hs a.length 0 (by omega) (by omega)
end Go.Proofs.Ytkhmopmfbocokaa.Q
namespace Go.Proofs.Ytkhmopmfbocokaa.Q
open Go.RowKit Go.Proofs.Ytkhmopmfbocokaa.T Go.Proofs.YtkhmopmfbocokaaW.PrintWords Go.Proofs.YtkhmopmfbocokaaW.PrintLast
set_option linter.unusedVariables false
set_option linter.unusedSimpArgs false
abbrev ltk (p : Int) (s : Pr) : Bool := decide (s.f0 < p)
abbrev gtk (p : Int) (s : Pr) : Bool := decide (s.f0 > p)
abbrev nek (p : Int) (s : Pr) : Bool := decide (s.f0 ≠ p)
def insP (l : List Pr) (t : Pr) : List Pr := l.filter (ltk t.f0) ++ t :: l.filter (gtk t.f0)
theorem insP_mem {l : List Pr} {t s : Pr} : s ∈ insP l t ↔ s = t ∨ (s ∈ l ∧ s.f0 ≠ t.f0) := by
  unfold insP
  simp only [List.mem_append, List.mem_cons, List.mem_filter, decide_eq_true_eq]
  constructor
  · rintro (⟨h, h2⟩ | h | ⟨h, h2⟩)
    · exact .inr ⟨h, by omega⟩
    · exact .inl h
    · exact .inr ⟨h, by omega⟩
  · rintro (h | ⟨h, h2⟩)
    · exact .inr (.inl h)
    · rcases Int.lt_or_gt_of_ne h2 with h3 | h3
      · exact .inl ⟨h, h3⟩
      · exact .inr (.inr ⟨h, h3⟩)
theorem insP_sorted {l : List Pr} (h : l.Pairwise ltP) (t : Pr) : (insP l t).Pairwise ltP := by
  unfold insP
  rw [List.pairwise_append]
  refine ⟨h.filter _, ?_, ?_⟩
  · rw [List.pairwise_cons]
    refine ⟨fun s hs => ?_, h.filter _⟩
    have := (List.mem_filter.1 hs).2
    simp only [decide_eq_true_eq] at this
    exact this
  · intro s hs u hu
    have h1 := (List.mem_filter.1 hs).2
    simp only [decide_eq_true_eq] at h1
    rcases List.mem_cons.1 hu with rfl | hu
    · exact h1
    · have h2 := (List.mem_filter.1 hu).2
      simp only [decide_eq_true_eq] at h2
      exact Int.lt_trans h1 h2
theorem insP_len (l : List Pr) (t : Pr) : (insP l t).length ≤ l.length + l.length + 1 := by
  unfold insP
  have h1 := List.length_filter_le (ltk t.f0) l
  have h2 := List.length_filter_le (gtk t.f0) l
  simp only [List.length_append, List.length_cons]
  omega
theorem sorted_at : ∀ {l : List Pr}, l.Pairwise ltP → ∀ t ∈ l, l.filter (ltk (t.f0 + 1)) = l.filter (ltk t.f0) ++ [t]
  | [], _, t, ht => by cases ht
  | a :: l, h, t, ht => by
    rw [List.pairwise_cons] at h
    rcases List.mem_cons.1 ht with rfl | ht
    · rw [List.filter_cons_of_pos (by simp only [decide_eq_true_eq]; omega), List.filter_cons_of_neg (by simp), List.filter_eq_nil_iff.2, List.filter_eq_nil_iff.2]
      · rfl
      · intro s hs
        have := h.1 s hs
        unfold ltP at this
        simp only [decide_eq_true_eq]
        omega
      · intro s hs
        have := h.1 s hs
        unfold ltP at this
        simp only [decide_eq_true_eq]
        omega
    · have h1 := h.1 t ht
      unfold ltP at h1
      rw [List.filter_cons_of_pos (by simp only [decide_eq_true_eq]; omega), List.filter_cons_of_pos (by simp only [decide_eq_true_eq]; omega), sorted_at h.2 t ht]
      rfl
theorem slotList_of {F : Nat → SlotV} {l : List Pr} (hs : l.Pairwise ltP) (h0 : ∀ t ∈ l, 0 ≤ t.f0 ∧ t.f0 < 255) (h1 : ∀ t ∈ l, F t.f0.toNat = slotOf t) (h2 : ∀ i : Nat, i < 255 → (∀ t ∈ l, t.f0 ≠ (i : Int)) → (F i).u = false) :
    ∀ n : Nat, n ≤ 255 → slotList F n = l.filter (ltk (n : Int)) := by
  intro n
  induction n with
  | zero =>
    intro _
    rw [List.filter_eq_nil_iff.2]
    · rfl
    · intro t ht
      have := h0 t ht
      simp only [decide_eq_true_eq]
      omega
  | succ n ih =>
    intro hn
    have ih := ih (by omega)
    by_cases hex : ∃ t ∈ l, t.f0 = (n : Int)
    · obtain ⟨t, ht, hk⟩ := hex
      have hf := h1 t ht
      rw [hk, Int.toNat_natCast] at hf
      rw [slotList_yes F n (by rw [hf]; rfl), ih, hf]
      have h3 := sorted_at hs t ht
      rw [hk] at h3
      rw [show ((n + 1 : Nat) : Int) = (n : Int) + 1 by omega, h3]
      rfl
    · have hno : ∀ t ∈ l, t.f0 ≠ (n : Int) := fun t ht hk => hex ⟨t, ht, hk⟩
      rw [slotList_no F n (h2 n (by omega) hno), ih]
      refine List.filter_congr (fun t ht => ?_)
      have := hno t ht
      rw [decide_eq_decide]
      omega
theorem slotList_all {F : Nat → SlotV} {l : List Pr} (hs : l.Pairwise ltP) (h0 : ∀ t ∈ l, 0 ≤ t.f0 ∧ t.f0 < 255) (h1 : ∀ t ∈ l, F t.f0.toNat = slotOf t) (h2 : ∀ i : Nat, i < 255 → (∀ t ∈ l, t.f0 ≠ (i : Int)) → (F i).u = false) : slotList F 255 = l := by
  rw [slotList_of hs h0 h1 h2 255 (by omega), List.filter_eq_self]
  intro t ht
  have := h0 t ht
  simp only [decide_eq_true_eq]
  omega
theorem slotList_back {l : List Pr} (h : VP l) : slotList (slotFn l) 255 = l :=
  slotList_all (VP_sorted h) (fun t ht => by have := (VP_mem h t ht).1; omega) (slotFn_mem h) (fun i _ hi => by rw [slotFn_not h i hi]; rfl)
theorem slotList_set {l : List Pr} (h : VP l) (p e n : Int) (h0 : 0 ≤ p) (h1 : p < 255) : slotList (slotSet (slotFn l) p e n) 255 = insP l ⟨p, e, n⟩ := by
  refine slotList_all (insP_sorted (VP_sorted h) _) ?_ ?_ ?_
  · intro s hs
    rcases insP_mem.1 hs with rfl | ⟨hs, _⟩
    · exact ⟨h0, h1⟩
    · have := (VP_mem h s hs).1
      omega
  · intro s hs
    unfold slotSet
    rcases insP_mem.1 hs with rfl | ⟨hs, hne⟩
    · rw [if_pos rfl]
      rfl
    · have := (VP_mem h s hs).1
      dsimp only at hne
      rw [if_neg (by omega)]
      exact slotFn_mem h s hs
  · intro i hi hno
    have hp : p ≠ (i : Int) := hno ⟨p, e, n⟩ (insP_mem.2 (.inl rfl))
    unfold slotSet
    rw [if_neg (by omega), slotFn_not h i (fun t ht => by
      by_cases hk : t.f0 = p
      · omega
      · exact hno t (insP_mem.2 (.inr ⟨ht, hk⟩)))]
    rfl
def insGo (t : Pr) : List Pr → List Pr
  | [] => [t]
  | a :: r => if a.f0 ≥ t.f0 then t :: (a :: r).filter (nek t.f0) else a :: insGo t r
theorem insGo_eq (t : Pr) : ∀ {l : List Pr}, l.Pairwise ltP → insGo t l = insP l t
  | [], _ => rfl
  | a :: l, h => by
    rw [List.pairwise_cons] at h
    unfold insGo insP
    by_cases ha : a.f0 ≥ t.f0
    · have hnil : (a :: l).filter (ltk t.f0) = [] := by
        rw [List.filter_eq_nil_iff]
        intro s hs
        simp only [decide_eq_true_eq]
        rcases List.mem_cons.1 hs with rfl | hs
        · omega
        · have := h.1 s hs
          unfold ltP at this
          omega
      rw [if_pos ha, hnil, List.nil_append]
      congr 1
      refine List.filter_congr (fun s hs => ?_)
      rw [decide_eq_decide]
      rcases List.mem_cons.1 hs with rfl | hs
      · omega
      · have := h.1 s hs
        unfold ltP at this
        omega
    · rw [if_neg ha, List.filter_cons_of_pos (by simp only [decide_eq_true_eq]; omega), List.filter_cons_of_neg (by simp only [decide_eq_true_eq]; omega), insGo_eq t h.2]
      rfl
theorem specPut_done (l : List Pr) (hl : l.length ≤ 1000000000) (p e n : Int) : ∀ (d i : Nat) (out : List Pr), l.length - i = d → i ≤ l.length → out.length ≤ i + 1 → Ev (fun k => spec_l21Put.l0 k l out true (i : Int) p e n) (out ++ (l.drop i).filter (nek p)) := by
  intro d
  induction d with
  | zero =>
    intro i out hd hi ho
    refine ev_succ ?_
    rw [show l.drop i = [] from List.drop_eq_nil_of_le (by omega), List.filter_nil, List.append_nil]
    simp only [spec_l21Put.l0, if_neg (show ¬ (i : Int) < (l.length : Int) by omega), if_true]
    exact ev_some _
  | succ d ih =>
    intro i out hd hi ho
    have e1 : wrap64 ((i : Int) + 1) = ((i + 1 : Nat) : Int) := by rw [wrap_id (by omega) (by omega)]; omega
    refine ev_succ ?_
    rw [drop_atP (show i < l.length by omega)]
    simp only [spec_l21Put.l0, if_pos (show (i : Int) < (l.length : Int) by omega), if_true]
    refine ev_succ ?_
    simp only [spec_l21Put.j1, Bool.false_eq_true, if_false, if_pos (show (i : Int) < (l.length : Int) by omega), if_pos (show (0 : Int) ≤ i by omega), e1]
    by_cases h : (rp l (i : Int)).f0 = p
    · rw [List.filter_cons_of_neg (by simp only [decide_eq_true_eq]; omega)]
      simp only [if_pos h]
      exact ih (i + 1) out (by omega) (by omega) (by omega)
    · rw [List.filter_cons_of_pos (by simp only [decide_eq_true_eq]; exact h)]
      simp only [if_neg h, if_pos (show out.length < 5864062014805 by omega)]
      have := ih (i + 1) (out ++ [rp l (i : Int)]) (by omega) (by omega) (by simp; omega)
      rw [List.append_assoc] at this
      exact this
theorem specPut_go (l : List Pr) (hl : l.length ≤ 1000000000) (p e n : Int) : ∀ (d i : Nat) (out : List Pr), l.length - i = d → i ≤ l.length → out.length ≤ i → Ev (fun k => spec_l21Put.l0 k l out false (i : Int) p e n) (out ++ insGo ⟨p, e, n⟩ (l.drop i)) := by
  intro d
  induction d with
  | zero =>
    intro i out hd hi ho
    refine ev_succ ?_
    rw [show l.drop i = [] from List.drop_eq_nil_of_le (by omega)]
    simp only [spec_l21Put.l0, if_neg (show ¬ (i : Int) < (l.length : Int) by omega), Bool.false_eq_true, if_false, if_pos (show out.length < 5864062014805 by omega)]
    exact ev_some _
  | succ d ih =>
    intro i out hd hi ho
    have e1 : wrap64 ((i : Int) + 1) = ((i + 1 : Nat) : Int) := by rw [wrap_id (by omega) (by omega)]; omega
    refine ev_succ ?_
    rw [drop_atP (show i < l.length by omega)]
    unfold insGo
    simp only [spec_l21Put.l0, if_pos (show (i : Int) < (l.length : Int) by omega), Bool.false_eq_true, if_false, if_pos (show (0 : Int) ≤ i by omega)]
    refine ev_succ ?_
    by_cases hge : (rp l (i : Int)).f0 ≥ p
    · simp only [spec_l21Put.j1, decide_eq_true hge, if_true, if_pos hge, if_pos (show out.length < 5864062014805 by omega), bsome, if_pos (show (i : Int) < (l.length : Int) by omega), if_pos (show (0 : Int) ≤ i by omega), e1]
      by_cases h : (rp l (i : Int)).f0 = p
      · rw [List.filter_cons_of_neg (by simp only [decide_eq_true_eq]; omega)]
        simp only [if_pos h]
        have := specPut_done l hl p e n d (i + 1) (out ++ [⟨p, e, n⟩]) (by omega) (by omega) (by simp; omega)
        rw [List.append_assoc] at this
        exact this
      · rw [List.filter_cons_of_pos (by simp only [decide_eq_true_eq]; exact h)]
        simp only [if_neg h, if_pos (show (out ++ [(⟨p, e, n⟩ : Pr)]).length < 5864062014805 by simp; omega)]
        have := specPut_done l hl p e n d (i + 1) (out ++ [⟨p, e, n⟩] ++ [rp l (i : Int)]) (by omega) (by omega) (by simp; omega)
        have h2 : out ++ [(⟨p, e, n⟩ : Pr)] ++ [rp l (i : Int)] ++ (l.drop (i + 1)).filter (nek p) = out ++ (⟨p, e, n⟩ : Pr) :: rp l (i : Int) :: (l.drop (i + 1)).filter (nek p) := by simp
        rw [h2] at this
        exact this
    · simp only [spec_l21Put.j1, decide_eq_false hge, Bool.false_eq_true, if_false, if_neg hge, if_pos (show (i : Int) < (l.length : Int) by omega), if_pos (show (0 : Int) ≤ i by omega), if_neg (show ¬ (rp l (i : Int)).f0 = p by omega), if_pos (show out.length < 5864062014805 by omega), e1]
      have := ih (i + 1) (out ++ [rp l (i : Int)]) (by omega) (by omega) (by simp; omega)
      rw [List.append_assoc] at this
      exact this
theorem specPutP (l : List Pr) (h : VP l) (p e n : Int) : Ev (fun k => spec_l21Put.f k l p e n) (insP l ⟨p, e, n⟩) := by
  unfold spec_l21Put.f
  have h20 := h.1
  have := specPut_go l (by omega) p e n l.length 0 [] (by omega) (by omega) (by simp)
  rw [← insGo_eq _ (VP_sorted h)]
  simpa using this
abbrev newP (a2 a3 a4 : Int) (rs : List Rc) : Pr := ⟨a2, a3, wrap64 (a4 + (rs.length : Int))⟩
noncomputable def pput (l : List Pr) (a1 : Bool) (a2 a3 a4 : Int) (rs : List Rc) : List Pr × Int :=
  if pcode l a1 a2 a3 a4 rs = 5 then ([], 5) else if pcode l a1 a2 a3 a4 rs = 0 then (if vp (insP l (newP a2 a3 a4 rs)) = true then (insP l (newP a2 a3 a4 rs), 0) else ([], 5)) else (l, pcode l a1 a2 a3 a4 rs)
theorem codeP_zero {l : List Pr} {p e s : Int} (h : codeP l p e s = 0) : p ≠ 255 := by
  rintro rfl
  have h2 : codeP l 255 e s = 4 := by unfold codeP; rw [if_pos rfl]
  rw [h2] at h
  omega
theorem implPutB (l : List Pr) (hl : l.length ≤ 1000000000) (a0 a1 : Bool) (a2 a3 a4 : Int) (rs : List Rc) (hr : smallRs rs) : Ev (fun k => impl_ProducersPut.f k l a0 a1 a2 a3 a4 rs) (pput l a1 a2 a3 a4 rs) := by
  unfold impl_ProducersPut.f
  refine Ev.bind (implPValid l (by omega)) ?_
  by_cases h : vp l = true
  · simp only [if_pos h]
    refine Ev.bind (implB a0 a1 a2 a3 a4 rs hr) ?_
    by_cases h2 : vb a1 a2 a3 a4 rs = true
    · have hV := (vp_iff l).1 h
      have hB := (vb_iff _ _ _ _ _).1 h2
      have hp := VB_prod hB
      have hc := codeAt_eq hV a2 a3 a4 hp.1
      have hpc := pcode_of hV hB
      have h5 := codeP_ne5 l a2 a3 a4
      simp only [if_pos h2, if_pos (prodOk_of hV hB), hc]
      unfold pput
      rw [hpc, if_neg h5]
      unfold putSlots
      by_cases hz : codeP l a2 a3 a4 = 0
      · have hne := codeP_zero hz
        simp only [hc, if_pos hz, slotList_set hV a2 a3 _ hp.1 (by omega)]
        have h20 := hV.1
        have hln := insP_len l (⟨a2, a3, wrap64 (a4 + (rs.length : Int))⟩ : Pr)
        refine Ev.bind (implPValid _ (by omega)) ?_
        by_cases hv : vp (insP l (newP a2 a3 a4 rs)) = true
        · simp only [if_pos hv, hz]
          exact ev_some _
        · simp only [if_neg hv]
          exact ev_some _
      · simp only [hc, if_neg hz, slotList_back hV]
        refine Ev.bind (implPValid l (by omega)) ?_
        simp only [if_pos h]
        exact ev_some _
    · simp only [if_neg h2]
      have : pcode l a1 a2 a3 a4 rs = 5 := by unfold pcode; rw [if_pos h, if_neg h2]
      unfold pput
      rw [if_pos this]
      exact ev_some _
  · simp only [if_neg h]
    have : pcode l a1 a2 a3 a4 rs = 5 := by unfold pcode; rw [if_neg h]
    unfold pput
    rw [if_pos this]
    exact ev_some _
theorem specPutB (l : List Pr) (hl : l.length ≤ 1000000000) (a0 a1 : Bool) (a2 a3 a4 : Int) (rs : List Rc) (hr : smallRs rs) : Ev (fun k => spec_ProducersPut.f k l a0 a1 a2 a3 a4 rs) (pput l a1 a2 a3 a4 rs) := by
  unfold spec_ProducersPut.f pput
  refine Ev.bind (specCheck l (by omega) a0 a1 a2 a3 a4 rs hr) ?_
  by_cases h5 : pcode l a1 a2 a3 a4 rs = 5
  · simp only [if_pos h5]
    exact ev_some _
  · obtain ⟨hV, hB, hpc⟩ := pcode_cases l a1 a2 a3 a4 rs h5
    have h := (vp_iff l).2 hV
    simp only [if_neg h5, bsome, List.length_nil, List.nil_append, if_pos (show 0 + l.length < 5864062014805 by omega)]
    by_cases hz : pcode l a1 a2 a3 a4 rs = 0
    · simp only [if_pos hz]
      refine Ev.bind (specPutP l hV a2 a3 _) ?_
      have h20 := hV.1
      have hln := insP_len l (⟨a2, a3, wrap64 (a4 + (rs.length : Int))⟩ : Pr)
      refine Ev.bind (specPValid _ (by omega)) ?_
      by_cases hv : vp (insP l (newP a2 a3 a4 rs)) = true
      · simp only [if_pos hv, hz]
        exact ev_some _
      · simp only [if_neg hv]
        exact ev_some _
    · simp only [if_neg hz]
      refine Ev.bind (specPValid l (by omega)) ?_
      simp only [if_pos h]
      exact ev_some _
theorem pput_cases (l : List Pr) (a1 : Bool) (a2 a3 a4 : Int) (rs : List Rc) : pput l a1 a2 a3 a4 rs = ([], 5) ∨
    (VP l ∧ VB a1 a2 a3 a4 rs ∧ codeP l a2 a3 a4 = 0 ∧ VP (insP l (newP a2 a3 a4 rs)) ∧ pput l a1 a2 a3 a4 rs = (insP l (newP a2 a3 a4 rs), 0)) ∨
    (VP l ∧ VB a1 a2 a3 a4 rs ∧ codeP l a2 a3 a4 ≠ 0 ∧ pput l a1 a2 a3 a4 rs = (l, codeP l a2 a3 a4)) := by
  unfold pput
  by_cases h5 : pcode l a1 a2 a3 a4 rs = 5
  · rw [if_pos h5]
    exact .inl rfl
  · obtain ⟨hV, hB, hpc⟩ := pcode_cases l a1 a2 a3 a4 rs h5
    rw [if_neg h5, hpc]
    by_cases hz : codeP l a2 a3 a4 = 0
    · rw [if_pos hz]
      by_cases hv : vp (insP l (newP a2 a3 a4 rs)) = true
      · rw [if_pos hv]
        exact .inr (.inl ⟨hV, hB, hz, (vp_iff _).1 hv, rfl⟩)
      · rw [if_neg hv]
        exact .inl rfl
    · rw [if_neg hz]
      exact .inr (.inr ⟨hV, hB, hz, rfl⟩)
theorem pput_len (l : List Pr) (hl : l.length ≤ 100000) (a1 : Bool) (a2 a3 a4 : Int) (rs : List Rc) : (pput l a1 a2 a3 a4 rs).1.length ≤ 300000 := by
  rcases pput_cases l a1 a2 a3 a4 rs with h | ⟨_, _, _, h2, h⟩ | ⟨h2, _, _, h⟩
  · rw [h]; simp
  · rw [h]; have := h2.1; dsimp only; omega
  · rw [h]; dsimp only; omega
end Go.Proofs.Ytkhmopmfbocokaa.Q
namespace Go.Proofs.Ytkhmopmfbocokaa.Pure
open Go.RowKit Go.Proofs.Ytkhmopmfbocokaa.T Go.Proofs.YtkhmopmfbocokaaW.PrintWords Go.Proofs.YtkhmopmfbocokaaW.PrintLast Go.Proofs.Ytkhmopmfbocokaa.Q
set_option linter.unusedVariables false
set_option linter.unusedSimpArgs false
theorem ne_split {l : List Pr} (h : l.Pairwise ltP) (p : Int) : l.filter (nek p) = l.filter (ltk p) ++ l.filter (gtk p) := by
  induction l with
  | nil => rfl
  | cons a l ih =>
    rw [List.pairwise_cons] at h
    have ih := ih h.2
    rcases Int.lt_trichotomy a.f0 p with h1 | h1 | h1
    · rw [List.filter_cons_of_pos (by simp only [decide_eq_true_eq]; omega), List.filter_cons_of_pos (by simp only [decide_eq_true_eq]; exact h1), List.filter_cons_of_neg (by simp only [decide_eq_true_eq]; omega), ih]
      rfl
    · rw [List.filter_cons_of_neg (by simp only [decide_eq_true_eq]; omega), List.filter_cons_of_neg (by simp only [decide_eq_true_eq]; omega), List.filter_cons_of_neg (by simp only [decide_eq_true_eq]; omega), ih]
    · have hn : (a :: l).filter (ltk p) = [] := by
        rw [List.filter_eq_nil_iff]
        intro s hs
        simp only [decide_eq_true_eq]
        rcases List.mem_cons.1 hs with rfl | hs
        · omega
        · have := h.1 s hs
          unfold ltP at this
          omega
      rw [hn, List.nil_append]
      refine List.filter_congr (fun s hs => ?_)
      rw [decide_eq_decide]
      rcases List.mem_cons.1 hs with rfl | hs
      · omega
      · have := h.1 s hs
        unfold ltP at this
        omega
theorem ins_ne (l : List Pr) (t : Pr) : (insP l t).filter (nek t.f0) = l.filter (ltk t.f0) ++ l.filter (gtk t.f0) := by
  have h1 : (l.filter (ltk t.f0)).filter (nek t.f0) = l.filter (ltk t.f0) := by
    rw [List.filter_eq_self]
    intro s hs
    have := (List.mem_filter.1 hs).2
    simp only [decide_eq_true_eq] at this ⊢
    omega
  have h2 : (l.filter (gtk t.f0)).filter (nek t.f0) = l.filter (gtk t.f0) := by
    rw [List.filter_eq_self]
    intro s hs
    have := (List.mem_filter.1 hs).2
    simp only [decide_eq_true_eq] at this ⊢
    omega
  unfold insP
  rw [List.filter_append, List.filter_cons_of_neg (by simp), h1, h2]
theorem others_l1 (x5 x9 : List Pr) (a0 a1 : Bool) (a2 a3 a4 : Int) (rs : List Rc) (h5 : x5.length ≤ 1000000) (h9 : x9.length ≤ 1000000) (hx : x5.filter (nek a2) = x9) (hlen : x5.length = x9.length + 1) : ∀ (d i : Nat) (x10 : List Pr), x5.length - i = d → i ≤ x5.length → x10.length ≤ i → x10 ++ (x5.drop i).filter (nek a2) = x5.filter (nek a2) → Ev (fun k => laws_FnPutOthers.l1 k x5 x9 x10 (i : Int) a0 a1 a2 a3 a4 rs) true := by
  intro d
  induction d with
  | zero =>
    intro i x10 hd hi hlim hinv
    rw [show x5.drop i = [] from List.drop_eq_nil_of_le (by omega), List.filter_nil, List.append_nil, hx] at hinv
    subst hinv
    refine ev_succ ?_
    simp only [laws_FnPutOthers.l1, if_neg (show ¬ (i : Int) < (x5.length : Int) by omega)]
    refine Ev.bind (sameP x10 (by omega)) ?_
    simp only [if_true]
    rw [show wrap64 ((x5.length : Int) - (x10.length : Int)) = 1 by rw [wrap_id (by omega) (by omega)]; omega]
    exact ev_some _
  | succ d ih =>
    intro i x10 hd hi hlim hinv
    have e1 : wrap64 ((i : Int) + 1) = ((i + 1 : Nat) : Int) := by rw [wrap_id (by omega) (by omega)]; omega
    rw [drop_atP (show i < x5.length by omega)] at hinv
    refine ev_succ ?_
    by_cases hk : (rp x5 (i : Int)).f0 = a2
    · rw [List.filter_cons_of_neg (by simp only [decide_eq_true_eq]; omega)] at hinv
      simp only [laws_FnPutOthers.l1, if_pos (show (i : Int) < (x5.length : Int) by omega), if_pos (show (0 : Int) ≤ i by omega), if_pos hk, e1]
      exact ih (i + 1) x10 (by omega) (by omega) (by omega) hinv
    · rw [List.filter_cons_of_pos (by simp only [decide_eq_true_eq]; exact hk)] at hinv
      simp only [laws_FnPutOthers.l1, if_pos (show (i : Int) < (x5.length : Int) by omega), if_pos (show (0 : Int) ≤ i by omega), if_neg hk, if_pos (show x10.length < 5864062014805 by omega), e1]
      exact ih (i + 1) (x10 ++ [rp x5 (i : Int)]) (by omega) (by omega) (by simp; omega) (by rw [List.append_assoc]; exact hinv)
theorem others_l0 (x3 x5 : List Pr) (a0 a1 : Bool) (a2 a3 a4 : Int) (rs : List Rc) (h3 : x3.length ≤ 1000000) (h5 : x5.length ≤ 1000000) (hx : x5.filter (nek a2) = x3.filter (nek a2)) (hlen : x5.length = (x3.filter (nek a2)).length + 1) : ∀ (d i : Nat) (x9 : List Pr), x3.length - i = d → i ≤ x3.length → x9.length ≤ i → x9 ++ (x3.drop i).filter (nek a2) = x3.filter (nek a2) → Ev (fun k => laws_FnPutOthers.l0 k x3 x5 x9 [] (i : Int) a0 a1 a2 a3 a4 rs) true := by
  intro d
  induction d with
  | zero =>
    intro i x9 hd hi hlim hinv
    rw [show x3.drop i = [] from List.drop_eq_nil_of_le (by omega), List.filter_nil, List.append_nil] at hinv
    refine ev_succ ?_
    simp only [laws_FnPutOthers.l0, if_neg (show ¬ (i : Int) < (x3.length : Int) by omega)]
    rw [← hinv] at hx hlen
    exact others_l1 x5 x9 a0 a1 a2 a3 a4 rs h5 (by omega) hx hlen x5.length 0 [] (by omega) (by omega) (by simp) (by simp)
  | succ d ih =>
    intro i x9 hd hi hlim hinv
    have e1 : wrap64 ((i : Int) + 1) = ((i + 1 : Nat) : Int) := by rw [wrap_id (by omega) (by omega)]; omega
    rw [drop_atP (show i < x3.length by omega)] at hinv
    refine ev_succ ?_
    by_cases hk : (rp x3 (i : Int)).f0 = a2
    · rw [List.filter_cons_of_neg (by simp only [decide_eq_true_eq]; omega)] at hinv
      simp only [laws_FnPutOthers.l0, if_pos (show (i : Int) < (x3.length : Int) by omega), if_pos (show (0 : Int) ≤ i by omega), if_pos hk, e1]
      exact ih (i + 1) x9 (by omega) (by omega) (by omega) hinv
    · rw [List.filter_cons_of_pos (by simp only [decide_eq_true_eq]; exact hk)] at hinv
      simp only [laws_FnPutOthers.l0, if_pos (show (i : Int) < (x3.length : Int) by omega), if_pos (show (0 : Int) ≤ i by omega), if_neg hk, if_pos (show x9.length < 5864062014805 by omega), e1]
      exact ih (i + 1) (x9 ++ [rp x3 (i : Int)]) (by omega) (by omega) (by simp; omega) (by rw [List.append_assoc]; exact hinv)
theorem FnPutOthers : laws_FnPutOthers.Pure := by
  intro l0 _ _ hb0
  refine Ev.rounds ?_
  have hb := bytes_of hb0
  unfold laws_FnPutOthers.f
  by_cases h : (l0.length : Int) > 1048576
  · simp only [if_pos h]
    exact ev_some _
  · simp only [if_neg h]
    obtain ⟨⟨l, a0, a1, a2, a3, a4, rs⟩, hd, h4, hrs⟩ := drawPutP hb
    dsimp only at h4 hrs
    have hlen := pput_len l (by omega) a1 a2 a3 a4 rs
    refine Ev.bind hd ?_
    refine Ev.bind (implPutB l (by omega) a0 a1 a2 a3 a4 rs hrs) ?_
    refine Ev.bind (specPutB l (by omega) a0 a1 a2 a3 a4 rs hrs) ?_
    simp only [if_true]
    refine Ev.bind (sameP _ (by omega)) ?_
    simp only [if_true]
    have self : ∀ o c, pput l a1 a2 a3 a4 rs = (o, c) → Ev (fun k => laws_FnPutOthers.j0 k l o c o c true a0 a1 a2 a3 a4 rs) true := by
      intro o c ho
      rw [ho] at hlen
      refine ev_succ ?_
      simp only [laws_FnPutOthers.j0, if_true]
      exact Ev.bind (sameP o (by dsimp only at hlen; omega)) (ev_some _)
    rcases pput_cases l a1 a2 a3 a4 rs with hp | ⟨hV, hB, hc, hV2, hp⟩ | ⟨hV, hB, hc, hp⟩
    · have := self _ _ hp
      rw [hp]
      exact this
    · rw [hp]
      refine ev_succ ?_
      simp only [laws_FnPutOthers.j0, bne_self_eq_false, Bool.false_eq_true, if_false]
      have h20 := hV2.1
      have hsp := ne_split (VP_sorted hV) a2
      have hin := ins_ne l (newP a2 a3 a4 rs)
      refine others_l0 l _ a0 a1 a2 a3 a4 rs (by omega) (by omega) (hin.trans hsp.symm) ?_ l.length 0 [] (by omega) (by omega) (by simp) (by simp)
      rw [hsp]
      unfold insP
      simp only [List.length_append, List.length_cons]
      omega
    · have := self _ _ hp
      rw [hp]
      simp only [show (codeP l a2 a3 a4 != 0) = true by simpa using hc]
      exact this
end Go.Proofs.Ytkhmopmfbocokaa.Pure
namespace Go.Proofs.Ytkhmopmfbocokaa.fnPutOthers
open Go.ChangeShapes Go.WideShapes Go.ChangeAt Go.RowKit
open Go.ChangeMaps (open_string shut_string)
set_option linter.unusedVariables false
theorem own : ownKnob Try.prog.godebug = none := by kernel_rfl
theorem laidOut : laidOutB Try.prog = true := by kernel_rfl
def IsRow (k : IntKind) (w : World) (a : Option Addr) (len cap : Nat) (zs : List Int) : Prop :=
  (a = none ∧ len = 0 ∧ cap = 0 ∧ zs = []) ∨
  ∃ x, a = some x ∧ len ≤ cap ∧ cap ≤ maxLen ∧ zs.length = cap ∧ (∀ i, i < zs.length → w.cell? (x.add i) = some (.int k (zs.getD i 0))) ∧ ∀ n ∈ zs, (Lit.int k n).wf = true
set_option maxRecDepth 100000 in
theorem lifted (os : Os) (started : os.Started) (H : Type) (enc : TypeId × Value → H) :
    ReturnsInHanded {} Try.checked os 10 .any (Rows.fnPutOthersSpec.pre6 enc Try.prog Try.f10 Rows.fnPutOthersRow.domain false) (Rows.fnPutOthersSpec.post enc Try.prog Try.f10 false true false false) := by
  refine returnsInHanded_of_change_sized (C := Try.checked) own started (by kernel_rfl) Try.func10
    (ChangeSpec.witness6 (enc := enc) (C := Try.checked) false ⟨#[], #[.slice none 0 0], []⟩ 8 (by kernel_rfl) (by kernel_rfl) (by kernel_rfl) (by kernel_rfl)) ?_
  intro W base args ds gs before hval0 hW hcnd hsz0 _
  have hsz : (DataW.weightsEach Try.prog (Try.f10.params.toList ++ Rows.fnPutOthersSpec.plain.varTypes Try.prog) (ds ++ gs)).all (· ≤ reachBytes) = true := hsz0
  have hval : ∀ (j : Nat) t v, Try.f10.params[j]? = some t → args[j]? = some v → Value.okWide Try.prog W .any base t v := hval0
  have hW' := hW
  obtain ⟨p, q, hA0, hV, rfl, hfz, hnd⟩ := hW
  have hA : DataW.TrodAll enc Try.prog W 0 (fun _ => true) true Try.f10.params.toList args.toList ds p := hA0
  rw [Try.params10] at hA hval hsz
  obtain ⟨v0, vs0, d0, ds0, p0, q0, hargs, rfl, rfl, h0, r0⟩ := trodAll_cons hA
  obtain ⟨rfl, rfl, rfl⟩ := trodAll_nil r0
  obtain rfl : args = #[v0] := by cases args; simp_all
  obtain ⟨rfl, rfl⟩ := trodVars_none hV
  obtain ⟨a0, len0, cap0, rfl⟩ := okWide_slice Try.underlying22 (hval 0 22 v0 rfl rfl)
  have k0 := h0
  have lt0 : ∀ x ∈ p0, x.block < W.heap.size := by obtain ⟨m, hm⟩ := k0; exact DataW.trod_lt m _ _ _ hm
  obtain ⟨z0, w0⟩ : ∃ zs, IsRow .u8 W a0 len0 cap0 zs := by
    obtain ⟨fuel, hf⟩ := h0
    rcases open_ints Try.underlying22 Try.underlying5 (by kernel_rfl) hf with ⟨hcs, _⟩ | ⟨x, l, c, zs, hcs, _, hl, hm, hz, _, hcell, hwz⟩
    · simp [Value.cells] at hcs
      obtain ⟨rfl, rfl, rfl⟩ := hcs
      exact ⟨[], .inl ⟨rfl, rfl, rfl, rfl⟩⟩
    · simp [Value.cells] at hcs
      obtain ⟨rfl, rfl, rfl⟩ := hcs
      exact ⟨zs, .inr ⟨_, rfl, hl, hm, by simpa using hz, hcell, hwz⟩⟩
  have y0 : len0 * 1 ≤ 140737488351232 := Go.Proofs.YtkhmopmfbocokaaW.PrintWords.sized_ints hsz (j := 0) (t := 22) rfl rfl Try.underlying22 Try.underlying5 (by kernel_rfl) (by kernel_rfl) h0
  clear hA0 hval0 hsz0 hsz
  refine (T.laws_FnPutOthers.walk Pure.FnPutOthers a0 len0 cap0 z0 W w0 y0).mono fun e W' ⟨he, bel⟩ => ?_
  subst he
  exact ⟨_, rfl, _, _, _, [], _, [], hW', trodAll_mk1 (shut_bool Try.underlying4 _), (trodAll_cons_mk (Below.trod laidOut (by kernel_rfl) (of_decide_eq_true (by kernel_rfl)) k0 bel lt0) trodAll_mk0), rfl, bel.frame _, fun h => by cases h⟩
theorem closed : joinedFacts Try.prog 10 Try.f10 Rows.fnPutOthersSpec Rows.fnPutOthersRow = true :=
  Head.closed_of _ _ _ _ _ (by kernel_rfl) (by kernel_rfl) (by kernel_rfl) (by kernel_rfl) (by kernel_rfl) (by kernel_rfl) (by kernel_rfl) (by kernel_rfl) (by kernel_rfl) (by kernel_rfl) (by kernel_rfl) (by kernel_rfl) (by kernel_rfl) (by kernel_rfl) (by kernel_rfl) (by kernel_rfl) (by kernel_rfl) (by kernel_rfl) (by kernel_rfl) (by kernel_rfl) (by kernel_rfl) (by kernel_rfl) (by kernel_rfl) (by kernel_rfl) (by kernel_rfl) Head.may_enter (by rw [Head.lifts_final]; kernel_rfl) (by rw [Head.make_is]; kernel_rfl) (by kernel_rfl) (by kernel_rfl) (by kernel_rfl) (by kernel_rfl)
theorem over : Rows.fnPutOthersRow.holds Try.pinned (OpenSpec.ofChange Rows.fnPutOthersSpec) :=
  OpenClaim.holds_of_wide 10 Try.f10 rfl rfl rfl rfl rfl rfl rfl ⟨rfl, rfl, rfl, rfl, rfl⟩ rfl rfl rfl rfl rfl (by kernel_rfl) Try.func10 closed
    (of_decide_eq_true (by kernel_rfl)) (by unfold Func.isWrapper; first | (rw [if_pos (by decide +kernel)]; kernel_rfl) | (rw [if_neg (by decide +kernel)]; exact ⟨rfl, rfl⟩))
    (fun os started H enc _ => lifted os started H enc)
theorem proved : Rows.FnPutOthersSaid := over
end Go.Proofs.Ytkhmopmfbocokaa.fnPutOthers
namespace Go.Proofs.Ytkhmopmfbocokaa
theorem fnPutOthers_holds : Rows.FnPutOthersSaid := fnPutOthers.proved
end Go.Proofs.Ytkhmopmfbocokaa
