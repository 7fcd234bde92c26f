/- FnExactProducersValid, part 4 of 4: merged by wip/tools/pack.py out of the texts that the row reaches; the pure statement is the session's own. -/
import Derived.Deep.Slices
import Derived.ChangeArms
import Derived.ProofKit
import Derived.RowKit
import Derived.Test.YtkhmopmfbocokaaRows
import Derived.WalkKit
import Derived.OpenShut
import Derived.ShutString
import Derived.ChangeOld
import Derived.Below
import Derived.SizedLaws
import Derived.Test.YtkhmopmfbocokaaFnExactProducersValidK2
namespace Go.Proofs.Ytkhmopmfbocokaa.T
open Go.RowKit Go.Proofs.YtkhmopmfbocokaaW.PrintWords Go.Proofs.YtkhmopmfbocokaaW.PrintLast Go.Proofs.YtkhmopmfbocokaaW.PrintMore

set_option linter.unusedVariables false
set_option linter.unusedSimpArgs false
def laws_FnExactProducersValid.f (k : Nat) (l0 : List (S72)) : Option (Bool) := (laws_szProducerS.f l0 1048576).bind fun t207 => (if t207 < 0 then (some true) else ((laws_toProducerS.f k l0).bind fun t208 => ((spec_ProducersValid.f k t208).bind fun t211 => ((laws_toProducerS.f k l0).bind fun t212 => ((impl_ProducersValid.f k t212).bind fun t215 => (if (t215 != t211) = true then (some false) else ((laws_toProducerS.f k l0).bind fun t216 => ((laws_eqProducerS.f k t212 t216).bind fun t219 => (if t219 = true then (some true) else (some false))))))))))
theorem laws_FnExactProducersValid.mono : ∀ a0 k, LeO (laws_FnExactProducersValid.f k a0) (laws_FnExactProducersValid.f (k + 1) a0) := by
  intro a0 k
  unfold laws_FnExactProducersValid.f
  repeat' first
      | (with_reducible exact impl_ProducersValid.mono _ _)
      | (with_reducible exact laws_eqProducerS.mono _ _ _)
      | (with_reducible exact laws_toProducerS.mono _ _)
      | (with_reducible exact spec_ProducersValid.mono _ _)
      | (with_reducible exact LeO.refl _)
      | (with_reducible exact LeO.none _)
      | (with_reducible refine LeO.ite ?_ ?_)
      | (with_reducible refine LeO.bind ?_ (fun _ => ?_))
      | exact impl_ProducersValid.mono _ _
      | exact laws_eqProducerS.mono _ _ _
      | exact laws_toProducerS.mono _ _
      | exact spec_ProducersValid.mono _ _
      | exact LeO.none _
      | refine LeO.ite ?_ ?_
      | refine LeO.bind ?_ (fun _ => ?_)
set_option maxHeartbeats 8000000 in
set_option maxRecDepth 100000 in
theorem laws_FnExactProducersValid.calls (k : Nat) (A0 : Option Addr) (c0 : Nat) (l0 : List (S72)) (r : Bool) (w : World) (hr0 : Kd.C k72 w A0 l0.length l0) (hc0 : l0.length ≤ c0) (h : laws_FnExactProducersValid.f k l0 = some r) :
    Calls Try.prog 4 #[.slice A0 l0.length c0] w fun e w' => e = .returned (.bool r) ∧ Below w.heap.size w w' := by
  have HR0 := Aside0.mk hr0
  have HC0 := Aside0.mk hc0
  clear hr0 hc0
  have HB := Aside0.mk (Below.refl w.heap.size w)
  have H : ((laws_szProducerS.f l0 1048576).bind fun t207 => (if t207 < 0 then (some true) else ((laws_toProducerS.f k l0).bind fun t208 => ((spec_ProducersValid.f k t208).bind fun t211 => ((laws_toProducerS.f k l0).bind fun t212 => ((impl_ProducersValid.f k t212).bind fun t215 => (if (t215 != t211) = true then (some false) else ((laws_toProducerS.f k l0).bind fun t216 => ((laws_eqProducerS.f k t212 t216).bind fun t219 => (if t219 = true then (some true) else (some false))))))))))) = some r := h
  clear h
  replace H := Option.bind_eq_some_iff.mp H
  obtain ⟨t207, A20, H⟩ := H
  replace H : (if t207 < 0 then (some true) else ((laws_toProducerS.f k l0).bind fun t208 => ((spec_ProducersValid.f k t208).bind fun t211 => ((laws_toProducerS.f k l0).bind fun t212 => ((impl_ProducersValid.f k t212).bind fun t215 => (if (t215 != t211) = true then (some false) else ((laws_toProducerS.f k l0).bind fun t216 => ((laws_eqProducerS.f k t212 t216).bind fun t219 => (if t219 = true then (some true) else (some false)))))))))) = some r := H
  have A2 := Aside0.mk A20
  clear A20
  by_cases c3 : t207 < 0
  · rw [if_pos c3] at H
    have c3b0 : decide (t207 < 0) = true := decide_eq_true c3
    clear c3
    obtain rfl := Option.some.inj H
    go_enter Try.func4, Try.ntmps4
    go_wp2_with (first | ((with_reducible refine gate_callee (f := 21) rfl ?_); refine goesL_ (some 9) rfl rfl Try.func21 (by kernel_rfl) rfl #[.slice A0 l0.length c0, .int .i64 1048576] rfl (by (try simp only [List.map_toArray, List.map_cons, List.map_nil]); first | done | rfl | (simp only [List.length_drop, List.length_take]; rfl)) ?_; (with_reducible refine (laws_szProducerS.calls _ _ l0 1048576 t207 _ ?side1 ?side2 A2.out).mono ?_); (case side1 => repeat (first | exact HR0.out | (with_reducible refine Kd.C_alloc ?_ _) | (with_reducible refine Kd.C_drewN ?_ _) | (with_reducible refine Kd.C_drew ?_))); (case side2 => exact HC0.out); rintro e w' ⟨rfl, ⟨nd, rfl⟩⟩; refine ⟨_, rfl, ?_⟩))
    go_ret
    exact ⟨by first | rfl | (simp [errW_none, errW_some] <;> rfl) | (simp [*, errW_none, errW_some] <;> rfl), by repeat (first | (with_reducible first | exact HB.out | apply below_alloc | apply pw_below_drewN | apply below_drew1) | exact HB.out)⟩
  · rw [if_neg c3] at H
    have c3b0 : decide (t207 < 0) = false := decide_eq_false c3
    clear c3
    replace H := Option.bind_eq_some_iff.mp H
    obtain ⟨t208, A40, H⟩ := H
    replace H : ((spec_ProducersValid.f k t208).bind fun t211 => ((laws_toProducerS.f k l0).bind fun t212 => ((impl_ProducersValid.f k t212).bind fun t215 => (if (t215 != t211) = true then (some false) else ((laws_toProducerS.f k l0).bind fun t216 => ((laws_eqProducerS.f k t212 t216).bind fun t219 => (if t219 = true then (some true) else (some false)))))))) = some r := H
    have A4 := Aside0.mk A40
    clear A40
    replace H := Option.bind_eq_some_iff.mp H
    obtain ⟨t211, A50, H⟩ := H
    replace H : ((laws_toProducerS.f k l0).bind fun t212 => ((impl_ProducersValid.f k t212).bind fun t215 => (if (t215 != t211) = true then (some false) else ((laws_toProducerS.f k l0).bind fun t216 => ((laws_eqProducerS.f k t212 t216).bind fun t219 => (if t219 = true then (some true) else (some false))))))) = some r := H
    have A5 := Aside0.mk A50
    clear A50
    replace H := Option.bind_eq_some_iff.mp H
    obtain ⟨t212, A60, H⟩ := H
    replace H : ((impl_ProducersValid.f k t212).bind fun t215 => (if (t215 != t211) = true then (some false) else ((laws_toProducerS.f k l0).bind fun t216 => ((laws_eqProducerS.f k t212 t216).bind fun t219 => (if t219 = true then (some true) else (some false)))))) = some r := H
    have A6 := Aside0.mk A60
    clear A60
    replace H := Option.bind_eq_some_iff.mp H
    obtain ⟨t215, A70, H⟩ := H
    replace H : (if (t215 != t211) = true then (some false) else ((laws_toProducerS.f k l0).bind fun t216 => ((laws_eqProducerS.f k t212 t216).bind fun t219 => (if t219 = true then (some true) else (some false))))) = some r := H
    have A7 := Aside0.mk A70
    clear A70
    by_cases c8 : (t215 != t211) = true
    · rw [if_pos c8] at H
      have c8b0 : (t215 != t211) = true := c8
      (try (have c8b1 : decide (t215 = t211) = false := by simpa using c8))
      (try (have c8b2 : (t215 == t211) = false := by simpa using c8))
      (try (have c8b3 : ¬ (t215 = t211) := by simpa using c8))
      clear c8
      obtain rfl := Option.some.inj H
      go_enter Try.func4, Try.ntmps4
      go_wp2_with (first | ((with_reducible refine gate_callee (f := 21) rfl ?_); refine goesL_ (some 9) rfl rfl Try.func21 (by kernel_rfl) rfl #[.slice A0 l0.length c0, .int .i64 1048576] rfl (by (try simp only [List.map_toArray, List.map_cons, List.map_nil]); first | done | rfl | (simp only [List.length_drop, List.length_take]; rfl)) ?_; (with_reducible refine (laws_szProducerS.calls _ _ l0 1048576 t207 _ ?side1 ?side2 A2.out).mono ?_); (case side1 => repeat (first | exact HR0.out | (with_reducible refine Kd.C_alloc ?_ _) | (with_reducible refine Kd.C_drewN ?_ _) | (with_reducible refine Kd.C_drew ?_))); (case side2 => exact HC0.out); rintro e w' ⟨rfl, ⟨nd, rfl⟩⟩; refine ⟨_, rfl, ?_⟩) | ((with_reducible refine gate_callee (f := 22) rfl ?_); refine goesL_ (some 13) rfl rfl Try.func22 (by kernel_rfl) rfl #[.slice A0 l0.length c0] rfl (by (try simp only [List.map_toArray, List.map_cons, List.map_nil]); first | done | rfl | (simp only [List.length_drop, List.length_take]; rfl)) ?_; (with_reducible refine (laws_toProducerS.calls k _ _ l0 t208 _ ?side1 ?side2 A4.out).mono ?_); (case side1 => repeat (first | exact HR0.out | (with_reducible refine Kd.C_alloc ?_ _) | (with_reducible refine Kd.C_drewN ?_ _) | (with_reducible refine Kd.C_drew ?_))); (case side2 => exact HC0.out); rintro e w9 ⟨v209, rfl, ho0, hb⟩; refine ⟨_, rfl, ?_⟩; have n0_ := Aside0.mk (Kd.R_lower ho0 (below_size (by repeat (first | (with_reducible first | exact HB.out | apply below_alloc | apply pw_below_drewN | apply below_drew1) | exact HB.out)))); have n1_ := Aside0.mk (below_step (by repeat (first | (with_reducible first | exact HB.out | apply below_alloc | apply pw_below_drewN | apply below_drew1) | exact HB.out)) hb); clear HB; have HO210 := n0_; have HB := n1_; clear n0_ n1_; (try clear hb); (try clear hb2); (try clear hk); (try clear hi); (try clear ho0); obtain ⟨Ao10, co10, eo10⟩ := Kd.R_slice HO210.out; subst eo10) | ((with_reducible refine gate_callee (f := 20) rfl ?_); refine goesL_ (some 14) rfl rfl Try.func20 (by kernel_rfl) rfl #[.slice Ao10 t208.length co10] rfl (by (try simp only [List.map_toArray, List.map_cons, List.map_nil]); first | done | rfl | (simp only [List.length_drop, List.length_take]; rfl)) ?_; (with_reducible refine (spec_ProducersValid.calls k _ _ t208 t211 _ ?side1 ?side2 A5.out).mono ?_); (case side1 => repeat (first | exact (Kd.R_reads' HO210.out).2.2 | (with_reducible refine Kd.C_alloc ?_ _) | (with_reducible refine Kd.C_drewN ?_ _) | (with_reducible refine Kd.C_drew ?_))); (case side2 => exact (Kd.R_reads' HO210.out).2.1); rintro e w11 ⟨rfl, hb⟩; refine ⟨_, rfl, ?_⟩; have n0_ := Aside0.mk (Kd.R_below (by (with_reducible repeat (first | apply Kd.R_alloc | apply Kd.R_drewN | apply Kd.R_drew)); exact HO210.out) hb); have n1_ := Aside0.mk (below_step (by repeat (first | (with_reducible first | exact HB.out | apply below_alloc | apply pw_below_drewN | apply below_drew1) | exact HB.out)) hb); clear HO210; clear HB; have HO210 := n0_; have HB := n1_; clear n0_ n1_; (try clear hb); (try clear hb2); (try clear hk); (try clear hi)) | ((with_reducible refine gate_callee (f := 22) rfl ?_); refine goesL_ (some 16) rfl rfl Try.func22 (by kernel_rfl) rfl #[.slice A0 l0.length c0] rfl (by (try simp only [List.map_toArray, List.map_cons, List.map_nil]); first | done | rfl | (simp only [List.length_drop, List.length_take]; rfl)) ?_; (with_reducible refine (laws_toProducerS.calls k _ _ l0 t212 _ ?side1 ?side2 A6.out).mono ?_); (case side1 => repeat (first | exact (Kd.C_below HR0.out HB.out) | (with_reducible refine Kd.C_alloc ?_ _) | (with_reducible refine Kd.C_drewN ?_ _) | (with_reducible refine Kd.C_drew ?_))); (case side2 => exact HC0.out); rintro e w12 ⟨v213, rfl, ho0, hb⟩; refine ⟨_, rfl, ?_⟩; have n0_ := Aside0.mk (Kd.R_elder' (by (with_reducible repeat (first | apply Kd.R_alloc | apply Kd.R_drewN | apply Kd.R_drew)); exact HO210.out) (Kd.R_base ho0) hb); have n1_ := Aside0.mk (Kd.R_lower (Kd.R_new' ho0 (Kd.R_lt (by (with_reducible repeat (first | apply Kd.R_alloc | apply Kd.R_drewN | apply Kd.R_drew)); exact HO210.out))) (below_size (by repeat (first | (with_reducible first | exact HB.out | apply below_alloc | apply pw_below_drewN | apply below_drew1) | exact HB.out)))); have n2_ := Aside0.mk (below_step (by repeat (first | (with_reducible first | exact HB.out | apply below_alloc | apply pw_below_drewN | apply below_drew1) | exact HB.out)) hb); clear HO210; clear HB; have HO210 := n0_; have HO214 := n1_; have HB := n2_; clear n0_ n1_ n2_; (try clear hb); (try clear hb2); (try clear hk); (try clear hi); (try clear ho0); obtain ⟨Ao13, co13, eo13⟩ := Kd.R_slice HO214.out; subst eo13) | ((with_reducible refine gate_callee (f := 19) rfl ?_); refine goesL_ (some 18) rfl rfl Try.func19 (by kernel_rfl) rfl #[.slice Ao13 t212.length co13] rfl (by (try simp only [List.map_toArray, List.map_cons, List.map_nil]); first | done | rfl | (simp only [List.length_drop, List.length_take]; rfl)) ?_; (with_reducible refine (impl_ProducersValid.calls k _ _ t212 t215 _ ?side1 ?side2 A7.out).mono ?_); (case side1 => repeat (first | exact (Kd.R_reads' HO214.out).2.2 | (with_reducible refine Kd.C_alloc ?_ _) | (with_reducible refine Kd.C_drewN ?_ _) | (with_reducible refine Kd.C_drew ?_))); (case side2 => exact (Kd.R_reads' HO214.out).2.1); rintro e w14 ⟨rfl, hb⟩; refine ⟨_, rfl, ?_⟩; have n0_ := Aside0.mk (Kd.R_below (by (with_reducible repeat (first | apply Kd.R_alloc | apply Kd.R_drewN | apply Kd.R_drew)); exact HO210.out) hb); have n1_ := Aside0.mk (Kd.R_below (by (with_reducible repeat (first | apply Kd.R_alloc | apply Kd.R_drewN | apply Kd.R_drew)); exact HO214.out) hb); have n2_ := Aside0.mk (below_step (by repeat (first | (with_reducible first | exact HB.out | apply below_alloc | apply pw_below_drewN | apply below_drew1) | exact HB.out)) hb); clear HO210; clear HO214; clear HB; have HO210 := n0_; have HO214 := n1_; have HB := n2_; clear n0_ n1_ n2_; (try clear hb); (try clear hb2); (try clear hk); (try clear hi)))
      go_ret
      exact ⟨by first | rfl | (simp [errW_none, errW_some] <;> rfl) | (simp [*, errW_none, errW_some] <;> rfl), by repeat (first | (with_reducible first | exact HB.out | apply below_alloc | apply pw_below_drewN | apply below_drew1) | exact HB.out)⟩
    · rw [if_neg c8] at H
      have c8b0 : (t215 != t211) = false := by simpa using c8
      (try (have c8b1 : decide (t215 = t211) = true := by simpa using c8))
      (try (have c8b2 : (t215 == t211) = true := by simpa using c8))
      clear c8
      replace H := Option.bind_eq_some_iff.mp H
      obtain ⟨t216, A150, H⟩ := H
      replace H : ((laws_eqProducerS.f k t212 t216).bind fun t219 => (if t219 = true then (some true) else (some false))) = some r := H
      have A15 := Aside0.mk A150
      clear A150
      replace H := Option.bind_eq_some_iff.mp H
      obtain ⟨t219, A160, H⟩ := H
      replace H : (if t219 = true then (some true) else (some false)) = some r := H
      have A16 := Aside0.mk A160
      clear A160
      by_cases c17 : t219 = true
      · subst c17
        have H1 : (some true) = some r := by rw [if_pos rfl] at H; exact H
        clear H
        have H := H1
        clear H1
        obtain rfl := Option.some.inj H
        go_enter Try.func4, Try.ntmps4
        go_wp2_with (first | ((with_reducible refine gate_callee (f := 21) rfl ?_); refine goesL_ (some 9) rfl rfl Try.func21 (by kernel_rfl) rfl #[.slice A0 l0.length c0, .int .i64 1048576] rfl (by (try simp only [List.map_toArray, List.map_cons, List.map_nil]); first | done | rfl | (simp only [List.length_drop, List.length_take]; rfl)) ?_; (with_reducible refine (laws_szProducerS.calls _ _ l0 1048576 t207 _ ?side1 ?side2 A2.out).mono ?_); (case side1 => repeat (first | exact HR0.out | (with_reducible refine Kd.C_alloc ?_ _) | (with_reducible refine Kd.C_drewN ?_ _) | (with_reducible refine Kd.C_drew ?_))); (case side2 => exact HC0.out); rintro e w' ⟨rfl, ⟨nd, rfl⟩⟩; refine ⟨_, rfl, ?_⟩) | ((with_reducible refine gate_callee (f := 22) rfl ?_); refine goesL_ (some 13) rfl rfl Try.func22 (by kernel_rfl) rfl #[.slice A0 l0.length c0] rfl (by (try simp only [List.map_toArray, List.map_cons, List.map_nil]); first | done | rfl | (simp only [List.length_drop, List.length_take]; rfl)) ?_; (with_reducible refine (laws_toProducerS.calls k _ _ l0 t208 _ ?side1 ?side2 A4.out).mono ?_); (case side1 => repeat (first | exact HR0.out | (with_reducible refine Kd.C_alloc ?_ _) | (with_reducible refine Kd.C_drewN ?_ _) | (with_reducible refine Kd.C_drew ?_))); (case side2 => exact HC0.out); rintro e w18 ⟨v209, rfl, ho0, hb⟩; refine ⟨_, rfl, ?_⟩; have n0_ := Aside0.mk (Kd.R_lower ho0 (below_size (by repeat (first | (with_reducible first | exact HB.out | apply below_alloc | apply pw_below_drewN | apply below_drew1) | exact HB.out)))); have n1_ := Aside0.mk (below_step (by repeat (first | (with_reducible first | exact HB.out | apply below_alloc | apply pw_below_drewN | apply below_drew1) | exact HB.out)) hb); clear HB; have HO210 := n0_; have HB := n1_; clear n0_ n1_; (try clear hb); (try clear hb2); (try clear hk); (try clear hi); (try clear ho0); obtain ⟨Ao19, co19, eo19⟩ := Kd.R_slice HO210.out; subst eo19) | ((with_reducible refine gate_callee (f := 20) rfl ?_); refine goesL_ (some 14) rfl rfl Try.func20 (by kernel_rfl) rfl #[.slice Ao19 t208.length co19] rfl (by (try simp only [List.map_toArray, List.map_cons, List.map_nil]); first | done | rfl | (simp only [List.length_drop, List.length_take]; rfl)) ?_; (with_reducible refine (spec_ProducersValid.calls k _ _ t208 t211 _ ?side1 ?side2 A5.out).mono ?_); (case side1 => repeat (first | exact (Kd.R_reads' HO210.out).2.2 | (with_reducible refine Kd.C_alloc ?_ _) | (with_reducible refine Kd.C_drewN ?_ _) | (with_reducible refine Kd.C_drew ?_))); (case side2 => exact (Kd.R_reads' HO210.out).2.1); rintro e w20 ⟨rfl, hb⟩; refine ⟨_, rfl, ?_⟩; have n0_ := Aside0.mk (Kd.R_below (by (with_reducible repeat (first | apply Kd.R_alloc | apply Kd.R_drewN | apply Kd.R_drew)); exact HO210.out) hb); have n1_ := Aside0.mk (below_step (by repeat (first | (with_reducible first | exact HB.out | apply below_alloc | apply pw_below_drewN | apply below_drew1) | exact HB.out)) hb); clear HO210; clear HB; have HO210 := n0_; have HB := n1_; clear n0_ n1_; (try clear hb); (try clear hb2); (try clear hk); (try clear hi)) | ((with_reducible refine gate_callee (f := 22) rfl ?_); refine goesL_ (some 16) rfl rfl Try.func22 (by kernel_rfl) rfl #[.slice A0 l0.length c0] rfl (by (try simp only [List.map_toArray, List.map_cons, List.map_nil]); first | done | rfl | (simp only [List.length_drop, List.length_take]; rfl)) ?_; (with_reducible refine (laws_toProducerS.calls k _ _ l0 t212 _ ?side1 ?side2 A6.out).mono ?_); (case side1 => repeat (first | exact (Kd.C_below HR0.out HB.out) | (with_reducible refine Kd.C_alloc ?_ _) | (with_reducible refine Kd.C_drewN ?_ _) | (with_reducible refine Kd.C_drew ?_))); (case side2 => exact HC0.out); rintro e w21 ⟨v213, rfl, ho0, hb⟩; refine ⟨_, rfl, ?_⟩; have n0_ := Aside0.mk (Kd.R_elder' (by (with_reducible repeat (first | apply Kd.R_alloc | apply Kd.R_drewN | apply Kd.R_drew)); exact HO210.out) (Kd.R_base ho0) hb); have n1_ := Aside0.mk (Kd.R_lower (Kd.R_new' ho0 (Kd.R_lt (by (with_reducible repeat (first | apply Kd.R_alloc | apply Kd.R_drewN | apply Kd.R_drew)); exact HO210.out))) (below_size (by repeat (first | (with_reducible first | exact HB.out | apply below_alloc | apply pw_below_drewN | apply below_drew1) | exact HB.out)))); have n2_ := Aside0.mk (below_step (by repeat (first | (with_reducible first | exact HB.out | apply below_alloc | apply pw_below_drewN | apply below_drew1) | exact HB.out)) hb); clear HO210; clear HB; have HO210 := n0_; have HO214 := n1_; have HB := n2_; clear n0_ n1_ n2_; (try clear hb); (try clear hb2); (try clear hk); (try clear hi); (try clear ho0); obtain ⟨Ao22, co22, eo22⟩ := Kd.R_slice HO214.out; subst eo22) | ((with_reducible refine gate_callee (f := 19) rfl ?_); refine goesL_ (some 18) rfl rfl Try.func19 (by kernel_rfl) rfl #[.slice Ao22 t212.length co22] rfl (by (try simp only [List.map_toArray, List.map_cons, List.map_nil]); first | done | rfl | (simp only [List.length_drop, List.length_take]; rfl)) ?_; (with_reducible refine (impl_ProducersValid.calls k _ _ t212 t215 _ ?side1 ?side2 A7.out).mono ?_); (case side1 => repeat (first | exact (Kd.R_reads' HO214.out).2.2 | (with_reducible refine Kd.C_alloc ?_ _) | (with_reducible refine Kd.C_drewN ?_ _) | (with_reducible refine Kd.C_drew ?_))); (case side2 => exact (Kd.R_reads' HO214.out).2.1); rintro e w23 ⟨rfl, hb⟩; refine ⟨_, rfl, ?_⟩; have n0_ := Aside0.mk (Kd.R_below (by (with_reducible repeat (first | apply Kd.R_alloc | apply Kd.R_drewN | apply Kd.R_drew)); exact HO210.out) hb); have n1_ := Aside0.mk (Kd.R_below (by (with_reducible repeat (first | apply Kd.R_alloc | apply Kd.R_drewN | apply Kd.R_drew)); exact HO214.out) hb); have n2_ := Aside0.mk (below_step (by repeat (first | (with_reducible first | exact HB.out | apply below_alloc | apply pw_below_drewN | apply below_drew1) | exact HB.out)) hb); clear HO210; clear HO214; clear HB; have HO210 := n0_; have HO214 := n1_; have HB := n2_; clear n0_ n1_ n2_; (try clear hb); (try clear hb2); (try clear hk); (try clear hi)) | ((with_reducible refine gate_callee (f := 22) rfl ?_); refine goesL_ (some 24) rfl rfl Try.func22 (by kernel_rfl) rfl #[.slice A0 l0.length c0] rfl (by (try simp only [List.map_toArray, List.map_cons, List.map_nil]); first | done | rfl | (simp only [List.length_drop, List.length_take]; rfl)) ?_; (with_reducible refine (laws_toProducerS.calls k _ _ l0 t216 _ ?side1 ?side2 A15.out).mono ?_); (case side1 => repeat (first | exact (Kd.C_below HR0.out HB.out) | (with_reducible refine Kd.C_alloc ?_ _) | (with_reducible refine Kd.C_drewN ?_ _) | (with_reducible refine Kd.C_drew ?_))); (case side2 => exact HC0.out); rintro e w24 ⟨v217, rfl, ho0, hb⟩; refine ⟨_, rfl, ?_⟩; have n0_ := Aside0.mk (Kd.R_elder' (by (with_reducible repeat (first | apply Kd.R_alloc | apply Kd.R_drewN | apply Kd.R_drew)); exact HO210.out) (Kd.R_base ho0) hb); have n1_ := Aside0.mk (Kd.R_elder' (by (with_reducible repeat (first | apply Kd.R_alloc | apply Kd.R_drewN | apply Kd.R_drew)); exact HO214.out) (Kd.R_base ho0) hb); have n2_ := Aside0.mk (Kd.R_lower (Kd.R_new' (Kd.R_new' ho0 (Kd.R_lt (by (with_reducible repeat (first | apply Kd.R_alloc | apply Kd.R_drewN | apply Kd.R_drew)); exact HO210.out))) (Kd.R_lt (by (with_reducible repeat (first | apply Kd.R_alloc | apply Kd.R_drewN | apply Kd.R_drew)); exact HO214.out))) (below_size (by repeat (first | (with_reducible first | exact HB.out | apply below_alloc | apply pw_below_drewN | apply below_drew1) | exact HB.out)))); have n3_ := Aside0.mk (below_step (by repeat (first | (with_reducible first | exact HB.out | apply below_alloc | apply pw_below_drewN | apply below_drew1) | exact HB.out)) hb); clear HO210; clear HO214; clear HB; have HO210 := n0_; have HO214 := n1_; have HO218 := n2_; have HB := n3_; clear n0_ n1_ n2_ n3_; (try clear hb); (try clear hb2); (try clear hk); (try clear hi); (try clear ho0); obtain ⟨Ao25, co25, eo25⟩ := Kd.R_slice HO218.out; subst eo25) | ((with_reducible refine gate_callee (f := 23) rfl ?_); refine goesL_ (some 25) rfl rfl Try.func23 (by kernel_rfl) rfl #[.slice Ao22 t212.length co22, .slice Ao25 t216.length co25] rfl (by (try simp only [List.map_toArray, List.map_cons, List.map_nil]); first | done | rfl | (simp only [List.length_drop, List.length_take]; rfl)) ?_; (with_reducible refine (laws_eqProducerS.calls k _ _ t212 _ _ t216 true _ ?side1 ?side2 ?side3 ?side4 A16.out).mono ?_); (case side1 => repeat (first | exact (Kd.R_reads' HO214.out).2.2 | (with_reducible refine Kd.C_alloc ?_ _) | (with_reducible refine Kd.C_drewN ?_ _) | (with_reducible refine Kd.C_drew ?_))); (case side2 => exact (Kd.R_reads' HO214.out).2.1); (case side3 => repeat (first | exact (Kd.R_reads' HO218.out).2.2 | (with_reducible refine Kd.C_alloc ?_ _) | (with_reducible refine Kd.C_drewN ?_ _) | (with_reducible refine Kd.C_drew ?_))); (case side4 => exact (Kd.R_reads' HO218.out).2.1); rintro e w26 ⟨rfl, hb⟩; refine ⟨_, rfl, ?_⟩; have n0_ := Aside0.mk (Kd.R_below (by (with_reducible repeat (first | apply Kd.R_alloc | apply Kd.R_drewN | apply Kd.R_drew)); exact HO210.out) hb); have n1_ := Aside0.mk (Kd.R_below (by (with_reducible repeat (first | apply Kd.R_alloc | apply Kd.R_drewN | apply Kd.R_drew)); exact HO214.out) hb); have n2_ := Aside0.mk (Kd.R_below (by (with_reducible repeat (first | apply Kd.R_alloc | apply Kd.R_drewN | apply Kd.R_drew)); exact HO218.out) hb); have n3_ := Aside0.mk (below_step (by repeat (first | (with_reducible first | exact HB.out | apply below_alloc | apply pw_below_drewN | apply below_drew1) | exact HB.out)) hb); clear HO210; clear HO214; clear HO218; clear HB; have HO210 := n0_; have HO214 := n1_; have HO218 := n2_; have HB := n3_; clear n0_ n1_ n2_ n3_; (try clear hb); (try clear hb2); (try clear hk); (try clear hi)))
        go_ret
        exact ⟨by first | rfl | (simp [errW_none, errW_some] <;> rfl) | (simp [*, errW_none, errW_some] <;> rfl), by repeat (first | (with_reducible first | exact HB.out | apply below_alloc | apply pw_below_drewN | apply below_drew1) | exact HB.out)⟩
      · replace c17 := Bool.eq_false_iff.mpr c17
        subst c17
        have H1 : (some false) = some r := by rw [if_neg (show ¬ (false = true) by decide)] at H; exact H
        clear H
        have H := H1
        clear H1
        obtain rfl := Option.some.inj H
        go_enter Try.func4, Try.ntmps4
        go_wp2_with (first | ((with_reducible refine gate_callee (f := 21) rfl ?_); refine goesL_ (some 9) rfl rfl Try.func21 (by kernel_rfl) rfl #[.slice A0 l0.length c0, .int .i64 1048576] rfl (by (try simp only [List.map_toArray, List.map_cons, List.map_nil]); first | done | rfl | (simp only [List.length_drop, List.length_take]; rfl)) ?_; (with_reducible refine (laws_szProducerS.calls _ _ l0 1048576 t207 _ ?side1 ?side2 A2.out).mono ?_); (case side1 => repeat (first | exact HR0.out | (with_reducible refine Kd.C_alloc ?_ _) | (with_reducible refine Kd.C_drewN ?_ _) | (with_reducible refine Kd.C_drew ?_))); (case side2 => exact HC0.out); rintro e w' ⟨rfl, ⟨nd, rfl⟩⟩; refine ⟨_, rfl, ?_⟩) | ((with_reducible refine gate_callee (f := 22) rfl ?_); refine goesL_ (some 13) rfl rfl Try.func22 (by kernel_rfl) rfl #[.slice A0 l0.length c0] rfl (by (try simp only [List.map_toArray, List.map_cons, List.map_nil]); first | done | rfl | (simp only [List.length_drop, List.length_take]; rfl)) ?_; (with_reducible refine (laws_toProducerS.calls k _ _ l0 t208 _ ?side1 ?side2 A4.out).mono ?_); (case side1 => repeat (first | exact HR0.out | (with_reducible refine Kd.C_alloc ?_ _) | (with_reducible refine Kd.C_drewN ?_ _) | (with_reducible refine Kd.C_drew ?_))); (case side2 => exact HC0.out); rintro e w27 ⟨v209, rfl, ho0, hb⟩; refine ⟨_, rfl, ?_⟩; have n0_ := Aside0.mk (Kd.R_lower ho0 (below_size (by repeat (first | (with_reducible first | exact HB.out | apply below_alloc | apply pw_below_drewN | apply below_drew1) | exact HB.out)))); have n1_ := Aside0.mk (below_step (by repeat (first | (with_reducible first | exact HB.out | apply below_alloc | apply pw_below_drewN | apply below_drew1) | exact HB.out)) hb); clear HB; have HO210 := n0_; have HB := n1_; clear n0_ n1_; (try clear hb); (try clear hb2); (try clear hk); (try clear hi); (try clear ho0); obtain ⟨Ao28, co28, eo28⟩ := Kd.R_slice HO210.out; subst eo28) | ((with_reducible refine gate_callee (f := 20) rfl ?_); refine goesL_ (some 14) rfl rfl Try.func20 (by kernel_rfl) rfl #[.slice Ao28 t208.length co28] rfl (by (try simp only [List.map_toArray, List.map_cons, List.map_nil]); first | done | rfl | (simp only [List.length_drop, List.length_take]; rfl)) ?_; (with_reducible refine (spec_ProducersValid.calls k _ _ t208 t211 _ ?side1 ?side2 A5.out).mono ?_); (case side1 => repeat (first | exact (Kd.R_reads' HO210.out).2.2 | (with_reducible refine Kd.C_alloc ?_ _) | (with_reducible refine Kd.C_drewN ?_ _) | (with_reducible refine Kd.C_drew ?_))); (case side2 => exact (Kd.R_reads' HO210.out).2.1); rintro e w29 ⟨rfl, hb⟩; refine ⟨_, rfl, ?_⟩; have n0_ := Aside0.mk (Kd.R_below (by (with_reducible repeat (first | apply Kd.R_alloc | apply Kd.R_drewN | apply Kd.R_drew)); exact HO210.out) hb); have n1_ := Aside0.mk (below_step (by repeat (first | (with_reducible first | exact HB.out | apply below_alloc | apply pw_below_drewN | apply below_drew1) | exact HB.out)) hb); clear HO210; clear HB; have HO210 := n0_; have HB := n1_; clear n0_ n1_; (try clear hb); (try clear hb2); (try clear hk); (try clear hi)) | ((with_reducible refine gate_callee (f := 22) rfl ?_); refine goesL_ (some 16) rfl rfl Try.func22 (by kernel_rfl) rfl #[.slice A0 l0.length c0] rfl (by (try simp only [List.map_toArray, List.map_cons, List.map_nil]); first | done | rfl | (simp only [List.length_drop, List.length_take]; rfl)) ?_; (with_reducible refine (laws_toProducerS.calls k _ _ l0 t212 _ ?side1 ?side2 A6.out).mono ?_); (case side1 => repeat (first | exact (Kd.C_below HR0.out HB.out) | (with_reducible refine Kd.C_alloc ?_ _) | (with_reducible refine Kd.C_drewN ?_ _) | (with_reducible refine Kd.C_drew ?_))); (case side2 => exact HC0.out); rintro e w30 ⟨v213, rfl, ho0, hb⟩; refine ⟨_, rfl, ?_⟩; have n0_ := Aside0.mk (Kd.R_elder' (by (with_reducible repeat (first | apply Kd.R_alloc | apply Kd.R_drewN | apply Kd.R_drew)); exact HO210.out) (Kd.R_base ho0) hb); have n1_ := Aside0.mk (Kd.R_lower (Kd.R_new' ho0 (Kd.R_lt (by (with_reducible repeat (first | apply Kd.R_alloc | apply Kd.R_drewN | apply Kd.R_drew)); exact HO210.out))) (below_size (by repeat (first | (with_reducible first | exact HB.out | apply below_alloc | apply pw_below_drewN | apply below_drew1) | exact HB.out)))); have n2_ := Aside0.mk (below_step (by repeat (first | (with_reducible first | exact HB.out | apply below_alloc | apply pw_below_drewN | apply below_drew1) | exact HB.out)) hb); clear HO210; clear HB; have HO210 := n0_; have HO214 := n1_; have HB := n2_; clear n0_ n1_ n2_; (try clear hb); (try clear hb2); (try clear hk); (try clear hi); (try clear ho0); obtain ⟨Ao31, co31, eo31⟩ := Kd.R_slice HO214.out; subst eo31) | ((with_reducible refine gate_callee (f := 19) rfl ?_); refine goesL_ (some 18) rfl rfl Try.func19 (by kernel_rfl) rfl #[.slice Ao31 t212.length co31] rfl (by (try simp only [List.map_toArray, List.map_cons, List.map_nil]); first | done | rfl | (simp only [List.length_drop, List.length_take]; rfl)) ?_; (with_reducible refine (impl_ProducersValid.calls k _ _ t212 t215 _ ?side1 ?side2 A7.out).mono ?_); (case side1 => repeat (first | exact (Kd.R_reads' HO214.out).2.2 | (with_reducible refine Kd.C_alloc ?_ _) | (with_reducible refine Kd.C_drewN ?_ _) | (with_reducible refine Kd.C_drew ?_))); (case side2 => exact (Kd.R_reads' HO214.out).2.1); rintro e w32 ⟨rfl, hb⟩; refine ⟨_, rfl, ?_⟩; have n0_ := Aside0.mk (Kd.R_below (by (with_reducible repeat (first | apply Kd.R_alloc | apply Kd.R_drewN | apply Kd.R_drew)); exact HO210.out) hb); have n1_ := Aside0.mk (Kd.R_below (by (with_reducible repeat (first | apply Kd.R_alloc | apply Kd.R_drewN | apply Kd.R_drew)); exact HO214.out) hb); have n2_ := Aside0.mk (below_step (by repeat (first | (with_reducible first | exact HB.out | apply below_alloc | apply pw_below_drewN | apply below_drew1) | exact HB.out)) hb); clear HO210; clear HO214; clear HB; have HO210 := n0_; have HO214 := n1_; have HB := n2_; clear n0_ n1_ n2_; (try clear hb); (try clear hb2); (try clear hk); (try clear hi)) | ((with_reducible refine gate_callee (f := 22) rfl ?_); refine goesL_ (some 24) rfl rfl Try.func22 (by kernel_rfl) rfl #[.slice A0 l0.length c0] rfl (by (try simp only [List.map_toArray, List.map_cons, List.map_nil]); first | done | rfl | (simp only [List.length_drop, List.length_take]; rfl)) ?_; (with_reducible refine (laws_toProducerS.calls k _ _ l0 t216 _ ?side1 ?side2 A15.out).mono ?_); (case side1 => repeat (first | exact (Kd.C_below HR0.out HB.out) | (with_reducible refine Kd.C_alloc ?_ _) | (with_reducible refine Kd.C_drewN ?_ _) | (with_reducible refine Kd.C_drew ?_))); (case side2 => exact HC0.out); rintro e w33 ⟨v217, rfl, ho0, hb⟩; refine ⟨_, rfl, ?_⟩; have n0_ := Aside0.mk (Kd.R_elder' (by (with_reducible repeat (first | apply Kd.R_alloc | apply Kd.R_drewN | apply Kd.R_drew)); exact HO210.out) (Kd.R_base ho0) hb); have n1_ := Aside0.mk (Kd.R_elder' (by (with_reducible repeat (first | apply Kd.R_alloc | apply Kd.R_drewN | apply Kd.R_drew)); exact HO214.out) (Kd.R_base ho0) hb); have n2_ := Aside0.mk (Kd.R_lower (Kd.R_new' (Kd.R_new' ho0 (Kd.R_lt (by (with_reducible repeat (first | apply Kd.R_alloc | apply Kd.R_drewN | apply Kd.R_drew)); exact HO210.out))) (Kd.R_lt (by (with_reducible repeat (first | apply Kd.R_alloc | apply Kd.R_drewN | apply Kd.R_drew)); exact HO214.out))) (below_size (by repeat (first | (with_reducible first | exact HB.out | apply below_alloc | apply pw_below_drewN | apply below_drew1) | exact HB.out)))); have n3_ := Aside0.mk (below_step (by repeat (first | (with_reducible first | exact HB.out | apply below_alloc | apply pw_below_drewN | apply below_drew1) | exact HB.out)) hb); clear HO210; clear HO214; clear HB; have HO210 := n0_; have HO214 := n1_; have HO218 := n2_; have HB := n3_; clear n0_ n1_ n2_ n3_; (try clear hb); (try clear hb2); (try clear hk); (try clear hi); (try clear ho0); obtain ⟨Ao34, co34, eo34⟩ := Kd.R_slice HO218.out; subst eo34) | ((with_reducible refine gate_callee (f := 23) rfl ?_); refine goesL_ (some 25) rfl rfl Try.func23 (by kernel_rfl) rfl #[.slice Ao31 t212.length co31, .slice Ao34 t216.length co34] rfl (by (try simp only [List.map_toArray, List.map_cons, List.map_nil]); first | done | rfl | (simp only [List.length_drop, List.length_take]; rfl)) ?_; (with_reducible refine (laws_eqProducerS.calls k _ _ t212 _ _ t216 false _ ?side1 ?side2 ?side3 ?side4 A16.out).mono ?_); (case side1 => repeat (first | exact (Kd.R_reads' HO214.out).2.2 | (with_reducible refine Kd.C_alloc ?_ _) | (with_reducible refine Kd.C_drewN ?_ _) | (with_reducible refine Kd.C_drew ?_))); (case side2 => exact (Kd.R_reads' HO214.out).2.1); (case side3 => repeat (first | exact (Kd.R_reads' HO218.out).2.2 | (with_reducible refine Kd.C_alloc ?_ _) | (with_reducible refine Kd.C_drewN ?_ _) | (with_reducible refine Kd.C_drew ?_))); (case side4 => exact (Kd.R_reads' HO218.out).2.1); rintro e w35 ⟨rfl, hb⟩; refine ⟨_, rfl, ?_⟩; have n0_ := Aside0.mk (Kd.R_below (by (with_reducible repeat (first | apply Kd.R_alloc | apply Kd.R_drewN | apply Kd.R_drew)); exact HO210.out) hb); have n1_ := Aside0.mk (Kd.R_below (by (with_reducible repeat (first | apply Kd.R_alloc | apply Kd.R_drewN | apply Kd.R_drew)); exact HO214.out) hb); have n2_ := Aside0.mk (Kd.R_below (by (with_reducible repeat (first | apply Kd.R_alloc | apply Kd.R_drewN | apply Kd.R_drew)); exact HO218.out) hb); have n3_ := Aside0.mk (below_step (by repeat (first | (with_reducible first | exact HB.out | apply below_alloc | apply pw_below_drewN | apply below_drew1) | exact HB.out)) hb); clear HO210; clear HO214; clear HO218; clear HB; have HO210 := n0_; have HO214 := n1_; have HO218 := n2_; have HB := n3_; clear n0_ n1_ n2_ n3_; (try clear hb); (try clear hb2); (try clear hk); (try clear hi)))
        go_ret
        exact ⟨by first | rfl | (simp [errW_none, errW_some] <;> rfl) | (simp [*, errW_none, errW_some] <;> rfl), by repeat (first | (with_reducible first | exact HB.out | apply below_alloc | apply pw_below_drewN | apply below_drew1) | exact HB.out)⟩
end Go.Proofs.Ytkhmopmfbocokaa.T
namespace Go.Proofs.Ytkhmopmfbocokaa.Q
open Go.RowKit Go.Proofs.YtkhmopmfbocokaaW.PrintWords
def Opens {α : Type} (P : Program) (d : Kd α) (t : TypeId) (WF : α → Prop) : Prop :=
  ∀ (H : Type) (enc : TypeId × Value → H) (w : World) (base : Nat) (spare : Nat → Bool) (held : Bool) (fuel : Nat) (cs : List Value) (x : DataW H × List MemPlace), DataW.trod enc P w base spare held fuel t cs = some x → ∃ v : α, d.K w v cs ∧ WF v
theorem Opens.int {P : Program} {t : TypeId} {k : IntKind} (ht : P.underlying t = some (.int k)) : Opens P (Kd.int k) t (fun n => (Lit.int k n).wf = true) := by
  intro H enc w base spare held fuel cs x h
  obtain ⟨n, rfl, _, hw⟩ := DataW.trod_int ht h
  exact ⟨n, rfl, hw⟩
theorem Opens.bool {P : Program} {t : TypeId} (ht : P.underlying t = some .bool) : Opens P Kd.bool t (fun _ => True) := by
  intro H enc w base spare held fuel cs x h
  obtain ⟨n, rfl, _⟩ := DataW.trod_bool ht h
  exact ⟨n, rfl, trivial⟩
theorem Opens.iso {α β : Type} {P : Program} {t : TypeId} {d : Kd α} {WF : α → Prop} {f : β → α} (h : Opens P d t WF) (g : α → β) (hg : ∀ a, f (g a) = a) : Opens P (Kd.iso d f) t (fun b => WF (f b)) := by
  intro H enc w base spare held fuel cs x hx
  obtain ⟨v, hv, hw⟩ := h H enc w base spare held fuel cs x hx
  exact ⟨g v, by show d.K w (f (g v)) cs; rw [hg]; exact hv, by show WF (f (g v)); rw [hg]; exact hw⟩
theorem list_of {α : Type} {Q : Nat → α → Prop} : ∀ (n : Nat), (∀ i, i < n → ∃ v, Q i v) → ∃ l : List α, l.length = n ∧ ∀ j p, l[j]? = some p → Q j p
  | 0, _ => ⟨[], rfl, fun j p h => by simp at h⟩
  | n + 1, h => by
    obtain ⟨l, hl, hq⟩ := list_of n (fun i hi => h i (by omega))
    obtain ⟨v, hv⟩ := h n (by omega)
    refine ⟨l ++ [v], by simp [hl], fun j p hj => ?_⟩
    rcases Nat.lt_or_ge j l.length with h1 | h1
    · rw [List.getElem?_append_left h1] at hj
      exact hq j p hj
    · rw [List.getElem?_append_right h1] at hj
      have h2 : j - l.length = 0 := by
        have := (List.getElem?_eq_some_iff.1 hj).1
        simp at this
        omega
      rw [h2] at hj
      simp at hj
      subst hj
      have : j = n := by omega
      subst this
      exact hv
theorem cells_get {w : World} {base : Nat} {a : Addr} {n : Nat} {cs : List Value} (h : w.cells? base a n = some cs) : cs.length = n ∧ ∀ (i : Nat) (u : Value), cs[i]? = some u → w.cell? (a.add i) = some u := by
  unfold World.cells? at h
  split at h
  · have hl : cs.length = n := by simpa using mapM_some_length h
    refine ⟨hl, fun i u hu => ?_⟩
    have hi : i < cs.length := (List.getElem?_eq_some_iff.1 hu).1
    have := mapM_some_get h i i (by rw [List.getElem?_range (by omega)])
    rw [this, hu]
  · cases h
theorem add_add' (a : Addr) (x y : Nat) : (a.add x).add y = a.add (x + y) := by
  by_cases hx : x = 0 <;> by_cases hy : y = 0 <;> simp [Addr.add, hx, hy, Nat.add_assoc]
theorem Opens.slice {α : Type} {P : Program} {t e : TypeId} {d : Kd α} {WF : α → Prop} (ht : P.underlying t = some (.slice e)) (h : Opens P d e WF) (hs : P.cellsOf e = d.sz) : Opens P (Kd.slice e d) t (fun l => l.length ≤ maxLen ∧ ∀ v ∈ l, WF v) := by
  intro H enc w base spare held fuel cs x hx
  rcases Go.Deep.open_slice ht hx with ⟨rfl, _⟩ | ⟨a, len, cap, m, n, D, Pl, rfl, hb, hl, hm, hmm, _, hi⟩
  · exact ⟨[], ⟨none, 0, rfl, Nat.le_refl _, rfl, by simp, fun h => by simp at h⟩, by simp, fun v hv => by simp at hv⟩
  · have hlm : len ≤ m := by rw [hmm]; split <;> omega
    obtain ⟨l, hll, hq⟩ := list_of (Q := fun i v => ∃ c, w.cells? base (a.add (i * P.cellsOf e)) (P.cellsOf e) = some c ∧ d.K w v c ∧ WF v) len (fun i hlt => by
      obtain ⟨c, hc, hd⟩ := hi i (by omega)
      obtain ⟨v, hv, hw⟩ := h H enc w base spare held n c _ hd
      exact ⟨v, c, hc, hv, hw⟩)
    subst hll
    refine ⟨l, ⟨some a, cap, rfl, hl, rfl, by unfold maxLen at hm; omega, fun _ => ⟨a, rfl, fun j p hj => ?_⟩⟩, Nat.le_trans hl hm, fun v hv => ?_⟩
    · obtain ⟨c, hc, hk, _⟩ := hq j p hj
      obtain ⟨h1, h2⟩ := cells_get hc
      refine ⟨c, by rw [h1, hs], hk, fun i u hu => ?_⟩
      rw [← hs, ← add_add']
      exact h2 i u hu
    · obtain ⟨j, hj, rfl⟩ := List.getElem_of_mem hv
      obtain ⟨_, _, _, hw⟩ := hq j _ (List.getElem?_eq_getElem hj)
      exact hw
def OpensFs {α : Type} (P : Program) (o : Nat) (fs : List Field) (d : Kd α) (WF : α → Prop) : Prop :=
  ∀ (H : Type) (enc : TypeId × Value → H) (w : World) (base : Nat) (spare : Nat → Bool) (held : Bool) (fuel : Nat) (cs : List Value), (∀ f ∈ fs, ∃ x : DataW H × List MemPlace, DataW.trod enc P w base spare held fuel f.type ((cs.drop f.offset).take (P.cellsOf f.type)) = some x) → cs.length = o + d.sz → ∃ v : α, d.K w v (cs.drop o) ∧ WF v
theorem OpensFs.one {α : Type} {P : Program} {o : Nat} {f : Field} {d : Kd α} {WF : α → Prop} (ho : f.offset = o) (hs : P.cellsOf f.type = d.sz) (h : Opens P d f.type WF) : OpensFs P o [f] d WF := by
  intro H enc w base spare held fuel cs hx hl
  obtain ⟨x, hx⟩ := hx f (by simp)
  rw [ho, hs, List.take_of_length_le (by rw [List.length_drop]; omega)] at hx
  exact h H enc w base spare held fuel _ x hx
theorem OpensFs.cons {α β : Type} {P : Program} {o : Nat} {f : Field} {fs : List Field} {d : Kd α} {d' : Kd β} {WF : α → Prop} {WF' : β → Prop} (ho : f.offset = o) (hs : P.cellsOf f.type = d.sz) (h : Opens P d f.type WF) (h' : OpensFs P (o + d.sz) fs d' WF') : OpensFs P o (f :: fs) (Kd.pair d d') (fun p => WF p.1 ∧ WF' p.2) := by
  intro H enc w base spare held fuel cs hx hl
  obtain ⟨x, hx0⟩ := hx f (by simp)
  rw [ho, hs] at hx0
  obtain ⟨v, hv, hw⟩ := h H enc w base spare held fuel _ x hx0
  have hl' : cs.length = o + d.sz + d'.sz := by rw [hl]; exact (Nat.add_assoc _ _ _).symm
  obtain ⟨v', hv', hw'⟩ := h' H enc w base spare held fuel cs (fun f' hf' => hx f' (List.mem_cons_of_mem _ hf')) hl'
  refine ⟨(v, v'), ⟨(cs.drop o).take d.sz, cs.drop (o + d.sz), ?_, hv, hv'⟩, hw, hw'⟩
  rw [← List.drop_drop, List.take_append_drop]
theorem Opens.struct {α : Type} {P : Program} {t : TypeId} {fs : Array Field} {d : Kd α} {WF : α → Prop} (ht : P.underlying t = some (.struct fs)) (hs : P.cellsOf t = d.sz) (h : OpensFs P 0 fs.toList d WF) : Opens P d t WF := by
  intro H enc w base spare held fuel cs x hx
  obtain ⟨xs, n, _, _, hl, hxs, hf⟩ := DataW.trod_struct ht hx
  refine h H enc w base spare held n cs (fun f hfm => ?_) (by rw [hl, hs, Nat.zero_add])
  obtain ⟨i, hi, rfl⟩ := List.getElem_of_mem hfm
  have hi' : i < fs.size := by simpa using hi
  have := hf i fs[i] (Array.getElem?_eq_getElem hi')
  rw [List.getElem?_eq_getElem (by omega)] at this
  exact ⟨_, by simpa using this⟩
end Go.Proofs.Ytkhmopmfbocokaa.Q
namespace Go.Proofs.Ytkhmopmfbocokaa.T
open Go.RowKit Go.Proofs.YtkhmopmfbocokaaW.PrintWords
set_option linter.unusedVariables false
def WF72 (x : S72) : Prop := (Lit.int .i64 x.f0).wf = true ∧ (Lit.int .i64 x.f1).wf = true ∧ (Lit.int .i64 x.f2).wf = true
theorem opens72 : Q.Opens Try.prog k72 72 WF72 :=
  Q.Opens.iso (Q.Opens.struct Try.underlying72 (by kernel_rfl) (Q.OpensFs.cons rfl (by kernel_rfl) (Q.Opens.int Try.underlying3) (Q.OpensFs.cons rfl (by kernel_rfl) (Q.Opens.int Try.underlying3) (Q.OpensFs.one rfl (by kernel_rfl) (Q.Opens.int Try.underlying3))))) (fun p => ⟨p.1, p.2.1, p.2.2⟩) (fun _ => rfl)
end Go.Proofs.Ytkhmopmfbocokaa.T
namespace Go.Proofs.Ytkhmopmfbocokaa.Q
open Go.RowKit Go.Proofs.YtkhmopmfbocokaaW.PrintWords
set_option linter.unusedVariables false
set_option linter.unusedSimpArgs false
theorem ev_succ {α : Type} {g : Nat → Option α} {r : α} (h : Ev (fun k => g (k + 1)) r) : Ev g r := Ev.step (f := fun k => g (k + 1)) (fun _ => rfl) h
theorem ev_of_all {α : Type} {g : Nat → Option α} {r : α} (h : ∀ k, g k = some r) : Ev g r := ⟨0, fun k _ => h k⟩
theorem ev_some {α : Type} (r : α) : Ev (fun _ => some r) r := ev_of_all fun _ => rfl
def Evs {α : Type} (g : Nat → Option α) (Q : α → Prop) : Prop := ∃ r, Ev g r ∧ Q r
theorem Evs.done {α : Type} {Q : α → Prop} {r : α} (hq : Q r) : Evs (fun _ => some r) Q := ⟨r, ev_some r, hq⟩
theorem Evs.mono {α : Type} {g : Nat → Option α} {Q Q' : α → Prop} (h : Evs g Q) (hq : ∀ r, Q r → Q' r) : Evs g Q' := by
  obtain ⟨r, h1, h2⟩ := h
  exact ⟨r, h1, hq r h2⟩
theorem Evs.succ {α : Type} {g : Nat → Option α} {Q : α → Prop} (h : Evs (fun k => g (k + 1)) Q) : Evs g Q := by
  obtain ⟨r, h1, h2⟩ := h
  exact ⟨r, ev_succ h1, h2⟩
theorem Evs.bind {α β : Type} {g : Nat → Option α} {f : Nat → α → Option β} {Q : α → Prop} {R : β → Prop} (h : Evs g Q) (k : ∀ a, Q a → Evs (fun n => f n a) R) : Evs (fun n => (g n).bind (f n)) R := by
  obtain ⟨a, h1, h2⟩ := h
  obtain ⟨r, k1, k2⟩ := k a h2
  exact ⟨r, Ev.bind h1 k1, k2⟩
theorem Evs.ev {α : Type} {g : Nat → Option α} {r : α} (h : Evs g (fun x => x = r)) : Ev g r := by
  obtain ⟨x, h1, rfl⟩ := h
  exact h1
theorem bsome {α β : Type} (a : α) (f : α → Option β) : (some a).bind f = f a := Eq.trans (Option.bind_some a f) (Eq.refl _)
end Go.Proofs.Ytkhmopmfbocokaa.Q
namespace Go.Proofs.Ytkhmopmfbocokaa.Q
open Go.RowKit Go.Proofs.Ytkhmopmfbocokaa.T Go.Proofs.YtkhmopmfbocokaaW.PrintWords Go.Proofs.YtkhmopmfbocokaaW.PrintLast
set_option linter.unusedVariables false
set_option linter.unusedSimpArgs false
theorem wrap_id {x : Int} (h0 : -9223372036854775808 ≤ x) (h1 : x < 9223372036854775808) : wrap64 x = x := by unfold wrap64; omega
end Go.Proofs.Ytkhmopmfbocokaa.Q
namespace Go.Proofs.Ytkhmopmfbocokaa.Q
open Go.RowKit Go.Proofs.Ytkhmopmfbocokaa.T Go.Proofs.YtkhmopmfbocokaaW.PrintWords Go.Proofs.YtkhmopmfbocokaaW.PrintLast
set_option linter.unusedVariables false
set_option linter.unusedSimpArgs false
theorem impl_within_eq (a b c : Int) : impl_within.f a b c = some (decide (b ≤ a ∧ a ≤ c)) := by
  unfold impl_within.f
  by_cases h : a ≥ b
  · rw [if_pos h]
    have : (b ≤ a ∧ a ≤ c) ↔ a ≤ c := ⟨fun h => h.2, fun h' => ⟨h, h'⟩⟩
    simp [this]
  · rw [if_neg h]
    have : ¬ (b ≤ a ∧ a ≤ c) := fun h' => h h'.1
    simp [this]
theorem spec_l6In_eq (a b c : Int) : spec_l6In.f a b c = some (decide (b ≤ a ∧ a ≤ c)) := by
  unfold spec_l6In.f
  by_cases h : a ≥ b
  · rw [if_pos h]
    have : (b ≤ a ∧ a ≤ c) ↔ a ≤ c := ⟨fun h => h.2, fun h' => ⟨h, h'⟩⟩
    simp [this]
  · rw [if_neg h]
    have : ¬ (b ≤ a ∧ a ≤ c) := fun h' => h h'.1
    simp [this]
end Go.Proofs.Ytkhmopmfbocokaa.Q
namespace Go.Proofs.Ytkhmopmfbocokaa.Q
set_option linter.unusedVariables false
set_option linter.unusedSimpArgs false
end Go.Proofs.Ytkhmopmfbocokaa.Q
namespace Go.Proofs.Ytkhmopmfbocokaa.Q
open Go.RowKit Go.Proofs.Ytkhmopmfbocokaa.T Go.Proofs.YtkhmopmfbocokaaW.PrintWords Go.Proofs.YtkhmopmfbocokaaW.PrintLast
set_option linter.unusedVariables false
set_option linter.unusedSimpArgs false
abbrev Pr := S39
abbrev rp (l : List Pr) (i : Int) : Pr := rd_T39 l i
theorem rp_nat (l : List Pr) (j : Nat) (h : j < l.length) : rp l (j : Int) = l[j] := by
  unfold rp rd_T39
  rw [Int.toNat_natCast, List.getD_eq_getElem?_getD, List.getElem?_eq_getElem h]
  rfl
theorem Pr_ext {a b : Pr} (h0 : a.f0 = b.f0) (h1 : a.f1 = b.f1) (h2 : a.f2 = b.f2) : a = b := by
  cases a
  cases b
  simp at h0 h1 h2
  rw [h0, h1, h2]
instance : DecidableEq Pr := fun a b => decidable_of_iff (a.f0 = b.f0 ∧ a.f1 = b.f1 ∧ a.f2 = b.f2) ⟨fun h => Pr_ext h.1 h.2.1 h.2.2, fun h => by rw [h]; exact ⟨rfl, rfl, rfl⟩⟩
theorem drop_atP {l : List Pr} {i : Nat} (h : i < l.length) : l.drop i = rp l i :: l.drop (i + 1) := by
  rw [List.drop_eq_getElem_cons h, rp_nat l i h]
theorem idValid_eq (a : Int) : impl_idValid.f a = some (decide (0 ≤ a ∧ a ≤ 254)) := by
  unfold impl_idValid.f
  rw [impl_within_eq]
  rfl
def okP (t : Pr) : Prop := (0 ≤ t.f0 ∧ t.f0 ≤ 254) ∧ (0 ≤ t.f1 ∧ t.f1 ≤ 99) ∧ (0 ≤ t.f2 ∧ t.f2 ≤ 99999)
def ltP (a b : Pr) : Prop := a.f0 < b.f0
def PF (l : List Pr) (i : Nat) : Prop := ∀ j, i ≤ j → j < l.length → okP (rp l j) ∧ (0 < j → ltP (rp l ((j : Int) - 1)) (rp l j))
def VP (l : List Pr) : Prop := l.length ≤ 20 ∧ PF l 0
theorem PF_end {l : List Pr} {i : Nat} (h : l.length ≤ i) : PF l i := fun j h1 h2 => by omega
theorem PF_step {l : List Pr} {i : Nat} (h : i < l.length) : PF l i ↔ (okP (rp l i) ∧ (0 < i → ltP (rp l ((i : Int) - 1)) (rp l i))) ∧ PF l (i + 1) := by
  constructor
  · intro hv
    exact ⟨hv i (Nat.le_refl _) h, fun j h1 h2 => hv j (by omega) h2⟩
  · rintro ⟨h1, h2⟩ j h3 h4
    by_cases e : j = i
    · subst e; exact h1
    · exact h2 j (by omega) h4
theorem implPValid_loop (l : List Pr) (hl : l.length ≤ 1000000000000) : ∀ (d i : Nat), l.length - i = d → i ≤ l.length → Evs (fun k => impl_ProducersValid.l0 k l l (l.length : Int) (i : Int)) (fun b => b = true ↔ PF l i) := by
  intro d
  induction d with
  | zero =>
    intro i hd hi
    refine Evs.succ ?_
    simp only [impl_ProducersValid.l0, if_neg (show ¬ (i : Int) < (l.length : Int) by omega)]
    exact Evs.done (by simp; exact PF_end (by omega))
  | succ d ih =>
    intro i hd hi
    have hlt : (i : Int) < (l.length : Int) := by omega
    have hn := ih (i + 1) (by omega) (by omega)
    have e1 : wrap64 ((i : Int) + 1) = ((i + 1 : Nat) : Int) := by rw [wrap_id (by omega) (by omega)]; omega
    have e2 : wrap64 ((i : Int) - 1) = (i : Int) - 1 := wrap_id (by omega) (by omega)
    rw [PF_step (show i < l.length by omega)]
    refine Evs.succ ?_
    simp only [impl_ProducersValid.l0, if_pos hlt, if_pos (show (0 : Int) ≤ i by omega), idValid_eq, impl_within_eq, bsome, decide_eq_true_eq, e1, e2]
    by_cases k0 : 0 ≤ (rp l i).f0 ∧ (rp l i).f0 ≤ 254
    · simp only [if_pos k0]
      by_cases k1 : 0 ≤ (rp l i).f1 ∧ (rp l i).f1 ≤ 99
      · simp only [if_pos k1]
        by_cases k2 : 0 ≤ (rp l i).f2 ∧ (rp l i).f2 ≤ 99999
        · simp only [if_pos k2]
          have hok : okP (rp l i) := ⟨k0, k1, k2⟩
          by_cases h0 : (i : Int) > 0
          · simp only [if_pos h0, if_pos (show 0 ≤ (i : Int) - 1 by omega), if_pos (show (i : Int) - 1 < (l.length : Int) by omega)]
            by_cases k3 : (rp l ((i : Int) - 1)).f0 ≥ (rp l i).f0
            · simp only [if_pos k3]
              refine Evs.done ?_
              simp only [Bool.false_eq_true, false_iff]
              rintro ⟨⟨_, h3⟩, _⟩
              have := h3 (by omega)
              unfold ltP at this
              omega
            · simp only [if_neg k3]
              refine hn.mono fun b hb => ?_
              rw [hb]
              exact ⟨fun h => ⟨⟨hok, fun _ => by unfold ltP; omega⟩, h⟩, fun h => h.2⟩
          · simp only [if_neg h0]
            refine hn.mono fun b hb => ?_
            rw [hb]
            exact ⟨fun h => ⟨⟨hok, fun h' => absurd h' (by omega)⟩, h⟩, fun h => h.2⟩
        · simp only [if_neg k2]
          exact Evs.done (by simp only [Bool.false_eq_true, false_iff]; exact fun h => k2 h.1.1.2.2)
      · simp only [if_neg k1]
        exact Evs.done (by simp only [Bool.false_eq_true, false_iff]; exact fun h => k1 h.1.1.2.1)
    · simp only [if_neg k0]
      exact Evs.done (by simp only [Bool.false_eq_true, false_iff]; exact fun h => k0 h.1.1.1)
theorem specPValid_loop (l : List Pr) (hl : l.length ≤ 1000000000000) : ∀ (d i : Nat), l.length - i = d → i ≤ l.length → Evs (fun k => spec_ProducersValid.l0 k l (i : Int)) (fun b => b = true ↔ l.length ≤ 20 ∧ PF l i) := by
  intro d
  induction d with
  | zero =>
    intro i hd hi
    refine Evs.succ ?_
    simp only [spec_ProducersValid.l0, if_neg (show ¬ (i : Int) < (l.length : Int) by omega)]
    exact Evs.done (by simp only [decide_eq_true_eq]; exact ⟨fun h => ⟨by omega, PF_end (by omega)⟩, fun h => by have := h.1; omega⟩)
  | succ d ih =>
    intro i hd hi
    have hlt : (i : Int) < (l.length : Int) := by omega
    have hn := ih (i + 1) (by omega) (by omega)
    have e1 : wrap64 ((i : Int) + 1) = ((i + 1 : Nat) : Int) := by rw [wrap_id (by omega) (by omega)]; omega
    have e2 : wrap64 ((i : Int) - 1) = (i : Int) - 1 := wrap_id (by omega) (by omega)
    rw [PF_step (show i < l.length by omega)]
    refine Evs.succ ?_
    simp only [spec_ProducersValid.l0, if_pos hlt, if_pos (show (0 : Int) ≤ i by omega), spec_l6In_eq, bsome, decide_eq_true_eq, e1, e2]
    by_cases k0 : 0 ≤ (rp l i).f0 ∧ (rp l i).f0 ≤ 254
    · simp only [if_pos k0]
      by_cases k1 : 0 ≤ (rp l i).f1 ∧ (rp l i).f1 ≤ 99
      · simp only [if_pos k1]
        by_cases k2 : 0 ≤ (rp l i).f2 ∧ (rp l i).f2 ≤ 99999
        · simp only [if_pos k2]
          have hok : okP (rp l i) := ⟨k0, k1, k2⟩
          by_cases h0 : (i : Int) > 0
          · simp only [if_pos h0, if_pos (show 0 ≤ (i : Int) - 1 by omega), if_pos (show (i : Int) - 1 < (l.length : Int) by omega)]
            by_cases k3 : (rp l ((i : Int) - 1)).f0 ≥ (rp l i).f0
            · simp only [if_pos k3]
              refine Evs.done ?_
              simp only [Bool.false_eq_true, false_iff]
              rintro ⟨_, ⟨_, h3⟩, _⟩
              have := h3 (by omega)
              unfold ltP at this
              omega
            · simp only [if_neg k3]
              refine hn.mono fun b hb => ?_
              rw [hb]
              exact ⟨fun h => ⟨h.1, ⟨hok, fun _ => by unfold ltP; omega⟩, h.2⟩, fun h => ⟨h.1, h.2.2⟩⟩
          · simp only [if_neg h0]
            refine hn.mono fun b hb => ?_
            rw [hb]
            exact ⟨fun h => ⟨h.1, ⟨hok, fun h' => absurd h' (by omega)⟩, h.2⟩, fun h => ⟨h.1, h.2.2⟩⟩
        · simp only [if_neg k2]
          exact Evs.done (by simp only [Bool.false_eq_true, false_iff]; exact fun h => k2 h.2.1.1.2.2)
      · simp only [if_neg k1]
        exact Evs.done (by simp only [Bool.false_eq_true, false_iff]; exact fun h => k1 h.2.1.1.2.1)
    · simp only [if_neg k0]
      exact Evs.done (by simp only [Bool.false_eq_true, false_iff]; exact fun h => k0 h.2.1.1.1)
open Classical in
noncomputable def vp (l : List Pr) : Bool := decide (VP l)
theorem vp_iff (l : List Pr) : vp l = true ↔ VP l := by unfold vp; simp
theorem vp_of {b : Bool} {l : List Pr} (h : b = true ↔ VP l) : b = vp l := by
  rw [Bool.eq_iff_iff, h, vp_iff]
theorem implPValid (l : List Pr) (hl : l.length ≤ 1000000000000) : Ev (fun k => impl_ProducersValid.f k l) (vp l) := by
  unfold impl_ProducersValid.f
  by_cases h : (l.length : Int) > 20
  · simp only [if_pos h]
    rw [← vp_of (b := false) (by simp only [Bool.false_eq_true, false_iff]; exact fun h' => by have := h'.1; omega)]
    exact ev_some _
  · simp only [if_neg h]
    refine ((implPValid_loop l hl l.length 0 (by omega) (by omega)).mono fun b hb => ?_).ev
    exact vp_of (hb.trans ⟨fun h' => ⟨by omega, h'⟩, fun h' => h'.2⟩)
theorem specPValid (l : List Pr) (hl : l.length ≤ 1000000000000) : Ev (fun k => spec_ProducersValid.f k l) (vp l) := by
  unfold spec_ProducersValid.f
  exact ((specPValid_loop l hl l.length 0 (by omega) (by omega)).mono fun b hb => vp_of hb).ev
end Go.Proofs.Ytkhmopmfbocokaa.Q
namespace Go.Proofs.Ytkhmopmfbocokaa.Q
open Go.RowKit Go.Proofs.Ytkhmopmfbocokaa.T Go.Proofs.YtkhmopmfbocokaaW.PrintWords Go.Proofs.YtkhmopmfbocokaaW.PrintLast
set_option linter.unusedVariables false
set_option linter.unusedSimpArgs false
abbrev Lp := S72
def toP (x : Lp) : Pr := ⟨x.f0, x.f1, x.f2⟩
theorem rdLp (l : List Lp) (j : Nat) (h : j < l.length) : rd_T72 l (j : Int) = l[j] := by
  unfold rd_T72
  rw [Int.toNat_natCast, List.getD_eq_getElem?_getD, List.getElem?_eq_getElem h]
  rfl
theorem szProds (l : List Lp) (h : l.length ≤ maxLen) : (l.length ≤ 1048576 ∧ laws_szProducerS.f l 1048576 = some (1048576 - (l.length : Int))) ∨ (1048576 < l.length ∧ laws_szProducerS.f l 1048576 = some (-1)) := by
  unfold maxLen at h
  have e : wrap64 (1048576 - (l.length : Int)) = 1048576 - (l.length : Int) := wrap_id (by omega) (by omega)
  unfold laws_szProducerS.f
  rw [e]
  by_cases hc : 1048576 - (l.length : Int) < 0
  · rw [if_pos hc]; exact .inr ⟨by omega, rfl⟩
  · rw [if_neg hc]; exact .inl ⟨by omega, rfl⟩
theorem set_mid {α : Type} (a : List α) (x y : α) (b : List α) (i : Nat) (h : i = a.length) : (a ++ x :: b).set i y = a ++ y :: b := by
  subst h
  simp
theorem toProds_loop (l : List Lp) (hl : l.length ≤ 1048576) : ∀ (d i : Nat), l.length - i = d → i ≤ l.length → Ev (fun k => laws_toProducerS.l0 k l ((l.map toP).take i ++ List.replicate (l.length - i) z39) (i : Int)) (l.map toP) := by
  intro d
  induction d with
  | zero =>
    intro i hd hi
    refine ev_succ ?_
    simp only [laws_toProducerS.l0, if_neg (show ¬ (i : Int) < (l.length : Int) by omega)]
    rw [show l.length - i = 0 by omega, List.replicate_zero, List.append_nil, List.take_of_length_le (by simp; omega)]
    exact ev_some _
  | succ d ih =>
    intro i hd hi
    have hlt : (i : Int) < (l.length : Int) := by omega
    have e1 : wrap64 ((i : Int) + 1) = ((i + 1 : Nat) : Int) := by rw [wrap_id (by omega) (by omega)]; omega
    obtain ⟨m, hm⟩ : ∃ m, l.length - i = m + 1 := ⟨l.length - i - 1, by omega⟩
    have hlen : ((l.map toP).take i).length = i := by simp; omega
    have hset : ((l.map toP).take i ++ List.replicate (l.length - i) z39).set i (toP l[i]) = (l.map toP).take (i + 1) ++ List.replicate (l.length - (i + 1)) z39 := by
      rw [hm, List.replicate_succ, set_mid _ _ _ _ _ hlen.symm, show l.length - (i + 1) = m by omega, List.take_succ_eq_append_getElem (by simp; omega), List.append_assoc]
      simp
    refine ev_succ ?_
    simp only [laws_toProducerS.l0, if_pos hlt, if_pos (show (0 : Int) ≤ i by omega), laws_toProducer.f, bsome, if_pos (show (i : Int) < ((((l.map toP).take i ++ List.replicate (l.length - i) z39).length : Nat) : Int) by simp; omega), e1, Int.toNat_natCast, rdLp l i (by omega)]
    have := ih (i + 1) (by omega) (by omega)
    rw [← hset] at this
    exact this
theorem toProds (l : List Lp) (hl : l.length ≤ 1048576) : Ev (fun k => laws_toProducerS.f k l) (l.map toP) := by
  unfold laws_toProducerS.f
  simp only [if_pos (show 0 ≤ (l.length : Int) by omega), Int.toNat_natCast, if_pos (show l.length ≤ 11728124029610 by omega)]
  have := toProds_loop l hl l.length 0 (by omega) (by omega)
  simpa using this
theorem eqProds_loop (a b : List Pr) (hl : a.length = b.length) (hs : a.length ≤ 1048576) : ∀ (d i : Nat), a.length - i = d → i ≤ a.length → Ev (fun k => laws_eqProducerS.l0 k a b (i : Int)) (decide (a.drop i = b.drop i)) := by
  intro d
  induction d with
  | zero =>
    intro i hd hi
    rw [show a.drop i = [] from List.drop_eq_nil_of_le (by omega), show b.drop i = [] from List.drop_eq_nil_of_le (by omega)]
    refine ev_succ ?_
    simp only [laws_eqProducerS.l0, if_neg (show ¬ (i : Int) < (a.length : Int) by omega), decide_true]
    exact ev_some _
  | succ d ih =>
    intro i hd hi
    have hlt : (i : Int) < (a.length : Int) := by omega
    have e1 : wrap64 ((i : Int) + 1) = ((i + 1 : Nat) : Int) := by rw [wrap_id (by omega) (by omega)]; omega
    rw [drop_atP (show i < a.length by omega), drop_atP (show i < b.length by omega)]
    refine ev_succ ?_
    simp only [laws_eqProducerS.l0, if_pos hlt, if_pos (show (0 : Int) ≤ i by omega), if_pos (show (i : Int) < (b.length : Int) by omega), laws_eqProducer.f, e1]
    by_cases h0 : (rp a i).f0 = (rp b i).f0
    · by_cases h1 : (rp a i).f1 = (rp b i).f1
      · by_cases h2 : (rp a i).f2 = (rp b i).f2
        · simp only [if_pos h0, if_pos h1, if_pos h2, bsome, if_true]
          have := ih (i + 1) (by omega) (by omega)
          simpa [Pr_ext h0 h1 h2] using this
        · have hne : ¬ rp a i = rp b i := fun h => h2 (by rw [h])
          simp only [if_pos h0, if_pos h1, if_neg h2, bsome, Bool.false_eq_true, if_false]
          rw [decide_eq_false (by simp [hne])]
          exact ev_some _
      · have hne : ¬ rp a i = rp b i := fun h => h1 (by rw [h])
        simp only [if_pos h0, if_neg h1, bsome, Bool.false_eq_true, if_false]
        rw [decide_eq_false (by simp [hne])]
        exact ev_some _
    · have hne : ¬ rp a i = rp b i := fun h => h0 (by rw [h])
      simp only [if_neg h0, bsome, Bool.false_eq_true, if_false]
      rw [decide_eq_false (by simp [hne])]
      exact ev_some _
theorem eqProds (a b : List Pr) (hs : a.length ≤ 1048576) : Ev (fun k => laws_eqProducerS.f k a b) (decide (a = b)) := by
  unfold laws_eqProducerS.f
  by_cases h : (a.length : Int) = (b.length : Int)
  · simp only [if_pos h]
    have := eqProds_loop a b (by omega) hs a.length 0 (by omega) (by omega)
    simpa using this
  · simp only [if_neg h]
    rw [decide_eq_false (fun e => h (by rw [e]))]
    exact ev_some _
theorem eqProds_self (a : List Pr) (hs : a.length ≤ 1048576) : Ev (fun k => laws_eqProducerS.f k a a) true := by
  have := eqProds a a hs
  rwa [decide_eq_true rfl] at this
end Go.Proofs.Ytkhmopmfbocokaa.Q
namespace Go.Proofs.Ytkhmopmfbocokaa.Pure
open Go.RowKit Go.Proofs.Ytkhmopmfbocokaa.T Go.Proofs.YtkhmopmfbocokaaW.PrintWords Go.Proofs.YtkhmopmfbocokaaW.PrintLast Go.Proofs.Ytkhmopmfbocokaa.Q
set_option linter.unusedVariables false
set_option linter.unusedSimpArgs false
theorem FnExactProducersValid (l0 : List Lp) (hm : l0.length ≤ maxLen) (_hw : ∀ v ∈ l0, WF72 v) : ∃ k, laws_FnExactProducersValid.f k l0 = some true := by
  refine Ev.rounds ?_
  unfold laws_FnExactProducersValid.f
  rcases szProds l0 hm with ⟨hl, hs⟩ | ⟨hl, hs⟩
  · simp only [hs, bsome, if_neg (show ¬ (1048576 : Int) - (l0.length : Int) < 0 by omega)]
    have ht := toProds l0 hl
    have hlen : (l0.map toP).length ≤ 1048576 := by simpa using hl
    refine Ev.bind ht ?_
    refine Ev.bind (specPValid _ (by omega)) ?_
    refine Ev.bind ht ?_
    refine Ev.bind (implPValid _ (by omega)) ?_
    simp only [bne_self_eq_false, Bool.false_eq_true, if_false]
    refine Ev.bind ht ?_
    refine Ev.bind (eqProds_self _ hlen) ?_
    simp only [if_true]
    exact ev_some _
  · simp only [hs, bsome, if_pos (show (-1 : Int) < 0 by omega)]
    exact ev_some _
end Go.Proofs.Ytkhmopmfbocokaa.Pure
namespace Go.Proofs.Ytkhmopmfbocokaa.fnExactProducersValid
open Go.ChangeShapes Go.WideShapes Go.ChangeAt Go.RowKit
open Go.ChangeMaps (open_string shut_string)
open Go.Proofs.YtkhmopmfbocokaaW.PrintWords
set_option linter.unusedVariables false
theorem own : ownKnob Try.prog.godebug = none := by kernel_rfl
theorem laidOut : laidOutB Try.prog = true := by kernel_rfl
set_option maxRecDepth 100000 in
theorem lifted (os : Os) (started : os.Started) (H : Type) (enc : TypeId × Value → H) :
    ReturnsInHanded {} Try.checked os 4 .any (Rows.fnExactProducersValidSpec.pre6 enc Try.prog Try.f4 Rows.fnExactProducersValidRow.domain false) (Rows.fnExactProducersValidSpec.post enc Try.prog Try.f4 false true false false) := by
  refine returnsInHanded_of_change_sized (C := Try.checked) own started (by kernel_rfl) Try.func4
    (ChangeSpec.witness6 (enc := enc) (C := Try.checked) false ⟨#[], #[.slice none 0 0], []⟩ 8 (by kernel_rfl) (by kernel_rfl) (by kernel_rfl) (by kernel_rfl)) ?_
  intro W base args ds gs before hval0 hW hcnd hsz0 _
  have hval : ∀ (j : Nat) t v, Try.f4.params[j]? = some t → args[j]? = some v → Value.okWide Try.prog W .any base t v := hval0
  have hW' := hW
  obtain ⟨p, q, hA0, hV, rfl, hfz, hnd⟩ := hW
  have hA : DataW.TrodAll enc Try.prog W 0 (fun _ => true) true Try.f4.params.toList args.toList ds p := hA0
  rw [Try.params4] at hA hval
  obtain ⟨v0, vs0, d0, ds0, p0, q0, hargs, rfl, rfl, h0, r0⟩ := trodAll_cons hA
  obtain ⟨rfl, rfl, rfl⟩ := trodAll_nil r0
  obtain rfl : args = #[v0] := by cases args; simp_all
  obtain ⟨rfl, rfl⟩ := trodVars_none hV
  obtain ⟨a0, len0, cap0, rfl⟩ := okWide_slice Try.underlying27 (hval 0 27 v0 rfl rfl)
  have k0 := h0
  have lt0 : ∀ x ∈ p0, x.block < W.heap.size := by obtain ⟨m, hm⟩ := k0; exact DataW.trod_lt m _ _ _ hm
  obtain ⟨fu0, hf0⟩ := h0
  obtain ⟨l0, ⟨A0, c0, hE0, hc0, hC0⟩, hm0, hw0⟩ := (Q.Opens.slice Try.underlying27 T.opens72 (by kernel_rfl)) _ enc W _ _ _ _ _ _ hf0
  replace hE0 : ([.slice a0 len0 cap0] : List Value) = [.slice A0 l0.length c0] := hE0
  simp only [List.cons.injEq, Value.slice.injEq, and_true] at hE0
  obtain ⟨rfl, rfl, rfl⟩ := hE0
  clear hA0 hval0 hsz0
  obtain ⟨k, h⟩ := Pure.FnExactProducersValid l0 hm0 hw0
  refine (T.laws_FnExactProducersValid.calls k _ _ l0 true W hC0 hc0 h).mono ?_
  rintro e W' ⟨rfl, bel⟩
  exact ⟨_, rfl, _, _, _, [], _, [], hW', trodAll_mk1 (shut_bool Try.underlying4 _), (trodAll_cons_mk (Below.trod laidOut (by kernel_rfl) (of_decide_eq_true (by kernel_rfl)) k0 bel lt0) trodAll_mk0), rfl, bel.frame _, fun h => by cases h⟩
theorem closed : joinedFacts Try.prog 4 Try.f4 Rows.fnExactProducersValidSpec Rows.fnExactProducersValidRow = true :=
  Head.closed_of _ _ _ _ _ (by kernel_rfl) (by kernel_rfl) (by kernel_rfl) (by kernel_rfl) (by kernel_rfl) (by kernel_rfl) (by kernel_rfl) (by kernel_rfl) (by kernel_rfl) (by kernel_rfl) (by kernel_rfl) (by kernel_rfl) (by kernel_rfl) (by kernel_rfl) (by kernel_rfl) (by kernel_rfl) (by kernel_rfl) (by kernel_rfl) (by kernel_rfl) (by kernel_rfl) (by kernel_rfl) (by kernel_rfl) (by kernel_rfl) (by kernel_rfl) (by kernel_rfl) Head.may_enter (by rw [Head.lifts_final]; kernel_rfl) (by rw [Head.make_is]; kernel_rfl) (by kernel_rfl) (by kernel_rfl) (by kernel_rfl) (by kernel_rfl)
theorem over : Rows.fnExactProducersValidRow.holds Try.pinned (OpenSpec.ofChange Rows.fnExactProducersValidSpec) :=
  OpenClaim.holds_of_wide 4 Try.f4 rfl rfl rfl rfl rfl rfl rfl ⟨rfl, rfl, rfl, rfl, rfl⟩ rfl rfl rfl rfl rfl (by kernel_rfl) Try.func4 closed
    (of_decide_eq_true (by kernel_rfl)) (by unfold Func.isWrapper; first | (rw [if_pos (by decide +kernel)]; kernel_rfl) | (rw [if_neg (by decide +kernel)]; exact ⟨rfl, rfl⟩))
    (fun os started H enc _ => lifted os started H enc)
theorem proved : Rows.FnExactProducersValidSaid := over
end Go.Proofs.Ytkhmopmfbocokaa.fnExactProducersValid
namespace Go.Proofs.Ytkhmopmfbocokaa
theorem fnExactProducersValid_holds : Rows.FnExactProducersValidSaid := fnExactProducersValid.proved
end Go.Proofs.Ytkhmopmfbocokaa
