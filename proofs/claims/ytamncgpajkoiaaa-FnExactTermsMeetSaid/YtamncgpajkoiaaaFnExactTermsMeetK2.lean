/- FnExactTermsMeet, part 3 of 4: merged by wip/tools/pack.py out of the texts that the row reaches; the pure statement is the session's own. -/
import Derived.Deep.Slices
import Derived.ChangeArms
import Derived.ProofKit
import Derived.RowKit
import Derived.Test.YtamncgpajkoiaaaFnExactTermsMeetK1
namespace Go.Proofs.Ytamncgpajkoiaaa.T
open Go.RowKit Go.Proofs.YtamncgpajkoiaaaW.PrintWords Go.Proofs.YtamncgpajkoiaaaW.PrintLast Go.Proofs.YtamncgpajkoiaaaW.PrintMore

set_option linter.unusedVariables false
set_option linter.unusedSimpArgs false
def spec_l23Ok.f (k : Nat) (l0 : List (S37)) (a1 : Int) : Option (Bool) := (spec_TermsValid.f k l0).bind fun t331 => (if t331 = true then ((spec_l6In.f a1 0 100000).bind fun t332 => (if t332 = true then (if (l0.length : Int) = 0 then (some true) else (if 0 ≤ (wrap64 ((l0.length : Int) - 1)) then (if (wrap64 ((l0.length : Int) - 1)) < (l0.length : Int) then (some (decide (((rd_T37 l0 (wrap64 ((l0.length : Int) - 1))).f1) < a1))) else (none)) else (none))) else (some false))) else (some false))
theorem spec_l23Ok.mono : ∀ a0 a1 k, LeO (spec_l23Ok.f k a0 a1) (spec_l23Ok.f (k + 1) a0 a1) := by
  intro a0 a1 k
  unfold spec_l23Ok.f
  repeat' first
      | (with_reducible exact spec_TermsValid.mono _ _)
      | (with_reducible exact LeO.refl _)
      | (with_reducible exact LeO.none _)
      | (with_reducible refine LeO.ite ?_ ?_)
      | (with_reducible refine LeO.bind ?_ (fun _ => ?_))
      | exact spec_TermsValid.mono _ _
      | exact LeO.none _
      | refine LeO.ite ?_ ?_
      | refine LeO.bind ?_ (fun _ => ?_)
set_option maxHeartbeats 8000000 in
set_option maxRecDepth 100000 in
theorem spec_l23Ok.calls (k : Nat) (A0 : Option Addr) (c0 : Nat) (l0 : List (S37)) (a1 : Int) (r : Bool) (w : World) (hr0 : Kd.C k37 w A0 l0.length l0) (hc0 : l0.length ≤ c0) (h : spec_l23Ok.f k l0 a1 = some r) :
    Calls Try.prog 50 #[.slice A0 l0.length c0, .int .i64 a1] w fun e w' => e = .returned (.bool r) ∧ Below w.heap.size w w' := by
  have HR0 := Aside0.mk hr0
  have HC0 := Aside0.mk hc0
  clear hr0 hc0
  have HB := Aside0.mk (Below.refl w.heap.size w)
  have H : ((spec_TermsValid.f k l0).bind fun t331 => (if t331 = true then ((spec_l6In.f a1 0 100000).bind fun t332 => (if t332 = true then (if (l0.length : Int) = 0 then (some true) else (if 0 ≤ (wrap64 ((l0.length : Int) - 1)) then (if (wrap64 ((l0.length : Int) - 1)) < (l0.length : Int) then (some (decide (((rd_T37 l0 (wrap64 ((l0.length : Int) - 1))).f1) < a1))) else (none)) else (none))) else (some false))) else (some false))) = some r := h
  clear h
  replace H := Option.bind_eq_some_iff.mp H
  obtain ⟨t331, A30, H⟩ := H
  replace H : (if t331 = true then ((spec_l6In.f a1 0 100000).bind fun t332 => (if t332 = true then (if (l0.length : Int) = 0 then (some true) else (if 0 ≤ (wrap64 ((l0.length : Int) - 1)) then (if (wrap64 ((l0.length : Int) - 1)) < (l0.length : Int) then (some (decide (((rd_T37 l0 (wrap64 ((l0.length : Int) - 1))).f1) < a1))) else (none)) else (none))) else (some false))) else (some false)) = some r := H
  have A3 := Aside0.mk A30
  clear A30
  by_cases c4 : t331 = true
  · subst c4
    have H1 : ((spec_l6In.f a1 0 100000).bind fun t332 => (if t332 = true then (if (l0.length : Int) = 0 then (some true) else (if 0 ≤ (wrap64 ((l0.length : Int) - 1)) then (if (wrap64 ((l0.length : Int) - 1)) < (l0.length : Int) then (some (decide (((rd_T37 l0 (wrap64 ((l0.length : Int) - 1))).f1) < a1))) else (none)) else (none))) else (some false))) = some r := by rw [if_pos rfl] at H; exact H
    clear H
    have H := H1
    clear H1
    replace H := Option.bind_eq_some_iff.mp H
    obtain ⟨t332, A50, H⟩ := H
    replace H : (if t332 = true then (if (l0.length : Int) = 0 then (some true) else (if 0 ≤ (wrap64 ((l0.length : Int) - 1)) then (if (wrap64 ((l0.length : Int) - 1)) < (l0.length : Int) then (some (decide (((rd_T37 l0 (wrap64 ((l0.length : Int) - 1))).f1) < a1))) else (none)) else (none))) else (some false)) = some r := H
    have A5 := Aside0.mk A50
    clear A50
    by_cases c6 : t332 = true
    · subst c6
      have H1 : (if (l0.length : Int) = 0 then (some true) else (if 0 ≤ (wrap64 ((l0.length : Int) - 1)) then (if (wrap64 ((l0.length : Int) - 1)) < (l0.length : Int) then (some (decide (((rd_T37 l0 (wrap64 ((l0.length : Int) - 1))).f1) < a1))) else (none)) else (none))) = some r := by rw [if_pos rfl] at H; exact H
      clear H
      have H := H1
      clear H1
      by_cases c7 : (l0.length : Int) = 0
      · rw [if_pos c7] at H
        have c7b0 : ((l0.length : Int) == 0) = true := beq_iff_eq.mpr c7
        have c7b1 : ((l0.length : Int) != 0) = false := bne_eq_false_iff_eq.mpr c7
        clear c7
        obtain rfl := Option.some.inj H
        go_enter Try.func50, Try.ntmps50
        go_wp2_with (first | ((with_reducible refine gate_callee (f := 21) rfl ?_); refine goesL_ (some 6) rfl rfl Try.func21 (by kernel_rfl) rfl #[.slice A0 l0.length c0] rfl (by (try simp only [List.map_toArray, List.map_cons, List.map_nil]); first | done | rfl | (simp only [List.length_drop, List.length_take]; rfl)) ?_; (with_reducible refine (spec_TermsValid.calls k _ _ l0 true _ ?side1 ?side2 A3.out).mono ?_); (case side1 => repeat (first | exact HR0.out | (with_reducible refine Kd.C_alloc ?_ _) | (with_reducible refine Kd.C_drewN ?_ _) | (with_reducible refine Kd.C_drew ?_))); (case side2 => exact HC0.out); rintro e w8 ⟨rfl, hb⟩; refine ⟨_, rfl, ?_⟩; have n0_ := Aside0.mk (below_step (by repeat (first | (with_reducible first | exact HB.out | apply below_alloc | apply pw_below_drewN | apply below_drew1) | exact HB.out)) hb); clear HB; have HB := n0_; clear n0_; (try clear hb); (try clear hb2); (try clear hk); (try clear hi)) | (go_at_call 44; (with_reducible refine (spec_l6In.calls a1 0 100000 true _ A5.out).mono ?_); rintro e w' ⟨rfl, ⟨nd, rfl⟩⟩))
        go_ret
        exact ⟨by first | rfl | (simp [errW_none, errW_some] <;> rfl) | (simp [*, errW_none, errW_some] <;> rfl), by repeat (first | (with_reducible first | exact HB.out | apply below_alloc | apply pw_below_drewN | apply below_drew1) | exact HB.out)⟩
      · rw [if_neg c7] at H
        have c7b0 : ((l0.length : Int) == 0) = false := beq_eq_false_iff_ne.mpr c7
        have c7b1 : ((l0.length : Int) != 0) = true := bne_iff_ne.mpr c7
        have c7b2 : ¬ (l0 = []) := fun h_ => c7 (by rw [h_]; rfl)
        obtain ⟨ji9, hji9⟩ : ∃ j_ : Int, (wrap64 ((l0.length : Int) - 1)) = j_ := ⟨_, rfl⟩
        replace H : (if 0 ≤ (ji9) then (if (ji9) < (l0.length : Int) then (some (decide (((rd_T37 l0 (ji9)).f1) < a1))) else (none)) else (none)) = some r := by first | (rw [hji9] at H; exact H) | (simp only [hji9] at H ⊢; exact H)
        (try rw [hji9] at A3)
        (try rw [hji9] at A5)
        have hji9w : (IntKind.i64.wrap ((l0.length : Int) - 1)) = ji9 := (i64_w _).trans hji9
        by_cases c10 : 0 ≤ (ji9)
        · rw [if_pos c10] at H
          have c10b0 : decide (0 ≤ (ji9)) = true := decide_eq_true c10
          clear c10
          by_cases c11 : (ji9) < (l0.length : Int)
          · rw [if_pos c11] at H
            have c11b0 : decide ((ji9) < (l0.length : Int)) = true := decide_eq_true c11
            clear c11
            obtain rfl := Option.some.inj H
            go_enter Try.func50, Try.ntmps50
            go_wp2_with (first | ((with_reducible refine gate_callee (f := 21) rfl ?_); refine goesL_ (some 6) rfl rfl Try.func21 (by kernel_rfl) rfl #[.slice A0 l0.length c0] rfl (by (try simp only [List.map_toArray, List.map_cons, List.map_nil]); first | done | rfl | (simp only [List.length_drop, List.length_take]; rfl)) ?_; (with_reducible refine (spec_TermsValid.calls k _ _ l0 true _ ?side1 ?side2 A3.out).mono ?_); (case side1 => repeat (first | exact HR0.out | (with_reducible refine Kd.C_alloc ?_ _) | (with_reducible refine Kd.C_drewN ?_ _) | (with_reducible refine Kd.C_drew ?_))); (case side2 => exact HC0.out); rintro e w12 ⟨rfl, hb⟩; refine ⟨_, rfl, ?_⟩; have n0_ := Aside0.mk (below_step (by repeat (first | (with_reducible first | exact HB.out | apply below_alloc | apply pw_below_drewN | apply below_drew1) | exact HB.out)) hb); clear HB; have HB := n0_; clear n0_; (try clear hb); (try clear hb2); (try clear hk); (try clear hi)) | (go_at_call 44; (with_reducible refine (spec_l6In.calls a1 0 100000 true _ A5.out).mono ?_); rintro e w' ⟨rfl, ⟨nd, rfl⟩⟩; have p333 : 0 ≤ ((ji9) : Int) := of_decide_eq_true (by first | (with_reducible assumption) | assumption); have q333 : (ji9) < (l0.length : Int) := of_decide_eq_true (by first | (with_reducible assumption) | assumption); obtain ⟨ad333, e333, hx333_0, hx333_1⟩ := at_T37 HR0.out (ji9) p333 q333; cases e333; replace hx333_0 := (HB.out.cell (World.block_lt_of_cell? w _ hx333_0)).trans hx333_0; replace hx333_1 := (HB.out.cell (World.block_lt_of_cell? w _ hx333_1)).trans hx333_1; replace p333 := eq_true p333; replace q333 := eq_true q333))
            go_ret
            exact ⟨by first | rfl | (simp [errW_none, errW_some] <;> rfl) | (simp only [← hji9]; first | rfl | (simp [errW_none, errW_some] <;> rfl)) | (simp [*, errW_none, errW_some] <;> rfl), by repeat (first | (with_reducible first | exact HB.out | apply below_alloc | apply pw_below_drewN | apply below_drew1) | exact HB.out)⟩
          · rw [if_neg c11] at H
            exact absurd H (by simp)
        · rw [if_neg c10] at H
          exact absurd H (by simp)
    · replace c6 := Bool.eq_false_iff.mpr c6
      subst c6
      have H1 : (some false) = some r := by rw [if_neg (show ¬ (false = true) by decide)] at H; exact H
      clear H
      have H := H1
      clear H1
      obtain rfl := Option.some.inj H
      go_enter Try.func50, Try.ntmps50
      go_wp2_with (first | ((with_reducible refine gate_callee (f := 21) rfl ?_); refine goesL_ (some 6) rfl rfl Try.func21 (by kernel_rfl) rfl #[.slice A0 l0.length c0] rfl (by (try simp only [List.map_toArray, List.map_cons, List.map_nil]); first | done | rfl | (simp only [List.length_drop, List.length_take]; rfl)) ?_; (with_reducible refine (spec_TermsValid.calls k _ _ l0 true _ ?side1 ?side2 A3.out).mono ?_); (case side1 => repeat (first | exact HR0.out | (with_reducible refine Kd.C_alloc ?_ _) | (with_reducible refine Kd.C_drewN ?_ _) | (with_reducible refine Kd.C_drew ?_))); (case side2 => exact HC0.out); rintro e w13 ⟨rfl, hb⟩; refine ⟨_, rfl, ?_⟩; have n0_ := Aside0.mk (below_step (by repeat (first | (with_reducible first | exact HB.out | apply below_alloc | apply pw_below_drewN | apply below_drew1) | exact HB.out)) hb); clear HB; have HB := n0_; clear n0_; (try clear hb); (try clear hb2); (try clear hk); (try clear hi)) | (go_at_call 44; (with_reducible refine (spec_l6In.calls a1 0 100000 false _ A5.out).mono ?_); rintro e w' ⟨rfl, ⟨nd, rfl⟩⟩))
      go_ret
      exact ⟨by first | rfl | (simp [errW_none, errW_some] <;> rfl) | (simp [*, errW_none, errW_some] <;> rfl), by repeat (first | (with_reducible first | exact HB.out | apply below_alloc | apply pw_below_drewN | apply below_drew1) | exact HB.out)⟩
  · replace c4 := Bool.eq_false_iff.mpr c4
    subst c4
    have H1 : (some false) = some r := by rw [if_neg (show ¬ (false = true) by decide)] at H; exact H
    clear H
    have H := H1
    clear H1
    obtain rfl := Option.some.inj H
    go_enter Try.func50, Try.ntmps50
    go_wp2_with (first | ((with_reducible refine gate_callee (f := 21) rfl ?_); refine goesL_ (some 6) rfl rfl Try.func21 (by kernel_rfl) rfl #[.slice A0 l0.length c0] rfl (by (try simp only [List.map_toArray, List.map_cons, List.map_nil]); first | done | rfl | (simp only [List.length_drop, List.length_take]; rfl)) ?_; (with_reducible refine (spec_TermsValid.calls k _ _ l0 false _ ?side1 ?side2 A3.out).mono ?_); (case side1 => repeat (first | exact HR0.out | (with_reducible refine Kd.C_alloc ?_ _) | (with_reducible refine Kd.C_drewN ?_ _) | (with_reducible refine Kd.C_drew ?_))); (case side2 => exact HC0.out); rintro e w14 ⟨rfl, hb⟩; refine ⟨_, rfl, ?_⟩; have n0_ := Aside0.mk (below_step (by repeat (first | (with_reducible first | exact HB.out | apply below_alloc | apply pw_below_drewN | apply below_drew1) | exact HB.out)) hb); clear HB; have HB := n0_; clear n0_; (try clear hb); (try clear hb2); (try clear hk); (try clear hi)))
    go_ret
    exact ⟨by first | rfl | (simp [errW_none, errW_some] <;> rfl) | (simp [*, errW_none, errW_some] <;> rfl), by repeat (first | (with_reducible first | exact HB.out | apply below_alloc | apply pw_below_drewN | apply below_drew1) | exact HB.out)⟩
def spec_l23End.f (l0 : List (S37)) (a1 : Int) (a2 : Int) : Option (Int) := if (wrap64 (a1 + 1)) < (l0.length : Int) then (if 0 ≤ (wrap64 (a1 + 1)) then (some ((rd_T37 l0 (wrap64 (a1 + 1))).f1)) else (none)) else (some a2)
set_option maxHeartbeats 8000000 in
set_option maxRecDepth 100000 in
theorem spec_l23End.calls (A0 : Option Addr) (c0 : Nat) (l0 : List (S37)) (a1 : Int) (a2 : Int) (r : Int) (w : World) (hr0 : Kd.C k37 w A0 l0.length l0) (hc0 : l0.length ≤ c0) (h : spec_l23End.f l0 a1 a2 = some r) :
    Calls Try.prog 51 #[.slice A0 l0.length c0, .int .i64 a1, .int .i64 a2] w fun e w' => e = .returned (.int .i64 r) ∧ Drawn0 w w' := by
  have HR0 := Aside0.mk hr0
  have HC0 := Aside0.mk hc0
  clear hr0 hc0
  have H : (if (wrap64 (a1 + 1)) < (l0.length : Int) then (if 0 ≤ (wrap64 (a1 + 1)) then (some ((rd_T37 l0 (wrap64 (a1 + 1))).f1)) else (none)) else (some a2)) = some r := h
  clear h
  by_cases c4 : (wrap64 (a1 + 1)) < (l0.length : Int)
  · rw [if_pos c4] at H
    have c4b0 : decide ((wrap64 (a1 + 1)) < (l0.length : Int)) = true := decide_eq_true c4
    clear c4
    obtain ⟨ji5, hji5⟩ : ∃ j_ : Int, (wrap64 (a1 + 1)) = j_ := ⟨_, rfl⟩
    replace H : (if 0 ≤ (ji5) then (some ((rd_T37 l0 (ji5)).f1)) else (none)) = some r := by first | (rw [hji5] at H; exact H) | (simp only [hji5] at H ⊢; exact H)
    (try rw [hji5] at c4b0)
    have hji5w : (IntKind.i64.wrap (a1 + 1)) = ji5 := (i64_w _).trans hji5
    by_cases c6 : 0 ≤ (ji5)
    · rw [if_pos c6] at H
      have c6b0 : decide (0 ≤ (ji5)) = true := decide_eq_true c6
      clear c6
      obtain rfl := Option.some.inj H
      have p334 : 0 ≤ ((ji5) : Int) := of_decide_eq_true (by first | (with_reducible assumption) | assumption)
      have q334 : (ji5) < (l0.length : Int) := of_decide_eq_true (by first | (with_reducible assumption) | assumption)
      obtain ⟨ad334, e334, hx334_0, hx334_1⟩ := at_T37 HR0.out (ji5) p334 q334
      cases e334
      replace p334 := eq_true p334
      replace q334 := eq_true q334
      go_enter Try.func51, Try.ntmps51
      go_wp2
      go_ret
      exact ⟨by first | rfl | (simp; done) | (simp only [← hji5] <;> (first | rfl | simp)) | (simp [*]; done), by repeat (first | exact Drawn0.refl _ | apply Drawn0.step)⟩
    · rw [if_neg c6] at H
      exact absurd H (by simp)
  · rw [if_neg c4] at H
    have c4b0 : decide ((wrap64 (a1 + 1)) < (l0.length : Int)) = false := decide_eq_false c4
    clear c4
    obtain rfl := Option.some.inj H
    go_enter Try.func51, Try.ntmps51
    go_wp2
    go_ret
    exact ⟨by first | rfl | (simp; done) | (simp [*]; done), by repeat (first | exact Drawn0.refl _ | apply Drawn0.step)⟩
end Go.Proofs.Ytamncgpajkoiaaa.T
namespace Go.Proofs.Ytamncgpajkoiaaa.T
open Go.RowKit Go.Proofs.YtamncgpajkoiaaaW.PrintWords Go.Proofs.YtamncgpajkoiaaaW.PrintLast Go.Proofs.YtamncgpajkoiaaaW.PrintMore

set_option linter.unusedVariables false
set_option linter.unusedSimpArgs false
mutual
def spec_TermsMeet.j0 : Nat → List (S37) → Int → List (S37) → Int → Bool → Option (Int)
  | 0, _, _, _, _, _ => none
  | k + 1, x0, x1, x2, x3, x21 => if x21 = true then (some (-1)) else (spec_TermsMeet.l0 k x0 x1 x2 x3 0 0)
def spec_TermsMeet.l0 : Nat → List (S37) → Int → List (S37) → Int → Int → Int → Option (Int)
  | 0, _, _, _, _, _, _ => none
  | k + 1, x0, x1, x2, x3, x9, x10 => if x10 < (x0.length : Int) then (if 0 ≤ x10 then ((spec_l23At.f k x2 ((rd_T37 x0 x10).f0)).bind fun t392 => (if t392 ≥ 0 then (if 0 ≤ t392 then (if t392 < (x2.length : Int) then (spec_TermsMeet.j2 k x0 x1 x2 x3 x9 x10 t392 (((rd_T37 x2 t392).f1) == ((rd_T37 x0 x10).f1))) else (none)) else (none)) else (spec_TermsMeet.j2 k x0 x1 x2 x3 x9 x10 t392 false))) else (none)) else (some x9)
def spec_TermsMeet.j2 : Nat → List (S37) → Int → List (S37) → Int → Int → Int → Int → Bool → Option (Int)
  | 0, _, _, _, _, _, _, _, _ => none
  | k + 1, x0, x1, x2, x3, x9, x10, x11, x49 => if x49 = true then ((spec_l23End.f x0 x10 x1).bind fun t395 => ((spec_l23End.f x2 x11 x3).bind fun t396 => (spec_TermsMeet.l0 k x0 x1 x2 x3 (mn t395 t396) (wrap64 (x10 + 1))))) else (spec_TermsMeet.l0 k x0 x1 x2 x3 x9 (wrap64 (x10 + 1)))
end
def spec_TermsMeet.f (k : Nat) (l0 : List (S37)) (a1 : Int) (l2 : List (S37)) (a3 : Int) : Option (Int) := (spec_l23Ok.f k l0 a1).bind fun t389 => (if t389 = true then ((spec_l23Ok.f k l2 a3).bind fun t390 => (spec_TermsMeet.j0 k l0 a1 l2 a3 (!t390))) else (spec_TermsMeet.j0 k l0 a1 l2 a3 true))
theorem spec_TermsMeet.mono_l : ∀ k, (∀ y0 y1 y2 y3 y4, LeO (spec_TermsMeet.j0 k y0 y1 y2 y3 y4) (spec_TermsMeet.j0 (k + 1) y0 y1 y2 y3 y4)) ∧ (∀ y0 y1 y2 y3 y4 y5, LeO (spec_TermsMeet.l0 k y0 y1 y2 y3 y4 y5) (spec_TermsMeet.l0 (k + 1) y0 y1 y2 y3 y4 y5)) ∧ (∀ y0 y1 y2 y3 y4 y5 y6 y7, LeO (spec_TermsMeet.j2 k y0 y1 y2 y3 y4 y5 y6 y7) (spec_TermsMeet.j2 (k + 1) y0 y1 y2 y3 y4 y5 y6 y7))
  | 0 => ⟨fun _ _ _ _ _ r h => by simp [spec_TermsMeet.j0] at h, fun _ _ _ _ _ _ r h => by simp [spec_TermsMeet.l0] at h, fun _ _ _ _ _ _ _ _ r h => by simp [spec_TermsMeet.j2] at h⟩
  | k + 1 => by
    obtain ⟨ih0, ih1, ih2⟩ := spec_TermsMeet.mono_l k
    refine ⟨?_, ?_, ?_⟩
    · intro y0 y1 y2 y3 y4
      unfold spec_TermsMeet.j0
      repeat' first
      | (with_reducible exact ih0 _ _ _ _ _)
      | (with_reducible exact ih1 _ _ _ _ _ _)
      | (with_reducible exact ih2 _ _ _ _ _ _ _ _)
      | (with_reducible exact spec_l23At.mono _ _ _)
      | (with_reducible exact spec_l23Ok.mono _ _ _)
      | (with_reducible exact LeO.refl _)
      | (with_reducible exact LeO.none _)
      | (with_reducible refine LeO.ite ?_ ?_)
      | (with_reducible refine LeO.bind ?_ (fun _ => ?_))
      | exact ih0 _ _ _ _ _
      | exact ih1 _ _ _ _ _ _
      | exact ih2 _ _ _ _ _ _ _ _
      | exact spec_l23At.mono _ _ _
      | exact spec_l23Ok.mono _ _ _
      | exact LeO.none _
      | refine LeO.ite ?_ ?_
      | refine LeO.bind ?_ (fun _ => ?_)
    · intro y0 y1 y2 y3 y4 y5
      unfold spec_TermsMeet.l0
      repeat' first
      | (with_reducible exact ih0 _ _ _ _ _)
      | (with_reducible exact ih1 _ _ _ _ _ _)
      | (with_reducible exact ih2 _ _ _ _ _ _ _ _)
      | (with_reducible exact spec_l23At.mono _ _ _)
      | (with_reducible exact spec_l23Ok.mono _ _ _)
      | (with_reducible exact LeO.refl _)
      | (with_reducible exact LeO.none _)
      | (with_reducible refine LeO.ite ?_ ?_)
      | (with_reducible refine LeO.bind ?_ (fun _ => ?_))
      | exact ih0 _ _ _ _ _
      | exact ih1 _ _ _ _ _ _
      | exact ih2 _ _ _ _ _ _ _ _
      | exact spec_l23At.mono _ _ _
      | exact spec_l23Ok.mono _ _ _
      | exact LeO.none _
      | refine LeO.ite ?_ ?_
      | refine LeO.bind ?_ (fun _ => ?_)
    · intro y0 y1 y2 y3 y4 y5 y6 y7
      unfold spec_TermsMeet.j2
      repeat' first
      | (with_reducible exact ih0 _ _ _ _ _)
      | (with_reducible exact ih1 _ _ _ _ _ _)
      | (with_reducible exact ih2 _ _ _ _ _ _ _ _)
      | (with_reducible exact spec_l23At.mono _ _ _)
      | (with_reducible exact spec_l23Ok.mono _ _ _)
      | (with_reducible exact LeO.refl _)
      | (with_reducible exact LeO.none _)
      | (with_reducible refine LeO.ite ?_ ?_)
      | (with_reducible refine LeO.bind ?_ (fun _ => ?_))
      | exact ih0 _ _ _ _ _
      | exact ih1 _ _ _ _ _ _
      | exact ih2 _ _ _ _ _ _ _ _
      | exact spec_l23At.mono _ _ _
      | exact spec_l23Ok.mono _ _ _
      | exact LeO.none _
      | refine LeO.ite ?_ ?_
      | refine LeO.bind ?_ (fun _ => ?_)
theorem spec_TermsMeet.mono : ∀ a0 a1 a2 a3 k, LeO (spec_TermsMeet.f k a0 a1 a2 a3) (spec_TermsMeet.f (k + 1) a0 a1 a2 a3) := by
  intro a0 a1 a2 a3 k
  obtain ⟨ih0, ih1, ih2⟩ := spec_TermsMeet.mono_l k
  unfold spec_TermsMeet.f
  repeat' first
      | (with_reducible exact ih0 _ _ _ _ _)
      | (with_reducible exact ih1 _ _ _ _ _ _)
      | (with_reducible exact ih2 _ _ _ _ _ _ _ _)
      | (with_reducible exact spec_l23At.mono _ _ _)
      | (with_reducible exact spec_l23Ok.mono _ _ _)
      | (with_reducible exact LeO.refl _)
      | (with_reducible exact LeO.none _)
      | (with_reducible refine LeO.ite ?_ ?_)
      | (with_reducible refine LeO.bind ?_ (fun _ => ?_))
      | exact ih0 _ _ _ _ _
      | exact ih1 _ _ _ _ _ _
      | exact ih2 _ _ _ _ _ _ _ _
      | exact spec_l23At.mono _ _ _
      | exact spec_l23Ok.mono _ _ _
      | exact LeO.none _
      | refine LeO.ite ?_ ?_
      | refine LeO.bind ?_ (fun _ => ?_)
set_option maxHeartbeats 8000000 in
set_option maxRecDepth 100000 in
theorem spec_TermsMeet.calls (k : Nat) (A0 : Option Addr) (c0 : Nat) (l0 : List (S37)) (a1 : Int) (A2 : Option Addr) (c2 : Nat) (l2 : List (S37)) (a3 : Int) (r : Int) (w : World) (hr0 : Kd.C k37 w A0 l0.length l0) (hc0 : l0.length ≤ c0) (hr2 : Kd.C k37 w A2 l2.length l2) (hc2 : l2.length ≤ c2) (h : spec_TermsMeet.f k l0 a1 l2 a3 = some r) :
    Calls Try.prog 38 #[.slice A0 l0.length c0, .int .i64 a1, .slice A2 l2.length c2, .int .i64 a3] w fun e w' => e = .returned (.int .i64 r) ∧ Below w.heap.size w w' := by
  have HR0 := Aside0.mk hr0
  have HC0 := Aside0.mk hc0
  clear hr0 hc0
  have HR2 := Aside0.mk hr2
  have HC2 := Aside0.mk hc2
  clear hr2 hc2
  have HB := Aside0.mk (Below.refl w.heap.size w)
  have H : ((spec_l23Ok.f k l0 a1).bind fun t389 => (if t389 = true then ((spec_l23Ok.f k l2 a3).bind fun t390 => (spec_TermsMeet.j0 k l0 a1 l2 a3 (!t390))) else (spec_TermsMeet.j0 k l0 a1 l2 a3 true))) = some r := h
  clear h
  have HC5 := Aside0.mk H
  clear H
  go_enter Try.func38, Try.ntmps38
  go_upto_region 1 with (fail)
  repeat (go_quiet (fail); go_upto_region 1 with (fail))
  go_cut [21] (fun v21 wc => ∃ (kq : Nat) (x21_4 : Bool), v21 = .bool x21_4 ∧ Aside0 (spec_TermsMeet.j0 kq l0 a1 l2 a3 x21_4 = some r) ∧ Aside0 (kq ≤ k) ∧ Aside0 (Below w.heap.size w wc))
  case first =>
    have H := HC5.out
    clear HC5
    replace H := Option.bind_eq_some_iff.mp H
    obtain ⟨t389, A60, H⟩ := H
    replace H : (if t389 = true then ((spec_l23Ok.f k l2 a3).bind fun t390 => (spec_TermsMeet.j0 k l0 a1 l2 a3 (!t390))) else (spec_TermsMeet.j0 k l0 a1 l2 a3 true)) = some r := H
    have A6 := Aside0.mk A60
    clear A60
    by_cases c7 : t389 = true
    · subst c7
      have H1 : ((spec_l23Ok.f k l2 a3).bind fun t390 => (spec_TermsMeet.j0 k l0 a1 l2 a3 (!t390))) = some r := by rw [if_pos rfl] at H; exact H
      clear H
      have H := H1
      clear H1
      replace H := Option.bind_eq_some_iff.mp H
      obtain ⟨t390, A80, H⟩ := H
      replace H : (spec_TermsMeet.j0 k l0 a1 l2 a3 (!t390)) = some r := H
      have A8 := Aside0.mk A80
      clear A80
      have H' := Aside0.mk H
      clear H
      go_wp2_with (first | (go_at_call 50; (with_reducible refine (spec_l23Ok.calls k _ _ l0 a1 true _ ?side1 ?side2 A6.out).mono ?_); (case side1 => repeat (first | exact (Kd.C_below HR0.out HB.out) | (with_reducible refine Kd.C_alloc ?_ _) | (with_reducible refine Kd.C_drewN ?_ _) | (with_reducible refine Kd.C_drew ?_))); (case side2 => exact HC0.out); rintro e w9 ⟨rfl, hb⟩; have n0_ := Aside0.mk (below_step (by repeat (first | (with_reducible first | exact HB.out | apply below_alloc | apply pw_below_drewN | apply below_drew1) | exact HB.out)) hb); clear HB; have HB := n0_; clear n0_; (try clear hb); (try clear hb2); (try clear hk); (try clear hi)) | (go_at_call 50; (with_reducible refine (spec_l23Ok.calls k _ _ l2 a3 t390 _ ?side1 ?side2 A8.out).mono ?_); (case side1 => repeat (first | exact (Kd.C_below HR2.out HB.out) | (with_reducible refine Kd.C_alloc ?_ _) | (with_reducible refine Kd.C_drewN ?_ _) | (with_reducible refine Kd.C_drew ?_))); (case side2 => exact HC2.out); rintro e w10 ⟨rfl, hb⟩; have n0_ := Aside0.mk (below_step (by repeat (first | (with_reducible first | exact HB.out | apply below_alloc | apply pw_below_drewN | apply below_drew1) | exact HB.out)) hb); clear HB; have HB := n0_; clear n0_; (try clear hb); (try clear hb2); (try clear hk); (try clear hi)))
      repeat (go_quiet (first | (go_at_call 50; (with_reducible refine (spec_l23Ok.calls k _ _ l0 a1 true _ ?side1 ?side2 A6.out).mono ?_); (case side1 => repeat (first | exact (Kd.C_below HR0.out HB.out) | (with_reducible refine Kd.C_alloc ?_ _) | (with_reducible refine Kd.C_drewN ?_ _) | (with_reducible refine Kd.C_drew ?_))); (case side2 => exact HC0.out); rintro e w9 ⟨rfl, hb⟩; have n0_ := Aside0.mk (below_step (by repeat (first | (with_reducible first | exact HB.out | apply below_alloc | apply pw_below_drewN | apply below_drew1) | exact HB.out)) hb); clear HB; have HB := n0_; clear n0_; (try clear hb); (try clear hb2); (try clear hk); (try clear hi)) | (go_at_call 50; (with_reducible refine (spec_l23Ok.calls k _ _ l2 a3 t390 _ ?side1 ?side2 A8.out).mono ?_); (case side1 => repeat (first | exact (Kd.C_below HR2.out HB.out) | (with_reducible refine Kd.C_alloc ?_ _) | (with_reducible refine Kd.C_drewN ?_ _) | (with_reducible refine Kd.C_drew ?_))); (case side2 => exact HC2.out); rintro e w10 ⟨rfl, hb⟩; have n0_ := Aside0.mk (below_step (by repeat (first | (with_reducible first | exact HB.out | apply below_alloc | apply pw_below_drewN | apply below_drew1) | exact HB.out)) hb); clear HB; have HB := n0_; clear n0_; (try clear hb); (try clear hb2); (try clear hk); (try clear hi))); try go_wp2_with (first | (go_at_call 50; (with_reducible refine (spec_l23Ok.calls k _ _ l0 a1 true _ ?side1 ?side2 A6.out).mono ?_); (case side1 => repeat (first | exact (Kd.C_below HR0.out HB.out) | (with_reducible refine Kd.C_alloc ?_ _) | (with_reducible refine Kd.C_drewN ?_ _) | (with_reducible refine Kd.C_drew ?_))); (case side2 => exact HC0.out); rintro e w9 ⟨rfl, hb⟩; have n0_ := Aside0.mk (below_step (by repeat (first | (with_reducible first | exact HB.out | apply below_alloc | apply pw_below_drewN | apply below_drew1) | exact HB.out)) hb); clear HB; have HB := n0_; clear n0_; (try clear hb); (try clear hb2); (try clear hk); (try clear hi)) | (go_at_call 50; (with_reducible refine (spec_l23Ok.calls k _ _ l2 a3 t390 _ ?side1 ?side2 A8.out).mono ?_); (case side1 => repeat (first | exact (Kd.C_below HR2.out HB.out) | (with_reducible refine Kd.C_alloc ?_ _) | (with_reducible refine Kd.C_drewN ?_ _) | (with_reducible refine Kd.C_drew ?_))); (case side2 => exact HC2.out); rintro e w10 ⟨rfl, hb⟩; have n0_ := Aside0.mk (below_step (by repeat (first | (with_reducible first | exact HB.out | apply below_alloc | apply pw_below_drewN | apply below_drew1) | exact HB.out)) hb); clear HB; have HB := n0_; clear n0_; (try clear hb); (try clear hb2); (try clear hk); (try clear hi))))
      go_meet
      case rel => exact ⟨_, (!t390), (by first | rfl | (simp; done) | (simp [*]; done)), H', ⟨by first | omega | exact Nat.le_refl _⟩, ⟨by repeat (first | (with_reducible first | exact HB.out | apply below_alloc | apply pw_below_drewN | apply below_drew1) | exact HB.out)⟩⟩
    · replace c7 := Bool.eq_false_iff.mpr c7
      subst c7
      have H1 : (spec_TermsMeet.j0 k l0 a1 l2 a3 true) = some r := by rw [if_neg (show ¬ (false = true) by decide)] at H; exact H
      clear H
      have H := H1
      clear H1
      have H' := Aside0.mk H
      clear H
      go_wp2_with (first | (go_at_call 50; (with_reducible refine (spec_l23Ok.calls k _ _ l0 a1 false _ ?side1 ?side2 A6.out).mono ?_); (case side1 => repeat (first | exact (Kd.C_below HR0.out HB.out) | (with_reducible refine Kd.C_alloc ?_ _) | (with_reducible refine Kd.C_drewN ?_ _) | (with_reducible refine Kd.C_drew ?_))); (case side2 => exact HC0.out); rintro e w11 ⟨rfl, hb⟩; have n0_ := Aside0.mk (below_step (by repeat (first | (with_reducible first | exact HB.out | apply below_alloc | apply pw_below_drewN | apply below_drew1) | exact HB.out)) hb); clear HB; have HB := n0_; clear n0_; (try clear hb); (try clear hb2); (try clear hk); (try clear hi)))
      repeat (go_quiet (first | (go_at_call 50; (with_reducible refine (spec_l23Ok.calls k _ _ l0 a1 false _ ?side1 ?side2 A6.out).mono ?_); (case side1 => repeat (first | exact (Kd.C_below HR0.out HB.out) | (with_reducible refine Kd.C_alloc ?_ _) | (with_reducible refine Kd.C_drewN ?_ _) | (with_reducible refine Kd.C_drew ?_))); (case side2 => exact HC0.out); rintro e w11 ⟨rfl, hb⟩; have n0_ := Aside0.mk (below_step (by repeat (first | (with_reducible first | exact HB.out | apply below_alloc | apply pw_below_drewN | apply below_drew1) | exact HB.out)) hb); clear HB; have HB := n0_; clear n0_; (try clear hb); (try clear hb2); (try clear hk); (try clear hi))); try go_wp2_with (first | (go_at_call 50; (with_reducible refine (spec_l23Ok.calls k _ _ l0 a1 false _ ?side1 ?side2 A6.out).mono ?_); (case side1 => repeat (first | exact (Kd.C_below HR0.out HB.out) | (with_reducible refine Kd.C_alloc ?_ _) | (with_reducible refine Kd.C_drewN ?_ _) | (with_reducible refine Kd.C_drew ?_))); (case side2 => exact HC0.out); rintro e w11 ⟨rfl, hb⟩; have n0_ := Aside0.mk (below_step (by repeat (first | (with_reducible first | exact HB.out | apply below_alloc | apply pw_below_drewN | apply below_drew1) | exact HB.out)) hb); clear HB; have HB := n0_; clear n0_; (try clear hb); (try clear hb2); (try clear hk); (try clear hi))))
      go_meet
      case rel => exact ⟨_, (true), (by first | rfl | (simp; done) | (simp [*]; done)), H', ⟨by first | omega | exact Nat.le_refl _⟩, ⟨by repeat (first | (with_reducible first | exact HB.out | apply below_alloc | apply pw_below_drewN | apply below_drew1) | exact HB.out)⟩⟩
  case rest =>
    clear HC5
    try clear c2
    try clear p2
    try clear c3
    try clear c7
    obtain ⟨kq, x21_4, rfl, HA, HJ4, HB⟩ := hcut
    cases kq with
    | zero => exact absurd HA.out (by simp [spec_TermsMeet.j0])
    | succ kj4 =>
      have H := HA.out
      clear HA
      simp only [spec_TermsMeet.j0] at H
      by_cases c12 : x21_4 = true
      · subst c12
        have H1 : (some (-1)) = some r := by rw [if_pos rfl] at H; exact H
        clear H
        have H := H1
        clear H1
        obtain rfl := Option.some.inj H
        go_wp2
        repeat (go_quiet (fail); try go_wp2)
        go_ret
        exact ⟨by first | rfl | (simp [errW_none, errW_some] <;> rfl) | (simp [*, errW_none, errW_some] <;> rfl), by repeat (first | (with_reducible first | exact HB.out | apply below_alloc | apply pw_below_drewN | apply below_drew1) | exact HB.out)⟩
      · replace c12 := Bool.eq_false_iff.mpr c12
        subst c12
        have H1 : (spec_TermsMeet.l0 kj4 l0 a1 l2 a3 0 0) = some r := by rw [if_neg (show ¬ (false = true) by decide)] at H; exact H
        clear H
        have H := H1
        clear H1
        have H' := Aside0.mk H
        clear H
        go_wp2
        repeat (go_quiet (fail); try go_wp2)
        go_loopg [9, 10] kj4 (fun kq v9 v10 w' => ∃ (x9_2 : Int) (x10_2 : Int), v9 = .int .i64 x9_2 ∧ v10 = .int .i64 x10_2 ∧ Aside0 (spec_TermsMeet.l0 kq l0 a1 l2 a3 x9_2 x10_2 = some r) ∧ Aside0 (kq ≤ kj4) ∧ Aside0 (Below w.heap.size w w'))
        case atStart => exact ⟨(0), (0), (by first | rfl | (simp; done) | (simp [*]; done)), (by first | rfl | (simp; done) | (simp [*]; done)), H', ⟨Nat.le_refl _⟩, ⟨by repeat (first | (with_reducible first | exact HB.out | apply below_alloc | apply pw_below_drewN | apply below_drew1) | exact HB.out)⟩⟩
        case round =>
          clear H'
          try clear c1
          try clear c2
          try clear p2
          try clear c3
          try clear c7
          try clear c12
          try clear p2
          obtain ⟨x9_2, x10_2, rfl, rfl, HA, HK2, HB⟩ := hrel
          cases gk with
          | zero => exact absurd HA.out (by simp [spec_TermsMeet.l0])
          | succ k2 =>
            have H := HA.out
            clear HA
            simp only [spec_TermsMeet.l0] at H
            by_cases c13 : x10_2 < (l0.length : Int)
            · rw [if_pos c13] at H
              have c13b0 : decide (x10_2 < (l0.length : Int)) = true := decide_eq_true c13
              clear c13
              by_cases c14 : 0 ≤ x10_2
              · rw [if_pos c14] at H
                have c14b0 : decide (0 ≤ x10_2) = true := decide_eq_true c14
                clear c14
                replace H := Option.bind_eq_some_iff.mp H
                obtain ⟨t392, A150, H⟩ := H
                replace H : (if t392 ≥ 0 then (if 0 ≤ t392 then (if t392 < (l2.length : Int) then (spec_TermsMeet.j2 k2 l0 a1 l2 a3 x9_2 x10_2 t392 (((rd_T37 l2 t392).f1) == ((rd_T37 l0 x10_2).f1))) else (none)) else (none)) else (spec_TermsMeet.j2 k2 l0 a1 l2 a3 x9_2 x10_2 t392 false)) = some r := H
                have A15 := Aside0.mk A150
                clear A150
                have HC16 := Aside0.mk H
                clear H
                have p391 : 0 ≤ (x10_2 : Int) := of_decide_eq_true (by first | (with_reducible assumption) | assumption)
                have q391 : x10_2 < (l0.length : Int) := of_decide_eq_true (by first | (with_reducible assumption) | assumption)
                obtain ⟨ad391, e391, hx391_0, hx391_1⟩ := at_T37 HR0.out x10_2 p391 q391
                cases e391
                replace hx391_0 := (HB.out.cell (World.block_lt_of_cell? w _ hx391_0)).trans hx391_0
                replace hx391_1 := (HB.out.cell (World.block_lt_of_cell? w _ hx391_1)).trans hx391_1
                replace p391 := eq_true p391
                replace q391 := eq_true q391
                go_upto_region 8 with (first | (go_at_call 49; (with_reducible refine (spec_l23At.calls k2 _ _ l2 ((rd_T37 l0 x10_2).f0) t392 _ ?side1 ?side2 A15.out).mono ?_); (case side1 => repeat (first | exact (Kd.C_below HR2.out HB.out) | (with_reducible refine Kd.C_alloc ?_ _) | (with_reducible refine Kd.C_drewN ?_ _) | (with_reducible refine Kd.C_drew ?_))); (case side2 => exact HC2.out); rintro e w' ⟨rfl, ⟨nd, rfl⟩⟩; (try first | exact ⟨rfl, _, World.drewN_drewN _ _ _⟩ | exact ⟨rfl, _, Eq.trans (World.drewN_drewN _ _ _) (congrArg (World.drewN _) (Nat.add_assoc _ _ _))⟩)))
                repeat (go_quiet (first | (go_at_call 49; (with_reducible refine (spec_l23At.calls k2 _ _ l2 ((rd_T37 l0 x10_2).f0) t392 _ ?side1 ?side2 A15.out).mono ?_); (case side1 => repeat (first | exact (Kd.C_below HR2.out HB.out) | (with_reducible refine Kd.C_alloc ?_ _) | (with_reducible refine Kd.C_drewN ?_ _) | (with_reducible refine Kd.C_drew ?_))); (case side2 => exact HC2.out); rintro e w' ⟨rfl, ⟨nd, rfl⟩⟩; (try first | exact ⟨rfl, _, World.drewN_drewN _ _ _⟩ | exact ⟨rfl, _, Eq.trans (World.drewN_drewN _ _ _) (congrArg (World.drewN _) (Nat.add_assoc _ _ _))⟩))); go_upto_region 8 with (first | (go_at_call 49; (with_reducible refine (spec_l23At.calls k2 _ _ l2 ((rd_T37 l0 x10_2).f0) t392 _ ?side1 ?side2 A15.out).mono ?_); (case side1 => repeat (first | exact (Kd.C_below HR2.out HB.out) | (with_reducible refine Kd.C_alloc ?_ _) | (with_reducible refine Kd.C_drewN ?_ _) | (with_reducible refine Kd.C_drew ?_))); (case side2 => exact HC2.out); rintro e w' ⟨rfl, ⟨nd, rfl⟩⟩; (try first | exact ⟨rfl, _, World.drewN_drewN _ _ _⟩ | exact ⟨rfl, _, Eq.trans (World.drewN_drewN _ _ _) (congrArg (World.drewN _) (Nat.add_assoc _ _ _))⟩))))
                (try simp only [Act.put, List.setIfInBounds_toArray, List.set_cons_zero, List.set_cons_succ])
                go_cut [49] (fun v49 wc => ∃ (kq : Nat) (x49_15 : Bool), v49 = .bool x49_15 ∧ Aside0 (spec_TermsMeet.j2 kq l0 a1 l2 a3 x9_2 x10_2 t392 x49_15 = some r) ∧ Aside0 (kq ≤ k2) ∧ Aside0 (Below w.heap.size w wc))
                case first =>
                  have H := HC16.out
                  clear HC16
                  by_cases c17 : t392 ≥ 0
                  · rw [if_pos c17] at H
                    have c17b0 : decide (0 ≤ t392) = true := decide_eq_true c17
                    clear c17
                    (first | rw [c17b0] | (simp only [i64_w, i32_w]; rw [c17b0]) | skip)
                    by_cases c18 : 0 ≤ t392
                    · rw [if_pos c18] at H
                      have c18b0 : decide (0 ≤ t392) = true := decide_eq_true c18
                      clear c18
                      by_cases c19 : t392 < (l2.length : Int)
                      · rw [if_pos c19] at H
                        have c19b0 : decide (t392 < (l2.length : Int)) = true := decide_eq_true c19
                        clear c19
                        have H' := Aside0.mk H
                        clear H
                        have p393 : 0 ≤ (t392 : Int) := of_decide_eq_true (by first | (with_reducible assumption) | assumption)
                        have q393 : t392 < (l2.length : Int) := of_decide_eq_true (by first | (with_reducible assumption) | assumption)
                        obtain ⟨ad393, e393, hx393_0, hx393_1⟩ := at_T37 HR2.out t392 p393 q393
                        cases e393
                        replace hx393_0 := (HB.out.cell (World.block_lt_of_cell? w _ hx393_0)).trans hx393_0
                        replace hx393_1 := (HB.out.cell (World.block_lt_of_cell? w _ hx393_1)).trans hx393_1
                        replace p393 := eq_true p393
                        replace q393 := eq_true q393
                        have p394 : 0 ≤ (x10_2 : Int) := of_decide_eq_true (by first | (with_reducible assumption) | assumption)
                        have q394 : x10_2 < (l0.length : Int) := of_decide_eq_true (by first | (with_reducible assumption) | assumption)
                        obtain ⟨ad394, e394, hx394_0, hx394_1⟩ := at_T37 HR0.out x10_2 p394 q394
                        obtain rfl : ad391 = ad394 := (by injection e394)
                        replace hx394_0 := (HB.out.cell (World.block_lt_of_cell? w _ hx394_0)).trans hx394_0
                        replace hx394_1 := (HB.out.cell (World.block_lt_of_cell? w _ hx394_1)).trans hx394_1
                        replace p394 := eq_true p394
                        replace q394 := eq_true q394
                        go_wp2
                        repeat (go_quiet (fail); try go_wp2)
                        go_meet
                        case rel => exact ⟨_, ((((rd_T37 l2 t392).f1) == ((rd_T37 l0 x10_2).f1))), (by first | rfl | (simp; done) | (simp [*]; done)), H', ⟨by have := HJ4.out; have := HK2.out; first | omega | exact Nat.le_refl _⟩, ⟨by repeat (first | (with_reducible first | exact HB.out | apply below_alloc | apply pw_below_drewN | apply below_drew1) | exact HB.out)⟩⟩
                      · rw [if_neg c19] at H
                        exact absurd H (by simp)
                    · rw [if_neg c18] at H
                      exact absurd H (by simp)
                  · rw [if_neg c17] at H
                    have c17b0 : decide (0 ≤ t392) = false := decide_eq_false c17
                    clear c17
                    (first | rw [c17b0] | (simp only [i64_w, i32_w]; rw [c17b0]) | skip)
                    have H' := Aside0.mk H
                    clear H
                    go_wp2
                    repeat (go_quiet (fail); try go_wp2)
                    go_meet
                    case rel => exact ⟨_, (false), (by first | rfl | (simp; done) | (simp [*]; done)), H', ⟨by have := HJ4.out; have := HK2.out; first | omega | exact Nat.le_refl _⟩, ⟨by repeat (first | (with_reducible first | exact HB.out | apply below_alloc | apply pw_below_drewN | apply below_drew1) | exact HB.out)⟩⟩
                case rest =>
                  clear HC16
                  try clear c1
                  try clear c2
                  try clear p2
                  try clear c3
                  try clear p3
                  try clear q3
                  try clear hx3
                  try clear c7
                  try clear c12
                  try clear c13
                  try clear c13b0
                  try clear c14
                  try clear c14b0
                  try clear c17
                  try clear c17b0
                  try clear c18
                  try clear c18b0
                  try clear c19
                  try clear c19b0
                  try clear hx391_0
                  try clear hx391_1
                  try clear hx393_0
                  try clear hx393_1
                  try clear hx394_0
                  try clear hx394_1
                  try clear p2
                  try clear p391
                  try clear p393
                  try clear p394
                  try clear q391
                  try clear q393
                  try clear q394
                  obtain ⟨kq, x49_15, rfl, HA, HJ15, HB⟩ := hcut
                  cases kq with
                  | zero => exact absurd HA.out (by simp [spec_TermsMeet.j2])
                  | succ kj15 =>
                    have H := HA.out
                    clear HA
                    simp only [spec_TermsMeet.j2] at H
                    by_cases c20 : x49_15 = true
                    · subst c20
                      have H1 : ((spec_l23End.f l0 x10_2 a1).bind fun t395 => ((spec_l23End.f l2 t392 a3).bind fun t396 => (spec_TermsMeet.l0 kj15 l0 a1 l2 a3 (mn t395 t396) (wrap64 (x10_2 + 1))))) = some r := by rw [if_pos rfl] at H; exact H
                      clear H
                      have H := H1
                      clear H1
                      replace H := Option.bind_eq_some_iff.mp H
                      obtain ⟨t395, A210, H⟩ := H
                      replace H : ((spec_l23End.f l2 t392 a3).bind fun t396 => (spec_TermsMeet.l0 kj15 l0 a1 l2 a3 (mn t395 t396) (wrap64 (x10_2 + 1)))) = some r := H
                      have A21 := Aside0.mk A210
                      clear A210
                      replace H := Option.bind_eq_some_iff.mp H
                      obtain ⟨t396, A220, H⟩ := H
                      replace H : (spec_TermsMeet.l0 kj15 l0 a1 l2 a3 (mn t395 t396) (wrap64 (x10_2 + 1))) = some r := H
                      have A22 := Aside0.mk A220
                      clear A220
                      obtain ⟨ji23, hji23⟩ : ∃ j_ : Int, (mn t395 t396) = j_ := ⟨_, rfl⟩
                      replace H : (spec_TermsMeet.l0 kj15 l0 a1 l2 a3 ji23 (wrap64 (x10_2 + 1))) = some r := by first | (rw [hji23] at H; exact H) | (simp only [hji23] at H ⊢; exact H)
                      (try rw [hji23] at A21)
                      (try rw [hji23] at A22)
                      have hji23_ : (if t396 < t395 then t396 else t395) = ji23 := hji23
                      have H' := Aside0.mk H
                      clear H
                      go_wp2_with (first | (go_at_call 51; (with_reducible refine (spec_l23End.calls _ _ l0 x10_2 a1 t395 _ ?side1 ?side2 A21.out).mono ?_); (case side1 => repeat (first | exact (Kd.C_below HR0.out HB.out) | (with_reducible refine Kd.C_alloc ?_ _) | (with_reducible refine Kd.C_drewN ?_ _) | (with_reducible refine Kd.C_drew ?_))); (case side2 => exact HC0.out); rintro e w' ⟨rfl, ⟨nd, rfl⟩⟩; (try first | exact ⟨rfl, _, World.drewN_drewN _ _ _⟩ | exact ⟨rfl, _, Eq.trans (World.drewN_drewN _ _ _) (congrArg (World.drewN _) (Nat.add_assoc _ _ _))⟩)) | (go_at_call 51; (with_reducible refine (spec_l23End.calls _ _ l2 t392 a3 t396 _ ?side1 ?side2 A22.out).mono ?_); (case side1 => repeat (first | exact (Kd.C_below HR2.out (by repeat (first | (with_reducible first | exact HB.out | apply below_alloc | apply pw_below_drewN | apply below_drew1) | exact HB.out))) | (with_reducible refine Kd.C_alloc ?_ _) | (with_reducible refine Kd.C_drewN ?_ _) | (with_reducible refine Kd.C_drew ?_))); (case side2 => exact HC2.out); rintro e w' ⟨rfl, ⟨nd, rfl⟩⟩; (try first | exact ⟨rfl, _, World.drewN_drewN _ _ _⟩ | exact ⟨rfl, _, Eq.trans (World.drewN_drewN _ _ _) (congrArg (World.drewN _) (Nat.add_assoc _ _ _))⟩)))
                      repeat (go_quiet (first | (go_at_call 51; (with_reducible refine (spec_l23End.calls _ _ l0 x10_2 a1 t395 _ ?side1 ?side2 A21.out).mono ?_); (case side1 => repeat (first | exact (Kd.C_below HR0.out HB.out) | (with_reducible refine Kd.C_alloc ?_ _) | (with_reducible refine Kd.C_drewN ?_ _) | (with_reducible refine Kd.C_drew ?_))); (case side2 => exact HC0.out); rintro e w' ⟨rfl, ⟨nd, rfl⟩⟩; (try first | exact ⟨rfl, _, World.drewN_drewN _ _ _⟩ | exact ⟨rfl, _, Eq.trans (World.drewN_drewN _ _ _) (congrArg (World.drewN _) (Nat.add_assoc _ _ _))⟩)) | (go_at_call 51; (with_reducible refine (spec_l23End.calls _ _ l2 t392 a3 t396 _ ?side1 ?side2 A22.out).mono ?_); (case side1 => repeat (first | exact (Kd.C_below HR2.out (by repeat (first | (with_reducible first | exact HB.out | apply below_alloc | apply pw_below_drewN | apply below_drew1) | exact HB.out))) | (with_reducible refine Kd.C_alloc ?_ _) | (with_reducible refine Kd.C_drewN ?_ _) | (with_reducible refine Kd.C_drew ?_))); (case side2 => exact HC2.out); rintro e w' ⟨rfl, ⟨nd, rfl⟩⟩; (try first | exact ⟨rfl, _, World.drewN_drewN _ _ _⟩ | exact ⟨rfl, _, Eq.trans (World.drewN_drewN _ _ _) (congrArg (World.drewN _) (Nat.add_assoc _ _ _))⟩))); try go_wp2_with (first | (go_at_call 51; (with_reducible refine (spec_l23End.calls _ _ l0 x10_2 a1 t395 _ ?side1 ?side2 A21.out).mono ?_); (case side1 => repeat (first | exact (Kd.C_below HR0.out HB.out) | (with_reducible refine Kd.C_alloc ?_ _) | (with_reducible refine Kd.C_drewN ?_ _) | (with_reducible refine Kd.C_drew ?_))); (case side2 => exact HC0.out); rintro e w' ⟨rfl, ⟨nd, rfl⟩⟩; (try first | exact ⟨rfl, _, World.drewN_drewN _ _ _⟩ | exact ⟨rfl, _, Eq.trans (World.drewN_drewN _ _ _) (congrArg (World.drewN _) (Nat.add_assoc _ _ _))⟩)) | (go_at_call 51; (with_reducible refine (spec_l23End.calls _ _ l2 t392 a3 t396 _ ?side1 ?side2 A22.out).mono ?_); (case side1 => repeat (first | exact (Kd.C_below HR2.out (by repeat (first | (with_reducible first | exact HB.out | apply below_alloc | apply pw_below_drewN | apply below_drew1) | exact HB.out))) | (with_reducible refine Kd.C_alloc ?_ _) | (with_reducible refine Kd.C_drewN ?_ _) | (with_reducible refine Kd.C_drew ?_))); (case side2 => exact HC2.out); rintro e w' ⟨rfl, ⟨nd, rfl⟩⟩; (try first | exact ⟨rfl, _, World.drewN_drewN _ _ _⟩ | exact ⟨rfl, _, Eq.trans (World.drewN_drewN _ _ _) (congrArg (World.drewN _) (Nat.add_assoc _ _ _))⟩))))
                      go_roundg kj15
                      case measure => have := HJ4.out; have := HK2.out; have := HJ15.out; omega
                      case rel => exact ⟨(ji23), (wrap64 (x10_2 + 1)), (by first | rfl | (simp; done) | (simp only [← hji23] <;> (first | rfl | simp)) | (simp [*]; done)), (by first | rfl | (simp; done) | (simp [*]; done)), H', ⟨by have := HJ4.out; have := HK2.out; have := HJ15.out; omega⟩, ⟨by repeat (first | (with_reducible first | exact HB.out | apply below_alloc | apply pw_below_drewN | apply below_drew1) | exact HB.out)⟩⟩
                    · replace c20 := Bool.eq_false_iff.mpr c20
                      subst c20
                      have H1 : (spec_TermsMeet.l0 kj15 l0 a1 l2 a3 x9_2 (wrap64 (x10_2 + 1))) = some r := by rw [if_neg (show ¬ (false = true) by decide)] at H; exact H
                      clear H
                      have H := H1
                      clear H1
                      have H' := Aside0.mk H
                      clear H
                      go_wp2
                      repeat (go_quiet (fail); try go_wp2)
                      go_roundg kj15
                      case measure => have := HJ4.out; have := HK2.out; have := HJ15.out; omega
                      case rel => exact ⟨(x9_2), (wrap64 (x10_2 + 1)), (by first | rfl | (simp; done) | (simp [*]; done)), (by first | rfl | (simp; done) | (simp [*]; done)), H', ⟨by have := HJ4.out; have := HK2.out; have := HJ15.out; omega⟩, ⟨by repeat (first | (with_reducible first | exact HB.out | apply below_alloc | apply pw_below_drewN | apply below_drew1) | exact HB.out)⟩⟩
              · rw [if_neg c14] at H
                exact absurd H (by simp)
            · rw [if_neg c13] at H
              have c13b0 : decide (x10_2 < (l0.length : Int)) = false := decide_eq_false c13
              clear c13
              obtain rfl := Option.some.inj H
              go_wp2
              repeat (go_quiet (fail); try go_wp2)
              go_ret
              exact ⟨by first | rfl | (simp [errW_none, errW_some] <;> rfl) | (simp [*, errW_none, errW_some] <;> rfl), by repeat (first | (with_reducible first | exact HB.out | apply below_alloc | apply pw_below_drewN | apply below_drew1) | exact HB.out)⟩
end Go.Proofs.Ytamncgpajkoiaaa.T
namespace Go.Proofs.Ytamncgpajkoiaaa.T
open Go.RowKit Go.Proofs.YtamncgpajkoiaaaW.PrintWords Go.Proofs.YtamncgpajkoiaaaW.PrintLast Go.Proofs.YtamncgpajkoiaaaW.PrintMore

set_option linter.unusedVariables false
set_option linter.unusedSimpArgs false
end Go.Proofs.Ytamncgpajkoiaaa.T
namespace Go.Proofs.Ytamncgpajkoiaaa.T
open Go.RowKit Go.Proofs.YtamncgpajkoiaaaW.PrintWords Go.Proofs.YtamncgpajkoiaaaW.PrintLast Go.Proofs.YtamncgpajkoiaaaW.PrintMore

set_option linter.unusedVariables false
set_option linter.unusedSimpArgs false
end Go.Proofs.Ytamncgpajkoiaaa.T
namespace Go.Proofs.Ytamncgpajkoiaaa.T
open Go.RowKit Go.Proofs.YtamncgpajkoiaaaW.PrintWords Go.Proofs.YtamncgpajkoiaaaW.PrintLast Go.Proofs.YtamncgpajkoiaaaW.PrintMore

set_option linter.unusedVariables false
set_option linter.unusedSimpArgs false
def impl_within.f (a0 : Int) (a1 : Int) (a2 : Int) : Option (Bool) := if a0 ≥ a1 then (some (decide (a0 ≤ a2))) else (some false)
set_option maxHeartbeats 8000000 in
set_option maxRecDepth 100000 in
theorem impl_within.calls (a0 : Int) (a1 : Int) (a2 : Int) (r : Bool) (w : World) (h : impl_within.f a0 a1 a2 = some r) :
    Calls Try.prog 43 #[.int .i64 a0, .int .i64 a1, .int .i64 a2] w fun e w' => e = .returned (.bool r) ∧ Drawn0 w w' := by
  have H : (if a0 ≥ a1 then (some (decide (a0 ≤ a2))) else (some false)) = some r := h
  clear h
  by_cases c4 : a0 ≥ a1
  · rw [if_pos c4] at H
    have c4b0 : decide (a1 ≤ a0) = true := decide_eq_true c4
    clear c4
    obtain rfl := Option.some.inj H
    go_enter Try.func43, Try.ntmps43
    go_wp2
    go_ret
    exact ⟨by first | rfl | (simp; done) | (simp [*]; done), by repeat (first | exact Drawn0.refl _ | apply Drawn0.step)⟩
  · rw [if_neg c4] at H
    have c4b0 : decide (a1 ≤ a0) = false := decide_eq_false c4
    clear c4
    obtain rfl := Option.some.inj H
    go_enter Try.func43, Try.ntmps43
    go_wp2
    go_ret
    exact ⟨by first | rfl | (simp; done) | (simp [*]; done), by repeat (first | exact Drawn0.refl _ | apply Drawn0.step)⟩
end Go.Proofs.Ytamncgpajkoiaaa.T
namespace Go.Proofs.Ytamncgpajkoiaaa.T
open Go.RowKit Go.Proofs.YtamncgpajkoiaaaW.PrintWords Go.Proofs.YtamncgpajkoiaaaW.PrintLast Go.Proofs.YtamncgpajkoiaaaW.PrintMore

set_option linter.unusedVariables false
set_option linter.unusedSimpArgs false
mutual
def impl_TermsValid.l0 : Nat → List (S37) → List (S37) → Int → Int → Option (Bool)
  | 0, _, _, _, _ => none
  | k + 1, x0, x8, x9, x10 => if x10 < x9 then (if 0 ≤ x10 then (if x10 < (x8.length : Int) then ((impl_within.f ((rd_T37 x8 x10).f0) 0 999).bind fun t137 => (if t137 = true then ((impl_within.f ((rd_T37 x8 x10).f1) 0 99999).bind fun t138 => (impl_TermsValid.j1 k x0 x10 x8 x9 x10 (!t138) ((rd_T37 x8 x10).f0) ((rd_T37 x8 x10).f1))) else (impl_TermsValid.j1 k x0 x10 x8 x9 x10 true ((rd_T37 x8 x10).f0) ((rd_T37 x8 x10).f1)))) else (none)) else (none)) else (some true)
def impl_TermsValid.j1 : Nat → List (S37) → Int → List (S37) → Int → Int → Bool → Int → Int → Option (Bool)
  | 0, _, _, _, _, _, _, _, _ => none
  | k + 1, x0, x3, x8, x9, x10, x24, x137000, x137001 => if x24 = true then (some false) else (if x3 > 0 then (if 0 ≤ (wrap64 (x3 - 1)) then (if (wrap64 (x3 - 1)) < (x0.length : Int) then (if ((rd_T37 x0 (wrap64 (x3 - 1))).f0) ≥ x137000 then (some false) else (if ((rd_T37 x0 (wrap64 (x3 - 1))).f1) ≥ x137001 then (some false) else (impl_TermsValid.l0 k x0 x8 x9 (wrap64 (x10 + 1))))) else (none)) else (none)) else (impl_TermsValid.l0 k x0 x8 x9 (wrap64 (x10 + 1))))
end
def impl_TermsValid.f (k : Nat) (l0 : List (S37)) : Option (Bool) := if (l0.length : Int) > 8 then (some false) else (impl_TermsValid.l0 k l0 l0 (l0.length : Int) 0)
theorem impl_TermsValid.mono_l : ∀ k, (∀ y0 y1 y2 y3, LeO (impl_TermsValid.l0 k y0 y1 y2 y3) (impl_TermsValid.l0 (k + 1) y0 y1 y2 y3)) ∧ (∀ y0 y1 y2 y3 y4 y5 y6 y7, LeO (impl_TermsValid.j1 k y0 y1 y2 y3 y4 y5 y6 y7) (impl_TermsValid.j1 (k + 1) y0 y1 y2 y3 y4 y5 y6 y7))
  | 0 => ⟨fun _ _ _ _ r h => by simp [impl_TermsValid.l0] at h, fun _ _ _ _ _ _ _ _ r h => by simp [impl_TermsValid.j1] at h⟩
  | k + 1 => by
    obtain ⟨ih0, ih1⟩ := impl_TermsValid.mono_l k
    refine ⟨?_, ?_⟩
    · intro y0 y1 y2 y3
      unfold impl_TermsValid.l0
      repeat' first
      | (with_reducible exact ih0 _ _ _ _)
      | (with_reducible exact ih1 _ _ _ _ _ _ _ _)
      | (with_reducible exact LeO.refl _)
      | (with_reducible exact LeO.none _)
      | (with_reducible refine LeO.ite ?_ ?_)
      | (with_reducible refine LeO.bind ?_ (fun _ => ?_))
      | exact ih0 _ _ _ _
      | exact ih1 _ _ _ _ _ _ _ _
      | exact LeO.none _
      | refine LeO.ite ?_ ?_
      | refine LeO.bind ?_ (fun _ => ?_)
    · intro y0 y1 y2 y3 y4 y5 y6 y7
      unfold impl_TermsValid.j1
      repeat' first
      | (with_reducible exact ih0 _ _ _ _)
      | (with_reducible exact ih1 _ _ _ _ _ _ _ _)
      | (with_reducible exact LeO.refl _)
      | (with_reducible exact LeO.none _)
      | (with_reducible refine LeO.ite ?_ ?_)
      | (with_reducible refine LeO.bind ?_ (fun _ => ?_))
      | exact ih0 _ _ _ _
      | exact ih1 _ _ _ _ _ _ _ _
      | exact LeO.none _
      | refine LeO.ite ?_ ?_
      | refine LeO.bind ?_ (fun _ => ?_)
theorem impl_TermsValid.mono : ∀ a0 k, LeO (impl_TermsValid.f k a0) (impl_TermsValid.f (k + 1) a0) := by
  intro a0 k
  obtain ⟨ih0, ih1⟩ := impl_TermsValid.mono_l k
  unfold impl_TermsValid.f
  repeat' first
      | (with_reducible exact ih0 _ _ _ _)
      | (with_reducible exact ih1 _ _ _ _ _ _ _ _)
      | (with_reducible exact LeO.refl _)
      | (with_reducible exact LeO.none _)
      | (with_reducible refine LeO.ite ?_ ?_)
      | (with_reducible refine LeO.bind ?_ (fun _ => ?_))
      | exact ih0 _ _ _ _
      | exact ih1 _ _ _ _ _ _ _ _
      | exact LeO.none _
      | refine LeO.ite ?_ ?_
      | refine LeO.bind ?_ (fun _ => ?_)
set_option maxHeartbeats 8000000 in
set_option maxRecDepth 100000 in
theorem impl_TermsValid.calls (k : Nat) (A0 : Option Addr) (c0 : Nat) (l0 : List (S37)) (r : Bool) (w : World) (hr0 : Kd.C k37 w A0 l0.length l0) (hc0 : l0.length ≤ c0) (h : impl_TermsValid.f k l0 = some r) :
    Calls Try.prog 20 #[.slice A0 l0.length c0] w fun e w' => e = .returned (.bool r) ∧ Below w.heap.size w w' := by
  have hu37 := Try.underlying37
  have HR0 := Aside0.mk hr0
  have HC0 := Aside0.mk hc0
  clear hr0 hc0
  have HB := Aside0.mk (Below.refl w.heap.size w)
  have H : (if (l0.length : Int) > 8 then (some false) else (impl_TermsValid.l0 k l0 l0 (l0.length : Int) 0)) = some r := h
  clear h
  by_cases c2 : (l0.length : Int) > 8
  · rw [if_pos c2] at H
    have c2b0 : decide (8 < (l0.length : Int)) = true := decide_eq_true c2
    have c2b1 : decide (8 < l0.length) = true := decide_eq_true (by omega)
    clear c2
    obtain rfl := Option.some.inj H
    go_enter Try.func20, Try.ntmps20
    go_wp2
    repeat (go_quiet (fail); try go_wp2)
    go_ret
    exact ⟨by first | rfl | (simp [errW_none, errW_some] <;> rfl) | (simp [*, errW_none, errW_some] <;> rfl), by repeat (first | (with_reducible first | exact HB.out | apply below_alloc | apply pw_below_drewN | apply below_drew1) | exact HB.out)⟩
  · rw [if_neg c2] at H
    have c2b0 : decide (8 < (l0.length : Int)) = false := decide_eq_false c2
    have c2b1 : decide (8 < l0.length) = false := decide_eq_false (by omega)
    clear c2
    have H' := Aside0.mk H
    clear H
    go_enter Try.func20, Try.ntmps20
    go_wp2
    repeat (go_quiet (fail); try go_wp2)
    go_loopg [10] k (fun kq v10 w' => ∃ (x10_1 : Int), v10 = .int .i64 x10_1 ∧ Aside0 (impl_TermsValid.l0 kq l0 l0 (l0.length : Int) x10_1 = some r) ∧ Aside0 (kq ≤ k) ∧ Aside0 (Below w.heap.size w w'))
    case atStart => exact ⟨(0), (by first | rfl | (simp; done) | (simp [*]; done)), H', ⟨Nat.le_refl _⟩, ⟨by repeat (first | (with_reducible first | exact HB.out | apply below_alloc | apply pw_below_drewN | apply below_drew1) | exact HB.out)⟩⟩
    case round =>
      clear H'
      try clear c2
      try clear c2b0
      try clear c2b1
      try clear p2
      obtain ⟨x10_1, rfl, HA, HK1, HB⟩ := hrel
      cases gk with
      | zero => exact absurd HA.out (by simp [impl_TermsValid.l0])
      | succ k1 =>
        have H := HA.out
        clear HA
        simp only [impl_TermsValid.l0] at H
        by_cases c3 : x10_1 < (l0.length : Int)
        · rw [if_pos c3] at H
          have c3b0 : decide (x10_1 < (l0.length : Int)) = true := decide_eq_true c3
          clear c3
          by_cases c4 : 0 ≤ x10_1
          · rw [if_pos c4] at H
            have c4b0 : decide (0 ≤ x10_1) = true := decide_eq_true c4
            clear c4
            by_cases c5 : x10_1 < (l0.length : Int)
            · rw [if_pos c5] at H
              have c5b0 : decide (x10_1 < (l0.length : Int)) = true := decide_eq_true c5
              clear c5
              have HC6 := Aside0.mk H
              clear H
              have p135 : 0 ≤ (x10_1 : Int) := of_decide_eq_true (by first | (with_reducible assumption) | assumption)
              have q135 : x10_1 < (l0.length : Int) := of_decide_eq_true (by first | (with_reducible assumption) | assumption)
              obtain ⟨ad135, e135, hx135_0, hx135_1⟩ := at_T37 HR0.out x10_1 p135 q135
              cases e135
              replace hx135_0 := (HB.out.cell (World.block_lt_of_cell? w _ hx135_0)).trans hx135_0
              replace hx135_1 := (HB.out.cell (World.block_lt_of_cell? w _ hx135_1)).trans hx135_1
              replace p135 := eq_true p135
              replace q135 := eq_true q135
              go_upto_region 6 with (first | ((with_reducible refine gate_dst (N := 4) rfl ?_); refine box_event ?hg (N := 4) ?hd (cs := #[.int .i64 0, .int .i64 0]) (t := 37) ?hr ?_; (case hd => rfl); (case hg => rfl); (case hr => first | (go_simp; done) | (go_simp; rfl)); intro gb136 hg w7 hbox hb; have n0_ := Aside0.mk (below_step (by repeat (first | (with_reducible first | exact HB.out | apply below_alloc | apply pw_below_drewN | apply below_drew1) | exact HB.out)) hb); have n1_ := Aside0.mk (hbox); have n2_ := Aside0.mk ((by rw [hg]; exact (below_size (by repeat (first | (with_reducible first | exact HB.out | apply below_alloc | apply pw_below_drewN | apply below_drew1) | exact HB.out))) : w.heap.size ≤ gb136)); have n3_ := Aside0.mk ((by rw [hg]; exact (below_size (by repeat (first | (with_reducible first | exact HB.out | apply below_alloc | apply pw_below_drewN | apply below_drew1) | exact HB.out))) : w.heap.size ≤ gb136)); clear HB; have HB := n0_; have BK136 := n1_; have GW136 := n2_; have GE136 := n3_; clear n0_ n1_ n2_ n3_; clear hb hbox hg; have hcz8_0 : w7.cell? ⟨gb136, 0, none⟩ = some (.int .i64 0) := (blk_cell BK136.out 0).trans rfl; have hcz8_1 : w7.cell? ⟨gb136, 1, none⟩ = some (.int .i64 0) := (blk_cell BK136.out 1).trans rfl; have hfz8_0 := blk_frozen BK136.out 0; have hfz8_1 := blk_frozen BK136.out 1))
              repeat (go_quiet (first | ((with_reducible refine gate_dst (N := 4) rfl ?_); refine box_event ?hg (N := 4) ?hd (cs := #[.int .i64 0, .int .i64 0]) (t := 37) ?hr ?_; (case hd => rfl); (case hg => rfl); (case hr => first | (go_simp; done) | (go_simp; rfl)); intro gb136 hg w7 hbox hb; have n0_ := Aside0.mk (below_step (by repeat (first | (with_reducible first | exact HB.out | apply below_alloc | apply pw_below_drewN | apply below_drew1) | exact HB.out)) hb); have n1_ := Aside0.mk (hbox); have n2_ := Aside0.mk ((by rw [hg]; exact (below_size (by repeat (first | (with_reducible first | exact HB.out | apply below_alloc | apply pw_below_drewN | apply below_drew1) | exact HB.out))) : w.heap.size ≤ gb136)); have n3_ := Aside0.mk ((by rw [hg]; exact (below_size (by repeat (first | (with_reducible first | exact HB.out | apply below_alloc | apply pw_below_drewN | apply below_drew1) | exact HB.out))) : w.heap.size ≤ gb136)); clear HB; have HB := n0_; have BK136 := n1_; have GW136 := n2_; have GE136 := n3_; clear n0_ n1_ n2_ n3_; clear hb hbox hg; have hcz8_0 : w7.cell? ⟨gb136, 0, none⟩ = some (.int .i64 0) := (blk_cell BK136.out 0).trans rfl; have hcz8_1 : w7.cell? ⟨gb136, 1, none⟩ = some (.int .i64 0) := (blk_cell BK136.out 1).trans rfl; have hfz8_0 := blk_frozen BK136.out 0; have hfz8_1 := blk_frozen BK136.out 1)); go_upto_region 6 with (first | ((with_reducible refine gate_dst (N := 4) rfl ?_); refine box_event ?hg (N := 4) ?hd (cs := #[.int .i64 0, .int .i64 0]) (t := 37) ?hr ?_; (case hd => rfl); (case hg => rfl); (case hr => first | (go_simp; done) | (go_simp; rfl)); intro gb136 hg w7 hbox hb; have n0_ := Aside0.mk (below_step (by repeat (first | (with_reducible first | exact HB.out | apply below_alloc | apply pw_below_drewN | apply below_drew1) | exact HB.out)) hb); have n1_ := Aside0.mk (hbox); have n2_ := Aside0.mk ((by rw [hg]; exact (below_size (by repeat (first | (with_reducible first | exact HB.out | apply below_alloc | apply pw_below_drewN | apply below_drew1) | exact HB.out))) : w.heap.size ≤ gb136)); have n3_ := Aside0.mk ((by rw [hg]; exact (below_size (by repeat (first | (with_reducible first | exact HB.out | apply below_alloc | apply pw_below_drewN | apply below_drew1) | exact HB.out))) : w.heap.size ≤ gb136)); clear HB; have HB := n0_; have BK136 := n1_; have GW136 := n2_; have GE136 := n3_; clear n0_ n1_ n2_ n3_; clear hb hbox hg; have hcz8_0 : w7.cell? ⟨gb136, 0, none⟩ = some (.int .i64 0) := (blk_cell BK136.out 0).trans rfl; have hcz8_1 : w7.cell? ⟨gb136, 1, none⟩ = some (.int .i64 0) := (blk_cell BK136.out 1).trans rfl; have hfz8_0 := blk_frozen BK136.out 0; have hfz8_1 := blk_frozen BK136.out 1)))
              (try simp only [Act.put, List.setIfInBounds_toArray, List.set_cons_zero, List.set_cons_succ])
              go_cut [24] (fun v24 wc => ∃ (kq : Nat) (x24_5 : Bool), v24 = .bool x24_5 ∧ Aside0 (impl_TermsValid.j1 kq l0 x10_1 l0 (l0.length : Int) x10_1 x24_5 ((rd_T37 l0 x10_1).f0) ((rd_T37 l0 x10_1).f1) = some r) ∧ Aside0 (kq ≤ k1) ∧ Aside0 (wc.heap[gb136]? = some (.cells #[.int .i64 ((rd_T37 l0 x10_1).f0), .int .i64 ((rd_T37 l0 x10_1).f1)] 37 (0, 0))) ∧ Aside0 (Below w.heap.size w wc))
              case first =>
                have H := HC6.out
                clear HC6
                replace H := Option.bind_eq_some_iff.mp H
                obtain ⟨t137, A90, H⟩ := H
                replace H : (if t137 = true then ((impl_within.f ((rd_T37 l0 x10_1).f1) 0 99999).bind fun t138 => (impl_TermsValid.j1 k1 l0 x10_1 l0 (l0.length : Int) x10_1 (!t138) ((rd_T37 l0 x10_1).f0) ((rd_T37 l0 x10_1).f1))) else (impl_TermsValid.j1 k1 l0 x10_1 l0 (l0.length : Int) x10_1 true ((rd_T37 l0 x10_1).f0) ((rd_T37 l0 x10_1).f1))) = some r := H
                have A9 := Aside0.mk A90
                clear A90
                by_cases c10 : t137 = true
                · subst c10
                  have H1 : ((impl_within.f ((rd_T37 l0 x10_1).f1) 0 99999).bind fun t138 => (impl_TermsValid.j1 k1 l0 x10_1 l0 (l0.length : Int) x10_1 (!t138) ((rd_T37 l0 x10_1).f0) ((rd_T37 l0 x10_1).f1))) = some r := by rw [if_pos rfl] at H; exact H
                  clear H
                  have H := H1
                  clear H1
                  replace H := Option.bind_eq_some_iff.mp H
                  obtain ⟨t138, A110, H⟩ := H
                  replace H : (impl_TermsValid.j1 k1 l0 x10_1 l0 (l0.length : Int) x10_1 (!t138) ((rd_T37 l0 x10_1).f0) ((rd_T37 l0 x10_1).f1)) = some r := H
                  have A11 := Aside0.mk A110
                  clear A110
                  have H' := Aside0.mk H
                  clear H
                  have hcz12_0 : w7.cell? ⟨gb136, 0, none⟩ = some (.int .i64 0) := (blk_cell BK136.out 0).trans rfl
                  have hcz12_1 : w7.cell? ⟨gb136, 1, none⟩ = some (.int .i64 0) := (blk_cell BK136.out 1).trans rfl
                  have hfz12_0 := blk_frozen BK136.out 0
                  have hfz12_1 := blk_frozen BK136.out 1
                  go_wp2_with (first | (go_at_call 43; (with_reducible refine (impl_within.calls ((rd_T37 l0 x10_1).f0) 0 999 true _ A9.out).mono ?_); rintro e w' ⟨rfl, ⟨nd, rfl⟩⟩; (try first | exact ⟨rfl, _, World.drewN_drewN _ _ _⟩ | exact ⟨rfl, _, Eq.trans (World.drewN_drewN _ _ _) (congrArg (World.drewN _) (Nat.add_assoc _ _ _))⟩)) | (go_at_call 43; (with_reducible refine (impl_within.calls ((rd_T37 l0 x10_1).f1) 0 99999 t138 _ A11.out).mono ?_); rintro e w' ⟨rfl, ⟨nd, rfl⟩⟩; (try first | exact ⟨rfl, _, World.drewN_drewN _ _ _⟩ | exact ⟨rfl, _, Eq.trans (World.drewN_drewN _ _ _) (congrArg (World.drewN _) (Nat.add_assoc _ _ _))⟩)))
                  repeat (go_quiet (first | (go_at_call 43; (with_reducible refine (impl_within.calls ((rd_T37 l0 x10_1).f0) 0 999 true _ A9.out).mono ?_); rintro e w' ⟨rfl, ⟨nd, rfl⟩⟩; (try first | exact ⟨rfl, _, World.drewN_drewN _ _ _⟩ | exact ⟨rfl, _, Eq.trans (World.drewN_drewN _ _ _) (congrArg (World.drewN _) (Nat.add_assoc _ _ _))⟩)) | (go_at_call 43; (with_reducible refine (impl_within.calls ((rd_T37 l0 x10_1).f1) 0 99999 t138 _ A11.out).mono ?_); rintro e w' ⟨rfl, ⟨nd, rfl⟩⟩; (try first | exact ⟨rfl, _, World.drewN_drewN _ _ _⟩ | exact ⟨rfl, _, Eq.trans (World.drewN_drewN _ _ _) (congrArg (World.drewN _) (Nat.add_assoc _ _ _))⟩))); try go_wp2_with (first | (go_at_call 43; (with_reducible refine (impl_within.calls ((rd_T37 l0 x10_1).f0) 0 999 true _ A9.out).mono ?_); rintro e w' ⟨rfl, ⟨nd, rfl⟩⟩; (try first | exact ⟨rfl, _, World.drewN_drewN _ _ _⟩ | exact ⟨rfl, _, Eq.trans (World.drewN_drewN _ _ _) (congrArg (World.drewN _) (Nat.add_assoc _ _ _))⟩)) | (go_at_call 43; (with_reducible refine (impl_within.calls ((rd_T37 l0 x10_1).f1) 0 99999 t138 _ A11.out).mono ?_); rintro e w' ⟨rfl, ⟨nd, rfl⟩⟩; (try first | exact ⟨rfl, _, World.drewN_drewN _ _ _⟩ | exact ⟨rfl, _, Eq.trans (World.drewN_drewN _ _ _) (congrArg (World.drewN _) (Nat.add_assoc _ _ _))⟩))))
                  go_meet
                  case rel => exact ⟨_, (!t138), (by first | rfl | (simp; done) | (simp [*]; done)), H', ⟨by have := HK1.out; first | omega | exact Nat.le_refl _⟩, ⟨by (with_reducible repeat (first | refine blk_drewN ?_ _ | refine blk_drew ?_ | refine blk_alloc ?_ _)); refine blk_put (cs := #[.int .i64 ((rd_T37 l0 x10_1).f0), .int .i64 0]) ?_ 1 _ rfl; (with_reducible repeat (first | refine blk_drewN ?_ _ | refine blk_drew ?_ | refine blk_alloc ?_ _)); refine blk_put (cs := #[.int .i64 0, .int .i64 0]) ?_ 0 _ rfl; (with_reducible repeat (first | refine blk_drewN ?_ _ | refine blk_drew ?_ | refine blk_alloc ?_ _)); exact BK136.out⟩, ⟨by repeat (first | (with_reducible first | exact HB.out | apply below_alloc | apply pw_below_drewN | apply below_drew1 | refine below_set ?_ GE136.out) | exact HB.out)⟩⟩
                · replace c10 := Bool.eq_false_iff.mpr c10
                  subst c10
                  have H1 : (impl_TermsValid.j1 k1 l0 x10_1 l0 (l0.length : Int) x10_1 true ((rd_T37 l0 x10_1).f0) ((rd_T37 l0 x10_1).f1)) = some r := by rw [if_neg (show ¬ (false = true) by decide)] at H; exact H
                  clear H
                  have H := H1
                  clear H1
                  have H' := Aside0.mk H
                  clear H
                  have hcz13_0 : w7.cell? ⟨gb136, 0, none⟩ = some (.int .i64 0) := (blk_cell BK136.out 0).trans rfl
                  have hcz13_1 : w7.cell? ⟨gb136, 1, none⟩ = some (.int .i64 0) := (blk_cell BK136.out 1).trans rfl
                  have hfz13_0 := blk_frozen BK136.out 0
                  have hfz13_1 := blk_frozen BK136.out 1
                  go_wp2_with (first | (go_at_call 43; (with_reducible refine (impl_within.calls ((rd_T37 l0 x10_1).f0) 0 999 false _ A9.out).mono ?_); rintro e w' ⟨rfl, ⟨nd, rfl⟩⟩; (try first | exact ⟨rfl, _, World.drewN_drewN _ _ _⟩ | exact ⟨rfl, _, Eq.trans (World.drewN_drewN _ _ _) (congrArg (World.drewN _) (Nat.add_assoc _ _ _))⟩)))
                  repeat (go_quiet (first | (go_at_call 43; (with_reducible refine (impl_within.calls ((rd_T37 l0 x10_1).f0) 0 999 false _ A9.out).mono ?_); rintro e w' ⟨rfl, ⟨nd, rfl⟩⟩; (try first | exact ⟨rfl, _, World.drewN_drewN _ _ _⟩ | exact ⟨rfl, _, Eq.trans (World.drewN_drewN _ _ _) (congrArg (World.drewN _) (Nat.add_assoc _ _ _))⟩))); try go_wp2_with (first | (go_at_call 43; (with_reducible refine (impl_within.calls ((rd_T37 l0 x10_1).f0) 0 999 false _ A9.out).mono ?_); rintro e w' ⟨rfl, ⟨nd, rfl⟩⟩; (try first | exact ⟨rfl, _, World.drewN_drewN _ _ _⟩ | exact ⟨rfl, _, Eq.trans (World.drewN_drewN _ _ _) (congrArg (World.drewN _) (Nat.add_assoc _ _ _))⟩))))
                  go_meet
                  case rel => exact ⟨_, (true), (by first | rfl | (simp; done) | (simp [*]; done)), H', ⟨by have := HK1.out; first | omega | exact Nat.le_refl _⟩, ⟨by (with_reducible repeat (first | refine blk_drewN ?_ _ | refine blk_drew ?_ | refine blk_alloc ?_ _)); refine blk_put (cs := #[.int .i64 ((rd_T37 l0 x10_1).f0), .int .i64 0]) ?_ 1 _ rfl; (with_reducible repeat (first | refine blk_drewN ?_ _ | refine blk_drew ?_ | refine blk_alloc ?_ _)); refine blk_put (cs := #[.int .i64 0, .int .i64 0]) ?_ 0 _ rfl; (with_reducible repeat (first | refine blk_drewN ?_ _ | refine blk_drew ?_ | refine blk_alloc ?_ _)); exact BK136.out⟩, ⟨by repeat (first | (with_reducible first | exact HB.out | apply below_alloc | apply pw_below_drewN | apply below_drew1 | refine below_set ?_ GE136.out) | exact HB.out)⟩⟩
              case rest =>
                clear HC6
                try clear c1
                try clear p1
                try clear q1
                try clear hx1
                try clear c2
                try clear c2b0
                try clear c2b1
                try clear p2
                try clear c3
                try clear c3b0
                try clear c4
                try clear c4b0
                try clear c5
                try clear c5b0
                try clear c10
                try clear p13
                try clear q13
                try clear hx13
                try clear hcz12_0
                try clear hcz12_1
                try clear hcz13_0
                try clear hcz13_1
                try clear hcz8_0
                try clear hcz8_1
                try clear hfz12_0
                try clear hfz12_1
                try clear hfz13_0
                try clear hfz13_1
                try clear hfz8_0
                try clear hfz8_1
                try clear hx135_0
                try clear hx135_1
                try clear p135
                try clear p2
                try clear q135
                obtain ⟨kq, x24_5, rfl, HA, HJ5, BK136, HB⟩ := hcut
                cases kq with
                | zero => exact absurd HA.out (by simp [impl_TermsValid.j1])
                | succ kj5 =>
                  have H := HA.out
                  clear HA
                  simp only [impl_TermsValid.j1] at H
                  by_cases c14 : x24_5 = true
                  · subst c14
                    have H1 : (some false) = some r := by rw [if_pos rfl] at H; exact H
                    clear H
                    have H := H1
                    clear H1
                    obtain rfl := Option.some.inj H
                    go_wp2
                    repeat (go_quiet (fail); try go_wp2)
                    go_ret
                    exact ⟨by first | rfl | (simp [errW_none, errW_some] <;> rfl) | (simp [*, errW_none, errW_some] <;> rfl), by repeat (first | (with_reducible first | exact HB.out | apply below_alloc | apply pw_below_drewN | apply below_drew1 | refine below_set ?_ GE136.out) | exact HB.out)⟩
                  · replace c14 := Bool.eq_false_iff.mpr c14
                    subst c14
                    have H1 : (if x10_1 > 0 then (if 0 ≤ (wrap64 (x10_1 - 1)) then (if (wrap64 (x10_1 - 1)) < (l0.length : Int) then (if ((rd_T37 l0 (wrap64 (x10_1 - 1))).f0) ≥ ((rd_T37 l0 x10_1).f0) then (some false) else (if ((rd_T37 l0 (wrap64 (x10_1 - 1))).f1) ≥ ((rd_T37 l0 x10_1).f1) then (some false) else (impl_TermsValid.l0 kj5 l0 l0 (l0.length : Int) (wrap64 (x10_1 + 1))))) else (none)) else (none)) else (impl_TermsValid.l0 kj5 l0 l0 (l0.length : Int) (wrap64 (x10_1 + 1)))) = some r := by rw [if_neg (show ¬ (false = true) by decide)] at H; exact H
                    clear H
                    have H := H1
                    clear H1
                    by_cases c15 : x10_1 > 0
                    · rw [if_pos c15] at H
                      have c15b0 : decide (0 < x10_1) = true := decide_eq_true c15
                      clear c15
                      obtain ⟨ji16, hji16⟩ : ∃ j_ : Int, (wrap64 (x10_1 - 1)) = j_ := ⟨_, rfl⟩
                      replace H : (if 0 ≤ (ji16) then (if (ji16) < (l0.length : Int) then (if ((rd_T37 l0 (ji16)).f0) ≥ ((rd_T37 l0 x10_1).f0) then (some false) else (if ((rd_T37 l0 (ji16)).f1) ≥ ((rd_T37 l0 x10_1).f1) then (some false) else (impl_TermsValid.l0 kj5 l0 l0 (l0.length : Int) (wrap64 (x10_1 + 1))))) else (none)) else (none)) = some r := by first | (rw [hji16] at H; exact H) | (simp only [hji16] at H ⊢; exact H)
                      have hji16w : (IntKind.i64.wrap (x10_1 - 1)) = ji16 := (i64_w _).trans hji16
                      by_cases c17 : 0 ≤ (ji16)
                      · rw [if_pos c17] at H
                        have c17b0 : decide (0 ≤ (ji16)) = true := decide_eq_true c17
                        clear c17
                        by_cases c18 : (ji16) < (l0.length : Int)
                        · rw [if_pos c18] at H
                          have c18b0 : decide ((ji16) < (l0.length : Int)) = true := decide_eq_true c18
                          clear c18
                          by_cases c19 : ((rd_T37 l0 (ji16)).f0) ≥ ((rd_T37 l0 x10_1).f0)
                          · rw [if_pos c19] at H
                            have c19b0 : decide (((rd_T37 l0 x10_1).f0) ≤ ((rd_T37 l0 (ji16)).f0)) = true := decide_eq_true c19
                            clear c19
                            obtain rfl := Option.some.inj H
                            have p139 : 0 ≤ ((ji16) : Int) := of_decide_eq_true (by first | (with_reducible assumption) | assumption)
                            have q139 : (ji16) < (l0.length : Int) := of_decide_eq_true (by first | (with_reducible assumption) | assumption)
                            obtain ⟨ad139, e139, hx139_0, hx139_1⟩ := at_T37 HR0.out (ji16) p139 q139
                            obtain rfl : ad135 = ad139 := (by injection e139)
                            replace hx139_0 := (HB.out.cell (World.block_lt_of_cell? w _ hx139_0)).trans hx139_0
                            replace hx139_1 := (HB.out.cell (World.block_lt_of_cell? w _ hx139_1)).trans hx139_1
                            replace p139 := eq_true p139
                            replace q139 := eq_true q139
                            have hcz20_0 : wc.cell? ⟨gb136, 0, none⟩ = some (.int .i64 ((rd_T37 l0 x10_1).f0)) := (blk_cell BK136.out 0).trans rfl
                            have hcz20_1 : wc.cell? ⟨gb136, 1, none⟩ = some (.int .i64 ((rd_T37 l0 x10_1).f1)) := (blk_cell BK136.out 1).trans rfl
                            have hfz20_0 := blk_frozen BK136.out 0
                            have hfz20_1 := blk_frozen BK136.out 1
                            go_wp2
                            repeat (go_quiet (fail); try go_wp2)
                            go_ret
                            exact ⟨by first | rfl | (simp [errW_none, errW_some] <;> rfl) | (simp only [← hji16]; first | rfl | (simp [errW_none, errW_some] <;> rfl)) | (simp [*, errW_none, errW_some] <;> rfl), by repeat (first | (with_reducible first | exact HB.out | apply below_alloc | apply pw_below_drewN | apply below_drew1 | refine below_set ?_ GE136.out) | exact HB.out)⟩
                          · rw [if_neg c19] at H
                            have c19b0 : decide (((rd_T37 l0 x10_1).f0) ≤ ((rd_T37 l0 (ji16)).f0)) = false := decide_eq_false c19
                            clear c19
                            by_cases c21 : ((rd_T37 l0 (ji16)).f1) ≥ ((rd_T37 l0 x10_1).f1)
                            · rw [if_pos c21] at H
                              have c21b0 : decide (((rd_T37 l0 x10_1).f1) ≤ ((rd_T37 l0 (ji16)).f1)) = true := decide_eq_true c21
                              clear c21
                              obtain rfl := Option.some.inj H
                              have p139 : 0 ≤ ((ji16) : Int) := of_decide_eq_true (by first | (with_reducible assumption) | assumption)
                              have q139 : (ji16) < (l0.length : Int) := of_decide_eq_true (by first | (with_reducible assumption) | assumption)
                              obtain ⟨ad139, e139, hx139_0, hx139_1⟩ := at_T37 HR0.out (ji16) p139 q139
                              obtain rfl : ad135 = ad139 := (by injection e139)
                              replace hx139_0 := (HB.out.cell (World.block_lt_of_cell? w _ hx139_0)).trans hx139_0
                              replace hx139_1 := (HB.out.cell (World.block_lt_of_cell? w _ hx139_1)).trans hx139_1
                              replace p139 := eq_true p139
                              replace q139 := eq_true q139
                              have hcz22_0 : wc.cell? ⟨gb136, 0, none⟩ = some (.int .i64 ((rd_T37 l0 x10_1).f0)) := (blk_cell BK136.out 0).trans rfl
                              have hcz22_1 : wc.cell? ⟨gb136, 1, none⟩ = some (.int .i64 ((rd_T37 l0 x10_1).f1)) := (blk_cell BK136.out 1).trans rfl
                              have hfz22_0 := blk_frozen BK136.out 0
                              have hfz22_1 := blk_frozen BK136.out 1
                              have p140 : 0 ≤ ((ji16) : Int) := of_decide_eq_true (by first | (with_reducible assumption) | assumption)
                              have q140 : (ji16) < (l0.length : Int) := of_decide_eq_true (by first | (with_reducible assumption) | assumption)
                              obtain ⟨ad140, e140, hx140_0, hx140_1⟩ := at_T37 HR0.out (ji16) p140 q140
                              obtain rfl : ad135 = ad140 := (by injection e140)
                              replace hx140_0 := (HB.out.cell (World.block_lt_of_cell? w _ hx140_0)).trans hx140_0
                              replace hx140_1 := (HB.out.cell (World.block_lt_of_cell? w _ hx140_1)).trans hx140_1
                              replace p140 := eq_true p140
                              replace q140 := eq_true q140
                              go_wp2
                              repeat (go_quiet (fail); try go_wp2)
                              go_ret
                              exact ⟨by first | rfl | (simp [errW_none, errW_some] <;> rfl) | (simp only [← hji16]; first | rfl | (simp [errW_none, errW_some] <;> rfl)) | (simp [*, errW_none, errW_some] <;> rfl), by repeat (first | (with_reducible first | exact HB.out | apply below_alloc | apply pw_below_drewN | apply below_drew1 | refine below_set ?_ GE136.out) | exact HB.out)⟩
                            · rw [if_neg c21] at H
                              have c21b0 : decide (((rd_T37 l0 x10_1).f1) ≤ ((rd_T37 l0 (ji16)).f1)) = false := decide_eq_false c21
                              clear c21
                              have H' := Aside0.mk H
                              clear H
                              have p139 : 0 ≤ ((ji16) : Int) := of_decide_eq_true (by first | (with_reducible assumption) | assumption)
                              have q139 : (ji16) < (l0.length : Int) := of_decide_eq_true (by first | (with_reducible assumption) | assumption)
                              obtain ⟨ad139, e139, hx139_0, hx139_1⟩ := at_T37 HR0.out (ji16) p139 q139
                              obtain rfl : ad135 = ad139 := (by injection e139)
                              replace hx139_0 := (HB.out.cell (World.block_lt_of_cell? w _ hx139_0)).trans hx139_0
                              replace hx139_1 := (HB.out.cell (World.block_lt_of_cell? w _ hx139_1)).trans hx139_1
                              replace p139 := eq_true p139
                              replace q139 := eq_true q139
                              have hcz23_0 : wc.cell? ⟨gb136, 0, none⟩ = some (.int .i64 ((rd_T37 l0 x10_1).f0)) := (blk_cell BK136.out 0).trans rfl
                              have hcz23_1 : wc.cell? ⟨gb136, 1, none⟩ = some (.int .i64 ((rd_T37 l0 x10_1).f1)) := (blk_cell BK136.out 1).trans rfl
                              have hfz23_0 := blk_frozen BK136.out 0
                              have hfz23_1 := blk_frozen BK136.out 1
                              have p140 : 0 ≤ ((ji16) : Int) := of_decide_eq_true (by first | (with_reducible assumption) | assumption)
                              have q140 : (ji16) < (l0.length : Int) := of_decide_eq_true (by first | (with_reducible assumption) | assumption)
                              obtain ⟨ad140, e140, hx140_0, hx140_1⟩ := at_T37 HR0.out (ji16) p140 q140
                              obtain rfl : ad135 = ad140 := (by injection e140)
                              replace hx140_0 := (HB.out.cell (World.block_lt_of_cell? w _ hx140_0)).trans hx140_0
                              replace hx140_1 := (HB.out.cell (World.block_lt_of_cell? w _ hx140_1)).trans hx140_1
                              replace p140 := eq_true p140
                              replace q140 := eq_true q140
                              go_wp2
                              repeat (go_quiet (fail); try go_wp2)
                              go_roundg kj5
                              case measure => have := HK1.out; have := HJ5.out; omega
                              case rel => exact ⟨(wrap64 (x10_1 + 1)), (by first | rfl | (simp; done) | (simp [*]; done)), H', ⟨by have := HK1.out; have := HJ5.out; omega⟩, ⟨by repeat (first | (with_reducible first | exact HB.out | apply below_alloc | apply pw_below_drewN | apply below_drew1 | refine below_set ?_ GE136.out) | exact HB.out)⟩⟩
                        · rw [if_neg c18] at H
                          exact absurd H (by simp)
                      · rw [if_neg c17] at H
                        exact absurd H (by simp)
                    · rw [if_neg c15] at H
                      have c15b0 : decide (0 < x10_1) = false := decide_eq_false c15
                      clear c15
                      have H' := Aside0.mk H
                      clear H
                      go_wp2
                      repeat (go_quiet (fail); try go_wp2)
                      go_roundg kj5
                      case measure => have := HK1.out; have := HJ5.out; omega
                      case rel => exact ⟨(wrap64 (x10_1 + 1)), (by first | rfl | (simp; done) | (simp [*]; done)), H', ⟨by have := HK1.out; have := HJ5.out; omega⟩, ⟨by repeat (first | (with_reducible first | exact HB.out | apply below_alloc | apply pw_below_drewN | apply below_drew1 | refine below_set ?_ GE136.out) | exact HB.out)⟩⟩
            · rw [if_neg c5] at H
              exact absurd H (by simp)
          · rw [if_neg c4] at H
            exact absurd H (by simp)
        · rw [if_neg c3] at H
          have c3b0 : decide (x10_1 < (l0.length : Int)) = false := decide_eq_false c3
          clear c3
          obtain rfl := Option.some.inj H
          go_wp2
          repeat (go_quiet (fail); try go_wp2)
          go_ret
          exact ⟨by first | rfl | (simp [errW_none, errW_some] <;> rfl) | (simp [*, errW_none, errW_some] <;> rfl), by repeat (first | (with_reducible first | exact HB.out | apply below_alloc | apply pw_below_drewN | apply below_drew1) | exact HB.out)⟩
end Go.Proofs.Ytamncgpajkoiaaa.T
namespace Go.Proofs.Ytamncgpajkoiaaa.T
open Go.RowKit Go.Proofs.YtamncgpajkoiaaaW.PrintWords Go.Proofs.YtamncgpajkoiaaaW.PrintLast Go.Proofs.YtamncgpajkoiaaaW.PrintMore

set_option linter.unusedVariables false
set_option linter.unusedSimpArgs false
def impl_endValid.f (k : Nat) (l0 : List (S37)) (a1 : Int) : Option (Bool) := (impl_TermsValid.f k l0).bind fun t338 => (if t338 = true then ((impl_within.f a1 0 100000).bind fun t339 => (if t339 = true then (if (l0.length : Int) = 0 then (some true) else (if 0 ≤ (wrap64 ((l0.length : Int) - 1)) then (if (wrap64 ((l0.length : Int) - 1)) < (l0.length : Int) then (some (decide (a1 > ((rd_T37 l0 (wrap64 ((l0.length : Int) - 1))).f1)))) else (none)) else (none))) else (some false))) else (some false))
theorem impl_endValid.mono : ∀ a0 a1 k, LeO (impl_endValid.f k a0 a1) (impl_endValid.f (k + 1) a0 a1) := by
  intro a0 a1 k
  unfold impl_endValid.f
  repeat' first
      | (with_reducible exact impl_TermsValid.mono _ _)
      | (with_reducible exact LeO.refl _)
      | (with_reducible exact LeO.none _)
      | (with_reducible refine LeO.ite ?_ ?_)
      | (with_reducible refine LeO.bind ?_ (fun _ => ?_))
      | exact impl_TermsValid.mono _ _
      | exact LeO.none _
      | refine LeO.ite ?_ ?_
      | refine LeO.bind ?_ (fun _ => ?_)
set_option maxHeartbeats 8000000 in
set_option maxRecDepth 100000 in
theorem impl_endValid.calls (k : Nat) (A0 : Option Addr) (c0 : Nat) (l0 : List (S37)) (a1 : Int) (r : Bool) (w : World) (hr0 : Kd.C k37 w A0 l0.length l0) (hc0 : l0.length ≤ c0) (h : impl_endValid.f k l0 a1 = some r) :
    Calls Try.prog 52 #[.slice A0 l0.length c0, .int .i64 a1] w fun e w' => e = .returned (.bool r) ∧ Below w.heap.size w w' := by
  have HR0 := Aside0.mk hr0
  have HC0 := Aside0.mk hc0
  clear hr0 hc0
  have HB := Aside0.mk (Below.refl w.heap.size w)
  have H : ((impl_TermsValid.f k l0).bind fun t338 => (if t338 = true then ((impl_within.f a1 0 100000).bind fun t339 => (if t339 = true then (if (l0.length : Int) = 0 then (some true) else (if 0 ≤ (wrap64 ((l0.length : Int) - 1)) then (if (wrap64 ((l0.length : Int) - 1)) < (l0.length : Int) then (some (decide (a1 > ((rd_T37 l0 (wrap64 ((l0.length : Int) - 1))).f1)))) else (none)) else (none))) else (some false))) else (some false))) = some r := h
  clear h
  replace H := Option.bind_eq_some_iff.mp H
  obtain ⟨t338, A30, H⟩ := H
  replace H : (if t338 = true then ((impl_within.f a1 0 100000).bind fun t339 => (if t339 = true then (if (l0.length : Int) = 0 then (some true) else (if 0 ≤ (wrap64 ((l0.length : Int) - 1)) then (if (wrap64 ((l0.length : Int) - 1)) < (l0.length : Int) then (some (decide (a1 > ((rd_T37 l0 (wrap64 ((l0.length : Int) - 1))).f1)))) else (none)) else (none))) else (some false))) else (some false)) = some r := H
  have A3 := Aside0.mk A30
  clear A30
  by_cases c4 : t338 = true
  · subst c4
    have H1 : ((impl_within.f a1 0 100000).bind fun t339 => (if t339 = true then (if (l0.length : Int) = 0 then (some true) else (if 0 ≤ (wrap64 ((l0.length : Int) - 1)) then (if (wrap64 ((l0.length : Int) - 1)) < (l0.length : Int) then (some (decide (a1 > ((rd_T37 l0 (wrap64 ((l0.length : Int) - 1))).f1)))) else (none)) else (none))) else (some false))) = some r := by rw [if_pos rfl] at H; exact H
    clear H
    have H := H1
    clear H1
    replace H := Option.bind_eq_some_iff.mp H
    obtain ⟨t339, A50, H⟩ := H
    replace H : (if t339 = true then (if (l0.length : Int) = 0 then (some true) else (if 0 ≤ (wrap64 ((l0.length : Int) - 1)) then (if (wrap64 ((l0.length : Int) - 1)) < (l0.length : Int) then (some (decide (a1 > ((rd_T37 l0 (wrap64 ((l0.length : Int) - 1))).f1)))) else (none)) else (none))) else (some false)) = some r := H
    have A5 := Aside0.mk A50
    clear A50
    by_cases c6 : t339 = true
    · subst c6
      have H1 : (if (l0.length : Int) = 0 then (some true) else (if 0 ≤ (wrap64 ((l0.length : Int) - 1)) then (if (wrap64 ((l0.length : Int) - 1)) < (l0.length : Int) then (some (decide (a1 > ((rd_T37 l0 (wrap64 ((l0.length : Int) - 1))).f1)))) else (none)) else (none))) = some r := by rw [if_pos rfl] at H; exact H
      clear H
      have H := H1
      clear H1
      by_cases c7 : (l0.length : Int) = 0
      · rw [if_pos c7] at H
        have c7b0 : ((l0.length : Int) == 0) = true := beq_iff_eq.mpr c7
        have c7b1 : ((l0.length : Int) != 0) = false := bne_eq_false_iff_eq.mpr c7
        clear c7
        obtain rfl := Option.some.inj H
        go_enter Try.func52, Try.ntmps52
        go_wp2_with (first | ((with_reducible refine gate_callee (f := 20) rfl ?_); refine goesL_ (some 6) rfl rfl Try.func20 (by kernel_rfl) rfl #[.slice A0 l0.length c0] rfl (by (try simp only [List.map_toArray, List.map_cons, List.map_nil]); first | done | rfl | (simp only [List.length_drop, List.length_take]; rfl)) ?_; (with_reducible refine (impl_TermsValid.calls k _ _ l0 true _ ?side1 ?side2 A3.out).mono ?_); (case side1 => repeat (first | exact HR0.out | (with_reducible refine Kd.C_alloc ?_ _) | (with_reducible refine Kd.C_drewN ?_ _) | (with_reducible refine Kd.C_drew ?_))); (case side2 => exact HC0.out); rintro e w8 ⟨rfl, hb⟩; refine ⟨_, rfl, ?_⟩; have n0_ := Aside0.mk (below_step (by repeat (first | (with_reducible first | exact HB.out | apply below_alloc | apply pw_below_drewN | apply below_drew1) | exact HB.out)) hb); clear HB; have HB := n0_; clear n0_; (try clear hb); (try clear hb2); (try clear hk); (try clear hi)) | (go_at_call 43; (with_reducible refine (impl_within.calls a1 0 100000 true _ A5.out).mono ?_); rintro e w' ⟨rfl, ⟨nd, rfl⟩⟩))
        go_ret
        exact ⟨by first | rfl | (simp [errW_none, errW_some] <;> rfl) | (simp [*, errW_none, errW_some] <;> rfl), by repeat (first | (with_reducible first | exact HB.out | apply below_alloc | apply pw_below_drewN | apply below_drew1) | exact HB.out)⟩
      · rw [if_neg c7] at H
        have c7b0 : ((l0.length : Int) == 0) = false := beq_eq_false_iff_ne.mpr c7
        have c7b1 : ((l0.length : Int) != 0) = true := bne_iff_ne.mpr c7
        have c7b2 : ¬ (l0 = []) := fun h_ => c7 (by rw [h_]; rfl)
        obtain ⟨ji9, hji9⟩ : ∃ j_ : Int, (wrap64 ((l0.length : Int) - 1)) = j_ := ⟨_, rfl⟩
        replace H : (if 0 ≤ (ji9) then (if (ji9) < (l0.length : Int) then (some (decide (a1 > ((rd_T37 l0 (ji9)).f1)))) else (none)) else (none)) = some r := by first | (rw [hji9] at H; exact H) | (simp only [hji9] at H ⊢; exact H)
        (try rw [hji9] at A3)
        (try rw [hji9] at A5)
        have hji9w : (IntKind.i64.wrap ((l0.length : Int) - 1)) = ji9 := (i64_w _).trans hji9
        by_cases c10 : 0 ≤ (ji9)
        · rw [if_pos c10] at H
          have c10b0 : decide (0 ≤ (ji9)) = true := decide_eq_true c10
          clear c10
          by_cases c11 : (ji9) < (l0.length : Int)
          · rw [if_pos c11] at H
            have c11b0 : decide ((ji9) < (l0.length : Int)) = true := decide_eq_true c11
            clear c11
            obtain rfl := Option.some.inj H
            go_enter Try.func52, Try.ntmps52
            go_wp2_with (first | ((with_reducible refine gate_callee (f := 20) rfl ?_); refine goesL_ (some 6) rfl rfl Try.func20 (by kernel_rfl) rfl #[.slice A0 l0.length c0] rfl (by (try simp only [List.map_toArray, List.map_cons, List.map_nil]); first | done | rfl | (simp only [List.length_drop, List.length_take]; rfl)) ?_; (with_reducible refine (impl_TermsValid.calls k _ _ l0 true _ ?side1 ?side2 A3.out).mono ?_); (case side1 => repeat (first | exact HR0.out | (with_reducible refine Kd.C_alloc ?_ _) | (with_reducible refine Kd.C_drewN ?_ _) | (with_reducible refine Kd.C_drew ?_))); (case side2 => exact HC0.out); rintro e w12 ⟨rfl, hb⟩; refine ⟨_, rfl, ?_⟩; have n0_ := Aside0.mk (below_step (by repeat (first | (with_reducible first | exact HB.out | apply below_alloc | apply pw_below_drewN | apply below_drew1) | exact HB.out)) hb); clear HB; have HB := n0_; clear n0_; (try clear hb); (try clear hb2); (try clear hk); (try clear hi)) | (go_at_call 43; (with_reducible refine (impl_within.calls a1 0 100000 true _ A5.out).mono ?_); rintro e w' ⟨rfl, ⟨nd, rfl⟩⟩; have p340 : 0 ≤ ((ji9) : Int) := of_decide_eq_true (by first | (with_reducible assumption) | assumption); have q340 : (ji9) < (l0.length : Int) := of_decide_eq_true (by first | (with_reducible assumption) | assumption); obtain ⟨ad340, e340, hx340_0, hx340_1⟩ := at_T37 HR0.out (ji9) p340 q340; cases e340; replace hx340_0 := (HB.out.cell (World.block_lt_of_cell? w _ hx340_0)).trans hx340_0; replace hx340_1 := (HB.out.cell (World.block_lt_of_cell? w _ hx340_1)).trans hx340_1; replace p340 := eq_true p340; replace q340 := eq_true q340))
            go_ret
            exact ⟨by first | rfl | (simp [errW_none, errW_some] <;> rfl) | (simp only [← hji9]; first | rfl | (simp [errW_none, errW_some] <;> rfl)) | (simp [*, errW_none, errW_some] <;> rfl), by repeat (first | (with_reducible first | exact HB.out | apply below_alloc | apply pw_below_drewN | apply below_drew1) | exact HB.out)⟩
          · rw [if_neg c11] at H
            exact absurd H (by simp)
        · rw [if_neg c10] at H
          exact absurd H (by simp)
    · replace c6 := Bool.eq_false_iff.mpr c6
      subst c6
      have H1 : (some false) = some r := by rw [if_neg (show ¬ (false = true) by decide)] at H; exact H
      clear H
      have H := H1
      clear H1
      obtain rfl := Option.some.inj H
      go_enter Try.func52, Try.ntmps52
      go_wp2_with (first | ((with_reducible refine gate_callee (f := 20) rfl ?_); refine goesL_ (some 6) rfl rfl Try.func20 (by kernel_rfl) rfl #[.slice A0 l0.length c0] rfl (by (try simp only [List.map_toArray, List.map_cons, List.map_nil]); first | done | rfl | (simp only [List.length_drop, List.length_take]; rfl)) ?_; (with_reducible refine (impl_TermsValid.calls k _ _ l0 true _ ?side1 ?side2 A3.out).mono ?_); (case side1 => repeat (first | exact HR0.out | (with_reducible refine Kd.C_alloc ?_ _) | (with_reducible refine Kd.C_drewN ?_ _) | (with_reducible refine Kd.C_drew ?_))); (case side2 => exact HC0.out); rintro e w13 ⟨rfl, hb⟩; refine ⟨_, rfl, ?_⟩; have n0_ := Aside0.mk (below_step (by repeat (first | (with_reducible first | exact HB.out | apply below_alloc | apply pw_below_drewN | apply below_drew1) | exact HB.out)) hb); clear HB; have HB := n0_; clear n0_; (try clear hb); (try clear hb2); (try clear hk); (try clear hi)) | (go_at_call 43; (with_reducible refine (impl_within.calls a1 0 100000 false _ A5.out).mono ?_); rintro e w' ⟨rfl, ⟨nd, rfl⟩⟩))
      go_ret
      exact ⟨by first | rfl | (simp [errW_none, errW_some] <;> rfl) | (simp [*, errW_none, errW_some] <;> rfl), by repeat (first | (with_reducible first | exact HB.out | apply below_alloc | apply pw_below_drewN | apply below_drew1) | exact HB.out)⟩
  · replace c4 := Bool.eq_false_iff.mpr c4
    subst c4
    have H1 : (some false) = some r := by rw [if_neg (show ¬ (false = true) by decide)] at H; exact H
    clear H
    have H := H1
    clear H1
    obtain rfl := Option.some.inj H
    go_enter Try.func52, Try.ntmps52
    go_wp2_with (first | ((with_reducible refine gate_callee (f := 20) rfl ?_); refine goesL_ (some 6) rfl rfl Try.func20 (by kernel_rfl) rfl #[.slice A0 l0.length c0] rfl (by (try simp only [List.map_toArray, List.map_cons, List.map_nil]); first | done | rfl | (simp only [List.length_drop, List.length_take]; rfl)) ?_; (with_reducible refine (impl_TermsValid.calls k _ _ l0 false _ ?side1 ?side2 A3.out).mono ?_); (case side1 => repeat (first | exact HR0.out | (with_reducible refine Kd.C_alloc ?_ _) | (with_reducible refine Kd.C_drewN ?_ _) | (with_reducible refine Kd.C_drew ?_))); (case side2 => exact HC0.out); rintro e w14 ⟨rfl, hb⟩; refine ⟨_, rfl, ?_⟩; have n0_ := Aside0.mk (below_step (by repeat (first | (with_reducible first | exact HB.out | apply below_alloc | apply pw_below_drewN | apply below_drew1) | exact HB.out)) hb); clear HB; have HB := n0_; clear n0_; (try clear hb); (try clear hb2); (try clear hk); (try clear hi)))
    go_ret
    exact ⟨by first | rfl | (simp [errW_none, errW_some] <;> rfl) | (simp [*, errW_none, errW_some] <;> rfl), by repeat (first | (with_reducible first | exact HB.out | apply below_alloc | apply pw_below_drewN | apply below_drew1) | exact HB.out)⟩
end Go.Proofs.Ytamncgpajkoiaaa.T
namespace Go.Proofs.Ytamncgpajkoiaaa.T
open Go.RowKit Go.Proofs.YtamncgpajkoiaaaW.PrintWords Go.Proofs.YtamncgpajkoiaaaW.PrintLast Go.Proofs.YtamncgpajkoiaaaW.PrintMore

set_option linter.unusedVariables false
set_option linter.unusedSimpArgs false
def impl_endAt.f (l0 : List (S37)) (a1 : Int) (a2 : Int) : Option (Int) := if (wrap64 (a1 + 1)) < (l0.length : Int) then (if 0 ≤ (wrap64 (a1 + 1)) then (some ((rd_T37 l0 (wrap64 (a1 + 1))).f1)) else (none)) else (some a2)
set_option maxHeartbeats 8000000 in
set_option maxRecDepth 100000 in
theorem impl_endAt.calls (A0 : Option Addr) (c0 : Nat) (l0 : List (S37)) (a1 : Int) (a2 : Int) (r : Int) (w : World) (hr0 : Kd.C k37 w A0 l0.length l0) (hc0 : l0.length ≤ c0) (h : impl_endAt.f l0 a1 a2 = some r) :
    Calls Try.prog 55 #[.slice A0 l0.length c0, .int .i64 a1, .int .i64 a2] w fun e w' => e = .returned (.int .i64 r) ∧ Drawn0 w w' := by
  have HR0 := Aside0.mk hr0
  have HC0 := Aside0.mk hc0
  clear hr0 hc0
  have H : (if (wrap64 (a1 + 1)) < (l0.length : Int) then (if 0 ≤ (wrap64 (a1 + 1)) then (some ((rd_T37 l0 (wrap64 (a1 + 1))).f1)) else (none)) else (some a2)) = some r := h
  clear h
  by_cases c4 : (wrap64 (a1 + 1)) < (l0.length : Int)
  · rw [if_pos c4] at H
    have c4b0 : decide ((wrap64 (a1 + 1)) < (l0.length : Int)) = true := decide_eq_true c4
    clear c4
    obtain ⟨ji5, hji5⟩ : ∃ j_ : Int, (wrap64 (a1 + 1)) = j_ := ⟨_, rfl⟩
    replace H : (if 0 ≤ (ji5) then (some ((rd_T37 l0 (ji5)).f1)) else (none)) = some r := by first | (rw [hji5] at H; exact H) | (simp only [hji5] at H ⊢; exact H)
    (try rw [hji5] at c4b0)
    have hji5w : (IntKind.i64.wrap (a1 + 1)) = ji5 := (i64_w _).trans hji5
    by_cases c6 : 0 ≤ (ji5)
    · rw [if_pos c6] at H
      have c6b0 : decide (0 ≤ (ji5)) = true := decide_eq_true c6
      clear c6
      obtain rfl := Option.some.inj H
      have p341 : 0 ≤ ((ji5) : Int) := of_decide_eq_true (by first | (with_reducible assumption) | assumption)
      have q341 : (ji5) < (l0.length : Int) := of_decide_eq_true (by first | (with_reducible assumption) | assumption)
      obtain ⟨ad341, e341, hx341_0, hx341_1⟩ := at_T37 HR0.out (ji5) p341 q341
      cases e341
      replace p341 := eq_true p341
      replace q341 := eq_true q341
      go_enter Try.func55, Try.ntmps55
      go_wp2
      go_ret
      exact ⟨by first | rfl | (simp; done) | (simp only [← hji5] <;> (first | rfl | simp)) | (simp [*]; done), by repeat (first | exact Drawn0.refl _ | apply Drawn0.step)⟩
    · rw [if_neg c6] at H
      exact absurd H (by simp)
  · rw [if_neg c4] at H
    have c4b0 : decide ((wrap64 (a1 + 1)) < (l0.length : Int)) = false := decide_eq_false c4
    clear c4
    obtain rfl := Option.some.inj H
    go_enter Try.func55, Try.ntmps55
    go_wp2
    go_ret
    exact ⟨by first | rfl | (simp; done) | (simp [*]; done), by repeat (first | exact Drawn0.refl _ | apply Drawn0.step)⟩
def impl_findTerm (l : List S37) (x : Int) : Int := match l.findIdx? (fun t => t.f0 == x) with
  | some i => i
  | none => -1
end Go.Proofs.Ytamncgpajkoiaaa.T
namespace Go.Proofs.Ytamncgpajkoiaaa.T
open Go.RowKit Go.Proofs.YtamncgpajkoiaaaW.PrintWords Go.Proofs.YtamncgpajkoiaaaW.PrintLast Go.Proofs.YtamncgpajkoiaaaW.PrintMore

set_option linter.unusedVariables false
set_option linter.unusedSimpArgs false
theorem eqA37 (d : Nat) (w : World) (x0 y0 : Int) (x1 y1 : Int) :
    (Op.equalIn (d + 2) 37 (.agg #[.int .i64 x0, .int .i64 x1]) (.agg #[.int .i64 y0, .int .i64 y1])).run Try.prog w = .ok (x0 == y0 && (x1 == y1)) w := by
  refine eqA_of Try.underlying37 (by kernel_rfl) ?_
  refine eqf_cons (by rfl) (by go_simp; rfl) (by go_simp; rfl) (by go_simp) ?_
  exact eqf_last (by rfl) (by go_simp; rfl) (by go_simp; rfl) (by go_simp)
end Go.Proofs.Ytamncgpajkoiaaa.T
namespace Go.Proofs.Ytamncgpajkoiaaa.T
open Go.RowKit Go.Proofs.YtamncgpajkoiaaaW.PrintWords Go.Proofs.YtamncgpajkoiaaaW.PrintLast Go.Proofs.YtamncgpajkoiaaaW.PrintMore

set_option linter.unusedVariables false
set_option linter.unusedSimpArgs false
attribute [local go_sem high] eqA37
def impl_Term_58.l0 : Nat → List (S37) → Int → Int → Int → Int → Option (Int)
  | 0, _, _, _, _, _ => none
  | k + 1, x0, x7, x8, x398000, x398001 => if x8 < x7 then (if 0 ≤ x8 then (if x8 < (x0.length : Int) then (if (x398000 == ((rd_T37 x0 x8).f0) && (x398001 == ((rd_T37 x0 x8).f1))) = true then (some x8) else (impl_Term_58.l0 k x0 x7 (wrap64 (x8 + 1)) x398000 x398001)) else (none)) else (none)) else (some (-1))
def impl_Term_58.f (k : Nat) (l0 : List (S37)) (a1_0 : Int) (a1_1 : Int) : Option (Int) := impl_Term_58.l0 k l0 (l0.length : Int) 0 a1_0 a1_1
theorem impl_Term_58.mono_l : ∀ k, (∀ y0 y1 y2 y3 y4, LeO (impl_Term_58.l0 k y0 y1 y2 y3 y4) (impl_Term_58.l0 (k + 1) y0 y1 y2 y3 y4))
  | 0 => fun _ _ _ _ _ r h => by simp [impl_Term_58.l0] at h
  | k + 1 => by
    have ih0 := impl_Term_58.mono_l k
    · intro y0 y1 y2 y3 y4
      unfold impl_Term_58.l0
      repeat' first
      | (with_reducible exact ih0 _ _ _ _ _)
      | (with_reducible exact LeO.refl _)
      | (with_reducible exact LeO.none _)
      | (with_reducible refine LeO.ite ?_ ?_)
      | (with_reducible refine LeO.bind ?_ (fun _ => ?_))
      | exact ih0 _ _ _ _ _
      | exact LeO.none _
      | refine LeO.ite ?_ ?_
      | refine LeO.bind ?_ (fun _ => ?_)
theorem impl_Term_58.mono : ∀ a0 a1 a2 k, LeO (impl_Term_58.f k a0 a1 a2) (impl_Term_58.f (k + 1) a0 a1 a2) := by
  intro a0 a1 a2 k
  have ih0 := impl_Term_58.mono_l k
  unfold impl_Term_58.f
  repeat' first
      | (with_reducible exact ih0 _ _ _ _ _)
      | (with_reducible exact LeO.refl _)
      | (with_reducible exact LeO.none _)
      | (with_reducible refine LeO.ite ?_ ?_)
      | (with_reducible refine LeO.bind ?_ (fun _ => ?_))
      | exact ih0 _ _ _ _ _
      | exact LeO.none _
      | refine LeO.ite ?_ ?_
      | refine LeO.bind ?_ (fun _ => ?_)
set_option maxHeartbeats 8000000 in
set_option maxRecDepth 100000 in
theorem impl_Term_58.calls (k : Nat) (A0 : Option Addr) (c0 : Nat) (l0 : List (S37)) (a1_0 : Int) (a1_1 : Int) (r : Int) (w : World) (hr0 : Kd.C k37 w A0 l0.length l0) (hc0 : l0.length ≤ c0) (h : impl_Term_58.f k l0 a1_0 a1_1 = some r) :
    Calls Try.prog 58 #[.slice A0 l0.length c0, .agg #[.int .i64 a1_0, .int .i64 a1_1]] w fun e w' => e = .returned (.int .i64 r) ∧ Below w.heap.size w w' := by
  have hu37 := Try.underlying37
  have HR0 := Aside0.mk hr0
  have HC0 := Aside0.mk hc0
  clear hr0 hc0
  have HB := Aside0.mk (Below.refl w.heap.size w)
  have H : (impl_Term_58.l0 k l0 (l0.length : Int) 0 a1_0 a1_1) = some r := h
  clear h
  have H' := Aside0.mk H
  clear H
  go_enter Try.func58, Try.ntmps58
  go_wp2_with (first | ((with_reducible refine gate_dst (N := 3) rfl ?_); refine box_event ?hg (N := 3) ?hd (cs := #[.int .i64 a1_0, .int .i64 a1_1]) (t := 37) ?hr ?_; (case hd => rfl); (case hg => rfl); (case hr => first | (go_simp; done) | (go_simp; rfl)); intro gb397 hg w3 hbox hb; have n0_ := Aside0.mk (below_step (by repeat (first | (with_reducible first | exact HB.out | apply below_alloc | apply pw_below_drewN | apply below_drew1) | exact HB.out)) hb); have n1_ := Aside0.mk (hbox); have n2_ := Aside0.mk ((by rw [hg]; exact (below_size (by repeat (first | (with_reducible first | exact HB.out | apply below_alloc | apply pw_below_drewN | apply below_drew1) | exact HB.out))) : w.heap.size ≤ gb397)); have n3_ := Aside0.mk ((by rw [hg]; exact (below_size (by repeat (first | (with_reducible first | exact HB.out | apply below_alloc | apply pw_below_drewN | apply below_drew1) | exact HB.out))) : w.heap.size ≤ gb397)); clear HB; have HB := n0_; have BK397 := n1_; have GW397 := n2_; have GE397 := n3_; clear n0_ n1_ n2_ n3_; clear hb hbox hg))
  repeat (go_quiet (first | ((with_reducible refine gate_dst (N := 3) rfl ?_); refine box_event ?hg (N := 3) ?hd (cs := #[.int .i64 a1_0, .int .i64 a1_1]) (t := 37) ?hr ?_; (case hd => rfl); (case hg => rfl); (case hr => first | (go_simp; done) | (go_simp; rfl)); intro gb397 hg w3 hbox hb; have n0_ := Aside0.mk (below_step (by repeat (first | (with_reducible first | exact HB.out | apply below_alloc | apply pw_below_drewN | apply below_drew1) | exact HB.out)) hb); have n1_ := Aside0.mk (hbox); have n2_ := Aside0.mk ((by rw [hg]; exact (below_size (by repeat (first | (with_reducible first | exact HB.out | apply below_alloc | apply pw_below_drewN | apply below_drew1) | exact HB.out))) : w.heap.size ≤ gb397)); have n3_ := Aside0.mk ((by rw [hg]; exact (below_size (by repeat (first | (with_reducible first | exact HB.out | apply below_alloc | apply pw_below_drewN | apply below_drew1) | exact HB.out))) : w.heap.size ≤ gb397)); clear HB; have HB := n0_; have BK397 := n1_; have GW397 := n2_; have GE397 := n3_; clear n0_ n1_ n2_ n3_; clear hb hbox hg)); try go_wp2_with (first | ((with_reducible refine gate_dst (N := 3) rfl ?_); refine box_event ?hg (N := 3) ?hd (cs := #[.int .i64 a1_0, .int .i64 a1_1]) (t := 37) ?hr ?_; (case hd => rfl); (case hg => rfl); (case hr => first | (go_simp; done) | (go_simp; rfl)); intro gb397 hg w3 hbox hb; have n0_ := Aside0.mk (below_step (by repeat (first | (with_reducible first | exact HB.out | apply below_alloc | apply pw_below_drewN | apply below_drew1) | exact HB.out)) hb); have n1_ := Aside0.mk (hbox); have n2_ := Aside0.mk ((by rw [hg]; exact (below_size (by repeat (first | (with_reducible first | exact HB.out | apply below_alloc | apply pw_below_drewN | apply below_drew1) | exact HB.out))) : w.heap.size ≤ gb397)); have n3_ := Aside0.mk ((by rw [hg]; exact (below_size (by repeat (first | (with_reducible first | exact HB.out | apply below_alloc | apply pw_below_drewN | apply below_drew1) | exact HB.out))) : w.heap.size ≤ gb397)); clear HB; have HB := n0_; have BK397 := n1_; have GW397 := n2_; have GE397 := n3_; clear n0_ n1_ n2_ n3_; clear hb hbox hg)))
  go_loopg [8] k (fun kq v8 w' => ∃ (x8_1 : Int), v8 = .int .i64 x8_1 ∧ Aside0 (impl_Term_58.l0 kq l0 (l0.length : Int) x8_1 a1_0 a1_1 = some r) ∧ Aside0 (kq ≤ k) ∧ Aside0 (w'.heap[gb397]? = some (.cells #[.int .i64 a1_0, .int .i64 a1_1] 37 (0, 0))) ∧ Aside0 (Below w.heap.size w w'))
  case atStart => exact ⟨(0), (by first | rfl | (simp; done) | (simp [*]; done)), H', ⟨Nat.le_refl _⟩, ⟨by (with_reducible repeat (first | refine blk_drewN ?_ _ | refine blk_drew ?_ | refine blk_alloc ?_ _)); exact BK397.out⟩, ⟨by repeat (first | (with_reducible first | exact HB.out | apply below_alloc | apply pw_below_drewN | apply below_drew1 | refine below_set ?_ GE397.out) | exact HB.out)⟩⟩
  case round =>
    clear H'
    try clear p2
    obtain ⟨x8_1, rfl, HA, HK1, BK397, HB⟩ := hrel
    cases gk with
    | zero => exact absurd HA.out (by simp [impl_Term_58.l0])
    | succ k1 =>
      have H := HA.out
      clear HA
      simp only [impl_Term_58.l0] at H
      by_cases c4 : x8_1 < (l0.length : Int)
      · rw [if_pos c4] at H
        have c4b0 : decide (x8_1 < (l0.length : Int)) = true := decide_eq_true c4
        clear c4
        by_cases c5 : 0 ≤ x8_1
        · rw [if_pos c5] at H
          have c5b0 : decide (0 ≤ x8_1) = true := decide_eq_true c5
          clear c5
          by_cases c6 : x8_1 < (l0.length : Int)
          · rw [if_pos c6] at H
            have c6b0 : decide (x8_1 < (l0.length : Int)) = true := decide_eq_true c6
            clear c6
            by_cases c7 : (a1_0 == ((rd_T37 l0 x8_1).f0) && (a1_1 == ((rd_T37 l0 x8_1).f1))) = true
            · rw [if_pos c7] at H
              have c7b0 : (a1_0 == ((rd_T37 l0 x8_1).f0) && (a1_1 == ((rd_T37 l0 x8_1).f1))) = true := c7
              (try (have c7b1 : decide (a1_0 = ((rd_T37 l0 x8_1).f0) && (a1_1 == ((rd_T37 l0 x8_1).f1))) = true := by simpa using c7))
              (try (have c7b2 : (a1_0 == ((rd_T37 l0 x8_1).f0) && (a1_1 == ((rd_T37 l0 x8_1).f1))) = true := by simpa using c7))
              clear c7
              obtain rfl := Option.some.inj H
              have hcz8_0 : wr.cell? ⟨gb397, 0, none⟩ = some (.int .i64 a1_0) := (blk_cell BK397.out 0).trans rfl
              have hcz8_1 : wr.cell? ⟨gb397, 1, none⟩ = some (.int .i64 a1_1) := (blk_cell BK397.out 1).trans rfl
              have hfz8_0 := blk_frozen BK397.out 0
              have hfz8_1 := blk_frozen BK397.out 1
              have p398 : 0 ≤ (x8_1 : Int) := of_decide_eq_true (by first | (with_reducible assumption) | assumption)
              have q398 : x8_1 < (l0.length : Int) := of_decide_eq_true (by first | (with_reducible assumption) | assumption)
              obtain ⟨ad398, e398, hx398_0, hx398_1⟩ := at_T37 HR0.out x8_1 p398 q398
              cases e398
              replace hx398_0 := (HB.out.cell (World.block_lt_of_cell? w _ hx398_0)).trans hx398_0
              replace hx398_1 := (HB.out.cell (World.block_lt_of_cell? w _ hx398_1)).trans hx398_1
              replace p398 := eq_true p398
              replace q398 := eq_true q398
              go_wp2
              repeat (go_quiet (fail); try go_wp2)
              go_ret
              exact ⟨by first | rfl | (simp [errW_none, errW_some] <;> rfl) | (simp [*, errW_none, errW_some] <;> rfl), by repeat (first | (with_reducible first | exact HB.out | apply below_alloc | apply pw_below_drewN | apply below_drew1 | refine below_set ?_ GE397.out) | exact HB.out)⟩
            · rw [if_neg c7] at H
              have c7b0 : (a1_0 == ((rd_T37 l0 x8_1).f0) && (a1_1 == ((rd_T37 l0 x8_1).f1))) = false := by simpa using c7
              (try (have c7b1 : decide (a1_0 = ((rd_T37 l0 x8_1).f0) && (a1_1 == ((rd_T37 l0 x8_1).f1))) = false := by simpa using c7))
              (try (have c7b2 : (a1_0 == ((rd_T37 l0 x8_1).f0) && (a1_1 == ((rd_T37 l0 x8_1).f1))) = false := by simpa using c7))
              (try (have c7b3 : ¬ (a1_0 = ((rd_T37 l0 x8_1).f0) && (a1_1 == ((rd_T37 l0 x8_1).f1))) := by simpa using c7))
              clear c7
              have H' := Aside0.mk H
              clear H
              have hcz9_0 : wr.cell? ⟨gb397, 0, none⟩ = some (.int .i64 a1_0) := (blk_cell BK397.out 0).trans rfl
              have hcz9_1 : wr.cell? ⟨gb397, 1, none⟩ = some (.int .i64 a1_1) := (blk_cell BK397.out 1).trans rfl
              have hfz9_0 := blk_frozen BK397.out 0
              have hfz9_1 := blk_frozen BK397.out 1
              have p398 : 0 ≤ (x8_1 : Int) := of_decide_eq_true (by first | (with_reducible assumption) | assumption)
              have q398 : x8_1 < (l0.length : Int) := of_decide_eq_true (by first | (with_reducible assumption) | assumption)
              obtain ⟨ad398, e398, hx398_0, hx398_1⟩ := at_T37 HR0.out x8_1 p398 q398
              cases e398
              replace hx398_0 := (HB.out.cell (World.block_lt_of_cell? w _ hx398_0)).trans hx398_0
              replace hx398_1 := (HB.out.cell (World.block_lt_of_cell? w _ hx398_1)).trans hx398_1
              replace p398 := eq_true p398
              replace q398 := eq_true q398
              go_wp2
              repeat (go_quiet (fail); try go_wp2)
              go_roundg k1
              case measure => have := HK1.out; omega
              case rel => exact ⟨(wrap64 (x8_1 + 1)), (by first | rfl | (simp; done) | (simp [*]; done)), H', ⟨by have := HK1.out; omega⟩, ⟨by (with_reducible repeat (first | refine blk_drewN ?_ _ | refine blk_drew ?_ | refine blk_alloc ?_ _)); exact BK397.out⟩, ⟨by repeat (first | (with_reducible first | exact HB.out | apply below_alloc | apply pw_below_drewN | apply below_drew1 | refine below_set ?_ GE397.out) | exact HB.out)⟩⟩
          · rw [if_neg c6] at H
            exact absurd H (by simp)
        · rw [if_neg c5] at H
          exact absurd H (by simp)
      · rw [if_neg c4] at H
        have c4b0 : decide (x8_1 < (l0.length : Int)) = false := decide_eq_false c4
        clear c4
        obtain rfl := Option.some.inj H
        go_wp2
        repeat (go_quiet (fail); try go_wp2)
        go_ret
        exact ⟨by first | rfl | (simp [errW_none, errW_some] <;> rfl) | (simp [*, errW_none, errW_some] <;> rfl), by repeat (first | (with_reducible first | exact HB.out | apply below_alloc | apply pw_below_drewN | apply below_drew1 | refine below_set ?_ GE397.out) | exact HB.out)⟩
def impl_lesser_int.f (a0 : Int) (a1 : Int) : Option (Int) := if a1 < a0 then (some a1) else (some a0)
set_option maxHeartbeats 8000000 in
set_option maxRecDepth 100000 in
theorem impl_lesser_int.calls (a0 : Int) (a1 : Int) (r : Int) (w : World) (h : impl_lesser_int.f a0 a1 = some r) :
    Calls Try.prog 59 #[.int .i64 a0, .int .i64 a1] w fun e w' => e = .returned (.int .i64 r) ∧ Drawn0 w w' := by
  have H : (if a1 < a0 then (some a1) else (some a0)) = some r := h
  clear h
  by_cases c3 : a1 < a0
  · rw [if_pos c3] at H
    have c3b0 : decide (a1 < a0) = true := decide_eq_true c3
    clear c3
    obtain rfl := Option.some.inj H
    go_enter Try.func59, Try.ntmps59
    go_wp2
    go_ret
    exact ⟨by first | rfl | (simp; done) | (simp [*]; done), by repeat (first | exact Drawn0.refl _ | apply Drawn0.step)⟩
  · rw [if_neg c3] at H
    have c3b0 : decide (a1 < a0) = false := decide_eq_false c3
    clear c3
    obtain rfl := Option.some.inj H
    go_enter Try.func59, Try.ntmps59
    go_wp2
    go_ret
    exact ⟨by first | rfl | (simp; done) | (simp [*]; done), by repeat (first | exact Drawn0.refl _ | apply Drawn0.step)⟩
end Go.Proofs.Ytamncgpajkoiaaa.T
namespace Go.Proofs.Ytamncgpajkoiaaa.Q
open Go.RowKit Go.Proofs.YtamncgpajkoiaaaW.PrintWords
def Opens {α : Type} (P : Program) (d : Kd α) (t : TypeId) (WF : α → Prop) : Prop :=
  ∀ (H : Type) (enc : TypeId × Value → H) (w : World) (base : Nat) (spare : Nat → Bool) (held : Bool) (fuel : Nat) (cs : List Value) (x : DataW H × List MemPlace), DataW.trod enc P w base spare held fuel t cs = some x → ∃ v : α, d.K w v cs ∧ WF v
theorem Opens.int {P : Program} {t : TypeId} {k : IntKind} (ht : P.underlying t = some (.int k)) : Opens P (Kd.int k) t (fun n => (Lit.int k n).wf = true) := by
  intro H enc w base spare held fuel cs x h
  obtain ⟨n, rfl, _, hw⟩ := DataW.trod_int ht h
  exact ⟨n, rfl, hw⟩
theorem Opens.bool {P : Program} {t : TypeId} (ht : P.underlying t = some .bool) : Opens P Kd.bool t (fun _ => True) := by
  intro H enc w base spare held fuel cs x h
  obtain ⟨n, rfl, _⟩ := DataW.trod_bool ht h
  exact ⟨n, rfl, trivial⟩
theorem Opens.iso {α β : Type} {P : Program} {t : TypeId} {d : Kd α} {WF : α → Prop} {f : β → α} (h : Opens P d t WF) (g : α → β) (hg : ∀ a, f (g a) = a) : Opens P (Kd.iso d f) t (fun b => WF (f b)) := by
  intro H enc w base spare held fuel cs x hx
  obtain ⟨v, hv, hw⟩ := h H enc w base spare held fuel cs x hx
  exact ⟨g v, by show d.K w (f (g v)) cs; rw [hg]; exact hv, by show WF (f (g v)); rw [hg]; exact hw⟩
theorem list_of {α : Type} {Q : Nat → α → Prop} : ∀ (n : Nat), (∀ i, i < n → ∃ v, Q i v) → ∃ l : List α, l.length = n ∧ ∀ j p, l[j]? = some p → Q j p
  | 0, _ => ⟨[], rfl, fun j p h => by simp at h⟩
  | n + 1, h => by
    obtain ⟨l, hl, hq⟩ := list_of n (fun i hi => h i (by omega))
    obtain ⟨v, hv⟩ := h n (by omega)
    refine ⟨l ++ [v], by simp [hl], fun j p hj => ?_⟩
    rcases Nat.lt_or_ge j l.length with h1 | h1
    · rw [List.getElem?_append_left h1] at hj
      exact hq j p hj
    · rw [List.getElem?_append_right h1] at hj
      have h2 : j - l.length = 0 := by
        have := (List.getElem?_eq_some_iff.1 hj).1
        simp at this
        omega
      rw [h2] at hj
      simp at hj
      subst hj
      have : j = n := by omega
      subst this
      exact hv
theorem cells_get {w : World} {base : Nat} {a : Addr} {n : Nat} {cs : List Value} (h : w.cells? base a n = some cs) : cs.length = n ∧ ∀ (i : Nat) (u : Value), cs[i]? = some u → w.cell? (a.add i) = some u := by
  unfold World.cells? at h
  split at h
  · have hl : cs.length = n := by simpa using mapM_some_length h
    refine ⟨hl, fun i u hu => ?_⟩
    have hi : i < cs.length := (List.getElem?_eq_some_iff.1 hu).1
    have := mapM_some_get h i i (by rw [List.getElem?_range (by omega)])
    rw [this, hu]
  · cases h
theorem add_add' (a : Addr) (x y : Nat) : (a.add x).add y = a.add (x + y) := by
  by_cases hx : x = 0 <;> by_cases hy : y = 0 <;> simp [Addr.add, hx, hy, Nat.add_assoc]
theorem Opens.slice {α : Type} {P : Program} {t e : TypeId} {d : Kd α} {WF : α → Prop} (ht : P.underlying t = some (.slice e)) (h : Opens P d e WF) (hs : P.cellsOf e = d.sz) : Opens P (Kd.slice e d) t (fun l => l.length ≤ maxLen ∧ ∀ v ∈ l, WF v) := by
  intro H enc w base spare held fuel cs x hx
  rcases Go.Deep.open_slice ht hx with ⟨rfl, _⟩ | ⟨a, len, cap, m, n, D, Pl, rfl, hb, hl, hm, hmm, _, hi⟩
  · exact ⟨[], ⟨none, 0, rfl, Nat.le_refl _, rfl, by simp, fun h => by simp at h⟩, by simp, fun v hv => by simp at hv⟩
  · have hlm : len ≤ m := by rw [hmm]; split <;> omega
    obtain ⟨l, hll, hq⟩ := list_of (Q := fun i v => ∃ c, w.cells? base (a.add (i * P.cellsOf e)) (P.cellsOf e) = some c ∧ d.K w v c ∧ WF v) len (fun i hlt => by
      obtain ⟨c, hc, hd⟩ := hi i (by omega)
      obtain ⟨v, hv, hw⟩ := h H enc w base spare held n c _ hd
      exact ⟨v, c, hc, hv, hw⟩)
    subst hll
    refine ⟨l, ⟨some a, cap, rfl, hl, rfl, by unfold maxLen at hm; omega, fun _ => ⟨a, rfl, fun j p hj => ?_⟩⟩, Nat.le_trans hl hm, fun v hv => ?_⟩
    · obtain ⟨c, hc, hk, _⟩ := hq j p hj
      obtain ⟨h1, h2⟩ := cells_get hc
      refine ⟨c, by rw [h1, hs], hk, fun i u hu => ?_⟩
      rw [← hs, ← add_add']
      exact h2 i u hu
    · obtain ⟨j, hj, rfl⟩ := List.getElem_of_mem hv
      obtain ⟨_, _, _, hw⟩ := hq j _ (List.getElem?_eq_getElem hj)
      exact hw
def OpensFs {α : Type} (P : Program) (o : Nat) (fs : List Field) (d : Kd α) (WF : α → Prop) : Prop :=
  ∀ (H : Type) (enc : TypeId × Value → H) (w : World) (base : Nat) (spare : Nat → Bool) (held : Bool) (fuel : Nat) (cs : List Value), (∀ f ∈ fs, ∃ x : DataW H × List MemPlace, DataW.trod enc P w base spare held fuel f.type ((cs.drop f.offset).take (P.cellsOf f.type)) = some x) → cs.length = o + d.sz → ∃ v : α, d.K w v (cs.drop o) ∧ WF v
theorem OpensFs.one {α : Type} {P : Program} {o : Nat} {f : Field} {d : Kd α} {WF : α → Prop} (ho : f.offset = o) (hs : P.cellsOf f.type = d.sz) (h : Opens P d f.type WF) : OpensFs P o [f] d WF := by
  intro H enc w base spare held fuel cs hx hl
  obtain ⟨x, hx⟩ := hx f (by simp)
  rw [ho, hs, List.take_of_length_le (by rw [List.length_drop]; omega)] at hx
  exact h H enc w base spare held fuel _ x hx
theorem OpensFs.cons {α β : Type} {P : Program} {o : Nat} {f : Field} {fs : List Field} {d : Kd α} {d' : Kd β} {WF : α → Prop} {WF' : β → Prop} (ho : f.offset = o) (hs : P.cellsOf f.type = d.sz) (h : Opens P d f.type WF) (h' : OpensFs P (o + d.sz) fs d' WF') : OpensFs P o (f :: fs) (Kd.pair d d') (fun p => WF p.1 ∧ WF' p.2) := by
  intro H enc w base spare held fuel cs hx hl
  obtain ⟨x, hx0⟩ := hx f (by simp)
  rw [ho, hs] at hx0
  obtain ⟨v, hv, hw⟩ := h H enc w base spare held fuel _ x hx0
  have hl' : cs.length = o + d.sz + d'.sz := by rw [hl]; exact (Nat.add_assoc _ _ _).symm
  obtain ⟨v', hv', hw'⟩ := h' H enc w base spare held fuel cs (fun f' hf' => hx f' (List.mem_cons_of_mem _ hf')) hl'
  refine ⟨(v, v'), ⟨(cs.drop o).take d.sz, cs.drop (o + d.sz), ?_, hv, hv'⟩, hw, hw'⟩
  rw [← List.drop_drop, List.take_append_drop]
theorem Opens.struct {α : Type} {P : Program} {t : TypeId} {fs : Array Field} {d : Kd α} {WF : α → Prop} (ht : P.underlying t = some (.struct fs)) (hs : P.cellsOf t = d.sz) (h : OpensFs P 0 fs.toList d WF) : Opens P d t WF := by
  intro H enc w base spare held fuel cs x hx
  obtain ⟨xs, n, _, _, hl, hxs, hf⟩ := DataW.trod_struct ht hx
  refine h H enc w base spare held n cs (fun f hfm => ?_) (by rw [hl, hs, Nat.zero_add])
  obtain ⟨i, hi, rfl⟩ := List.getElem_of_mem hfm
  have hi' : i < fs.size := by simpa using hi
  have := hf i fs[i] (Array.getElem?_eq_getElem hi')
  rw [List.getElem?_eq_getElem (by omega)] at this
  exact ⟨_, by simpa using this⟩
end Go.Proofs.Ytamncgpajkoiaaa.Q
namespace Go.Proofs.Ytamncgpajkoiaaa.T
open Go.RowKit Go.Proofs.YtamncgpajkoiaaaW.PrintWords
set_option linter.unusedVariables false
def WF44 (x : S44) : Prop := (Lit.int .i64 x.f0).wf = true ∧ (Lit.int .i64 x.f1).wf = true
theorem opens44 : Q.Opens Try.prog k44 44 WF44 :=
  Q.Opens.iso (Q.Opens.struct Try.underlying44 (by kernel_rfl) (Q.OpensFs.cons rfl (by kernel_rfl) (Q.Opens.int Try.underlying3) (Q.OpensFs.one rfl (by kernel_rfl) (Q.Opens.int Try.underlying3)))) (fun p => ⟨p.1, p.2⟩) (fun _ => rfl)
end Go.Proofs.Ytamncgpajkoiaaa.T
namespace Go.Proofs.Ytamncgpajkoiaaa.Q
set_option linter.unusedVariables false
set_option linter.unusedSimpArgs false
theorem pairwise_of_next {α : Type} {R : α → α → Prop} (tr : ∀ a b c, R a b → R b c → R a c) {l : List α} (h : ∀ j (h : j + 1 < l.length), R (l[j]'(by omega)) l[j + 1]) : l.Pairwise R := by
  rw [List.pairwise_iff_getElem]
  intro i j hi hj hij
  obtain ⟨d, rfl⟩ : ∃ d, j = i + 1 + d := ⟨j - i - 1, by omega⟩
  clear hij
  induction d with
  | zero => exact h i (by omega)
  | succ d ih => exact tr _ _ _ (ih (by omega)) (h (i + 1 + d) (by omega))
theorem next_of_pairwise {α : Type} {R : α → α → Prop} {l : List α} (h : l.Pairwise R) (j : Nat) (hj : j + 1 < l.length) : R (l[j]'(by omega)) l[j + 1] :=
  List.pairwise_iff_getElem.1 h j (j + 1) (by omega) hj (by omega)
end Go.Proofs.Ytamncgpajkoiaaa.Q
namespace Go.Proofs.Ytamncgpajkoiaaa.Q
open Go.RowKit Go.Proofs.YtamncgpajkoiaaaW.PrintWords
set_option linter.unusedVariables false
set_option linter.unusedSimpArgs false
theorem ev_succ {α : Type} {g : Nat → Option α} {r : α} (h : Ev (fun k => g (k + 1)) r) : Ev g r := Ev.step (f := fun k => g (k + 1)) (fun _ => rfl) h
theorem ev_of_all {α : Type} {g : Nat → Option α} {r : α} (h : ∀ k, g k = some r) : Ev g r := ⟨0, fun k _ => h k⟩
theorem ev_some {α : Type} (r : α) : Ev (fun _ => some r) r := ev_of_all fun _ => rfl
theorem bsome {α β : Type} (a : α) (f : α → Option β) : (some a).bind f = f a := Eq.trans (Option.bind_some a f) (Eq.refl _)
end Go.Proofs.Ytamncgpajkoiaaa.Q
namespace Go.Proofs.Ytamncgpajkoiaaa.Q
open Go.RowKit Go.Proofs.Ytamncgpajkoiaaa.T Go.Proofs.YtamncgpajkoiaaaW.PrintWords Go.Proofs.YtamncgpajkoiaaaW.PrintLast
set_option linter.unusedVariables false
set_option linter.unusedSimpArgs false
theorem wrap_id {x : Int} (h0 : -9223372036854775808 ≤ x) (h1 : x < 9223372036854775808) : wrap64 x = x := by unfold wrap64; omega
end Go.Proofs.Ytamncgpajkoiaaa.Q
namespace Go.Proofs.Ytamncgpajkoiaaa.Q
open Go.RowKit Go.Proofs.Ytamncgpajkoiaaa.T Go.Proofs.YtamncgpajkoiaaaW.PrintWords Go.Proofs.YtamncgpajkoiaaaW.PrintLast
set_option linter.unusedVariables false
set_option linter.unusedSimpArgs false
abbrev Tm := S37
abbrev rt (l : List Tm) (i : Int) : Tm := rd_T37 l i
theorem rt_nat (l : List Tm) (j : Nat) (h : j < l.length) : rt l (j : Int) = l[j] := by
  unfold rt rd_T37
  rw [Int.toNat_natCast, List.getD_eq_getElem?_getD, List.getElem?_eq_getElem h]
  rfl
def okT (t : Tm) : Prop := 0 ≤ t.f0 ∧ t.f0 ≤ 999 ∧ 0 ≤ t.f1 ∧ t.f1 ≤ 99999
instance (t : Tm) : Decidable (okT t) := by unfold okT; infer_instance
def ltT (a b : Tm) : Prop := a.f0 < b.f0 ∧ a.f1 < b.f1
instance (a b : Tm) : Decidable (ltT a b) := by unfold ltT; infer_instance
def VF (l : List Tm) (i : Nat) : Prop := ∀ j, i ≤ j → j < l.length → okT (rt l j) ∧ (0 < j → ltT (rt l ((j : Int) - 1)) (rt l j))
def VT (l : List Tm) : Prop := l.length ≤ 8 ∧ VF l 0
theorem VF_end {l : List Tm} {i : Nat} (h : l.length ≤ i) : VF l i := fun j h1 h2 => by omega
theorem VF_step {l : List Tm} {i : Nat} (h : i < l.length) : VF l i ↔ (okT (rt l i) ∧ (0 < i → ltT (rt l ((i : Int) - 1)) (rt l i))) ∧ VF l (i + 1) := by
  constructor
  · intro hv
    exact ⟨hv i (Nat.le_refl _) h, fun j h1 h2 => hv j (by omega) h2⟩
  · rintro ⟨h1, h2⟩ j h3 h4
    by_cases e : j = i
    · subst e; exact h1
    · exact h2 j (by omega) h4
theorem impl_within_eq (a b c : Int) : impl_within.f a b c = some (decide (b ≤ a ∧ a ≤ c)) := by
  unfold impl_within.f
  by_cases h : a ≥ b
  · rw [if_pos h]
    have : (b ≤ a ∧ a ≤ c) ↔ a ≤ c := ⟨fun h => h.2, fun h' => ⟨h, h'⟩⟩
    simp [this]
  · rw [if_neg h]
    have : ¬ (b ≤ a ∧ a ≤ c) := fun h' => h h'.1
    simp [this]
theorem spec_l6In_eq (a b c : Int) : spec_l6In.f a b c = some (decide (b ≤ a ∧ a ≤ c)) := by
  unfold spec_l6In.f
  by_cases h : a ≥ b
  · rw [if_pos h]
    have : (b ≤ a ∧ a ≤ c) ↔ a ≤ c := ⟨fun h => h.2, fun h' => ⟨h, h'⟩⟩
    simp [this]
  · rw [if_neg h]
    have : ¬ (b ≤ a ∧ a ≤ c) := fun h' => h h'.1
    simp [this]
theorem implValid_loop (l : List Tm) (hl : l.length ≤ 1000000000000) : ∀ (d i : Nat), l.length - i = d → i ≤ l.length → ∃ b, Ev (fun k => impl_TermsValid.l0 k l l (l.length : Int) (i : Int)) b ∧ (b = true ↔ VF l i) := by
  intro d
  induction d with
  | zero =>
    intro i hd hi
    refine ⟨true, ev_succ ?_, by simp; exact VF_end (by omega)⟩
    simp only [impl_TermsValid.l0, if_neg (show ¬ (i : Int) < (l.length : Int) by omega)]
    exact ev_some _
  | succ d ih =>
    intro i hd hi
    have hlt : (i : Int) < (l.length : Int) := by omega
    obtain ⟨b, hb, hb2⟩ := ih (i + 1) (by omega) (by omega)
    have e1 : wrap64 ((i : Int) + 1) = ((i + 1 : Nat) : Int) := by rw [wrap_id (by omega) (by omega)]; omega
    rw [VF_step (show i < l.length by omega)]
    by_cases k1 : 0 ≤ (rt l i).f0 ∧ (rt l i).f0 ≤ 999
    · by_cases k2 : 0 ≤ (rt l i).f1 ∧ (rt l i).f1 ≤ 99999
      · have hok : okT (rt l i) := ⟨k1.1, k1.2, k2.1, k2.2⟩
        by_cases h0 : 0 < i
        · have e2 : wrap64 ((i : Int) - 1) = (i : Int) - 1 := wrap_id (by omega) (by omega)
          by_cases k3 : (rt l ((i : Int) - 1)).f0 ≥ (rt l i).f0
          · refine ⟨false, ev_succ ?_, ?_⟩
            · simp only [impl_TermsValid.l0, if_pos hlt, if_pos (show (0 : Int) ≤ i by omega), impl_within_eq, bsome, decide_eq_true_eq, if_pos k1, decide_eq_true k2, Bool.not_true]
              refine ev_succ ?_
              simp only [impl_TermsValid.j1, if_neg (show ¬ (false = true) by decide), if_pos (show (i : Int) > 0 by omega), e2, if_pos (show 0 ≤ (i : Int) - 1 by omega), if_pos (show (i : Int) - 1 < (l.length : Int) by omega), if_pos k3]
              exact ev_some _
            · simp only [Bool.false_eq_true, false_iff]
              rintro ⟨⟨_, h3⟩, _⟩
              have := (h3 h0).1
              omega
          · by_cases k4 : (rt l ((i : Int) - 1)).f1 ≥ (rt l i).f1
            · refine ⟨false, ev_succ ?_, ?_⟩
              · simp only [impl_TermsValid.l0, if_pos hlt, if_pos (show (0 : Int) ≤ i by omega), impl_within_eq, bsome, decide_eq_true_eq, if_pos k1, decide_eq_true k2, Bool.not_true]
                refine ev_succ ?_
                simp only [impl_TermsValid.j1, if_neg (show ¬ (false = true) by decide), if_pos (show (i : Int) > 0 by omega), e2, if_pos (show 0 ≤ (i : Int) - 1 by omega), if_pos (show (i : Int) - 1 < (l.length : Int) by omega), if_neg k3, if_pos k4]
                exact ev_some _
              · simp only [Bool.false_eq_true, false_iff]
                rintro ⟨⟨_, h3⟩, _⟩
                have := (h3 h0).2
                omega
            · refine ⟨b, ev_succ ?_, ?_⟩
              · simp only [impl_TermsValid.l0, if_pos hlt, if_pos (show (0 : Int) ≤ i by omega), impl_within_eq, bsome, decide_eq_true_eq, if_pos k1, decide_eq_true k2, Bool.not_true]
                refine ev_succ ?_
                simp only [impl_TermsValid.j1, if_neg (show ¬ (false = true) by decide), if_pos (show (i : Int) > 0 by omega), e2, if_pos (show 0 ≤ (i : Int) - 1 by omega), if_pos (show (i : Int) - 1 < (l.length : Int) by omega), if_neg k3, if_neg k4, e1]
                exact hb
              · rw [hb2]
                exact ⟨fun h => ⟨⟨hok, fun _ => ⟨by omega, by omega⟩⟩, h⟩, fun h => h.2⟩
        · refine ⟨b, ev_succ ?_, ?_⟩
          · simp only [impl_TermsValid.l0, if_pos hlt, if_pos (show (0 : Int) ≤ i by omega), impl_within_eq, bsome, decide_eq_true_eq, if_pos k1, decide_eq_true k2, Bool.not_true]
            refine ev_succ ?_
            simp only [impl_TermsValid.j1, if_neg (show ¬ (false = true) by decide), if_neg (show ¬ (i : Int) > 0 by omega), e1]
            exact hb
          · rw [hb2]
            exact ⟨fun h => ⟨⟨hok, fun h' => absurd h' h0⟩, h⟩, fun h => h.2⟩
      · refine ⟨false, ev_succ ?_, ?_⟩
        · simp only [impl_TermsValid.l0, if_pos hlt, if_pos (show (0 : Int) ≤ i by omega), impl_within_eq, bsome, decide_eq_true_eq, if_pos k1, decide_eq_false k2, Bool.not_false]
          refine ev_succ ?_
          simp only [impl_TermsValid.j1, if_true]
          exact ev_some _
        · simp only [Bool.false_eq_true, false_iff]
          rintro ⟨⟨h3, _⟩, _⟩
          exact k2 ⟨h3.2.2.1, h3.2.2.2⟩
    · refine ⟨false, ev_succ ?_, ?_⟩
      · simp only [impl_TermsValid.l0, if_pos hlt, if_pos (show (0 : Int) ≤ i by omega), impl_within_eq, bsome, decide_eq_true_eq, if_neg k1]
        refine ev_succ ?_
        simp only [impl_TermsValid.j1, if_true]
        exact ev_some _
      · simp only [Bool.false_eq_true, false_iff]
        rintro ⟨⟨h3, _⟩, _⟩
        exact k1 ⟨h3.1, h3.2.1⟩
theorem implValid_ev (l : List Tm) (hl : l.length ≤ 1000000000000) : ∃ b, Ev (fun k => impl_TermsValid.f k l) b ∧ (b = true ↔ VT l) := by
  unfold impl_TermsValid.f
  by_cases h : (l.length : Int) > 8
  · refine ⟨false, ?_, ?_⟩
    · simp only [if_pos h]; exact ev_some _
    · simp only [Bool.false_eq_true, false_iff]
      rintro ⟨h2, _⟩
      omega
  · obtain ⟨b, hb, hb2⟩ := implValid_loop l hl l.length 0 (by omega) (by omega)
    refine ⟨b, ?_, ?_⟩
    · simp only [if_neg h]; exact hb
    · rw [hb2]
      exact ⟨fun h' => ⟨by omega, h'⟩, fun h' => h'.2⟩
theorem specValid_loop (l : List Tm) (hl : l.length ≤ 1000000000000) : ∀ (d i : Nat), l.length - i = d → i ≤ l.length → ∃ b, Ev (fun k => spec_TermsValid.l0 k l (i : Int)) b ∧ (b = true ↔ (l.length ≤ 8 ∧ VF l i)) := by
  intro d
  induction d with
  | zero =>
    intro i hd hi
    refine ⟨decide ((l.length : Int) ≤ 8), ev_succ ?_, ?_⟩
    · simp only [spec_TermsValid.l0, if_neg (show ¬ (i : Int) < (l.length : Int) by omega)]
      exact ev_some _
    · simp only [decide_eq_true_eq]
      exact ⟨fun h => ⟨by omega, VF_end (by omega)⟩, fun h => by have := h.1; omega⟩
  | succ d ih =>
    intro i hd hi
    have hlt : (i : Int) < (l.length : Int) := by omega
    obtain ⟨b, hb, hb2⟩ := ih (i + 1) (by omega) (by omega)
    have e1 : wrap64 ((i : Int) + 1) = ((i + 1 : Nat) : Int) := by rw [wrap_id (by omega) (by omega)]; omega
    rw [VF_step (show i < l.length by omega)]
    by_cases k1 : 0 ≤ (rt l i).f0 ∧ (rt l i).f0 ≤ 999
    · by_cases k2 : 0 ≤ (rt l i).f1 ∧ (rt l i).f1 ≤ 99999
      · have hok : okT (rt l i) := ⟨k1.1, k1.2, k2.1, k2.2⟩
        by_cases h0 : 0 < i
        · have e2 : wrap64 ((i : Int) - 1) = (i : Int) - 1 := wrap_id (by omega) (by omega)
          by_cases k3 : (rt l ((i : Int) - 1)).f0 ≥ (rt l i).f0
          · refine ⟨false, ev_succ ?_, ?_⟩
            · simp only [spec_TermsValid.l0, if_pos hlt, if_pos (show (0 : Int) ≤ i by omega), spec_l6In_eq, bsome, decide_eq_true_eq, if_pos k1, if_pos k2, if_pos (show (i : Int) > 0 by omega), e2, if_pos (show 0 ≤ (i : Int) - 1 by omega), if_pos (show (i : Int) - 1 < (l.length : Int) by omega), if_pos k3]
              exact ev_some _
            · simp only [Bool.false_eq_true, false_iff]
              rintro ⟨_, ⟨_, h3⟩, _⟩
              have := (h3 h0).1
              omega
          · by_cases k4 : (rt l ((i : Int) - 1)).f1 ≥ (rt l i).f1
            · refine ⟨false, ev_succ ?_, ?_⟩
              · simp only [spec_TermsValid.l0, if_pos hlt, if_pos (show (0 : Int) ≤ i by omega), spec_l6In_eq, bsome, decide_eq_true_eq, if_pos k1, if_pos k2, if_pos (show (i : Int) > 0 by omega), e2, if_pos (show 0 ≤ (i : Int) - 1 by omega), if_pos (show (i : Int) - 1 < (l.length : Int) by omega), if_neg k3, if_pos k4]
                exact ev_some _
              · simp only [Bool.false_eq_true, false_iff]
                rintro ⟨_, ⟨_, h3⟩, _⟩
                have := (h3 h0).2
                omega
            · refine ⟨b, ev_succ ?_, ?_⟩
              · simp only [spec_TermsValid.l0, if_pos hlt, if_pos (show (0 : Int) ≤ i by omega), spec_l6In_eq, bsome, decide_eq_true_eq, if_pos k1, if_pos k2, if_pos (show (i : Int) > 0 by omega), e2, if_pos (show 0 ≤ (i : Int) - 1 by omega), if_pos (show (i : Int) - 1 < (l.length : Int) by omega), if_neg k3, if_neg k4, e1]
                exact hb
              · rw [hb2]
                exact ⟨fun h => ⟨h.1, ⟨hok, fun _ => ⟨by omega, by omega⟩⟩, h.2⟩, fun h => ⟨h.1, h.2.2⟩⟩
        · refine ⟨b, ev_succ ?_, ?_⟩
          · simp only [spec_TermsValid.l0, if_pos hlt, if_pos (show (0 : Int) ≤ i by omega), spec_l6In_eq, bsome, decide_eq_true_eq, if_pos k1, if_pos k2, if_neg (show ¬ (i : Int) > 0 by omega), e1]
            exact hb
          · rw [hb2]
            exact ⟨fun h => ⟨h.1, ⟨hok, fun h' => absurd h' h0⟩, h.2⟩, fun h => ⟨h.1, h.2.2⟩⟩
      · refine ⟨false, ev_succ ?_, ?_⟩
        · simp only [spec_TermsValid.l0, if_pos hlt, if_pos (show (0 : Int) ≤ i by omega), spec_l6In_eq, bsome, decide_eq_true_eq, if_pos k1, if_neg k2]
          exact ev_some _
        · simp only [Bool.false_eq_true, false_iff]
          rintro ⟨_, ⟨h3, _⟩, _⟩
          exact k2 ⟨h3.2.2.1, h3.2.2.2⟩
    · refine ⟨false, ev_succ ?_, ?_⟩
      · simp only [spec_TermsValid.l0, if_pos hlt, if_pos (show (0 : Int) ≤ i by omega), spec_l6In_eq, bsome, decide_eq_true_eq, if_neg k1]
        exact ev_some _
      · simp only [Bool.false_eq_true, false_iff]
        rintro ⟨_, ⟨h3, _⟩, _⟩
        exact k1 ⟨h3.1, h3.2.1⟩
theorem specValid_ev (l : List Tm) (hl : l.length ≤ 1000000000000) : ∃ b, Ev (fun k => spec_TermsValid.f k l) b ∧ (b = true ↔ VT l) := by
  unfold spec_TermsValid.f
  exact specValid_loop l hl l.length 0 (by omega) (by omega)
open Classical in
noncomputable def vt (l : List Tm) : Bool := decide (VT l)
theorem vt_iff (l : List Tm) : vt l = true ↔ VT l := by unfold vt; simp
theorem vt_of {b : Bool} {l : List Tm} (h : b = true ↔ VT l) : b = vt l := by
  rw [Bool.eq_iff_iff, h, vt_iff]
theorem implValid (l : List Tm) (hl : l.length ≤ 1000000000000) : Ev (fun k => impl_TermsValid.f k l) (vt l) := by
  obtain ⟨b, hb, h⟩ := implValid_ev l hl
  rw [← vt_of h]; exact hb
theorem specValid (l : List Tm) (hl : l.length ≤ 1000000000000) : Ev (fun k => spec_TermsValid.f k l) (vt l) := by
  obtain ⟨b, hb, h⟩ := specValid_ev l hl
  rw [← vt_of h]; exact hb
end Go.Proofs.Ytamncgpajkoiaaa.Q
namespace Go.Proofs.Ytamncgpajkoiaaa.Q
open Go.RowKit Go.Proofs.Ytamncgpajkoiaaa.T Go.Proofs.YtamncgpajkoiaaaW.PrintWords Go.Proofs.YtamncgpajkoiaaaW.PrintLast
set_option linter.unusedVariables false
set_option linter.unusedSimpArgs false
theorem ltT_trans {a b c : Tm} (h : ltT a b) (h' : ltT b c) : ltT a c := ⟨Int.lt_trans h.1 h'.1, Int.lt_trans h.2 h'.2⟩
theorem VT_iff (l : List Tm) : VT l ↔ l.length ≤ 8 ∧ (∀ t ∈ l, okT t) ∧ l.Pairwise ltT := by
  constructor
  · rintro ⟨h8, hv⟩
    refine ⟨h8, ?_, pairwise_of_next (R := ltT) (fun _ _ _ => ltT_trans) ?_⟩
    · intro t ht
      obtain ⟨j, hj, rfl⟩ := List.getElem_of_mem ht
      have := (hv j (Nat.zero_le _) hj).1
      rwa [rt_nat l j hj] at this
    · intro j hj
      have := (hv (j + 1) (Nat.zero_le _) hj).2 (by omega)
      rw [rt_nat l (j + 1) hj] at this
      rw [show ((j + 1 : Nat) : Int) - 1 = (j : Int) by omega, rt_nat l j (by omega)] at this
      exact this
  · rintro ⟨h8, hok, hp⟩
    refine ⟨h8, fun j _ hj => ⟨?_, fun h0 => ?_⟩⟩
    · rw [rt_nat l j hj]
      exact hok _ (List.getElem_mem hj)
    · obtain ⟨i, rfl⟩ : ∃ i, j = i + 1 := ⟨j - 1, by omega⟩
      rw [rt_nat l (i + 1) hj, show ((i + 1 : Nat) : Int) - 1 = (i : Int) by omega, rt_nat l i (by omega)]
      exact next_of_pairwise hp i hj
end Go.Proofs.Ytamncgpajkoiaaa.Q
namespace Go.Proofs.Ytamncgpajkoiaaa.T
open Go.RowKit Go.Proofs.YtamncgpajkoiaaaW.PrintWords Go.Proofs.YtamncgpajkoiaaaW.PrintLast Go.Proofs.YtamncgpajkoiaaaW.PrintMore

set_option linter.unusedVariables false
set_option linter.unusedSimpArgs false
end Go.Proofs.Ytamncgpajkoiaaa.T
namespace Go.Proofs.Ytamncgpajkoiaaa.T
open Go.RowKit Go.Proofs.YtamncgpajkoiaaaW.PrintWords Go.Proofs.YtamncgpajkoiaaaW.PrintLast Go.Proofs.YtamncgpajkoiaaaW.PrintMore

set_option linter.unusedVariables false
set_option linter.unusedSimpArgs false
end Go.Proofs.Ytamncgpajkoiaaa.T
namespace Go.Proofs.Ytamncgpajkoiaaa.T
open Go.RowKit Go.Proofs.YtamncgpajkoiaaaW.PrintWords Go.Proofs.YtamncgpajkoiaaaW.PrintLast Go.Proofs.YtamncgpajkoiaaaW.PrintMore

set_option linter.unusedVariables false
set_option linter.unusedSimpArgs false
attribute [local go_sem high] eqA37
end Go.Proofs.Ytamncgpajkoiaaa.T
namespace Go.Proofs.Ytamncgpajkoiaaa.Q
open Go.RowKit Go.Proofs.Ytamncgpajkoiaaa.T Go.Proofs.YtamncgpajkoiaaaW.PrintWords Go.Proofs.YtamncgpajkoiaaaW.PrintLast
theorem Tm_ext {a b : Tm} (h0 : a.f0 = b.f0) (h1 : a.f1 = b.f1) : a = b := by
  cases a
  cases b
  simp at h0 h1
  rw [h0, h1]
instance : DecidableEq Tm := fun a b => decidable_of_iff (a.f0 = b.f0 ∧ a.f1 = b.f1) ⟨fun h => Tm_ext h.1 h.2, fun h => by rw [h]; exact ⟨rfl, rfl⟩⟩
theorem drop_at {l : List Tm} {i : Nat} (h : i < l.length) : l.drop i = rt l i :: l.drop (i + 1) := by
  rw [List.drop_eq_getElem_cons h, rt_nat l i h]
end Go.Proofs.Ytamncgpajkoiaaa.Q
namespace Go.Proofs.Ytamncgpajkoiaaa.Q
open Go.RowKit Go.Proofs.Ytamncgpajkoiaaa.T Go.Proofs.YtamncgpajkoiaaaW.PrintWords Go.Proofs.YtamncgpajkoiaaaW.PrintLast
set_option linter.unusedVariables false
set_option linter.unusedSimpArgs false
abbrev Lm := S44
def toT (x : Lm) : Tm := ⟨x.f0, x.f1⟩
theorem rdL (l : List Lm) (j : Nat) (h : j < l.length) : rd_T44 l (j : Int) = l[j] := by
  unfold rd_T44
  rw [Int.toNat_natCast, List.getD_eq_getElem?_getD, List.getElem?_eq_getElem h]
  rfl
theorem szTerms (l : List Lm) (h : l.length ≤ maxLen) : (l.length ≤ 1048576 ∧ laws_szTermS.f l 1048576 = some (1048576 - (l.length : Int))) ∨ (1048576 < l.length ∧ laws_szTermS.f l 1048576 = some (-1)) := by
  unfold maxLen at h
  have e : wrap64 (1048576 - (l.length : Int)) = 1048576 - (l.length : Int) := wrap_id (by omega) (by omega)
  unfold laws_szTermS.f
  rw [e]
  by_cases hc : 1048576 - (l.length : Int) < 0
  · rw [if_pos hc]; exact .inr ⟨by omega, rfl⟩
  · rw [if_neg hc]; exact .inl ⟨by omega, rfl⟩
theorem set_mid {α : Type} (a : List α) (x y : α) (b : List α) (i : Nat) (h : i = a.length) : (a ++ x :: b).set i y = a ++ y :: b := by
  subst h
  simp
theorem toTerms_loop (l : List Lm) (hl : l.length ≤ 1048576) : ∀ (d i : Nat), l.length - i = d → i ≤ l.length → Ev (fun k => laws_toTermS.l0 k l ((l.map toT).take i ++ List.replicate (l.length - i) z37) (i : Int)) (l.map toT) := by
  intro d
  induction d with
  | zero =>
    intro i hd hi
    refine ev_succ ?_
    simp only [laws_toTermS.l0, if_neg (show ¬ (i : Int) < (l.length : Int) by omega)]
    rw [show l.length - i = 0 by omega, List.replicate_zero, List.append_nil, List.take_of_length_le (by simp; omega)]
    exact ev_some _
  | succ d ih =>
    intro i hd hi
    have hlt : (i : Int) < (l.length : Int) := by omega
    have e1 : wrap64 ((i : Int) + 1) = ((i + 1 : Nat) : Int) := by rw [wrap_id (by omega) (by omega)]; omega
    obtain ⟨m, hm⟩ : ∃ m, l.length - i = m + 1 := ⟨l.length - i - 1, by omega⟩
    have hlen : ((l.map toT).take i).length = i := by simp; omega
    have hset : ((l.map toT).take i ++ List.replicate (l.length - i) z37).set i (toT l[i]) = (l.map toT).take (i + 1) ++ List.replicate (l.length - (i + 1)) z37 := by
      rw [hm, List.replicate_succ, set_mid _ _ _ _ _ hlen.symm, show l.length - (i + 1) = m by omega, List.take_succ_eq_append_getElem (by simp; omega), List.append_assoc]
      simp
    refine ev_succ ?_
    simp only [laws_toTermS.l0, if_pos hlt, if_pos (show (0 : Int) ≤ i by omega), laws_toTerm.f, bsome, if_pos (show (i : Int) < ((((l.map toT).take i ++ List.replicate (l.length - i) z37).length : Nat) : Int) by simp; omega), e1, Int.toNat_natCast, rdL l i (by omega)]
    have := ih (i + 1) (by omega) (by omega)
    rw [← hset] at this
    exact this
theorem toTerms (l : List Lm) (hl : l.length ≤ 1048576) : Ev (fun k => laws_toTermS.f k l) (l.map toT) := by
  unfold laws_toTermS.f
  simp only [if_pos (show 0 ≤ (l.length : Int) by omega), Int.toNat_natCast, if_pos (show l.length ≤ 17592186044416 by omega)]
  have := toTerms_loop l hl l.length 0 (by omega) (by omega)
  simpa using this
theorem eqTerms_loop (a b : List Tm) (hl : a.length = b.length) (hs : a.length ≤ 1048576) : ∀ (d i : Nat), a.length - i = d → i ≤ a.length → Ev (fun k => laws_eqTermS.l0 k a b (i : Int)) (decide (a.drop i = b.drop i)) := by
  intro d
  induction d with
  | zero =>
    intro i hd hi
    rw [show a.drop i = [] from List.drop_eq_nil_of_le (by omega), show b.drop i = [] from List.drop_eq_nil_of_le (by omega)]
    refine ev_succ ?_
    simp only [laws_eqTermS.l0, if_neg (show ¬ (i : Int) < (a.length : Int) by omega), decide_true]
    exact ev_some _
  | succ d ih =>
    intro i hd hi
    have hlt : (i : Int) < (a.length : Int) := by omega
    have e1 : wrap64 ((i : Int) + 1) = ((i + 1 : Nat) : Int) := by rw [wrap_id (by omega) (by omega)]; omega
    rw [drop_at (show i < a.length by omega), drop_at (show i < b.length by omega)]
    refine ev_succ ?_
    simp only [laws_eqTermS.l0, if_pos hlt, if_pos (show (0 : Int) ≤ i by omega), if_pos (show (i : Int) < (b.length : Int) by omega), laws_eqTerm.f, e1]
    by_cases h0 : (rt a i).f0 = (rt b i).f0
    · by_cases h1 : (rt a i).f1 = (rt b i).f1
      · simp only [if_pos h0, if_pos h1, bsome, if_true]
        have := ih (i + 1) (by omega) (by omega)
        simpa [Tm_ext h0 h1] using this
      · have hne : ¬ rt a i = rt b i := fun h => h1 (by rw [h])
        simp only [if_pos h0, if_neg h1, bsome, Bool.false_eq_true, if_false]
        rw [decide_eq_false (by simp [hne])]
        exact ev_some _
    · have hne : ¬ rt a i = rt b i := fun h => h0 (by rw [h])
      simp only [if_neg h0, bsome, Bool.false_eq_true, if_false]
      rw [decide_eq_false (by simp [hne])]
      exact ev_some _
theorem eqTerms (a b : List Tm) (hs : a.length ≤ 1048576) : Ev (fun k => laws_eqTermS.f k a b) (decide (a = b)) := by
  unfold laws_eqTermS.f
  by_cases h : (a.length : Int) = (b.length : Int)
  · simp only [if_pos h]
    have := eqTerms_loop a b (by omega) hs a.length 0 (by omega) (by omega)
    simpa using this
  · simp only [if_neg h]
    rw [decide_eq_false (fun e => h (by rw [e]))]
    exact ev_some _
theorem eqTerms_self (a : List Tm) (hs : a.length ≤ 1048576) : Ev (fun k => laws_eqTermS.f k a a) true := by
  have := eqTerms a a hs
  rwa [decide_eq_true rfl] at this
end Go.Proofs.Ytamncgpajkoiaaa.Q
namespace Go.Proofs.Ytamncgpajkoiaaa.Q
open Go.RowKit Go.Proofs.Ytamncgpajkoiaaa.T Go.Proofs.YtamncgpajkoiaaaW.PrintWords Go.Proofs.YtamncgpajkoiaaaW.PrintLast
set_option linter.unusedVariables false
set_option linter.unusedSimpArgs false
def lastTm (l : List Tm) : Tm := rt l ((l.length : Int) - 1)
open Classical in
noncomputable def ve (l : List Tm) (e : Int) : Bool := vt l && decide (0 ≤ e ∧ e ≤ 100000 ∧ (l.length = 0 ∨ (lastTm l).f1 < e))
theorem implEndValid (l : List Tm) (e : Int) (hl : l.length ≤ 1000000000000) : Ev (fun k => impl_endValid.f k l e) (ve l e) := by
  unfold impl_endValid.f ve
  refine Ev.bind (implValid l hl) ?_
  by_cases hv : vt l = true
  · have e2 : wrap64 ((l.length : Int) - 1) = (l.length : Int) - 1 := wrap_id (by omega) (by omega)
    simp only [if_pos hv, impl_within_eq, bsome, decide_eq_true_eq, hv, Bool.true_and]
    by_cases h1 : 0 ≤ e ∧ e ≤ 100000
    · simp only [if_pos h1]
      by_cases h0 : l.length = 0
      · simp only [if_pos (show (l.length : Int) = 0 by omega)]
        rw [decide_eq_true ⟨h1.1, h1.2, .inl h0⟩]
        exact ev_some _
      · simp only [if_neg (show ¬ (l.length : Int) = 0 by omega), e2, if_pos (show 0 ≤ (l.length : Int) - 1 by omega), if_pos (show (l.length : Int) - 1 < (l.length : Int) by omega)]
        have : decide (e > (rt l ((l.length : Int) - 1)).f1) = decide (0 ≤ e ∧ e ≤ 100000 ∧ (l.length = 0 ∨ (lastTm l).f1 < e)) := by
          rw [decide_eq_decide]
          exact ⟨fun h => ⟨h1.1, h1.2, .inr h⟩, fun h => h.2.2.resolve_left h0⟩
        rw [← this]
        exact ev_some _
    · simp only [if_neg h1]
      rw [decide_eq_false (fun h => h1 ⟨h.1, h.2.1⟩)]
      exact ev_some _
  · have hv' : vt l = false := by simpa using hv
    simp only [if_neg hv, hv', Bool.false_and]
    exact ev_some _
theorem specOk (l : List Tm) (e : Int) (hl : l.length ≤ 1000000000000) : Ev (fun k => spec_l23Ok.f k l e) (ve l e) := by
  unfold spec_l23Ok.f ve
  refine Ev.bind (specValid l hl) ?_
  by_cases hv : vt l = true
  · have e2 : wrap64 ((l.length : Int) - 1) = (l.length : Int) - 1 := wrap_id (by omega) (by omega)
    simp only [if_pos hv, spec_l6In_eq, bsome, decide_eq_true_eq, hv, Bool.true_and]
    by_cases h1 : 0 ≤ e ∧ e ≤ 100000
    · simp only [if_pos h1]
      by_cases h0 : l.length = 0
      · simp only [if_pos (show (l.length : Int) = 0 by omega)]
        rw [decide_eq_true ⟨h1.1, h1.2, .inl h0⟩]
        exact ev_some _
      · simp only [if_neg (show ¬ (l.length : Int) = 0 by omega), e2, if_pos (show 0 ≤ (l.length : Int) - 1 by omega), if_pos (show (l.length : Int) - 1 < (l.length : Int) by omega)]
        have : decide ((rt l ((l.length : Int) - 1)).f1 < e) = decide (0 ≤ e ∧ e ≤ 100000 ∧ (l.length = 0 ∨ (lastTm l).f1 < e)) := by
          rw [decide_eq_decide]
          exact ⟨fun h => ⟨h1.1, h1.2, .inr h⟩, fun h => h.2.2.resolve_left h0⟩
        rw [← this]
        exact ev_some _
    · simp only [if_neg h1]
      rw [decide_eq_false (fun h => h1 ⟨h.1, h.2.1⟩)]
      exact ev_some _
  · have hv' : vt l = false := by simpa using hv
    simp only [if_neg hv, hv', Bool.false_and]
    exact ev_some _
theorem ve_vt {l : List Tm} {e : Int} (h : ve l e = true) : VT l ∧ 0 ≤ e ∧ e ≤ 100000 ∧ (l.length = 0 ∨ (lastTm l).f1 < e) := by
  unfold ve at h
  rw [Bool.and_eq_true, vt_iff] at h
  exact ⟨h.1, by simpa using h.2⟩
def atT (l : List Tm) (x : Int) : Int := impl_findTerm l x
theorem atT_cases (l : List Tm) (x : Int) : (atT l x = -1 ∧ ∀ j, j < l.length → (rt l j).f0 ≠ x) ∨ ∃ i : Nat, i < l.length ∧ atT l x = i ∧ (rt l i).f0 = x ∧ ∀ j, j < i → (rt l j).f0 ≠ x := by
  unfold atT impl_findTerm
  cases h : l.findIdx? (fun t => t.f0 == x) with
  | none =>
    refine .inl ⟨rfl, fun j hj => ?_⟩
    rw [List.findIdx?_eq_none_iff] at h
    have := h l[j] (List.getElem_mem hj)
    rw [rt_nat l j hj]
    simpa using this
  | some i =>
    rw [List.findIdx?_eq_some_iff_getElem] at h
    obtain ⟨hi, h1, h2⟩ := h
    refine .inr ⟨i, hi, rfl, ?_, fun j hj => ?_⟩
    · rw [rt_nat l i hi]; simpa using h1
    · rw [rt_nat l j (by omega)]
      have := h2 j hj
      simpa using this
theorem specAt_loop (l : List Tm) (x : Int) (hl : l.length ≤ 1000000000000) : ∀ (d i : Nat), l.length - i = d → i ≤ l.length → (∀ j, j < i → (rt l j).f0 ≠ x) → Ev (fun k => spec_l23At.l0 k l x (i : Int)) (atT l x) := by
  intro d
  induction d with
  | zero =>
    intro i hd hi hn
    refine ev_succ ?_
    simp only [spec_l23At.l0, if_neg (show ¬ (i : Int) < (l.length : Int) by omega)]
    rcases atT_cases l x with ⟨h, _⟩ | ⟨j, hj, h, h1, _⟩
    · rw [h]; exact ev_some _
    · exact absurd h1 (hn j (by omega))
  | succ d ih =>
    intro i hd hi hn
    have e1 : wrap64 ((i : Int) + 1) = ((i + 1 : Nat) : Int) := by rw [wrap_id (by omega) (by omega)]; omega
    refine ev_succ ?_
    by_cases h : (rt l i).f0 = x
    · simp only [spec_l23At.l0, if_pos (show (i : Int) < (l.length : Int) by omega), if_pos (show (0 : Int) ≤ i by omega), if_pos h]
      rcases atT_cases l x with ⟨_, h2⟩ | ⟨j, hj, h2, h3, h4⟩
      · exact absurd h (h2 i (by omega))
      · have : j = i := by
          rcases Nat.lt_trichotomy j i with h5 | h5 | h5
          · exact absurd h3 (hn j h5)
          · exact h5
          · exact absurd h (h4 i h5)
        rw [h2, this]
        exact ev_some _
    · simp only [spec_l23At.l0, if_pos (show (i : Int) < (l.length : Int) by omega), if_pos (show (0 : Int) ≤ i by omega), if_neg h, e1]
      refine ih (i + 1) (by omega) (by omega) (fun j hj => ?_)
      by_cases e : j = i
      · subst e; exact h
      · exact hn j (by omega)
theorem specAt (l : List Tm) (x : Int) (hl : l.length ≤ 1000000000000) : Ev (fun k => spec_l23At.f k l x) (atT l x) := by
  unfold spec_l23At.f
  exact specAt_loop l x hl l.length 0 (by omega) (by omega) (fun j hj => by omega)
def endT (l : List Tm) (i : Int) (e : Int) : Int := if i + 1 < (l.length : Int) then (rt l (i + 1)).f1 else e
theorem specEnd (l : List Tm) (i e : Int) (h0 : 0 ≤ i) (h1 : i ≤ 1000000000000) : spec_l23End.f l i e = some (endT l i e) := by
  unfold spec_l23End.f endT
  rw [wrap_id (by omega) (by omega)]
  by_cases h : i + 1 < (l.length : Int)
  · rw [if_pos h, if_pos (by omega), if_pos h]
  · rw [if_neg h, if_neg h]
end Go.Proofs.Ytamncgpajkoiaaa.Q
