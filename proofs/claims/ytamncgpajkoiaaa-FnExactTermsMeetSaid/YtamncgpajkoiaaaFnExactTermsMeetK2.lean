/- FnExactTermsMeet, part 3 of 4: merged by wip/tools/pack.py out of the texts that the row reaches; the pure statement is the session's own. -/
import Derived.RangeFuncNested
import Derived.RangeFuncBound
import Derived.RangeFuncCalls
import Derived.RangeFuncLeaves
import Derived.Shelf.Abstract
import Derived.Shelf.RegionOpen
import Derived.WalkKit
import Derived.OwnWalkIn
import Derived.TacticsInMore
import Derived.LoopNIn
import Derived.LoopIn
import Derived.Deep.Slices
import Derived.ChangeArms
import Derived.ProofKit
import Derived.RowKit
import Derived.Test.YtamncgpajkoiaaaFnExactTermsMeetK1
namespace Go.Proofs.Ytamncgpajkoiaaa.T
open Go.RowKit Go.Proofs.YtamncgpajkoiaaaW.PrintWords Go.Proofs.YtamncgpajkoiaaaW.PrintLast Go.Proofs.YtamncgpajkoiaaaW.PrintMore

set_option linter.unusedVariables false
set_option linter.unusedSimpArgs false
def spec_l23Ok.f (k : Nat) (l0 : List (S37)) (a1 : Int) : Option (Bool) := (spec_TermsValid.f k l0).bind fun t331 => (if t331 = true then ((spec_l6In.f a1 0 100000).bind fun t332 => (if t332 = true then (if (l0.length : Int) = 0 then (some true) else (if 0 ≤ (wrap64 ((l0.length : Int) - 1)) then (if (wrap64 ((l0.length : Int) - 1)) < (l0.length : Int) then (some (decide (((rd_T37 l0 (wrap64 ((l0.length : Int) - 1))).f1) < a1))) else (none)) else (none))) else (some false))) else (some false))
theorem spec_l23Ok.mono : ∀ a0 a1 k, LeO (spec_l23Ok.f k a0 a1) (spec_l23Ok.f (k + 1) a0 a1) := by
  intro a0 a1 k
  unfold spec_l23Ok.f
  repeat' first
      | (with_reducible exact spec_TermsValid.mono _ _)
      | (with_reducible exact LeO.refl _)
      | (with_reducible exact LeO.none _)
      | (with_reducible refine LeO.ite ?_ ?_)
      | (with_reducible refine LeO.bind ?_ (fun _ => ?_))
      | exact spec_TermsValid.mono _ _
      | exact LeO.none _
      | refine LeO.ite ?_ ?_
      | refine LeO.bind ?_ (fun _ => ?_)
set_option maxHeartbeats 8000000 in
set_option maxRecDepth 100000 in
theorem spec_l23Ok.calls (k : Nat) (A0 : Option Addr) (c0 : Nat) (l0 : List (S37)) (a1 : Int) (r : Bool) (w : World) (hr0 : Kd.C k37 w A0 l0.length l0) (hc0 : l0.length ≤ c0) (h : spec_l23Ok.f k l0 a1 = some r) :
    Calls Try.prog 50 #[.slice A0 l0.length c0, .int .i64 a1] w fun e w' => e = .returned (.bool r) ∧ Below w.heap.size w w' := by
  have HR0 := Aside0.mk hr0
  have HC0 := Aside0.mk hc0
  clear hr0 hc0
  have HB := Aside0.mk (Below.refl w.heap.size w)
  have H : ((spec_TermsValid.f k l0).bind fun t331 => (if t331 = true then ((spec_l6In.f a1 0 100000).bind fun t332 => (if t332 = true then (if (l0.length : Int) = 0 then (some true) else (if 0 ≤ (wrap64 ((l0.length : Int) - 1)) then (if (wrap64 ((l0.length : Int) - 1)) < (l0.length : Int) then (some (decide (((rd_T37 l0 (wrap64 ((l0.length : Int) - 1))).f1) < a1))) else (none)) else (none))) else (some false))) else (some false))) = some r := h
  clear h
  replace H := Option.bind_eq_some_iff.mp H
  obtain ⟨t331, A30, H⟩ := H
  replace H : (if t331 = true then ((spec_l6In.f a1 0 100000).bind fun t332 => (if t332 = true then (if (l0.length : Int) = 0 then (some true) else (if 0 ≤ (wrap64 ((l0.length : Int) - 1)) then (if (wrap64 ((l0.length : Int) - 1)) < (l0.length : Int) then (some (decide (((rd_T37 l0 (wrap64 ((l0.length : Int) - 1))).f1) < a1))) else (none)) else (none))) else (some false))) else (some false)) = some r := H
  have A3 := Aside0.mk A30
  clear A30
  by_cases c4 : t331 = true
  · subst c4
    have H1 : ((spec_l6In.f a1 0 100000).bind fun t332 => (if t332 = true then (if (l0.length : Int) = 0 then (some true) else (if 0 ≤ (wrap64 ((l0.length : Int) - 1)) then (if (wrap64 ((l0.length : Int) - 1)) < (l0.length : Int) then (some (decide (((rd_T37 l0 (wrap64 ((l0.length : Int) - 1))).f1) < a1))) else (none)) else (none))) else (some false))) = some r := by rw [if_pos rfl] at H; exact H
    clear H
    have H := H1
    clear H1
    replace H := Option.bind_eq_some_iff.mp H
    obtain ⟨t332, A50, H⟩ := H
    replace H : (if t332 = true then (if (l0.length : Int) = 0 then (some true) else (if 0 ≤ (wrap64 ((l0.length : Int) - 1)) then (if (wrap64 ((l0.length : Int) - 1)) < (l0.length : Int) then (some (decide (((rd_T37 l0 (wrap64 ((l0.length : Int) - 1))).f1) < a1))) else (none)) else (none))) else (some false)) = some r := H
    have A5 := Aside0.mk A50
    clear A50
    by_cases c6 : t332 = true
    · subst c6
      have H1 : (if (l0.length : Int) = 0 then (some true) else (if 0 ≤ (wrap64 ((l0.length : Int) - 1)) then (if (wrap64 ((l0.length : Int) - 1)) < (l0.length : Int) then (some (decide (((rd_T37 l0 (wrap64 ((l0.length : Int) - 1))).f1) < a1))) else (none)) else (none))) = some r := by rw [if_pos rfl] at H; exact H
      clear H
      have H := H1
      clear H1
      by_cases c7 : (l0.length : Int) = 0
      · rw [if_pos c7] at H
        have c7b0 : ((l0.length : Int) == 0) = true := beq_iff_eq.mpr c7
        have c7b1 : ((l0.length : Int) != 0) = false := bne_eq_false_iff_eq.mpr c7
        clear c7
        obtain rfl := Option.some.inj H
        go_enter Try.func50, Try.ntmps50
        go_wp2_with (first | ((with_reducible refine gate_callee (f := 21) rfl ?_); refine goesL_ (some 6) rfl rfl Try.func21 (by kernel_rfl) rfl #[.slice A0 l0.length c0] rfl (by (try simp only [List.map_toArray, List.map_cons, List.map_nil]); first | done | rfl | (simp only [List.length_drop, List.length_take]; rfl)) ?_; (with_reducible refine (spec_TermsValid.calls k _ _ l0 true _ ?side1 ?side2 A3.out).mono ?_); (case side1 => repeat (first | exact HR0.out | (with_reducible refine Kd.C_alloc ?_ _) | (with_reducible refine Kd.C_drewN ?_ _) | (with_reducible refine Kd.C_drew ?_))); (case side2 => exact HC0.out); rintro e w8 ⟨rfl, hb⟩; refine ⟨_, rfl, ?_⟩; have n0_ := Aside0.mk (below_step (by repeat (first | (with_reducible first | exact HB.out | apply below_alloc | apply pw_below_drewN | apply below_drew1) | exact HB.out)) hb); clear HB; have HB := n0_; clear n0_; (try clear hb); (try clear hb2); (try clear hk); (try clear hi)) | (go_at_call 44; (with_reducible refine (spec_l6In.calls a1 0 100000 true _ A5.out).mono ?_); rintro e w' ⟨rfl, ⟨nd, rfl⟩⟩))
        go_ret
        exact ⟨by first | rfl | (simp [errW_none, errW_some] <;> rfl) | (simp [*, errW_none, errW_some] <;> rfl), by repeat (first | (with_reducible first | exact HB.out | apply below_alloc | apply pw_below_drewN | apply below_drew1) | exact HB.out)⟩
      · rw [if_neg c7] at H
        have c7b0 : ((l0.length : Int) == 0) = false := beq_eq_false_iff_ne.mpr c7
        have c7b1 : ((l0.length : Int) != 0) = true := bne_iff_ne.mpr c7
        have c7b2 : ¬ (l0 = []) := fun h_ => c7 (by rw [h_]; rfl)
        obtain ⟨ji9, hji9⟩ : ∃ j_ : Int, (wrap64 ((l0.length : Int) - 1)) = j_ := ⟨_, rfl⟩
        replace H : (if 0 ≤ (ji9) then (if (ji9) < (l0.length : Int) then (some (decide (((rd_T37 l0 (ji9)).f1) < a1))) else (none)) else (none)) = some r := by first | (rw [hji9] at H; exact H) | (simp only [hji9] at H ⊢; exact H)
        (try rw [hji9] at A3)
        (try rw [hji9] at A5)
        have hji9w : (IntKind.i64.wrap ((l0.length : Int) - 1)) = ji9 := (i64_w _).trans hji9
        by_cases c10 : 0 ≤ (ji9)
        · rw [if_pos c10] at H
          have c10b0 : decide (0 ≤ (ji9)) = true := decide_eq_true c10
          clear c10
          by_cases c11 : (ji9) < (l0.length : Int)
          · rw [if_pos c11] at H
            have c11b0 : decide ((ji9) < (l0.length : Int)) = true := decide_eq_true c11
            clear c11
            obtain rfl := Option.some.inj H
            go_enter Try.func50, Try.ntmps50
            go_wp2_with (first | ((with_reducible refine gate_callee (f := 21) rfl ?_); refine goesL_ (some 6) rfl rfl Try.func21 (by kernel_rfl) rfl #[.slice A0 l0.length c0] rfl (by (try simp only [List.map_toArray, List.map_cons, List.map_nil]); first | done | rfl | (simp only [List.length_drop, List.length_take]; rfl)) ?_; (with_reducible refine (spec_TermsValid.calls k _ _ l0 true _ ?side1 ?side2 A3.out).mono ?_); (case side1 => repeat (first | exact HR0.out | (with_reducible refine Kd.C_alloc ?_ _) | (with_reducible refine Kd.C_drewN ?_ _) | (with_reducible refine Kd.C_drew ?_))); (case side2 => exact HC0.out); rintro e w12 ⟨rfl, hb⟩; refine ⟨_, rfl, ?_⟩; have n0_ := Aside0.mk (below_step (by repeat (first | (with_reducible first | exact HB.out | apply below_alloc | apply pw_below_drewN | apply below_drew1) | exact HB.out)) hb); clear HB; have HB := n0_; clear n0_; (try clear hb); (try clear hb2); (try clear hk); (try clear hi)) | (go_at_call 44; (with_reducible refine (spec_l6In.calls a1 0 100000 true _ A5.out).mono ?_); rintro e w' ⟨rfl, ⟨nd, rfl⟩⟩; have p333 : 0 ≤ ((ji9) : Int) := of_decide_eq_true (by first | (with_reducible assumption) | assumption); have q333 : (ji9) < (l0.length : Int) := of_decide_eq_true (by first | (with_reducible assumption) | assumption); obtain ⟨ad333, e333, hx333_0, hx333_1⟩ := at_T37 HR0.out (ji9) p333 q333; cases e333; replace hx333_0 := (HB.out.cell (World.block_lt_of_cell? w _ hx333_0)).trans hx333_0; replace hx333_1 := (HB.out.cell (World.block_lt_of_cell? w _ hx333_1)).trans hx333_1; replace p333 := eq_true p333; replace q333 := eq_true q333))
            go_ret
            exact ⟨by first | rfl | (simp [errW_none, errW_some] <;> rfl) | (simp only [← hji9]; first | rfl | (simp [errW_none, errW_some] <;> rfl)) | (simp [*, errW_none, errW_some] <;> rfl), by repeat (first | (with_reducible first | exact HB.out | apply below_alloc | apply pw_below_drewN | apply below_drew1) | exact HB.out)⟩
          · rw [if_neg c11] at H
            exact absurd H (by simp)
        · rw [if_neg c10] at H
          exact absurd H (by simp)
    · replace c6 := Bool.eq_false_iff.mpr c6
      subst c6
      have H1 : (some false) = some r := by rw [if_neg (show ¬ (false = true) by decide)] at H; exact H
      clear H
      have H := H1
      clear H1
      obtain rfl := Option.some.inj H
      go_enter Try.func50, Try.ntmps50
      go_wp2_with (first | ((with_reducible refine gate_callee (f := 21) rfl ?_); refine goesL_ (some 6) rfl rfl Try.func21 (by kernel_rfl) rfl #[.slice A0 l0.length c0] rfl (by (try simp only [List.map_toArray, List.map_cons, List.map_nil]); first | done | rfl | (simp only [List.length_drop, List.length_take]; rfl)) ?_; (with_reducible refine (spec_TermsValid.calls k _ _ l0 true _ ?side1 ?side2 A3.out).mono ?_); (case side1 => repeat (first | exact HR0.out | (with_reducible refine Kd.C_alloc ?_ _) | (with_reducible refine Kd.C_drewN ?_ _) | (with_reducible refine Kd.C_drew ?_))); (case side2 => exact HC0.out); rintro e w13 ⟨rfl, hb⟩; refine ⟨_, rfl, ?_⟩; have n0_ := Aside0.mk (below_step (by repeat (first | (with_reducible first | exact HB.out | apply below_alloc | apply pw_below_drewN | apply below_drew1) | exact HB.out)) hb); clear HB; have HB := n0_; clear n0_; (try clear hb); (try clear hb2); (try clear hk); (try clear hi)) | (go_at_call 44; (with_reducible refine (spec_l6In.calls a1 0 100000 false _ A5.out).mono ?_); rintro e w' ⟨rfl, ⟨nd, rfl⟩⟩))
      go_ret
      exact ⟨by first | rfl | (simp [errW_none, errW_some] <;> rfl) | (simp [*, errW_none, errW_some] <;> rfl), by repeat (first | (with_reducible first | exact HB.out | apply below_alloc | apply pw_below_drewN | apply below_drew1) | exact HB.out)⟩
  · replace c4 := Bool.eq_false_iff.mpr c4
    subst c4
    have H1 : (some false) = some r := by rw [if_neg (show ¬ (false = true) by decide)] at H; exact H
    clear H
    have H := H1
    clear H1
    obtain rfl := Option.some.inj H
    go_enter Try.func50, Try.ntmps50
    go_wp2_with (first | ((with_reducible refine gate_callee (f := 21) rfl ?_); refine goesL_ (some 6) rfl rfl Try.func21 (by kernel_rfl) rfl #[.slice A0 l0.length c0] rfl (by (try simp only [List.map_toArray, List.map_cons, List.map_nil]); first | done | rfl | (simp only [List.length_drop, List.length_take]; rfl)) ?_; (with_reducible refine (spec_TermsValid.calls k _ _ l0 false _ ?side1 ?side2 A3.out).mono ?_); (case side1 => repeat (first | exact HR0.out | (with_reducible refine Kd.C_alloc ?_ _) | (with_reducible refine Kd.C_drewN ?_ _) | (with_reducible refine Kd.C_drew ?_))); (case side2 => exact HC0.out); rintro e w14 ⟨rfl, hb⟩; refine ⟨_, rfl, ?_⟩; have n0_ := Aside0.mk (below_step (by repeat (first | (with_reducible first | exact HB.out | apply below_alloc | apply pw_below_drewN | apply below_drew1) | exact HB.out)) hb); clear HB; have HB := n0_; clear n0_; (try clear hb); (try clear hb2); (try clear hk); (try clear hi)))
    go_ret
    exact ⟨by first | rfl | (simp [errW_none, errW_some] <;> rfl) | (simp [*, errW_none, errW_some] <;> rfl), by repeat (first | (with_reducible first | exact HB.out | apply below_alloc | apply pw_below_drewN | apply below_drew1) | exact HB.out)⟩
def spec_l23End.f (l0 : List (S37)) (a1 : Int) (a2 : Int) : Option (Int) := if (wrap64 (a1 + 1)) < (l0.length : Int) then (if 0 ≤ (wrap64 (a1 + 1)) then (some ((rd_T37 l0 (wrap64 (a1 + 1))).f1)) else (none)) else (some a2)
set_option maxHeartbeats 8000000 in
set_option maxRecDepth 100000 in
theorem spec_l23End.calls (A0 : Option Addr) (c0 : Nat) (l0 : List (S37)) (a1 : Int) (a2 : Int) (r : Int) (w : World) (hr0 : Kd.C k37 w A0 l0.length l0) (hc0 : l0.length ≤ c0) (h : spec_l23End.f l0 a1 a2 = some r) :
    Calls Try.prog 51 #[.slice A0 l0.length c0, .int .i64 a1, .int .i64 a2] w fun e w' => e = .returned (.int .i64 r) ∧ Drawn0 w w' := by
  have HR0 := Aside0.mk hr0
  have HC0 := Aside0.mk hc0
  clear hr0 hc0
  have H : (if (wrap64 (a1 + 1)) < (l0.length : Int) then (if 0 ≤ (wrap64 (a1 + 1)) then (some ((rd_T37 l0 (wrap64 (a1 + 1))).f1)) else (none)) else (some a2)) = some r := h
  clear h
  by_cases c4 : (wrap64 (a1 + 1)) < (l0.length : Int)
  · rw [if_pos c4] at H
    have c4b0 : decide ((wrap64 (a1 + 1)) < (l0.length : Int)) = true := decide_eq_true c4
    clear c4
    obtain ⟨ji5, hji5⟩ : ∃ j_ : Int, (wrap64 (a1 + 1)) = j_ := ⟨_, rfl⟩
    replace H : (if 0 ≤ (ji5) then (some ((rd_T37 l0 (ji5)).f1)) else (none)) = some r := by first | (rw [hji5] at H; exact H) | (simp only [hji5] at H ⊢; exact H)
    (try rw [hji5] at c4b0)
    have hji5w : (IntKind.i64.wrap (a1 + 1)) = ji5 := (i64_w _).trans hji5
    by_cases c6 : 0 ≤ (ji5)
    · rw [if_pos c6] at H
      have c6b0 : decide (0 ≤ (ji5)) = true := decide_eq_true c6
      clear c6
      obtain rfl := Option.some.inj H
      have p334 : 0 ≤ ((ji5) : Int) := of_decide_eq_true (by first | (with_reducible assumption) | assumption)
      have q334 : (ji5) < (l0.length : Int) := of_decide_eq_true (by first | (with_reducible assumption) | assumption)
      obtain ⟨ad334, e334, hx334_0, hx334_1⟩ := at_T37 HR0.out (ji5) p334 q334
      cases e334
      replace p334 := eq_true p334
      replace q334 := eq_true q334
      go_enter Try.func51, Try.ntmps51
      go_wp2
      go_ret
      exact ⟨by first | rfl | (simp; done) | (simp only [← hji5] <;> (first | rfl | simp)) | (simp [*]; done), by repeat (first | exact Drawn0.refl _ | apply Drawn0.step)⟩
    · rw [if_neg c6] at H
      exact absurd H (by simp)
  · rw [if_neg c4] at H
    have c4b0 : decide ((wrap64 (a1 + 1)) < (l0.length : Int)) = false := decide_eq_false c4
    clear c4
    obtain rfl := Option.some.inj H
    go_enter Try.func51, Try.ntmps51
    go_wp2
    go_ret
    exact ⟨by first | rfl | (simp; done) | (simp [*]; done), by repeat (first | exact Drawn0.refl _ | apply Drawn0.step)⟩
end Go.Proofs.Ytamncgpajkoiaaa.T
namespace Go.Proofs.Ytamncgpajkoiaaa.T
open Go.RowKit Go.Proofs.YtamncgpajkoiaaaW.PrintWords Go.Proofs.YtamncgpajkoiaaaW.PrintLast Go.Proofs.YtamncgpajkoiaaaW.PrintMore

set_option linter.unusedVariables false
set_option linter.unusedSimpArgs false
mutual
def spec_TermsMeet.j0 : Nat → List (S37) → Int → List (S37) → Int → Bool → Option (Int)
  | 0, _, _, _, _, _ => none
  | k + 1, x0, x1, x2, x3, x21 => if x21 = true then (some (-1)) else (spec_TermsMeet.l0 k x0 x1 x2 x3 0 0)
def spec_TermsMeet.l0 : Nat → List (S37) → Int → List (S37) → Int → Int → Int → Option (Int)
  | 0, _, _, _, _, _, _ => none
  | k + 1, x0, x1, x2, x3, x9, x10 => if x10 < (x0.length : Int) then (if 0 ≤ x10 then ((spec_l23At.f k x2 ((rd_T37 x0 x10).f0)).bind fun t392 => (if t392 ≥ 0 then (if 0 ≤ t392 then (if t392 < (x2.length : Int) then (spec_TermsMeet.j2 k x0 x1 x2 x3 x9 x10 t392 (((rd_T37 x2 t392).f1) == ((rd_T37 x0 x10).f1))) else (none)) else (none)) else (spec_TermsMeet.j2 k x0 x1 x2 x3 x9 x10 t392 false))) else (none)) else (some x9)
def spec_TermsMeet.j2 : Nat → List (S37) → Int → List (S37) → Int → Int → Int → Int → Bool → Option (Int)
  | 0, _, _, _, _, _, _, _, _ => none
  | k + 1, x0, x1, x2, x3, x9, x10, x11, x49 => if x49 = true then ((spec_l23End.f x0 x10 x1).bind fun t395 => ((spec_l23End.f x2 x11 x3).bind fun t396 => (spec_TermsMeet.l0 k x0 x1 x2 x3 (mn t395 t396) (wrap64 (x10 + 1))))) else (spec_TermsMeet.l0 k x0 x1 x2 x3 x9 (wrap64 (x10 + 1)))
end
def spec_TermsMeet.f (k : Nat) (l0 : List (S37)) (a1 : Int) (l2 : List (S37)) (a3 : Int) : Option (Int) := (spec_l23Ok.f k l0 a1).bind fun t389 => (if t389 = true then ((spec_l23Ok.f k l2 a3).bind fun t390 => (spec_TermsMeet.j0 k l0 a1 l2 a3 (!t390))) else (spec_TermsMeet.j0 k l0 a1 l2 a3 true))
theorem spec_TermsMeet.mono_l : ∀ k, (∀ y0 y1 y2 y3 y4, LeO (spec_TermsMeet.j0 k y0 y1 y2 y3 y4) (spec_TermsMeet.j0 (k + 1) y0 y1 y2 y3 y4)) ∧ (∀ y0 y1 y2 y3 y4 y5, LeO (spec_TermsMeet.l0 k y0 y1 y2 y3 y4 y5) (spec_TermsMeet.l0 (k + 1) y0 y1 y2 y3 y4 y5)) ∧ (∀ y0 y1 y2 y3 y4 y5 y6 y7, LeO (spec_TermsMeet.j2 k y0 y1 y2 y3 y4 y5 y6 y7) (spec_TermsMeet.j2 (k + 1) y0 y1 y2 y3 y4 y5 y6 y7))
  | 0 => ⟨fun _ _ _ _ _ r h => by simp [spec_TermsMeet.j0] at h, fun _ _ _ _ _ _ r h => by simp [spec_TermsMeet.l0] at h, fun _ _ _ _ _ _ _ _ r h => by simp [spec_TermsMeet.j2] at h⟩
  | k + 1 => by
    obtain ⟨ih0, ih1, ih2⟩ := spec_TermsMeet.mono_l k
    refine ⟨?_, ?_, ?_⟩
    · intro y0 y1 y2 y3 y4
      unfold spec_TermsMeet.j0
      repeat' first
      | (with_reducible exact ih0 _ _ _ _ _)
      | (with_reducible exact ih1 _ _ _ _ _ _)
      | (with_reducible exact ih2 _ _ _ _ _ _ _ _)
      | (with_reducible exact spec_l23At.mono _ _ _)
      | (with_reducible exact spec_l23Ok.mono _ _ _)
      | (with_reducible exact LeO.refl _)
      | (with_reducible exact LeO.none _)
      | (with_reducible refine LeO.ite ?_ ?_)
      | (with_reducible refine LeO.bind ?_ (fun _ => ?_))
      | exact ih0 _ _ _ _ _
      | exact ih1 _ _ _ _ _ _
      | exact ih2 _ _ _ _ _ _ _ _
      | exact spec_l23At.mono _ _ _
      | exact spec_l23Ok.mono _ _ _
      | exact LeO.none _
      | refine LeO.ite ?_ ?_
      | refine LeO.bind ?_ (fun _ => ?_)
    · intro y0 y1 y2 y3 y4 y5
      unfold spec_TermsMeet.l0
      repeat' first
      | (with_reducible exact ih0 _ _ _ _ _)
      | (with_reducible exact ih1 _ _ _ _ _ _)
      | (with_reducible exact ih2 _ _ _ _ _ _ _ _)
      | (with_reducible exact spec_l23At.mono _ _ _)
      | (with_reducible exact spec_l23Ok.mono _ _ _)
      | (with_reducible exact LeO.refl _)
      | (with_reducible exact LeO.none _)
      | (with_reducible refine LeO.ite ?_ ?_)
      | (with_reducible refine LeO.bind ?_ (fun _ => ?_))
      | exact ih0 _ _ _ _ _
      | exact ih1 _ _ _ _ _ _
      | exact ih2 _ _ _ _ _ _ _ _
      | exact spec_l23At.mono _ _ _
      | exact spec_l23Ok.mono _ _ _
      | exact LeO.none _
      | refine LeO.ite ?_ ?_
      | refine LeO.bind ?_ (fun _ => ?_)
    · intro y0 y1 y2 y3 y4 y5 y6 y7
      unfold spec_TermsMeet.j2
      repeat' first
      | (with_reducible exact ih0 _ _ _ _ _)
      | (with_reducible exact ih1 _ _ _ _ _ _)
      | (with_reducible exact ih2 _ _ _ _ _ _ _ _)
      | (with_reducible exact spec_l23At.mono _ _ _)
      | (with_reducible exact spec_l23Ok.mono _ _ _)
      | (with_reducible exact LeO.refl _)
      | (with_reducible exact LeO.none _)
      | (with_reducible refine LeO.ite ?_ ?_)
      | (with_reducible refine LeO.bind ?_ (fun _ => ?_))
      | exact ih0 _ _ _ _ _
      | exact ih1 _ _ _ _ _ _
      | exact ih2 _ _ _ _ _ _ _ _
      | exact spec_l23At.mono _ _ _
      | exact spec_l23Ok.mono _ _ _
      | exact LeO.none _
      | refine LeO.ite ?_ ?_
      | refine LeO.bind ?_ (fun _ => ?_)
theorem spec_TermsMeet.mono : ∀ a0 a1 a2 a3 k, LeO (spec_TermsMeet.f k a0 a1 a2 a3) (spec_TermsMeet.f (k + 1) a0 a1 a2 a3) := by
  intro a0 a1 a2 a3 k
  obtain ⟨ih0, ih1, ih2⟩ := spec_TermsMeet.mono_l k
  unfold spec_TermsMeet.f
  repeat' first
      | (with_reducible exact ih0 _ _ _ _ _)
      | (with_reducible exact ih1 _ _ _ _ _ _)
      | (with_reducible exact ih2 _ _ _ _ _ _ _ _)
      | (with_reducible exact spec_l23At.mono _ _ _)
      | (with_reducible exact spec_l23Ok.mono _ _ _)
      | (with_reducible exact LeO.refl _)
      | (with_reducible exact LeO.none _)
      | (with_reducible refine LeO.ite ?_ ?_)
      | (with_reducible refine LeO.bind ?_ (fun _ => ?_))
      | exact ih0 _ _ _ _ _
      | exact ih1 _ _ _ _ _ _
      | exact ih2 _ _ _ _ _ _ _ _
      | exact spec_l23At.mono _ _ _
      | exact spec_l23Ok.mono _ _ _
      | exact LeO.none _
      | refine LeO.ite ?_ ?_
      | refine LeO.bind ?_ (fun _ => ?_)
set_option maxHeartbeats 8000000 in
set_option maxRecDepth 100000 in
theorem spec_TermsMeet.calls (k : Nat) (A0 : Option Addr) (c0 : Nat) (l0 : List (S37)) (a1 : Int) (A2 : Option Addr) (c2 : Nat) (l2 : List (S37)) (a3 : Int) (r : Int) (w : World) (hr0 : Kd.C k37 w A0 l0.length l0) (hc0 : l0.length ≤ c0) (hr2 : Kd.C k37 w A2 l2.length l2) (hc2 : l2.length ≤ c2) (h : spec_TermsMeet.f k l0 a1 l2 a3 = some r) :
    Calls Try.prog 38 #[.slice A0 l0.length c0, .int .i64 a1, .slice A2 l2.length c2, .int .i64 a3] w fun e w' => e = .returned (.int .i64 r) ∧ Below w.heap.size w w' := by
  have HR0 := Aside0.mk hr0
  have HC0 := Aside0.mk hc0
  clear hr0 hc0
  have HR2 := Aside0.mk hr2
  have HC2 := Aside0.mk hc2
  clear hr2 hc2
  have HB := Aside0.mk (Below.refl w.heap.size w)
  have H : ((spec_l23Ok.f k l0 a1).bind fun t389 => (if t389 = true then ((spec_l23Ok.f k l2 a3).bind fun t390 => (spec_TermsMeet.j0 k l0 a1 l2 a3 (!t390))) else (spec_TermsMeet.j0 k l0 a1 l2 a3 true))) = some r := h
  clear h
  have HC5 := Aside0.mk H
  clear H
  go_enter Try.func38, Try.ntmps38
  go_upto_region 1 with (fail)
  repeat (go_quiet (fail); go_upto_region 1 with (fail))
  go_cut [21] (fun v21 wc => ∃ (kq : Nat) (x21_4 : Bool), v21 = .bool x21_4 ∧ Aside0 (spec_TermsMeet.j0 kq l0 a1 l2 a3 x21_4 = some r) ∧ Aside0 (kq ≤ k) ∧ Aside0 (Below w.heap.size w wc))
  case first =>
    have H := HC5.out
    clear HC5
    replace H := Option.bind_eq_some_iff.mp H
    obtain ⟨t389, A60, H⟩ := H
    replace H : (if t389 = true then ((spec_l23Ok.f k l2 a3).bind fun t390 => (spec_TermsMeet.j0 k l0 a1 l2 a3 (!t390))) else (spec_TermsMeet.j0 k l0 a1 l2 a3 true)) = some r := H
    have A6 := Aside0.mk A60
    clear A60
    by_cases c7 : t389 = true
    · subst c7
      have H1 : ((spec_l23Ok.f k l2 a3).bind fun t390 => (spec_TermsMeet.j0 k l0 a1 l2 a3 (!t390))) = some r := by rw [if_pos rfl] at H; exact H
      clear H
      have H := H1
      clear H1
      replace H := Option.bind_eq_some_iff.mp H
      obtain ⟨t390, A80, H⟩ := H
      replace H : (spec_TermsMeet.j0 k l0 a1 l2 a3 (!t390)) = some r := H
      have A8 := Aside0.mk A80
      clear A80
      have H' := Aside0.mk H
      clear H
      go_wp2_with (first | (go_at_call 50; (with_reducible refine (spec_l23Ok.calls k _ _ l0 a1 true _ ?side1 ?side2 A6.out).mono ?_); (case side1 => repeat (first | exact (Kd.C_below HR0.out HB.out) | (with_reducible refine Kd.C_alloc ?_ _) | (with_reducible refine Kd.C_drewN ?_ _) | (with_reducible refine Kd.C_drew ?_))); (case side2 => exact HC0.out); rintro e w9 ⟨rfl, hb⟩; have n0_ := Aside0.mk (below_step (by repeat (first | (with_reducible first | exact HB.out | apply below_alloc | apply pw_below_drewN | apply below_drew1) | exact HB.out)) hb); clear HB; have HB := n0_; clear n0_; (try clear hb); (try clear hb2); (try clear hk); (try clear hi)) | (go_at_call 50; (with_reducible refine (spec_l23Ok.calls k _ _ l2 a3 t390 _ ?side1 ?side2 A8.out).mono ?_); (case side1 => repeat (first | exact (Kd.C_below HR2.out HB.out) | (with_reducible refine Kd.C_alloc ?_ _) | (with_reducible refine Kd.C_drewN ?_ _) | (with_reducible refine Kd.C_drew ?_))); (case side2 => exact HC2.out); rintro e w10 ⟨rfl, hb⟩; have n0_ := Aside0.mk (below_step (by repeat (first | (with_reducible first | exact HB.out | apply below_alloc | apply pw_below_drewN | apply below_drew1) | exact HB.out)) hb); clear HB; have HB := n0_; clear n0_; (try clear hb); (try clear hb2); (try clear hk); (try clear hi)))
      repeat (go_quiet (first | (go_at_call 50; (with_reducible refine (spec_l23Ok.calls k _ _ l0 a1 true _ ?side1 ?side2 A6.out).mono ?_); (case side1 => repeat (first | exact (Kd.C_below HR0.out HB.out) | (with_reducible refine Kd.C_alloc ?_ _) | (with_reducible refine Kd.C_drewN ?_ _) | (with_reducible refine Kd.C_drew ?_))); (case side2 => exact HC0.out); rintro e w9 ⟨rfl, hb⟩; have n0_ := Aside0.mk (below_step (by repeat (first | (with_reducible first | exact HB.out | apply below_alloc | apply pw_below_drewN | apply below_drew1) | exact HB.out)) hb); clear HB; have HB := n0_; clear n0_; (try clear hb); (try clear hb2); (try clear hk); (try clear hi)) | (go_at_call 50; (with_reducible refine (spec_l23Ok.calls k _ _ l2 a3 t390 _ ?side1 ?side2 A8.out).mono ?_); (case side1 => repeat (first | exact (Kd.C_below HR2.out HB.out) | (with_reducible refine Kd.C_alloc ?_ _) | (with_reducible refine Kd.C_drewN ?_ _) | (with_reducible refine Kd.C_drew ?_))); (case side2 => exact HC2.out); rintro e w10 ⟨rfl, hb⟩; have n0_ := Aside0.mk (below_step (by repeat (first | (with_reducible first | exact HB.out | apply below_alloc | apply pw_below_drewN | apply below_drew1) | exact HB.out)) hb); clear HB; have HB := n0_; clear n0_; (try clear hb); (try clear hb2); (try clear hk); (try clear hi))); try go_wp2_with (first | (go_at_call 50; (with_reducible refine (spec_l23Ok.calls k _ _ l0 a1 true _ ?side1 ?side2 A6.out).mono ?_); (case side1 => repeat (first | exact (Kd.C_below HR0.out HB.out) | (with_reducible refine Kd.C_alloc ?_ _) | (with_reducible refine Kd.C_drewN ?_ _) | (with_reducible refine Kd.C_drew ?_))); (case side2 => exact HC0.out); rintro e w9 ⟨rfl, hb⟩; have n0_ := Aside0.mk (below_step (by repeat (first | (with_reducible first | exact HB.out | apply below_alloc | apply pw_below_drewN | apply below_drew1) | exact HB.out)) hb); clear HB; have HB := n0_; clear n0_; (try clear hb); (try clear hb2); (try clear hk); (try clear hi)) | (go_at_call 50; (with_reducible refine (spec_l23Ok.calls k _ _ l2 a3 t390 _ ?side1 ?side2 A8.out).mono ?_); (case side1 => repeat (first | exact (Kd.C_below HR2.out HB.out) | (with_reducible refine Kd.C_alloc ?_ _) | (with_reducible refine Kd.C_drewN ?_ _) | (with_reducible refine Kd.C_drew ?_))); (case side2 => exact HC2.out); rintro e w10 ⟨rfl, hb⟩; have n0_ := Aside0.mk (below_step (by repeat (first | (with_reducible first | exact HB.out | apply below_alloc | apply pw_below_drewN | apply below_drew1) | exact HB.out)) hb); clear HB; have HB := n0_; clear n0_; (try clear hb); (try clear hb2); (try clear hk); (try clear hi))))
      go_meet
      case rel => exact ⟨_, (!t390), (by first | rfl | (simp; done) | (simp [*]; done)), H', ⟨by first | omega | exact Nat.le_refl _⟩, ⟨by repeat (first | (with_reducible first | exact HB.out | apply below_alloc | apply pw_below_drewN | apply below_drew1) | exact HB.out)⟩⟩
    · replace c7 := Bool.eq_false_iff.mpr c7
      subst c7
      have H1 : (spec_TermsMeet.j0 k l0 a1 l2 a3 true) = some r := by rw [if_neg (show ¬ (false = true) by decide)] at H; exact H
      clear H
      have H := H1
      clear H1
      have H' := Aside0.mk H
      clear H
      go_wp2_with (first | (go_at_call 50; (with_reducible refine (spec_l23Ok.calls k _ _ l0 a1 false _ ?side1 ?side2 A6.out).mono ?_); (case side1 => repeat (first | exact (Kd.C_below HR0.out HB.out) | (with_reducible refine Kd.C_alloc ?_ _) | (with_reducible refine Kd.C_drewN ?_ _) | (with_reducible refine Kd.C_drew ?_))); (case side2 => exact HC0.out); rintro e w11 ⟨rfl, hb⟩; have n0_ := Aside0.mk (below_step (by repeat (first | (with_reducible first | exact HB.out | apply below_alloc | apply pw_below_drewN | apply below_drew1) | exact HB.out)) hb); clear HB; have HB := n0_; clear n0_; (try clear hb); (try clear hb2); (try clear hk); (try clear hi)))
      repeat (go_quiet (first | (go_at_call 50; (with_reducible refine (spec_l23Ok.calls k _ _ l0 a1 false _ ?side1 ?side2 A6.out).mono ?_); (case side1 => repeat (first | exact (Kd.C_below HR0.out HB.out) | (with_reducible refine Kd.C_alloc ?_ _) | (with_reducible refine Kd.C_drewN ?_ _) | (with_reducible refine Kd.C_drew ?_))); (case side2 => exact HC0.out); rintro e w11 ⟨rfl, hb⟩; have n0_ := Aside0.mk (below_step (by repeat (first | (with_reducible first | exact HB.out | apply below_alloc | apply pw_below_drewN | apply below_drew1) | exact HB.out)) hb); clear HB; have HB := n0_; clear n0_; (try clear hb); (try clear hb2); (try clear hk); (try clear hi))); try go_wp2_with (first | (go_at_call 50; (with_reducible refine (spec_l23Ok.calls k _ _ l0 a1 false _ ?side1 ?side2 A6.out).mono ?_); (case side1 => repeat (first | exact (Kd.C_below HR0.out HB.out) | (with_reducible refine Kd.C_alloc ?_ _) | (with_reducible refine Kd.C_drewN ?_ _) | (with_reducible refine Kd.C_drew ?_))); (case side2 => exact HC0.out); rintro e w11 ⟨rfl, hb⟩; have n0_ := Aside0.mk (below_step (by repeat (first | (with_reducible first | exact HB.out | apply below_alloc | apply pw_below_drewN | apply below_drew1) | exact HB.out)) hb); clear HB; have HB := n0_; clear n0_; (try clear hb); (try clear hb2); (try clear hk); (try clear hi))))
      go_meet
      case rel => exact ⟨_, (true), (by first | rfl | (simp; done) | (simp [*]; done)), H', ⟨by first | omega | exact Nat.le_refl _⟩, ⟨by repeat (first | (with_reducible first | exact HB.out | apply below_alloc | apply pw_below_drewN | apply below_drew1) | exact HB.out)⟩⟩
  case rest =>
    clear HC5
    try clear c2
    try clear p2
    try clear c3
    try clear c7
    obtain ⟨kq, x21_4, rfl, HA, HJ4, HB⟩ := hcut
    cases kq with
    | zero => exact absurd HA.out (by simp [spec_TermsMeet.j0])
    | succ kj4 =>
      have H := HA.out
      clear HA
      simp only [spec_TermsMeet.j0] at H
      by_cases c12 : x21_4 = true
      · subst c12
        have H1 : (some (-1)) = some r := by rw [if_pos rfl] at H; exact H
        clear H
        have H := H1
        clear H1
        obtain rfl := Option.some.inj H
        go_wp2
        repeat (go_quiet (fail); try go_wp2)
        go_ret
        exact ⟨by first | rfl | (simp [errW_none, errW_some] <;> rfl) | (simp [*, errW_none, errW_some] <;> rfl), by repeat (first | (with_reducible first | exact HB.out | apply below_alloc | apply pw_below_drewN | apply below_drew1) | exact HB.out)⟩
      · replace c12 := Bool.eq_false_iff.mpr c12
        subst c12
        have H1 : (spec_TermsMeet.l0 kj4 l0 a1 l2 a3 0 0) = some r := by rw [if_neg (show ¬ (false = true) by decide)] at H; exact H
        clear H
        have H := H1
        clear H1
        have H' := Aside0.mk H
        clear H
        go_wp2
        repeat (go_quiet (fail); try go_wp2)
        go_loopg [9, 10] kj4 (fun kq v9 v10 w' => ∃ (x9_2 : Int) (x10_2 : Int), v9 = .int .i64 x9_2 ∧ v10 = .int .i64 x10_2 ∧ Aside0 (spec_TermsMeet.l0 kq l0 a1 l2 a3 x9_2 x10_2 = some r) ∧ Aside0 (kq ≤ kj4) ∧ Aside0 (Below w.heap.size w w'))
        case atStart => exact ⟨(0), (0), (by first | rfl | (simp; done) | (simp [*]; done)), (by first | rfl | (simp; done) | (simp [*]; done)), H', ⟨Nat.le_refl _⟩, ⟨by repeat (first | (with_reducible first | exact HB.out | apply below_alloc | apply pw_below_drewN | apply below_drew1) | exact HB.out)⟩⟩
        case round =>
          clear H'
          try clear c1
          try clear c2
          try clear p2
          try clear c3
          try clear c7
          try clear c12
          try clear p2
          obtain ⟨x9_2, x10_2, rfl, rfl, HA, HK2, HB⟩ := hrel
          cases gk with
          | zero => exact absurd HA.out (by simp [spec_TermsMeet.l0])
          | succ k2 =>
            have H := HA.out
            clear HA
            simp only [spec_TermsMeet.l0] at H
            by_cases c13 : x10_2 < (l0.length : Int)
            · rw [if_pos c13] at H
              have c13b0 : decide (x10_2 < (l0.length : Int)) = true := decide_eq_true c13
              clear c13
              by_cases c14 : 0 ≤ x10_2
              · rw [if_pos c14] at H
                have c14b0 : decide (0 ≤ x10_2) = true := decide_eq_true c14
                clear c14
                replace H := Option.bind_eq_some_iff.mp H
                obtain ⟨t392, A150, H⟩ := H
                replace H : (if t392 ≥ 0 then (if 0 ≤ t392 then (if t392 < (l2.length : Int) then (spec_TermsMeet.j2 k2 l0 a1 l2 a3 x9_2 x10_2 t392 (((rd_T37 l2 t392).f1) == ((rd_T37 l0 x10_2).f1))) else (none)) else (none)) else (spec_TermsMeet.j2 k2 l0 a1 l2 a3 x9_2 x10_2 t392 false)) = some r := H
                have A15 := Aside0.mk A150
                clear A150
                have HC16 := Aside0.mk H
                clear H
                have p391 : 0 ≤ (x10_2 : Int) := of_decide_eq_true (by first | (with_reducible assumption) | assumption)
                have q391 : x10_2 < (l0.length : Int) := of_decide_eq_true (by first | (with_reducible assumption) | assumption)
                obtain ⟨ad391, e391, hx391_0, hx391_1⟩ := at_T37 HR0.out x10_2 p391 q391
                cases e391
                replace hx391_0 := (HB.out.cell (World.block_lt_of_cell? w _ hx391_0)).trans hx391_0
                replace hx391_1 := (HB.out.cell (World.block_lt_of_cell? w _ hx391_1)).trans hx391_1
                replace p391 := eq_true p391
                replace q391 := eq_true q391
                go_upto_region 8 with (first | (go_at_call 49; (with_reducible refine (spec_l23At.calls k2 _ _ l2 ((rd_T37 l0 x10_2).f0) t392 _ ?side1 ?side2 A15.out).mono ?_); (case side1 => repeat (first | exact (Kd.C_below HR2.out HB.out) | (with_reducible refine Kd.C_alloc ?_ _) | (with_reducible refine Kd.C_drewN ?_ _) | (with_reducible refine Kd.C_drew ?_))); (case side2 => exact HC2.out); rintro e w' ⟨rfl, ⟨nd, rfl⟩⟩; (try first | exact ⟨rfl, _, World.drewN_drewN _ _ _⟩ | exact ⟨rfl, _, Eq.trans (World.drewN_drewN _ _ _) (congrArg (World.drewN _) (Nat.add_assoc _ _ _))⟩)))
                repeat (go_quiet (first | (go_at_call 49; (with_reducible refine (spec_l23At.calls k2 _ _ l2 ((rd_T37 l0 x10_2).f0) t392 _ ?side1 ?side2 A15.out).mono ?_); (case side1 => repeat (first | exact (Kd.C_below HR2.out HB.out) | (with_reducible refine Kd.C_alloc ?_ _) | (with_reducible refine Kd.C_drewN ?_ _) | (with_reducible refine Kd.C_drew ?_))); (case side2 => exact HC2.out); rintro e w' ⟨rfl, ⟨nd, rfl⟩⟩; (try first | exact ⟨rfl, _, World.drewN_drewN _ _ _⟩ | exact ⟨rfl, _, Eq.trans (World.drewN_drewN _ _ _) (congrArg (World.drewN _) (Nat.add_assoc _ _ _))⟩))); go_upto_region 8 with (first | (go_at_call 49; (with_reducible refine (spec_l23At.calls k2 _ _ l2 ((rd_T37 l0 x10_2).f0) t392 _ ?side1 ?side2 A15.out).mono ?_); (case side1 => repeat (first | exact (Kd.C_below HR2.out HB.out) | (with_reducible refine Kd.C_alloc ?_ _) | (with_reducible refine Kd.C_drewN ?_ _) | (with_reducible refine Kd.C_drew ?_))); (case side2 => exact HC2.out); rintro e w' ⟨rfl, ⟨nd, rfl⟩⟩; (try first | exact ⟨rfl, _, World.drewN_drewN _ _ _⟩ | exact ⟨rfl, _, Eq.trans (World.drewN_drewN _ _ _) (congrArg (World.drewN _) (Nat.add_assoc _ _ _))⟩))))
                (try simp only [Act.put, List.setIfInBounds_toArray, List.set_cons_zero, List.set_cons_succ])
                go_cut [49] (fun v49 wc => ∃ (kq : Nat) (x49_15 : Bool), v49 = .bool x49_15 ∧ Aside0 (spec_TermsMeet.j2 kq l0 a1 l2 a3 x9_2 x10_2 t392 x49_15 = some r) ∧ Aside0 (kq ≤ k2) ∧ Aside0 (Below w.heap.size w wc))
                case first =>
                  have H := HC16.out
                  clear HC16
                  by_cases c17 : t392 ≥ 0
                  · rw [if_pos c17] at H
                    have c17b0 : decide (0 ≤ t392) = true := decide_eq_true c17
                    clear c17
                    (first | rw [c17b0] | (simp only [i64_w, i32_w]; rw [c17b0]) | skip)
                    by_cases c18 : 0 ≤ t392
                    · rw [if_pos c18] at H
                      have c18b0 : decide (0 ≤ t392) = true := decide_eq_true c18
                      clear c18
                      by_cases c19 : t392 < (l2.length : Int)
                      · rw [if_pos c19] at H
                        have c19b0 : decide (t392 < (l2.length : Int)) = true := decide_eq_true c19
                        clear c19
                        have H' := Aside0.mk H
                        clear H
                        have p393 : 0 ≤ (t392 : Int) := of_decide_eq_true (by first | (with_reducible assumption) | assumption)
                        have q393 : t392 < (l2.length : Int) := of_decide_eq_true (by first | (with_reducible assumption) | assumption)
                        obtain ⟨ad393, e393, hx393_0, hx393_1⟩ := at_T37 HR2.out t392 p393 q393
                        cases e393
                        replace hx393_0 := (HB.out.cell (World.block_lt_of_cell? w _ hx393_0)).trans hx393_0
                        replace hx393_1 := (HB.out.cell (World.block_lt_of_cell? w _ hx393_1)).trans hx393_1
                        replace p393 := eq_true p393
                        replace q393 := eq_true q393
                        have p394 : 0 ≤ (x10_2 : Int) := of_decide_eq_true (by first | (with_reducible assumption) | assumption)
                        have q394 : x10_2 < (l0.length : Int) := of_decide_eq_true (by first | (with_reducible assumption) | assumption)
                        obtain ⟨ad394, e394, hx394_0, hx394_1⟩ := at_T37 HR0.out x10_2 p394 q394
                        obtain rfl : ad391 = ad394 := (by injection e394)
                        replace hx394_0 := (HB.out.cell (World.block_lt_of_cell? w _ hx394_0)).trans hx394_0
                        replace hx394_1 := (HB.out.cell (World.block_lt_of_cell? w _ hx394_1)).trans hx394_1
                        replace p394 := eq_true p394
                        replace q394 := eq_true q394
                        go_wp2
                        repeat (go_quiet (fail); try go_wp2)
                        go_meet
                        case rel => exact ⟨_, ((((rd_T37 l2 t392).f1) == ((rd_T37 l0 x10_2).f1))), (by first | rfl | (simp; done) | (simp [*]; done)), H', ⟨by have := HJ4.out; have := HK2.out; first | omega | exact Nat.le_refl _⟩, ⟨by repeat (first | (with_reducible first | exact HB.out | apply below_alloc | apply pw_below_drewN | apply below_drew1) | exact HB.out)⟩⟩
                      · rw [if_neg c19] at H
                        exact absurd H (by simp)
                    · rw [if_neg c18] at H
                      exact absurd H (by simp)
                  · rw [if_neg c17] at H
                    have c17b0 : decide (0 ≤ t392) = false := decide_eq_false c17
                    clear c17
                    (first | rw [c17b0] | (simp only [i64_w, i32_w]; rw [c17b0]) | skip)
                    have H' := Aside0.mk H
                    clear H
                    go_wp2
                    repeat (go_quiet (fail); try go_wp2)
                    go_meet
                    case rel => exact ⟨_, (false), (by first | rfl | (simp; done) | (simp [*]; done)), H', ⟨by have := HJ4.out; have := HK2.out; first | omega | exact Nat.le_refl _⟩, ⟨by repeat (first | (with_reducible first | exact HB.out | apply below_alloc | apply pw_below_drewN | apply below_drew1) | exact HB.out)⟩⟩
                case rest =>
                  clear HC16
                  try clear c1
                  try clear c2
                  try clear p2
                  try clear c3
                  try clear p3
                  try clear q3
                  try clear hx3
                  try clear c7
                  try clear c12
                  try clear c13
                  try clear c13b0
                  try clear c14
                  try clear c14b0
                  try clear c17
                  try clear c17b0
                  try clear c18
                  try clear c18b0
                  try clear c19
                  try clear c19b0
                  try clear hx391_0
                  try clear hx391_1
                  try clear hx393_0
                  try clear hx393_1
                  try clear hx394_0
                  try clear hx394_1
                  try clear p2
                  try clear p391
                  try clear p393
                  try clear p394
                  try clear q391
                  try clear q393
                  try clear q394
                  obtain ⟨kq, x49_15, rfl, HA, HJ15, HB⟩ := hcut
                  cases kq with
                  | zero => exact absurd HA.out (by simp [spec_TermsMeet.j2])
                  | succ kj15 =>
                    have H := HA.out
                    clear HA
                    simp only [spec_TermsMeet.j2] at H
                    by_cases c20 : x49_15 = true
                    · subst c20
                      have H1 : ((spec_l23End.f l0 x10_2 a1).bind fun t395 => ((spec_l23End.f l2 t392 a3).bind fun t396 => (spec_TermsMeet.l0 kj15 l0 a1 l2 a3 (mn t395 t396) (wrap64 (x10_2 + 1))))) = some r := by rw [if_pos rfl] at H; exact H
                      clear H
                      have H := H1
                      clear H1
                      replace H := Option.bind_eq_some_iff.mp H
                      obtain ⟨t395, A210, H⟩ := H
                      replace H : ((spec_l23End.f l2 t392 a3).bind fun t396 => (spec_TermsMeet.l0 kj15 l0 a1 l2 a3 (mn t395 t396) (wrap64 (x10_2 + 1)))) = some r := H
                      have A21 := Aside0.mk A210
                      clear A210
                      replace H := Option.bind_eq_some_iff.mp H
                      obtain ⟨t396, A220, H⟩ := H
                      replace H : (spec_TermsMeet.l0 kj15 l0 a1 l2 a3 (mn t395 t396) (wrap64 (x10_2 + 1))) = some r := H
                      have A22 := Aside0.mk A220
                      clear A220
                      obtain ⟨ji23, hji23⟩ : ∃ j_ : Int, (mn t395 t396) = j_ := ⟨_, rfl⟩
                      replace H : (spec_TermsMeet.l0 kj15 l0 a1 l2 a3 ji23 (wrap64 (x10_2 + 1))) = some r := by first | (rw [hji23] at H; exact H) | (simp only [hji23] at H ⊢; exact H)
                      (try rw [hji23] at A21)
                      (try rw [hji23] at A22)
                      have hji23_ : (if t396 < t395 then t396 else t395) = ji23 := hji23
                      have H' := Aside0.mk H
                      clear H
                      go_wp2_with (first | (go_at_call 51; (with_reducible refine (spec_l23End.calls _ _ l0 x10_2 a1 t395 _ ?side1 ?side2 A21.out).mono ?_); (case side1 => repeat (first | exact (Kd.C_below HR0.out HB.out) | (with_reducible refine Kd.C_alloc ?_ _) | (with_reducible refine Kd.C_drewN ?_ _) | (with_reducible refine Kd.C_drew ?_))); (case side2 => exact HC0.out); rintro e w' ⟨rfl, ⟨nd, rfl⟩⟩; (try first | exact ⟨rfl, _, World.drewN_drewN _ _ _⟩ | exact ⟨rfl, _, Eq.trans (World.drewN_drewN _ _ _) (congrArg (World.drewN _) (Nat.add_assoc _ _ _))⟩)) | (go_at_call 51; (with_reducible refine (spec_l23End.calls _ _ l2 t392 a3 t396 _ ?side1 ?side2 A22.out).mono ?_); (case side1 => repeat (first | exact (Kd.C_below HR2.out (by repeat (first | (with_reducible first | exact HB.out | apply below_alloc | apply pw_below_drewN | apply below_drew1) | exact HB.out))) | (with_reducible refine Kd.C_alloc ?_ _) | (with_reducible refine Kd.C_drewN ?_ _) | (with_reducible refine Kd.C_drew ?_))); (case side2 => exact HC2.out); rintro e w' ⟨rfl, ⟨nd, rfl⟩⟩; (try first | exact ⟨rfl, _, World.drewN_drewN _ _ _⟩ | exact ⟨rfl, _, Eq.trans (World.drewN_drewN _ _ _) (congrArg (World.drewN _) (Nat.add_assoc _ _ _))⟩)))
                      repeat (go_quiet (first | (go_at_call 51; (with_reducible refine (spec_l23End.calls _ _ l0 x10_2 a1 t395 _ ?side1 ?side2 A21.out).mono ?_); (case side1 => repeat (first | exact (Kd.C_below HR0.out HB.out) | (with_reducible refine Kd.C_alloc ?_ _) | (with_reducible refine Kd.C_drewN ?_ _) | (with_reducible refine Kd.C_drew ?_))); (case side2 => exact HC0.out); rintro e w' ⟨rfl, ⟨nd, rfl⟩⟩; (try first | exact ⟨rfl, _, World.drewN_drewN _ _ _⟩ | exact ⟨rfl, _, Eq.trans (World.drewN_drewN _ _ _) (congrArg (World.drewN _) (Nat.add_assoc _ _ _))⟩)) | (go_at_call 51; (with_reducible refine (spec_l23End.calls _ _ l2 t392 a3 t396 _ ?side1 ?side2 A22.out).mono ?_); (case side1 => repeat (first | exact (Kd.C_below HR2.out (by repeat (first | (with_reducible first | exact HB.out | apply below_alloc | apply pw_below_drewN | apply below_drew1) | exact HB.out))) | (with_reducible refine Kd.C_alloc ?_ _) | (with_reducible refine Kd.C_drewN ?_ _) | (with_reducible refine Kd.C_drew ?_))); (case side2 => exact HC2.out); rintro e w' ⟨rfl, ⟨nd, rfl⟩⟩; (try first | exact ⟨rfl, _, World.drewN_drewN _ _ _⟩ | exact ⟨rfl, _, Eq.trans (World.drewN_drewN _ _ _) (congrArg (World.drewN _) (Nat.add_assoc _ _ _))⟩))); try go_wp2_with (first | (go_at_call 51; (with_reducible refine (spec_l23End.calls _ _ l0 x10_2 a1 t395 _ ?side1 ?side2 A21.out).mono ?_); (case side1 => repeat (first | exact (Kd.C_below HR0.out HB.out) | (with_reducible refine Kd.C_alloc ?_ _) | (with_reducible refine Kd.C_drewN ?_ _) | (with_reducible refine Kd.C_drew ?_))); (case side2 => exact HC0.out); rintro e w' ⟨rfl, ⟨nd, rfl⟩⟩; (try first | exact ⟨rfl, _, World.drewN_drewN _ _ _⟩ | exact ⟨rfl, _, Eq.trans (World.drewN_drewN _ _ _) (congrArg (World.drewN _) (Nat.add_assoc _ _ _))⟩)) | (go_at_call 51; (with_reducible refine (spec_l23End.calls _ _ l2 t392 a3 t396 _ ?side1 ?side2 A22.out).mono ?_); (case side1 => repeat (first | exact (Kd.C_below HR2.out (by repeat (first | (with_reducible first | exact HB.out | apply below_alloc | apply pw_below_drewN | apply below_drew1) | exact HB.out))) | (with_reducible refine Kd.C_alloc ?_ _) | (with_reducible refine Kd.C_drewN ?_ _) | (with_reducible refine Kd.C_drew ?_))); (case side2 => exact HC2.out); rintro e w' ⟨rfl, ⟨nd, rfl⟩⟩; (try first | exact ⟨rfl, _, World.drewN_drewN _ _ _⟩ | exact ⟨rfl, _, Eq.trans (World.drewN_drewN _ _ _) (congrArg (World.drewN _) (Nat.add_assoc _ _ _))⟩))))
                      go_roundg kj15
                      case measure => have := HJ4.out; have := HK2.out; have := HJ15.out; omega
                      case rel => exact ⟨(ji23), (wrap64 (x10_2 + 1)), (by first | rfl | (simp; done) | (simp only [← hji23] <;> (first | rfl | simp)) | (simp [*]; done)), (by first | rfl | (simp; done) | (simp [*]; done)), H', ⟨by have := HJ4.out; have := HK2.out; have := HJ15.out; omega⟩, ⟨by repeat (first | (with_reducible first | exact HB.out | apply below_alloc | apply pw_below_drewN | apply below_drew1) | exact HB.out)⟩⟩
                    · replace c20 := Bool.eq_false_iff.mpr c20
                      subst c20
                      have H1 : (spec_TermsMeet.l0 kj15 l0 a1 l2 a3 x9_2 (wrap64 (x10_2 + 1))) = some r := by rw [if_neg (show ¬ (false = true) by decide)] at H; exact H
                      clear H
                      have H := H1
                      clear H1
                      have H' := Aside0.mk H
                      clear H
                      go_wp2
                      repeat (go_quiet (fail); try go_wp2)
                      go_roundg kj15
                      case measure => have := HJ4.out; have := HK2.out; have := HJ15.out; omega
                      case rel => exact ⟨(x9_2), (wrap64 (x10_2 + 1)), (by first | rfl | (simp; done) | (simp [*]; done)), (by first | rfl | (simp; done) | (simp [*]; done)), H', ⟨by have := HJ4.out; have := HK2.out; have := HJ15.out; omega⟩, ⟨by repeat (first | (with_reducible first | exact HB.out | apply below_alloc | apply pw_below_drewN | apply below_drew1) | exact HB.out)⟩⟩
              · rw [if_neg c14] at H
                exact absurd H (by simp)
            · rw [if_neg c13] at H
              have c13b0 : decide (x10_2 < (l0.length : Int)) = false := decide_eq_false c13
              clear c13
              obtain rfl := Option.some.inj H
              go_wp2
              repeat (go_quiet (fail); try go_wp2)
              go_ret
              exact ⟨by first | rfl | (simp [errW_none, errW_some] <;> rfl) | (simp [*, errW_none, errW_some] <;> rfl), by repeat (first | (with_reducible first | exact HB.out | apply below_alloc | apply pw_below_drewN | apply below_drew1) | exact HB.out)⟩
end Go.Proofs.Ytamncgpajkoiaaa.T
namespace Go.Proofs.Ytamncgpajkoiaaa.T
open Go.RowKit Go.Proofs.YtamncgpajkoiaaaW.PrintWords Go.Proofs.YtamncgpajkoiaaaW.PrintLast Go.Proofs.YtamncgpajkoiaaaW.PrintMore

set_option linter.unusedVariables false
set_option linter.unusedSimpArgs false
end Go.Proofs.Ytamncgpajkoiaaa.T
namespace Go.Proofs.Ytamncgpajkoiaaa.T
open Go.RowKit Go.Proofs.YtamncgpajkoiaaaW.PrintWords Go.Proofs.YtamncgpajkoiaaaW.PrintLast Go.Proofs.YtamncgpajkoiaaaW.PrintMore

set_option linter.unusedVariables false
set_option linter.unusedSimpArgs false
end Go.Proofs.Ytamncgpajkoiaaa.T
namespace Go.Proofs.Ytamncgpajkoiaaa.T
open Go.RowKit Go.Proofs.YtamncgpajkoiaaaW.PrintWords Go.Proofs.YtamncgpajkoiaaaW.PrintLast Go.Proofs.YtamncgpajkoiaaaW.PrintMore

set_option linter.unusedVariables false
set_option linter.unusedSimpArgs false
def impl_within.f (a0 : Int) (a1 : Int) (a2 : Int) : Option (Bool) := if a0 ≥ a1 then (some (decide (a0 ≤ a2))) else (some false)
set_option maxHeartbeats 8000000 in
set_option maxRecDepth 100000 in
theorem impl_within.calls (a0 : Int) (a1 : Int) (a2 : Int) (r : Bool) (w : World) (h : impl_within.f a0 a1 a2 = some r) :
    Calls Try.prog 43 #[.int .i64 a0, .int .i64 a1, .int .i64 a2] w fun e w' => e = .returned (.bool r) ∧ Drawn0 w w' := by
  have H : (if a0 ≥ a1 then (some (decide (a0 ≤ a2))) else (some false)) = some r := h
  clear h
  by_cases c4 : a0 ≥ a1
  · rw [if_pos c4] at H
    have c4b0 : decide (a1 ≤ a0) = true := decide_eq_true c4
    clear c4
    obtain rfl := Option.some.inj H
    go_enter Try.func43, Try.ntmps43
    go_wp2
    go_ret
    exact ⟨by first | rfl | (simp; done) | (simp [*]; done), by repeat (first | exact Drawn0.refl _ | apply Drawn0.step)⟩
  · rw [if_neg c4] at H
    have c4b0 : decide (a1 ≤ a0) = false := decide_eq_false c4
    clear c4
    obtain rfl := Option.some.inj H
    go_enter Try.func43, Try.ntmps43
    go_wp2
    go_ret
    exact ⟨by first | rfl | (simp; done) | (simp [*]; done), by repeat (first | exact Drawn0.refl _ | apply Drawn0.step)⟩
end Go.Proofs.Ytamncgpajkoiaaa.T
namespace Go.Proofs.Ytamncgpajkoiaaa.T
open Go.RowKit Go.Proofs.YtamncgpajkoiaaaW.PrintWords Go.Proofs.YtamncgpajkoiaaaW.PrintLast Go.Proofs.YtamncgpajkoiaaaW.PrintMore

set_option linter.unusedVariables false
set_option linter.unusedSimpArgs false
mutual
def impl_TermsValid.l0 : Nat → List (S37) → List (S37) → Int → Int → Option (Bool)
  | 0, _, _, _, _ => none
  | k + 1, x0, x8, x9, x10 => if x10 < x9 then (if 0 ≤ x10 then (if x10 < (x8.length : Int) then ((impl_within.f ((rd_T37 x8 x10).f0) 0 999).bind fun t137 => (if t137 = true then ((impl_within.f ((rd_T37 x8 x10).f1) 0 99999).bind fun t138 => (impl_TermsValid.j1 k x0 x10 x8 x9 x10 (!t138) ((rd_T37 x8 x10).f0) ((rd_T37 x8 x10).f1))) else (impl_TermsValid.j1 k x0 x10 x8 x9 x10 true ((rd_T37 x8 x10).f0) ((rd_T37 x8 x10).f1)))) else (none)) else (none)) else (some true)
def impl_TermsValid.j1 : Nat → List (S37) → Int → List (S37) → Int → Int → Bool → Int → Int → Option (Bool)
  | 0, _, _, _, _, _, _, _, _ => none
  | k + 1, x0, x3, x8, x9, x10, x24, x137000, x137001 => if x24 = true then (some false) else (if x3 > 0 then (if 0 ≤ (wrap64 (x3 - 1)) then (if (wrap64 (x3 - 1)) < (x0.length : Int) then (if ((rd_T37 x0 (wrap64 (x3 - 1))).f0) ≥ x137000 then (some false) else (if ((rd_T37 x0 (wrap64 (x3 - 1))).f1) ≥ x137001 then (some false) else (impl_TermsValid.l0 k x0 x8 x9 (wrap64 (x10 + 1))))) else (none)) else (none)) else (impl_TermsValid.l0 k x0 x8 x9 (wrap64 (x10 + 1))))
end
def impl_TermsValid.f (k : Nat) (l0 : List (S37)) : Option (Bool) := if (l0.length : Int) > 8 then (some false) else (impl_TermsValid.l0 k l0 l0 (l0.length : Int) 0)
theorem impl_TermsValid.mono_l : ∀ k, (∀ y0 y1 y2 y3, LeO (impl_TermsValid.l0 k y0 y1 y2 y3) (impl_TermsValid.l0 (k + 1) y0 y1 y2 y3)) ∧ (∀ y0 y1 y2 y3 y4 y5 y6 y7, LeO (impl_TermsValid.j1 k y0 y1 y2 y3 y4 y5 y6 y7) (impl_TermsValid.j1 (k + 1) y0 y1 y2 y3 y4 y5 y6 y7))
  | 0 => ⟨fun _ _ _ _ r h => by simp [impl_TermsValid.l0] at h, fun _ _ _ _ _ _ _ _ r h => by simp [impl_TermsValid.j1] at h⟩
  | k + 1 => by
    obtain ⟨ih0, ih1⟩ := impl_TermsValid.mono_l k
    refine ⟨?_, ?_⟩
    · intro y0 y1 y2 y3
      unfold impl_TermsValid.l0
      repeat' first
      | (with_reducible exact ih0 _ _ _ _)
      | (with_reducible exact ih1 _ _ _ _ _ _ _ _)
      | (with_reducible exact LeO.refl _)
      | (with_reducible exact LeO.none _)
      | (with_reducible refine LeO.ite ?_ ?_)
      | (with_reducible refine LeO.bind ?_ (fun _ => ?_))
      | exact ih0 _ _ _ _
      | exact ih1 _ _ _ _ _ _ _ _
      | exact LeO.none _
      | refine LeO.ite ?_ ?_
      | refine LeO.bind ?_ (fun _ => ?_)
    · intro y0 y1 y2 y3 y4 y5 y6 y7
      unfold impl_TermsValid.j1
      repeat' first
      | (with_reducible exact ih0 _ _ _ _)
      | (with_reducible exact ih1 _ _ _ _ _ _ _ _)
      | (with_reducible exact LeO.refl _)
      | (with_reducible exact LeO.none _)
      | (with_reducible refine LeO.ite ?_ ?_)
      | (with_reducible refine LeO.bind ?_ (fun _ => ?_))
      | exact ih0 _ _ _ _
      | exact ih1 _ _ _ _ _ _ _ _
      | exact LeO.none _
      | refine LeO.ite ?_ ?_
      | refine LeO.bind ?_ (fun _ => ?_)
theorem impl_TermsValid.mono : ∀ a0 k, LeO (impl_TermsValid.f k a0) (impl_TermsValid.f (k + 1) a0) := by
  intro a0 k
  obtain ⟨ih0, ih1⟩ := impl_TermsValid.mono_l k
  unfold impl_TermsValid.f
  repeat' first
      | (with_reducible exact ih0 _ _ _ _)
      | (with_reducible exact ih1 _ _ _ _ _ _ _ _)
      | (with_reducible exact LeO.refl _)
      | (with_reducible exact LeO.none _)
      | (with_reducible refine LeO.ite ?_ ?_)
      | (with_reducible refine LeO.bind ?_ (fun _ => ?_))
      | exact ih0 _ _ _ _
      | exact ih1 _ _ _ _ _ _ _ _
      | exact LeO.none _
      | refine LeO.ite ?_ ?_
      | refine LeO.bind ?_ (fun _ => ?_)
set_option maxHeartbeats 8000000 in
set_option maxRecDepth 100000 in
theorem impl_TermsValid.calls (k : Nat) (A0 : Option Addr) (c0 : Nat) (l0 : List (S37)) (r : Bool) (w : World) (hr0 : Kd.C k37 w A0 l0.length l0) (hc0 : l0.length ≤ c0) (h : impl_TermsValid.f k l0 = some r) :
    Calls Try.prog 20 #[.slice A0 l0.length c0] w fun e w' => e = .returned (.bool r) ∧ Below w.heap.size w w' := by
  have hu37 := Try.underlying37
  have HR0 := Aside0.mk hr0
  have HC0 := Aside0.mk hc0
  clear hr0 hc0
  have HB := Aside0.mk (Below.refl w.heap.size w)
  have H : (if (l0.length : Int) > 8 then (some false) else (impl_TermsValid.l0 k l0 l0 (l0.length : Int) 0)) = some r := h
  clear h
  by_cases c2 : (l0.length : Int) > 8
  · rw [if_pos c2] at H
    have c2b0 : decide (8 < (l0.length : Int)) = true := decide_eq_true c2
    have c2b1 : decide (8 < l0.length) = true := decide_eq_true (by omega)
    clear c2
    obtain rfl := Option.some.inj H
    go_enter Try.func20, Try.ntmps20
    go_wp2
    repeat (go_quiet (fail); try go_wp2)
    go_ret
    exact ⟨by first | rfl | (simp [errW_none, errW_some] <;> rfl) | (simp [*, errW_none, errW_some] <;> rfl), by repeat (first | (with_reducible first | exact HB.out | apply below_alloc | apply pw_below_drewN | apply below_drew1) | exact HB.out)⟩
  · rw [if_neg c2] at H
    have c2b0 : decide (8 < (l0.length : Int)) = false := decide_eq_false c2
    have c2b1 : decide (8 < l0.length) = false := decide_eq_false (by omega)
    clear c2
    have H' := Aside0.mk H
    clear H
    go_enter Try.func20, Try.ntmps20
    go_wp2
    repeat (go_quiet (fail); try go_wp2)
    go_loopg [10] k (fun kq v10 w' => ∃ (x10_1 : Int), v10 = .int .i64 x10_1 ∧ Aside0 (impl_TermsValid.l0 kq l0 l0 (l0.length : Int) x10_1 = some r) ∧ Aside0 (kq ≤ k) ∧ Aside0 (Below w.heap.size w w'))
    case atStart => exact ⟨(0), (by first | rfl | (simp; done) | (simp [*]; done)), H', ⟨Nat.le_refl _⟩, ⟨by repeat (first | (with_reducible first | exact HB.out | apply below_alloc | apply pw_below_drewN | apply below_drew1) | exact HB.out)⟩⟩
    case round =>
      clear H'
      try clear c2
      try clear c2b0
      try clear c2b1
      try clear p2
      obtain ⟨x10_1, rfl, HA, HK1, HB⟩ := hrel
      cases gk with
      | zero => exact absurd HA.out (by simp [impl_TermsValid.l0])
      | succ k1 =>
        have H := HA.out
        clear HA
        simp only [impl_TermsValid.l0] at H
        by_cases c3 : x10_1 < (l0.length : Int)
        · rw [if_pos c3] at H
          have c3b0 : decide (x10_1 < (l0.length : Int)) = true := decide_eq_true c3
          clear c3
          by_cases c4 : 0 ≤ x10_1
          · rw [if_pos c4] at H
            have c4b0 : decide (0 ≤ x10_1) = true := decide_eq_true c4
            clear c4
            by_cases c5 : x10_1 < (l0.length : Int)
            · rw [if_pos c5] at H
              have c5b0 : decide (x10_1 < (l0.length : Int)) = true := decide_eq_true c5
              clear c5
              have HC6 := Aside0.mk H
              clear H
              have p135 : 0 ≤ (x10_1 : Int) := of_decide_eq_true (by first | (with_reducible assumption) | assumption)
              have q135 : x10_1 < (l0.length : Int) := of_decide_eq_true (by first | (with_reducible assumption) | assumption)
              obtain ⟨ad135, e135, hx135_0, hx135_1⟩ := at_T37 HR0.out x10_1 p135 q135
              cases e135
              replace hx135_0 := (HB.out.cell (World.block_lt_of_cell? w _ hx135_0)).trans hx135_0
              replace hx135_1 := (HB.out.cell (World.block_lt_of_cell? w _ hx135_1)).trans hx135_1
              replace p135 := eq_true p135
              replace q135 := eq_true q135
              go_upto_region 6 with (first | ((with_reducible refine gate_dst (N := 4) rfl ?_); refine box_event ?hg (N := 4) ?hd (cs := #[.int .i64 0, .int .i64 0]) (t := 37) ?hr ?_; (case hd => rfl); (case hg => rfl); (case hr => first | (go_simp; done) | (go_simp; rfl)); intro gb136 hg w7 hbox hb; have n0_ := Aside0.mk (below_step (by repeat (first | (with_reducible first | exact HB.out | apply below_alloc | apply pw_below_drewN | apply below_drew1) | exact HB.out)) hb); have n1_ := Aside0.mk (hbox); have n2_ := Aside0.mk ((by rw [hg]; exact (below_size (by repeat (first | (with_reducible first | exact HB.out | apply below_alloc | apply pw_below_drewN | apply below_drew1) | exact HB.out))) : w.heap.size ≤ gb136)); have n3_ := Aside0.mk ((by rw [hg]; exact (below_size (by repeat (first | (with_reducible first | exact HB.out | apply below_alloc | apply pw_below_drewN | apply below_drew1) | exact HB.out))) : w.heap.size ≤ gb136)); clear HB; have HB := n0_; have BK136 := n1_; have GW136 := n2_; have GE136 := n3_; clear n0_ n1_ n2_ n3_; clear hb hbox hg; have hcz8_0 : w7.cell? ⟨gb136, 0, none⟩ = some (.int .i64 0) := (blk_cell BK136.out 0).trans rfl; have hcz8_1 : w7.cell? ⟨gb136, 1, none⟩ = some (.int .i64 0) := (blk_cell BK136.out 1).trans rfl; have hfz8_0 := blk_frozen BK136.out 0; have hfz8_1 := blk_frozen BK136.out 1))
              repeat (go_quiet (first | ((with_reducible refine gate_dst (N := 4) rfl ?_); refine box_event ?hg (N := 4) ?hd (cs := #[.int .i64 0, .int .i64 0]) (t := 37) ?hr ?_; (case hd => rfl); (case hg => rfl); (case hr => first | (go_simp; done) | (go_simp; rfl)); intro gb136 hg w7 hbox hb; have n0_ := Aside0.mk (below_step (by repeat (first | (with_reducible first | exact HB.out | apply below_alloc | apply pw_below_drewN | apply below_drew1) | exact HB.out)) hb); have n1_ := Aside0.mk (hbox); have n2_ := Aside0.mk ((by rw [hg]; exact (below_size (by repeat (first | (with_reducible first | exact HB.out | apply below_alloc | apply pw_below_drewN | apply below_drew1) | exact HB.out))) : w.heap.size ≤ gb136)); have n3_ := Aside0.mk ((by rw [hg]; exact (below_size (by repeat (first | (with_reducible first | exact HB.out | apply below_alloc | apply pw_below_drewN | apply below_drew1) | exact HB.out))) : w.heap.size ≤ gb136)); clear HB; have HB := n0_; have BK136 := n1_; have GW136 := n2_; have GE136 := n3_; clear n0_ n1_ n2_ n3_; clear hb hbox hg; have hcz8_0 : w7.cell? ⟨gb136, 0, none⟩ = some (.int .i64 0) := (blk_cell BK136.out 0).trans rfl; have hcz8_1 : w7.cell? ⟨gb136, 1, none⟩ = some (.int .i64 0) := (blk_cell BK136.out 1).trans rfl; have hfz8_0 := blk_frozen BK136.out 0; have hfz8_1 := blk_frozen BK136.out 1)); go_upto_region 6 with (first | ((with_reducible refine gate_dst (N := 4) rfl ?_); refine box_event ?hg (N := 4) ?hd (cs := #[.int .i64 0, .int .i64 0]) (t := 37) ?hr ?_; (case hd => rfl); (case hg => rfl); (case hr => first | (go_simp; done) | (go_simp; rfl)); intro gb136 hg w7 hbox hb; have n0_ := Aside0.mk (below_step (by repeat (first | (with_reducible first | exact HB.out | apply below_alloc | apply pw_below_drewN | apply below_drew1) | exact HB.out)) hb); have n1_ := Aside0.mk (hbox); have n2_ := Aside0.mk ((by rw [hg]; exact (below_size (by repeat (first | (with_reducible first | exact HB.out | apply below_alloc | apply pw_below_drewN | apply below_drew1) | exact HB.out))) : w.heap.size ≤ gb136)); have n3_ := Aside0.mk ((by rw [hg]; exact (below_size (by repeat (first | (with_reducible first | exact HB.out | apply below_alloc | apply pw_below_drewN | apply below_drew1) | exact HB.out))) : w.heap.size ≤ gb136)); clear HB; have HB := n0_; have BK136 := n1_; have GW136 := n2_; have GE136 := n3_; clear n0_ n1_ n2_ n3_; clear hb hbox hg; have hcz8_0 : w7.cell? ⟨gb136, 0, none⟩ = some (.int .i64 0) := (blk_cell BK136.out 0).trans rfl; have hcz8_1 : w7.cell? ⟨gb136, 1, none⟩ = some (.int .i64 0) := (blk_cell BK136.out 1).trans rfl; have hfz8_0 := blk_frozen BK136.out 0; have hfz8_1 := blk_frozen BK136.out 1)))
              (try simp only [Act.put, List.setIfInBounds_toArray, List.set_cons_zero, List.set_cons_succ])
              go_cut [24] (fun v24 wc => ∃ (kq : Nat) (x24_5 : Bool), v24 = .bool x24_5 ∧ Aside0 (impl_TermsValid.j1 kq l0 x10_1 l0 (l0.length : Int) x10_1 x24_5 ((rd_T37 l0 x10_1).f0) ((rd_T37 l0 x10_1).f1) = some r) ∧ Aside0 (kq ≤ k1) ∧ Aside0 (wc.heap[gb136]? = some (.cells #[.int .i64 ((rd_T37 l0 x10_1).f0), .int .i64 ((rd_T37 l0 x10_1).f1)] 37 (0, 0))) ∧ Aside0 (Below w.heap.size w wc))
              case first =>
                have H := HC6.out
                clear HC6
                replace H := Option.bind_eq_some_iff.mp H
                obtain ⟨t137, A90, H⟩ := H
                replace H : (if t137 = true then ((impl_within.f ((rd_T37 l0 x10_1).f1) 0 99999).bind fun t138 => (impl_TermsValid.j1 k1 l0 x10_1 l0 (l0.length : Int) x10_1 (!t138) ((rd_T37 l0 x10_1).f0) ((rd_T37 l0 x10_1).f1))) else (impl_TermsValid.j1 k1 l0 x10_1 l0 (l0.length : Int) x10_1 true ((rd_T37 l0 x10_1).f0) ((rd_T37 l0 x10_1).f1))) = some r := H
                have A9 := Aside0.mk A90
                clear A90
                by_cases c10 : t137 = true
                · subst c10
                  have H1 : ((impl_within.f ((rd_T37 l0 x10_1).f1) 0 99999).bind fun t138 => (impl_TermsValid.j1 k1 l0 x10_1 l0 (l0.length : Int) x10_1 (!t138) ((rd_T37 l0 x10_1).f0) ((rd_T37 l0 x10_1).f1))) = some r := by rw [if_pos rfl] at H; exact H
                  clear H
                  have H := H1
                  clear H1
                  replace H := Option.bind_eq_some_iff.mp H
                  obtain ⟨t138, A110, H⟩ := H
                  replace H : (impl_TermsValid.j1 k1 l0 x10_1 l0 (l0.length : Int) x10_1 (!t138) ((rd_T37 l0 x10_1).f0) ((rd_T37 l0 x10_1).f1)) = some r := H
                  have A11 := Aside0.mk A110
                  clear A110
                  have H' := Aside0.mk H
                  clear H
                  have hcz12_0 : w7.cell? ⟨gb136, 0, none⟩ = some (.int .i64 0) := (blk_cell BK136.out 0).trans rfl
                  have hcz12_1 : w7.cell? ⟨gb136, 1, none⟩ = some (.int .i64 0) := (blk_cell BK136.out 1).trans rfl
                  have hfz12_0 := blk_frozen BK136.out 0
                  have hfz12_1 := blk_frozen BK136.out 1
                  go_wp2_with (first | (go_at_call 43; (with_reducible refine (impl_within.calls ((rd_T37 l0 x10_1).f0) 0 999 true _ A9.out).mono ?_); rintro e w' ⟨rfl, ⟨nd, rfl⟩⟩; (try first | exact ⟨rfl, _, World.drewN_drewN _ _ _⟩ | exact ⟨rfl, _, Eq.trans (World.drewN_drewN _ _ _) (congrArg (World.drewN _) (Nat.add_assoc _ _ _))⟩)) | (go_at_call 43; (with_reducible refine (impl_within.calls ((rd_T37 l0 x10_1).f1) 0 99999 t138 _ A11.out).mono ?_); rintro e w' ⟨rfl, ⟨nd, rfl⟩⟩; (try first | exact ⟨rfl, _, World.drewN_drewN _ _ _⟩ | exact ⟨rfl, _, Eq.trans (World.drewN_drewN _ _ _) (congrArg (World.drewN _) (Nat.add_assoc _ _ _))⟩)))
                  repeat (go_quiet (first | (go_at_call 43; (with_reducible refine (impl_within.calls ((rd_T37 l0 x10_1).f0) 0 999 true _ A9.out).mono ?_); rintro e w' ⟨rfl, ⟨nd, rfl⟩⟩; (try first | exact ⟨rfl, _, World.drewN_drewN _ _ _⟩ | exact ⟨rfl, _, Eq.trans (World.drewN_drewN _ _ _) (congrArg (World.drewN _) (Nat.add_assoc _ _ _))⟩)) | (go_at_call 43; (with_reducible refine (impl_within.calls ((rd_T37 l0 x10_1).f1) 0 99999 t138 _ A11.out).mono ?_); rintro e w' ⟨rfl, ⟨nd, rfl⟩⟩; (try first | exact ⟨rfl, _, World.drewN_drewN _ _ _⟩ | exact ⟨rfl, _, Eq.trans (World.drewN_drewN _ _ _) (congrArg (World.drewN _) (Nat.add_assoc _ _ _))⟩))); try go_wp2_with (first | (go_at_call 43; (with_reducible refine (impl_within.calls ((rd_T37 l0 x10_1).f0) 0 999 true _ A9.out).mono ?_); rintro e w' ⟨rfl, ⟨nd, rfl⟩⟩; (try first | exact ⟨rfl, _, World.drewN_drewN _ _ _⟩ | exact ⟨rfl, _, Eq.trans (World.drewN_drewN _ _ _) (congrArg (World.drewN _) (Nat.add_assoc _ _ _))⟩)) | (go_at_call 43; (with_reducible refine (impl_within.calls ((rd_T37 l0 x10_1).f1) 0 99999 t138 _ A11.out).mono ?_); rintro e w' ⟨rfl, ⟨nd, rfl⟩⟩; (try first | exact ⟨rfl, _, World.drewN_drewN _ _ _⟩ | exact ⟨rfl, _, Eq.trans (World.drewN_drewN _ _ _) (congrArg (World.drewN _) (Nat.add_assoc _ _ _))⟩))))
                  go_meet
                  case rel => exact ⟨_, (!t138), (by first | rfl | (simp; done) | (simp [*]; done)), H', ⟨by have := HK1.out; first | omega | exact Nat.le_refl _⟩, ⟨by (with_reducible repeat (first | refine blk_drewN ?_ _ | refine blk_drew ?_ | refine blk_alloc ?_ _)); refine blk_put (cs := #[.int .i64 ((rd_T37 l0 x10_1).f0), .int .i64 0]) ?_ 1 _ rfl; (with_reducible repeat (first | refine blk_drewN ?_ _ | refine blk_drew ?_ | refine blk_alloc ?_ _)); refine blk_put (cs := #[.int .i64 0, .int .i64 0]) ?_ 0 _ rfl; (with_reducible repeat (first | refine blk_drewN ?_ _ | refine blk_drew ?_ | refine blk_alloc ?_ _)); exact BK136.out⟩, ⟨by repeat (first | (with_reducible first | exact HB.out | apply below_alloc | apply pw_below_drewN | apply below_drew1 | refine below_set ?_ GE136.out) | exact HB.out)⟩⟩
                · replace c10 := Bool.eq_false_iff.mpr c10
                  subst c10
                  have H1 : (impl_TermsValid.j1 k1 l0 x10_1 l0 (l0.length : Int) x10_1 true ((rd_T37 l0 x10_1).f0) ((rd_T37 l0 x10_1).f1)) = some r := by rw [if_neg (show ¬ (false = true) by decide)] at H; exact H
                  clear H
                  have H := H1
                  clear H1
                  have H' := Aside0.mk H
                  clear H
                  have hcz13_0 : w7.cell? ⟨gb136, 0, none⟩ = some (.int .i64 0) := (blk_cell BK136.out 0).trans rfl
                  have hcz13_1 : w7.cell? ⟨gb136, 1, none⟩ = some (.int .i64 0) := (blk_cell BK136.out 1).trans rfl
                  have hfz13_0 := blk_frozen BK136.out 0
                  have hfz13_1 := blk_frozen BK136.out 1
                  go_wp2_with (first | (go_at_call 43; (with_reducible refine (impl_within.calls ((rd_T37 l0 x10_1).f0) 0 999 false _ A9.out).mono ?_); rintro e w' ⟨rfl, ⟨nd, rfl⟩⟩; (try first | exact ⟨rfl, _, World.drewN_drewN _ _ _⟩ | exact ⟨rfl, _, Eq.trans (World.drewN_drewN _ _ _) (congrArg (World.drewN _) (Nat.add_assoc _ _ _))⟩)))
                  repeat (go_quiet (first | (go_at_call 43; (with_reducible refine (impl_within.calls ((rd_T37 l0 x10_1).f0) 0 999 false _ A9.out).mono ?_); rintro e w' ⟨rfl, ⟨nd, rfl⟩⟩; (try first | exact ⟨rfl, _, World.drewN_drewN _ _ _⟩ | exact ⟨rfl, _, Eq.trans (World.drewN_drewN _ _ _) (congrArg (World.drewN _) (Nat.add_assoc _ _ _))⟩))); try go_wp2_with (first | (go_at_call 43; (with_reducible refine (impl_within.calls ((rd_T37 l0 x10_1).f0) 0 999 false _ A9.out).mono ?_); rintro e w' ⟨rfl, ⟨nd, rfl⟩⟩; (try first | exact ⟨rfl, _, World.drewN_drewN _ _ _⟩ | exact ⟨rfl, _, Eq.trans (World.drewN_drewN _ _ _) (congrArg (World.drewN _) (Nat.add_assoc _ _ _))⟩))))
                  go_meet
                  case rel => exact ⟨_, (true), (by first | rfl | (simp; done) | (simp [*]; done)), H', ⟨by have := HK1.out; first | omega | exact Nat.le_refl _⟩, ⟨by (with_reducible repeat (first | refine blk_drewN ?_ _ | refine blk_drew ?_ | refine blk_alloc ?_ _)); refine blk_put (cs := #[.int .i64 ((rd_T37 l0 x10_1).f0), .int .i64 0]) ?_ 1 _ rfl; (with_reducible repeat (first | refine blk_drewN ?_ _ | refine blk_drew ?_ | refine blk_alloc ?_ _)); refine blk_put (cs := #[.int .i64 0, .int .i64 0]) ?_ 0 _ rfl; (with_reducible repeat (first | refine blk_drewN ?_ _ | refine blk_drew ?_ | refine blk_alloc ?_ _)); exact BK136.out⟩, ⟨by repeat (first | (with_reducible first | exact HB.out | apply below_alloc | apply pw_below_drewN | apply below_drew1 | refine below_set ?_ GE136.out) | exact HB.out)⟩⟩
              case rest =>
                clear HC6
                try clear c1
                try clear p1
                try clear q1
                try clear hx1
                try clear c2
                try clear c2b0
                try clear c2b1
                try clear p2
                try clear c3
                try clear c3b0
                try clear c4
                try clear c4b0
                try clear c5
                try clear c5b0
                try clear c10
                try clear p13
                try clear q13
                try clear hx13
                try clear hcz12_0
                try clear hcz12_1
                try clear hcz13_0
                try clear hcz13_1
                try clear hcz8_0
                try clear hcz8_1
                try clear hfz12_0
                try clear hfz12_1
                try clear hfz13_0
                try clear hfz13_1
                try clear hfz8_0
                try clear hfz8_1
                try clear hx135_0
                try clear hx135_1
                try clear p135
                try clear p2
                try clear q135
                obtain ⟨kq, x24_5, rfl, HA, HJ5, BK136, HB⟩ := hcut
                cases kq with
                | zero => exact absurd HA.out (by simp [impl_TermsValid.j1])
                | succ kj5 =>
                  have H := HA.out
                  clear HA
                  simp only [impl_TermsValid.j1] at H
                  by_cases c14 : x24_5 = true
                  · subst c14
                    have H1 : (some false) = some r := by rw [if_pos rfl] at H; exact H
                    clear H
                    have H := H1
                    clear H1
                    obtain rfl := Option.some.inj H
                    go_wp2
                    repeat (go_quiet (fail); try go_wp2)
                    go_ret
                    exact ⟨by first | rfl | (simp [errW_none, errW_some] <;> rfl) | (simp [*, errW_none, errW_some] <;> rfl), by repeat (first | (with_reducible first | exact HB.out | apply below_alloc | apply pw_below_drewN | apply below_drew1 | refine below_set ?_ GE136.out) | exact HB.out)⟩
                  · replace c14 := Bool.eq_false_iff.mpr c14
                    subst c14
                    have H1 : (if x10_1 > 0 then (if 0 ≤ (wrap64 (x10_1 - 1)) then (if (wrap64 (x10_1 - 1)) < (l0.length : Int) then (if ((rd_T37 l0 (wrap64 (x10_1 - 1))).f0) ≥ ((rd_T37 l0 x10_1).f0) then (some false) else (if ((rd_T37 l0 (wrap64 (x10_1 - 1))).f1) ≥ ((rd_T37 l0 x10_1).f1) then (some false) else (impl_TermsValid.l0 kj5 l0 l0 (l0.length : Int) (wrap64 (x10_1 + 1))))) else (none)) else (none)) else (impl_TermsValid.l0 kj5 l0 l0 (l0.length : Int) (wrap64 (x10_1 + 1)))) = some r := by rw [if_neg (show ¬ (false = true) by decide)] at H; exact H
                    clear H
                    have H := H1
                    clear H1
                    by_cases c15 : x10_1 > 0
                    · rw [if_pos c15] at H
                      have c15b0 : decide (0 < x10_1) = true := decide_eq_true c15
                      clear c15
                      obtain ⟨ji16, hji16⟩ : ∃ j_ : Int, (wrap64 (x10_1 - 1)) = j_ := ⟨_, rfl⟩
                      replace H : (if 0 ≤ (ji16) then (if (ji16) < (l0.length : Int) then (if ((rd_T37 l0 (ji16)).f0) ≥ ((rd_T37 l0 x10_1).f0) then (some false) else (if ((rd_T37 l0 (ji16)).f1) ≥ ((rd_T37 l0 x10_1).f1) then (some false) else (impl_TermsValid.l0 kj5 l0 l0 (l0.length : Int) (wrap64 (x10_1 + 1))))) else (none)) else (none)) = some r := by first | (rw [hji16] at H; exact H) | (simp only [hji16] at H ⊢; exact H)
                      have hji16w : (IntKind.i64.wrap (x10_1 - 1)) = ji16 := (i64_w _).trans hji16
                      by_cases c17 : 0 ≤ (ji16)
                      · rw [if_pos c17] at H
                        have c17b0 : decide (0 ≤ (ji16)) = true := decide_eq_true c17
                        clear c17
                        by_cases c18 : (ji16) < (l0.length : Int)
                        · rw [if_pos c18] at H
                          have c18b0 : decide ((ji16) < (l0.length : Int)) = true := decide_eq_true c18
                          clear c18
                          by_cases c19 : ((rd_T37 l0 (ji16)).f0) ≥ ((rd_T37 l0 x10_1).f0)
                          · rw [if_pos c19] at H
                            have c19b0 : decide (((rd_T37 l0 x10_1).f0) ≤ ((rd_T37 l0 (ji16)).f0)) = true := decide_eq_true c19
                            clear c19
                            obtain rfl := Option.some.inj H
                            have p139 : 0 ≤ ((ji16) : Int) := of_decide_eq_true (by first | (with_reducible assumption) | assumption)
                            have q139 : (ji16) < (l0.length : Int) := of_decide_eq_true (by first | (with_reducible assumption) | assumption)
                            obtain ⟨ad139, e139, hx139_0, hx139_1⟩ := at_T37 HR0.out (ji16) p139 q139
                            obtain rfl : ad135 = ad139 := (by injection e139)
                            replace hx139_0 := (HB.out.cell (World.block_lt_of_cell? w _ hx139_0)).trans hx139_0
                            replace hx139_1 := (HB.out.cell (World.block_lt_of_cell? w _ hx139_1)).trans hx139_1
                            replace p139 := eq_true p139
                            replace q139 := eq_true q139
                            have hcz20_0 : wc.cell? ⟨gb136, 0, none⟩ = some (.int .i64 ((rd_T37 l0 x10_1).f0)) := (blk_cell BK136.out 0).trans rfl
                            have hcz20_1 : wc.cell? ⟨gb136, 1, none⟩ = some (.int .i64 ((rd_T37 l0 x10_1).f1)) := (blk_cell BK136.out 1).trans rfl
                            have hfz20_0 := blk_frozen BK136.out 0
                            have hfz20_1 := blk_frozen BK136.out 1
                            go_wp2
                            repeat (go_quiet (fail); try go_wp2)
                            go_ret
                            exact ⟨by first | rfl | (simp [errW_none, errW_some] <;> rfl) | (simp only [← hji16]; first | rfl | (simp [errW_none, errW_some] <;> rfl)) | (simp [*, errW_none, errW_some] <;> rfl), by repeat (first | (with_reducible first | exact HB.out | apply below_alloc | apply pw_below_drewN | apply below_drew1 | refine below_set ?_ GE136.out) | exact HB.out)⟩
                          · rw [if_neg c19] at H
                            have c19b0 : decide (((rd_T37 l0 x10_1).f0) ≤ ((rd_T37 l0 (ji16)).f0)) = false := decide_eq_false c19
                            clear c19
                            by_cases c21 : ((rd_T37 l0 (ji16)).f1) ≥ ((rd_T37 l0 x10_1).f1)
                            · rw [if_pos c21] at H
                              have c21b0 : decide (((rd_T37 l0 x10_1).f1) ≤ ((rd_T37 l0 (ji16)).f1)) = true := decide_eq_true c21
                              clear c21
                              obtain rfl := Option.some.inj H
                              have p139 : 0 ≤ ((ji16) : Int) := of_decide_eq_true (by first | (with_reducible assumption) | assumption)
                              have q139 : (ji16) < (l0.length : Int) := of_decide_eq_true (by first | (with_reducible assumption) | assumption)
                              obtain ⟨ad139, e139, hx139_0, hx139_1⟩ := at_T37 HR0.out (ji16) p139 q139
                              obtain rfl : ad135 = ad139 := (by injection e139)
                              replace hx139_0 := (HB.out.cell (World.block_lt_of_cell? w _ hx139_0)).trans hx139_0
                              replace hx139_1 := (HB.out.cell (World.block_lt_of_cell? w _ hx139_1)).trans hx139_1
                              replace p139 := eq_true p139
                              replace q139 := eq_true q139
                              have hcz22_0 : wc.cell? ⟨gb136, 0, none⟩ = some (.int .i64 ((rd_T37 l0 x10_1).f0)) := (blk_cell BK136.out 0).trans rfl
                              have hcz22_1 : wc.cell? ⟨gb136, 1, none⟩ = some (.int .i64 ((rd_T37 l0 x10_1).f1)) := (blk_cell BK136.out 1).trans rfl
                              have hfz22_0 := blk_frozen BK136.out 0
                              have hfz22_1 := blk_frozen BK136.out 1
                              have p140 : 0 ≤ ((ji16) : Int) := of_decide_eq_true (by first | (with_reducible assumption) | assumption)
                              have q140 : (ji16) < (l0.length : Int) := of_decide_eq_true (by first | (with_reducible assumption) | assumption)
                              obtain ⟨ad140, e140, hx140_0, hx140_1⟩ := at_T37 HR0.out (ji16) p140 q140
                              obtain rfl : ad135 = ad140 := (by injection e140)
                              replace hx140_0 := (HB.out.cell (World.block_lt_of_cell? w _ hx140_0)).trans hx140_0
                              replace hx140_1 := (HB.out.cell (World.block_lt_of_cell? w _ hx140_1)).trans hx140_1
                              replace p140 := eq_true p140
                              replace q140 := eq_true q140
                              go_wp2
                              repeat (go_quiet (fail); try go_wp2)
                              go_ret
                              exact ⟨by first | rfl | (simp [errW_none, errW_some] <;> rfl) | (simp only [← hji16]; first | rfl | (simp [errW_none, errW_some] <;> rfl)) | (simp [*, errW_none, errW_some] <;> rfl), by repeat (first | (with_reducible first | exact HB.out | apply below_alloc | apply pw_below_drewN | apply below_drew1 | refine below_set ?_ GE136.out) | exact HB.out)⟩
                            · rw [if_neg c21] at H
                              have c21b0 : decide (((rd_T37 l0 x10_1).f1) ≤ ((rd_T37 l0 (ji16)).f1)) = false := decide_eq_false c21
                              clear c21
                              have H' := Aside0.mk H
                              clear H
                              have p139 : 0 ≤ ((ji16) : Int) := of_decide_eq_true (by first | (with_reducible assumption) | assumption)
                              have q139 : (ji16) < (l0.length : Int) := of_decide_eq_true (by first | (with_reducible assumption) | assumption)
                              obtain ⟨ad139, e139, hx139_0, hx139_1⟩ := at_T37 HR0.out (ji16) p139 q139
                              obtain rfl : ad135 = ad139 := (by injection e139)
                              replace hx139_0 := (HB.out.cell (World.block_lt_of_cell? w _ hx139_0)).trans hx139_0
                              replace hx139_1 := (HB.out.cell (World.block_lt_of_cell? w _ hx139_1)).trans hx139_1
                              replace p139 := eq_true p139
                              replace q139 := eq_true q139
                              have hcz23_0 : wc.cell? ⟨gb136, 0, none⟩ = some (.int .i64 ((rd_T37 l0 x10_1).f0)) := (blk_cell BK136.out 0).trans rfl
                              have hcz23_1 : wc.cell? ⟨gb136, 1, none⟩ = some (.int .i64 ((rd_T37 l0 x10_1).f1)) := (blk_cell BK136.out 1).trans rfl
                              have hfz23_0 := blk_frozen BK136.out 0
                              have hfz23_1 := blk_frozen BK136.out 1
                              have p140 : 0 ≤ ((ji16) : Int) := of_decide_eq_true (by first | (with_reducible assumption) | assumption)
                              have q140 : (ji16) < (l0.length : Int) := of_decide_eq_true (by first | (with_reducible assumption) | assumption)
                              obtain ⟨ad140, e140, hx140_0, hx140_1⟩ := at_T37 HR0.out (ji16) p140 q140
                              obtain rfl : ad135 = ad140 := (by injection e140)
                              replace hx140_0 := (HB.out.cell (World.block_lt_of_cell? w _ hx140_0)).trans hx140_0
                              replace hx140_1 := (HB.out.cell (World.block_lt_of_cell? w _ hx140_1)).trans hx140_1
                              replace p140 := eq_true p140
                              replace q140 := eq_true q140
                              go_wp2
                              repeat (go_quiet (fail); try go_wp2)
                              go_roundg kj5
                              case measure => have := HK1.out; have := HJ5.out; omega
                              case rel => exact ⟨(wrap64 (x10_1 + 1)), (by first | rfl | (simp; done) | (simp [*]; done)), H', ⟨by have := HK1.out; have := HJ5.out; omega⟩, ⟨by repeat (first | (with_reducible first | exact HB.out | apply below_alloc | apply pw_below_drewN | apply below_drew1 | refine below_set ?_ GE136.out) | exact HB.out)⟩⟩
                        · rw [if_neg c18] at H
                          exact absurd H (by simp)
                      · rw [if_neg c17] at H
                        exact absurd H (by simp)
                    · rw [if_neg c15] at H
                      have c15b0 : decide (0 < x10_1) = false := decide_eq_false c15
                      clear c15
                      have H' := Aside0.mk H
                      clear H
                      go_wp2
                      repeat (go_quiet (fail); try go_wp2)
                      go_roundg kj5
                      case measure => have := HK1.out; have := HJ5.out; omega
                      case rel => exact ⟨(wrap64 (x10_1 + 1)), (by first | rfl | (simp; done) | (simp [*]; done)), H', ⟨by have := HK1.out; have := HJ5.out; omega⟩, ⟨by repeat (first | (with_reducible first | exact HB.out | apply below_alloc | apply pw_below_drewN | apply below_drew1 | refine below_set ?_ GE136.out) | exact HB.out)⟩⟩
            · rw [if_neg c5] at H
              exact absurd H (by simp)
          · rw [if_neg c4] at H
            exact absurd H (by simp)
        · rw [if_neg c3] at H
          have c3b0 : decide (x10_1 < (l0.length : Int)) = false := decide_eq_false c3
          clear c3
          obtain rfl := Option.some.inj H
          go_wp2
          repeat (go_quiet (fail); try go_wp2)
          go_ret
          exact ⟨by first | rfl | (simp [errW_none, errW_some] <;> rfl) | (simp [*, errW_none, errW_some] <;> rfl), by repeat (first | (with_reducible first | exact HB.out | apply below_alloc | apply pw_below_drewN | apply below_drew1) | exact HB.out)⟩
end Go.Proofs.Ytamncgpajkoiaaa.T
namespace Go.Proofs.Ytamncgpajkoiaaa.T
open Go.RowKit Go.Proofs.YtamncgpajkoiaaaW.PrintWords Go.Proofs.YtamncgpajkoiaaaW.PrintLast Go.Proofs.YtamncgpajkoiaaaW.PrintMore

set_option linter.unusedVariables false
set_option linter.unusedSimpArgs false
def impl_endValid.f (k : Nat) (l0 : List (S37)) (a1 : Int) : Option (Bool) := (impl_TermsValid.f k l0).bind fun t338 => (if t338 = true then ((impl_within.f a1 0 100000).bind fun t339 => (if t339 = true then (if (l0.length : Int) = 0 then (some true) else (if 0 ≤ (wrap64 ((l0.length : Int) - 1)) then (if (wrap64 ((l0.length : Int) - 1)) < (l0.length : Int) then (some (decide (a1 > ((rd_T37 l0 (wrap64 ((l0.length : Int) - 1))).f1)))) else (none)) else (none))) else (some false))) else (some false))
theorem impl_endValid.mono : ∀ a0 a1 k, LeO (impl_endValid.f k a0 a1) (impl_endValid.f (k + 1) a0 a1) := by
  intro a0 a1 k
  unfold impl_endValid.f
  repeat' first
      | (with_reducible exact impl_TermsValid.mono _ _)
      | (with_reducible exact LeO.refl _)
      | (with_reducible exact LeO.none _)
      | (with_reducible refine LeO.ite ?_ ?_)
      | (with_reducible refine LeO.bind ?_ (fun _ => ?_))
      | exact impl_TermsValid.mono _ _
      | exact LeO.none _
      | refine LeO.ite ?_ ?_
      | refine LeO.bind ?_ (fun _ => ?_)
set_option maxHeartbeats 8000000 in
set_option maxRecDepth 100000 in
theorem impl_endValid.calls (k : Nat) (A0 : Option Addr) (c0 : Nat) (l0 : List (S37)) (a1 : Int) (r : Bool) (w : World) (hr0 : Kd.C k37 w A0 l0.length l0) (hc0 : l0.length ≤ c0) (h : impl_endValid.f k l0 a1 = some r) :
    Calls Try.prog 52 #[.slice A0 l0.length c0, .int .i64 a1] w fun e w' => e = .returned (.bool r) ∧ Below w.heap.size w w' := by
  have HR0 := Aside0.mk hr0
  have HC0 := Aside0.mk hc0
  clear hr0 hc0
  have HB := Aside0.mk (Below.refl w.heap.size w)
  have H : ((impl_TermsValid.f k l0).bind fun t338 => (if t338 = true then ((impl_within.f a1 0 100000).bind fun t339 => (if t339 = true then (if (l0.length : Int) = 0 then (some true) else (if 0 ≤ (wrap64 ((l0.length : Int) - 1)) then (if (wrap64 ((l0.length : Int) - 1)) < (l0.length : Int) then (some (decide (a1 > ((rd_T37 l0 (wrap64 ((l0.length : Int) - 1))).f1)))) else (none)) else (none))) else (some false))) else (some false))) = some r := h
  clear h
  replace H := Option.bind_eq_some_iff.mp H
  obtain ⟨t338, A30, H⟩ := H
  replace H : (if t338 = true then ((impl_within.f a1 0 100000).bind fun t339 => (if t339 = true then (if (l0.length : Int) = 0 then (some true) else (if 0 ≤ (wrap64 ((l0.length : Int) - 1)) then (if (wrap64 ((l0.length : Int) - 1)) < (l0.length : Int) then (some (decide (a1 > ((rd_T37 l0 (wrap64 ((l0.length : Int) - 1))).f1)))) else (none)) else (none))) else (some false))) else (some false)) = some r := H
  have A3 := Aside0.mk A30
  clear A30
  by_cases c4 : t338 = true
  · subst c4
    have H1 : ((impl_within.f a1 0 100000).bind fun t339 => (if t339 = true then (if (l0.length : Int) = 0 then (some true) else (if 0 ≤ (wrap64 ((l0.length : Int) - 1)) then (if (wrap64 ((l0.length : Int) - 1)) < (l0.length : Int) then (some (decide (a1 > ((rd_T37 l0 (wrap64 ((l0.length : Int) - 1))).f1)))) else (none)) else (none))) else (some false))) = some r := by rw [if_pos rfl] at H; exact H
    clear H
    have H := H1
    clear H1
    replace H := Option.bind_eq_some_iff.mp H
    obtain ⟨t339, A50, H⟩ := H
    replace H : (if t339 = true then (if (l0.length : Int) = 0 then (some true) else (if 0 ≤ (wrap64 ((l0.length : Int) - 1)) then (if (wrap64 ((l0.length : Int) - 1)) < (l0.length : Int) then (some (decide (a1 > ((rd_T37 l0 (wrap64 ((l0.length : Int) - 1))).f1)))) else (none)) else (none))) else (some false)) = some r := H
    have A5 := Aside0.mk A50
    clear A50
    by_cases c6 : t339 = true
    · subst c6
      have H1 : (if (l0.length : Int) = 0 then (some true) else (if 0 ≤ (wrap64 ((l0.length : Int) - 1)) then (if (wrap64 ((l0.length : Int) - 1)) < (l0.length : Int) then (some (decide (a1 > ((rd_T37 l0 (wrap64 ((l0.length : Int) - 1))).f1)))) else (none)) else (none))) = some r := by rw [if_pos rfl] at H; exact H
      clear H
      have H := H1
      clear H1
      by_cases c7 : (l0.length : Int) = 0
      · rw [if_pos c7] at H
        have c7b0 : ((l0.length : Int) == 0) = true := beq_iff_eq.mpr c7
        have c7b1 : ((l0.length : Int) != 0) = false := bne_eq_false_iff_eq.mpr c7
        clear c7
        obtain rfl := Option.some.inj H
        go_enter Try.func52, Try.ntmps52
        go_wp2_with (first | ((with_reducible refine gate_callee (f := 20) rfl ?_); refine goesL_ (some 6) rfl rfl Try.func20 (by kernel_rfl) rfl #[.slice A0 l0.length c0] rfl (by (try simp only [List.map_toArray, List.map_cons, List.map_nil]); first | done | rfl | (simp only [List.length_drop, List.length_take]; rfl)) ?_; (with_reducible refine (impl_TermsValid.calls k _ _ l0 true _ ?side1 ?side2 A3.out).mono ?_); (case side1 => repeat (first | exact HR0.out | (with_reducible refine Kd.C_alloc ?_ _) | (with_reducible refine Kd.C_drewN ?_ _) | (with_reducible refine Kd.C_drew ?_))); (case side2 => exact HC0.out); rintro e w8 ⟨rfl, hb⟩; refine ⟨_, rfl, ?_⟩; have n0_ := Aside0.mk (below_step (by repeat (first | (with_reducible first | exact HB.out | apply below_alloc | apply pw_below_drewN | apply below_drew1) | exact HB.out)) hb); clear HB; have HB := n0_; clear n0_; (try clear hb); (try clear hb2); (try clear hk); (try clear hi)) | (go_at_call 43; (with_reducible refine (impl_within.calls a1 0 100000 true _ A5.out).mono ?_); rintro e w' ⟨rfl, ⟨nd, rfl⟩⟩))
        go_ret
        exact ⟨by first | rfl | (simp [errW_none, errW_some] <;> rfl) | (simp [*, errW_none, errW_some] <;> rfl), by repeat (first | (with_reducible first | exact HB.out | apply below_alloc | apply pw_below_drewN | apply below_drew1) | exact HB.out)⟩
      · rw [if_neg c7] at H
        have c7b0 : ((l0.length : Int) == 0) = false := beq_eq_false_iff_ne.mpr c7
        have c7b1 : ((l0.length : Int) != 0) = true := bne_iff_ne.mpr c7
        have c7b2 : ¬ (l0 = []) := fun h_ => c7 (by rw [h_]; rfl)
        obtain ⟨ji9, hji9⟩ : ∃ j_ : Int, (wrap64 ((l0.length : Int) - 1)) = j_ := ⟨_, rfl⟩
        replace H : (if 0 ≤ (ji9) then (if (ji9) < (l0.length : Int) then (some (decide (a1 > ((rd_T37 l0 (ji9)).f1)))) else (none)) else (none)) = some r := by first | (rw [hji9] at H; exact H) | (simp only [hji9] at H ⊢; exact H)
        (try rw [hji9] at A3)
        (try rw [hji9] at A5)
        have hji9w : (IntKind.i64.wrap ((l0.length : Int) - 1)) = ji9 := (i64_w _).trans hji9
        by_cases c10 : 0 ≤ (ji9)
        · rw [if_pos c10] at H
          have c10b0 : decide (0 ≤ (ji9)) = true := decide_eq_true c10
          clear c10
          by_cases c11 : (ji9) < (l0.length : Int)
          · rw [if_pos c11] at H
            have c11b0 : decide ((ji9) < (l0.length : Int)) = true := decide_eq_true c11
            clear c11
            obtain rfl := Option.some.inj H
            go_enter Try.func52, Try.ntmps52
            go_wp2_with (first | ((with_reducible refine gate_callee (f := 20) rfl ?_); refine goesL_ (some 6) rfl rfl Try.func20 (by kernel_rfl) rfl #[.slice A0 l0.length c0] rfl (by (try simp only [List.map_toArray, List.map_cons, List.map_nil]); first | done | rfl | (simp only [List.length_drop, List.length_take]; rfl)) ?_; (with_reducible refine (impl_TermsValid.calls k _ _ l0 true _ ?side1 ?side2 A3.out).mono ?_); (case side1 => repeat (first | exact HR0.out | (with_reducible refine Kd.C_alloc ?_ _) | (with_reducible refine Kd.C_drewN ?_ _) | (with_reducible refine Kd.C_drew ?_))); (case side2 => exact HC0.out); rintro e w12 ⟨rfl, hb⟩; refine ⟨_, rfl, ?_⟩; have n0_ := Aside0.mk (below_step (by repeat (first | (with_reducible first | exact HB.out | apply below_alloc | apply pw_below_drewN | apply below_drew1) | exact HB.out)) hb); clear HB; have HB := n0_; clear n0_; (try clear hb); (try clear hb2); (try clear hk); (try clear hi)) | (go_at_call 43; (with_reducible refine (impl_within.calls a1 0 100000 true _ A5.out).mono ?_); rintro e w' ⟨rfl, ⟨nd, rfl⟩⟩; have p340 : 0 ≤ ((ji9) : Int) := of_decide_eq_true (by first | (with_reducible assumption) | assumption); have q340 : (ji9) < (l0.length : Int) := of_decide_eq_true (by first | (with_reducible assumption) | assumption); obtain ⟨ad340, e340, hx340_0, hx340_1⟩ := at_T37 HR0.out (ji9) p340 q340; cases e340; replace hx340_0 := (HB.out.cell (World.block_lt_of_cell? w _ hx340_0)).trans hx340_0; replace hx340_1 := (HB.out.cell (World.block_lt_of_cell? w _ hx340_1)).trans hx340_1; replace p340 := eq_true p340; replace q340 := eq_true q340))
            go_ret
            exact ⟨by first | rfl | (simp [errW_none, errW_some] <;> rfl) | (simp only [← hji9]; first | rfl | (simp [errW_none, errW_some] <;> rfl)) | (simp [*, errW_none, errW_some] <;> rfl), by repeat (first | (with_reducible first | exact HB.out | apply below_alloc | apply pw_below_drewN | apply below_drew1) | exact HB.out)⟩
          · rw [if_neg c11] at H
            exact absurd H (by simp)
        · rw [if_neg c10] at H
          exact absurd H (by simp)
    · replace c6 := Bool.eq_false_iff.mpr c6
      subst c6
      have H1 : (some false) = some r := by rw [if_neg (show ¬ (false = true) by decide)] at H; exact H
      clear H
      have H := H1
      clear H1
      obtain rfl := Option.some.inj H
      go_enter Try.func52, Try.ntmps52
      go_wp2_with (first | ((with_reducible refine gate_callee (f := 20) rfl ?_); refine goesL_ (some 6) rfl rfl Try.func20 (by kernel_rfl) rfl #[.slice A0 l0.length c0] rfl (by (try simp only [List.map_toArray, List.map_cons, List.map_nil]); first | done | rfl | (simp only [List.length_drop, List.length_take]; rfl)) ?_; (with_reducible refine (impl_TermsValid.calls k _ _ l0 true _ ?side1 ?side2 A3.out).mono ?_); (case side1 => repeat (first | exact HR0.out | (with_reducible refine Kd.C_alloc ?_ _) | (with_reducible refine Kd.C_drewN ?_ _) | (with_reducible refine Kd.C_drew ?_))); (case side2 => exact HC0.out); rintro e w13 ⟨rfl, hb⟩; refine ⟨_, rfl, ?_⟩; have n0_ := Aside0.mk (below_step (by repeat (first | (with_reducible first | exact HB.out | apply below_alloc | apply pw_below_drewN | apply below_drew1) | exact HB.out)) hb); clear HB; have HB := n0_; clear n0_; (try clear hb); (try clear hb2); (try clear hk); (try clear hi)) | (go_at_call 43; (with_reducible refine (impl_within.calls a1 0 100000 false _ A5.out).mono ?_); rintro e w' ⟨rfl, ⟨nd, rfl⟩⟩))
      go_ret
      exact ⟨by first | rfl | (simp [errW_none, errW_some] <;> rfl) | (simp [*, errW_none, errW_some] <;> rfl), by repeat (first | (with_reducible first | exact HB.out | apply below_alloc | apply pw_below_drewN | apply below_drew1) | exact HB.out)⟩
  · replace c4 := Bool.eq_false_iff.mpr c4
    subst c4
    have H1 : (some false) = some r := by rw [if_neg (show ¬ (false = true) by decide)] at H; exact H
    clear H
    have H := H1
    clear H1
    obtain rfl := Option.some.inj H
    go_enter Try.func52, Try.ntmps52
    go_wp2_with (first | ((with_reducible refine gate_callee (f := 20) rfl ?_); refine goesL_ (some 6) rfl rfl Try.func20 (by kernel_rfl) rfl #[.slice A0 l0.length c0] rfl (by (try simp only [List.map_toArray, List.map_cons, List.map_nil]); first | done | rfl | (simp only [List.length_drop, List.length_take]; rfl)) ?_; (with_reducible refine (impl_TermsValid.calls k _ _ l0 false _ ?side1 ?side2 A3.out).mono ?_); (case side1 => repeat (first | exact HR0.out | (with_reducible refine Kd.C_alloc ?_ _) | (with_reducible refine Kd.C_drewN ?_ _) | (with_reducible refine Kd.C_drew ?_))); (case side2 => exact HC0.out); rintro e w14 ⟨rfl, hb⟩; refine ⟨_, rfl, ?_⟩; have n0_ := Aside0.mk (below_step (by repeat (first | (with_reducible first | exact HB.out | apply below_alloc | apply pw_below_drewN | apply below_drew1) | exact HB.out)) hb); clear HB; have HB := n0_; clear n0_; (try clear hb); (try clear hb2); (try clear hk); (try clear hi)))
    go_ret
    exact ⟨by first | rfl | (simp [errW_none, errW_some] <;> rfl) | (simp [*, errW_none, errW_some] <;> rfl), by repeat (first | (with_reducible first | exact HB.out | apply below_alloc | apply pw_below_drewN | apply below_drew1) | exact HB.out)⟩
end Go.Proofs.Ytamncgpajkoiaaa.T
namespace Go.Proofs.Ytamncgpajkoiaaa.T
open Go.RowKit Go.Proofs.YtamncgpajkoiaaaW.PrintWords Go.Proofs.YtamncgpajkoiaaaW.PrintLast Go.Proofs.YtamncgpajkoiaaaW.PrintMore

set_option linter.unusedVariables false
set_option linter.unusedSimpArgs false
def impl_endAt.f (l0 : List (S37)) (a1 : Int) (a2 : Int) : Option (Int) := if (wrap64 (a1 + 1)) < (l0.length : Int) then (if 0 ≤ (wrap64 (a1 + 1)) then (some ((rd_T37 l0 (wrap64 (a1 + 1))).f1)) else (none)) else (some a2)
set_option maxHeartbeats 8000000 in
set_option maxRecDepth 100000 in
theorem impl_endAt.calls (A0 : Option Addr) (c0 : Nat) (l0 : List (S37)) (a1 : Int) (a2 : Int) (r : Int) (w : World) (hr0 : Kd.C k37 w A0 l0.length l0) (hc0 : l0.length ≤ c0) (h : impl_endAt.f l0 a1 a2 = some r) :
    Calls Try.prog 55 #[.slice A0 l0.length c0, .int .i64 a1, .int .i64 a2] w fun e w' => e = .returned (.int .i64 r) ∧ Drawn0 w w' := by
  have HR0 := Aside0.mk hr0
  have HC0 := Aside0.mk hc0
  clear hr0 hc0
  have H : (if (wrap64 (a1 + 1)) < (l0.length : Int) then (if 0 ≤ (wrap64 (a1 + 1)) then (some ((rd_T37 l0 (wrap64 (a1 + 1))).f1)) else (none)) else (some a2)) = some r := h
  clear h
  by_cases c4 : (wrap64 (a1 + 1)) < (l0.length : Int)
  · rw [if_pos c4] at H
    have c4b0 : decide ((wrap64 (a1 + 1)) < (l0.length : Int)) = true := decide_eq_true c4
    clear c4
    obtain ⟨ji5, hji5⟩ : ∃ j_ : Int, (wrap64 (a1 + 1)) = j_ := ⟨_, rfl⟩
    replace H : (if 0 ≤ (ji5) then (some ((rd_T37 l0 (ji5)).f1)) else (none)) = some r := by first | (rw [hji5] at H; exact H) | (simp only [hji5] at H ⊢; exact H)
    (try rw [hji5] at c4b0)
    have hji5w : (IntKind.i64.wrap (a1 + 1)) = ji5 := (i64_w _).trans hji5
    by_cases c6 : 0 ≤ (ji5)
    · rw [if_pos c6] at H
      have c6b0 : decide (0 ≤ (ji5)) = true := decide_eq_true c6
      clear c6
      obtain rfl := Option.some.inj H
      have p341 : 0 ≤ ((ji5) : Int) := of_decide_eq_true (by first | (with_reducible assumption) | assumption)
      have q341 : (ji5) < (l0.length : Int) := of_decide_eq_true (by first | (with_reducible assumption) | assumption)
      obtain ⟨ad341, e341, hx341_0, hx341_1⟩ := at_T37 HR0.out (ji5) p341 q341
      cases e341
      replace p341 := eq_true p341
      replace q341 := eq_true q341
      go_enter Try.func55, Try.ntmps55
      go_wp2
      go_ret
      exact ⟨by first | rfl | (simp; done) | (simp only [← hji5] <;> (first | rfl | simp)) | (simp [*]; done), by repeat (first | exact Drawn0.refl _ | apply Drawn0.step)⟩
    · rw [if_neg c6] at H
      exact absurd H (by simp)
  · rw [if_neg c4] at H
    have c4b0 : decide ((wrap64 (a1 + 1)) < (l0.length : Int)) = false := decide_eq_false c4
    clear c4
    obtain rfl := Option.some.inj H
    go_enter Try.func55, Try.ntmps55
    go_wp2
    go_ret
    exact ⟨by first | rfl | (simp; done) | (simp [*]; done), by repeat (first | exact Drawn0.refl _ | apply Drawn0.step)⟩
def impl_findTerm (l : List S37) (x : Int) : Int := match l.findIdx? (fun t => t.f0 == x) with
  | some i => i
  | none => -1
end Go.Proofs.Ytamncgpajkoiaaa.T
namespace Go.Proofs.Ytamncgpajkoiaaa.T
open Go.RowKit Go.Proofs.YtamncgpajkoiaaaW.PrintWords Go.Proofs.YtamncgpajkoiaaaW.PrintLast Go.Proofs.YtamncgpajkoiaaaW.PrintMore

set_option linter.unusedVariables false
set_option linter.unusedSimpArgs false
end Go.Proofs.Ytamncgpajkoiaaa.T
namespace Go.Proofs.Ytamncgpajkoiaaa.T
open Go.RowKit Go.Proofs.YtamncgpajkoiaaaW.PrintWords Go.Proofs.YtamncgpajkoiaaaW.PrintLast Go.Proofs.YtamncgpajkoiaaaW.PrintMore

set_option linter.unusedVariables false
set_option linter.unusedSimpArgs false

def impl_Term_58.l0 : Nat → List (S37) → Int → Int → Int → Int → Option (Int)
  | 0, _, _, _, _, _ => none
  | k + 1, x0, x7, x8, x398000, x398001 => if x8 < x7 then (if 0 ≤ x8 then (if x8 < (x0.length : Int) then (if (x398000 == ((rd_T37 x0 x8).f0) && (x398001 == ((rd_T37 x0 x8).f1))) = true then (some x8) else (impl_Term_58.l0 k x0 x7 (wrap64 (x8 + 1)) x398000 x398001)) else (none)) else (none)) else (some (-1))
def impl_Term_58.f (k : Nat) (l0 : List (S37)) (a1_0 : Int) (a1_1 : Int) : Option (Int) := impl_Term_58.l0 k l0 (l0.length : Int) 0 a1_0 a1_1
theorem impl_Term_58.mono_l : ∀ k, (∀ y0 y1 y2 y3 y4, LeO (impl_Term_58.l0 k y0 y1 y2 y3 y4) (impl_Term_58.l0 (k + 1) y0 y1 y2 y3 y4))
  | 0 => fun _ _ _ _ _ r h => by simp [impl_Term_58.l0] at h
  | k + 1 => by
    have ih0 := impl_Term_58.mono_l k
    · intro y0 y1 y2 y3 y4
      unfold impl_Term_58.l0
      repeat' first
      | (with_reducible exact ih0 _ _ _ _ _)
      | (with_reducible exact LeO.refl _)
      | (with_reducible exact LeO.none _)
      | (with_reducible refine LeO.ite ?_ ?_)
      | (with_reducible refine LeO.bind ?_ (fun _ => ?_))
      | exact ih0 _ _ _ _ _
      | exact LeO.none _
      | refine LeO.ite ?_ ?_
      | refine LeO.bind ?_ (fun _ => ?_)
theorem impl_Term_58.mono : ∀ a0 a1 a2 k, LeO (impl_Term_58.f k a0 a1 a2) (impl_Term_58.f (k + 1) a0 a1 a2) := by
  intro a0 a1 a2 k
  have ih0 := impl_Term_58.mono_l k
  unfold impl_Term_58.f
  repeat' first
      | (with_reducible exact ih0 _ _ _ _ _)
      | (with_reducible exact LeO.refl _)
      | (with_reducible exact LeO.none _)
      | (with_reducible refine LeO.ite ?_ ?_)
      | (with_reducible refine LeO.bind ?_ (fun _ => ?_))
      | exact ih0 _ _ _ _ _
      | exact LeO.none _
      | refine LeO.ite ?_ ?_
      | refine LeO.bind ?_ (fun _ => ?_)
set_option maxHeartbeats 8000000 in
set_option maxRecDepth 100000 in
theorem impl_Term_58.calls (k : Nat) (A0 : Option Addr) (c0 : Nat) (l0 : List (S37)) (a1_0 : Int) (a1_1 : Int) (r : Int) (w : World) (hr0 : Kd.C k37 w A0 l0.length l0) (hc0 : l0.length ≤ c0) (h : impl_Term_58.f k l0 a1_0 a1_1 = some r) :
    Calls Try.prog 58 #[.slice A0 l0.length c0, .agg #[.int .i64 a1_0, .int .i64 a1_1]] w fun e w' => e = .returned (.int .i64 r) ∧ Below w.heap.size w w' := by
  have hu37 := Try.underlying37
  have HR0 := Aside0.mk hr0
  have HC0 := Aside0.mk hc0
  clear hr0 hc0
  have HB := Aside0.mk (Below.refl w.heap.size w)
  have H : (impl_Term_58.l0 k l0 (l0.length : Int) 0 a1_0 a1_1) = some r := h
  clear h
  have H' := Aside0.mk H
  clear H
  go_enter Try.func58, Try.ntmps58
  go_wp2_with (first | ((with_reducible refine gate_dst (N := 3) rfl ?_); refine box_event ?hg (N := 3) ?hd (cs := #[.int .i64 a1_0, .int .i64 a1_1]) (t := 37) ?hr ?_; (case hd => rfl); (case hg => rfl); (case hr => first | (go_simp; done) | (go_simp; rfl)); intro gb397 hg w3 hbox hb; have n0_ := Aside0.mk (below_step (by repeat (first | (with_reducible first | exact HB.out | apply below_alloc | apply pw_below_drewN | apply below_drew1) | exact HB.out)) hb); have n1_ := Aside0.mk (hbox); have n2_ := Aside0.mk ((by rw [hg]; exact (below_size (by repeat (first | (with_reducible first | exact HB.out | apply below_alloc | apply pw_below_drewN | apply below_drew1) | exact HB.out))) : w.heap.size ≤ gb397)); have n3_ := Aside0.mk ((by rw [hg]; exact (below_size (by repeat (first | (with_reducible first | exact HB.out | apply below_alloc | apply pw_below_drewN | apply below_drew1) | exact HB.out))) : w.heap.size ≤ gb397)); clear HB; have HB := n0_; have BK397 := n1_; have GW397 := n2_; have GE397 := n3_; clear n0_ n1_ n2_ n3_; clear hb hbox hg))
  repeat (go_quiet (first | ((with_reducible refine gate_dst (N := 3) rfl ?_); refine box_event ?hg (N := 3) ?hd (cs := #[.int .i64 a1_0, .int .i64 a1_1]) (t := 37) ?hr ?_; (case hd => rfl); (case hg => rfl); (case hr => first | (go_simp; done) | (go_simp; rfl)); intro gb397 hg w3 hbox hb; have n0_ := Aside0.mk (below_step (by repeat (first | (with_reducible first | exact HB.out | apply below_alloc | apply pw_below_drewN | apply below_drew1) | exact HB.out)) hb); have n1_ := Aside0.mk (hbox); have n2_ := Aside0.mk ((by rw [hg]; exact (below_size (by repeat (first | (with_reducible first | exact HB.out | apply below_alloc | apply pw_below_drewN | apply below_drew1) | exact HB.out))) : w.heap.size ≤ gb397)); have n3_ := Aside0.mk ((by rw [hg]; exact (below_size (by repeat (first | (with_reducible first | exact HB.out | apply below_alloc | apply pw_below_drewN | apply below_drew1) | exact HB.out))) : w.heap.size ≤ gb397)); clear HB; have HB := n0_; have BK397 := n1_; have GW397 := n2_; have GE397 := n3_; clear n0_ n1_ n2_ n3_; clear hb hbox hg)); try go_wp2_with (first | ((with_reducible refine gate_dst (N := 3) rfl ?_); refine box_event ?hg (N := 3) ?hd (cs := #[.int .i64 a1_0, .int .i64 a1_1]) (t := 37) ?hr ?_; (case hd => rfl); (case hg => rfl); (case hr => first | (go_simp; done) | (go_simp; rfl)); intro gb397 hg w3 hbox hb; have n0_ := Aside0.mk (below_step (by repeat (first | (with_reducible first | exact HB.out | apply below_alloc | apply pw_below_drewN | apply below_drew1) | exact HB.out)) hb); have n1_ := Aside0.mk (hbox); have n2_ := Aside0.mk ((by rw [hg]; exact (below_size (by repeat (first | (with_reducible first | exact HB.out | apply below_alloc | apply pw_below_drewN | apply below_drew1) | exact HB.out))) : w.heap.size ≤ gb397)); have n3_ := Aside0.mk ((by rw [hg]; exact (below_size (by repeat (first | (with_reducible first | exact HB.out | apply below_alloc | apply pw_below_drewN | apply below_drew1) | exact HB.out))) : w.heap.size ≤ gb397)); clear HB; have HB := n0_; have BK397 := n1_; have GW397 := n2_; have GE397 := n3_; clear n0_ n1_ n2_ n3_; clear hb hbox hg)))
  go_loopg [8] k (fun kq v8 w' => ∃ (x8_1 : Int), v8 = .int .i64 x8_1 ∧ Aside0 (impl_Term_58.l0 kq l0 (l0.length : Int) x8_1 a1_0 a1_1 = some r) ∧ Aside0 (kq ≤ k) ∧ Aside0 (w'.heap[gb397]? = some (.cells #[.int .i64 a1_0, .int .i64 a1_1] 37 (0, 0))) ∧ Aside0 (Below w.heap.size w w'))
  case atStart => exact ⟨(0), (by first | rfl | (simp; done) | (simp [*]; done)), H', ⟨Nat.le_refl _⟩, ⟨by (with_reducible repeat (first | refine blk_drewN ?_ _ | refine blk_drew ?_ | refine blk_alloc ?_ _)); exact BK397.out⟩, ⟨by repeat (first | (with_reducible first | exact HB.out | apply below_alloc | apply pw_below_drewN | apply below_drew1 | refine below_set ?_ GE397.out) | exact HB.out)⟩⟩
  case round =>
    clear H'
    try clear p2
    obtain ⟨x8_1, rfl, HA, HK1, BK397, HB⟩ := hrel
    cases gk with
    | zero => exact absurd HA.out (by simp [impl_Term_58.l0])
    | succ k1 =>
      have H := HA.out
      clear HA
      simp only [impl_Term_58.l0] at H
      by_cases c4 : x8_1 < (l0.length : Int)
      · rw [if_pos c4] at H
        have c4b0 : decide (x8_1 < (l0.length : Int)) = true := decide_eq_true c4
        clear c4
        by_cases c5 : 0 ≤ x8_1
        · rw [if_pos c5] at H
          have c5b0 : decide (0 ≤ x8_1) = true := decide_eq_true c5
          clear c5
          by_cases c6 : x8_1 < (l0.length : Int)
          · rw [if_pos c6] at H
            have c6b0 : decide (x8_1 < (l0.length : Int)) = true := decide_eq_true c6
            clear c6
            by_cases c7 : (a1_0 == ((rd_T37 l0 x8_1).f0) && (a1_1 == ((rd_T37 l0 x8_1).f1))) = true
            · rw [if_pos c7] at H
              have c7b0 : (a1_0 == ((rd_T37 l0 x8_1).f0) && (a1_1 == ((rd_T37 l0 x8_1).f1))) = true := c7
              (try (have c7b1 : decide (a1_0 = ((rd_T37 l0 x8_1).f0) && (a1_1 == ((rd_T37 l0 x8_1).f1))) = true := by simpa using c7))
              (try (have c7b2 : (a1_0 == ((rd_T37 l0 x8_1).f0) && (a1_1 == ((rd_T37 l0 x8_1).f1))) = true := by simpa using c7))
              clear c7
              obtain rfl := Option.some.inj H
              have hcz8_0 : wr.cell? ⟨gb397, 0, none⟩ = some (.int .i64 a1_0) := (blk_cell BK397.out 0).trans rfl
              have hcz8_1 : wr.cell? ⟨gb397, 1, none⟩ = some (.int .i64 a1_1) := (blk_cell BK397.out 1).trans rfl
              have hfz8_0 := blk_frozen BK397.out 0
              have hfz8_1 := blk_frozen BK397.out 1
              have p398 : 0 ≤ (x8_1 : Int) := of_decide_eq_true (by first | (with_reducible assumption) | assumption)
              have q398 : x8_1 < (l0.length : Int) := of_decide_eq_true (by first | (with_reducible assumption) | assumption)
              obtain ⟨ad398, e398, hx398_0, hx398_1⟩ := at_T37 HR0.out x8_1 p398 q398
              cases e398
              replace hx398_0 := (HB.out.cell (World.block_lt_of_cell? w _ hx398_0)).trans hx398_0
              replace hx398_1 := (HB.out.cell (World.block_lt_of_cell? w _ hx398_1)).trans hx398_1
              replace p398 := eq_true p398
              replace q398 := eq_true q398
              go_wp2
              repeat (go_quiet (fail); try go_wp2)
              go_ret
              exact ⟨by first | rfl | (simp [errW_none, errW_some] <;> rfl) | (simp [*, errW_none, errW_some] <;> rfl), by repeat (first | (with_reducible first | exact HB.out | apply below_alloc | apply pw_below_drewN | apply below_drew1 | refine below_set ?_ GE397.out) | exact HB.out)⟩
            · rw [if_neg c7] at H
              have c7b0 : (a1_0 == ((rd_T37 l0 x8_1).f0) && (a1_1 == ((rd_T37 l0 x8_1).f1))) = false := by simpa using c7
              (try (have c7b1 : decide (a1_0 = ((rd_T37 l0 x8_1).f0) && (a1_1 == ((rd_T37 l0 x8_1).f1))) = false := by simpa using c7))
              (try (have c7b2 : (a1_0 == ((rd_T37 l0 x8_1).f0) && (a1_1 == ((rd_T37 l0 x8_1).f1))) = false := by simpa using c7))
              (try (have c7b3 : ¬ (a1_0 = ((rd_T37 l0 x8_1).f0) && (a1_1 == ((rd_T37 l0 x8_1).f1))) := by simpa using c7))
              clear c7
              have H' := Aside0.mk H
              clear H
              have hcz9_0 : wr.cell? ⟨gb397, 0, none⟩ = some (.int .i64 a1_0) := (blk_cell BK397.out 0).trans rfl
              have hcz9_1 : wr.cell? ⟨gb397, 1, none⟩ = some (.int .i64 a1_1) := (blk_cell BK397.out 1).trans rfl
              have hfz9_0 := blk_frozen BK397.out 0
              have hfz9_1 := blk_frozen BK397.out 1
              have p398 : 0 ≤ (x8_1 : Int) := of_decide_eq_true (by first | (with_reducible assumption) | assumption)
              have q398 : x8_1 < (l0.length : Int) := of_decide_eq_true (by first | (with_reducible assumption) | assumption)
              obtain ⟨ad398, e398, hx398_0, hx398_1⟩ := at_T37 HR0.out x8_1 p398 q398
              cases e398
              replace hx398_0 := (HB.out.cell (World.block_lt_of_cell? w _ hx398_0)).trans hx398_0
              replace hx398_1 := (HB.out.cell (World.block_lt_of_cell? w _ hx398_1)).trans hx398_1
              replace p398 := eq_true p398
              replace q398 := eq_true q398
              go_wp2
              repeat (go_quiet (fail); try go_wp2)
              go_roundg k1
              case measure => have := HK1.out; omega
              case rel => exact ⟨(wrap64 (x8_1 + 1)), (by first | rfl | (simp; done) | (simp [*]; done)), H', ⟨by have := HK1.out; omega⟩, ⟨by (with_reducible repeat (first | refine blk_drewN ?_ _ | refine blk_drew ?_ | refine blk_alloc ?_ _)); exact BK397.out⟩, ⟨by repeat (first | (with_reducible first | exact HB.out | apply below_alloc | apply pw_below_drewN | apply below_drew1 | refine below_set ?_ GE397.out) | exact HB.out)⟩⟩
          · rw [if_neg c6] at H
            exact absurd H (by simp)
        · rw [if_neg c5] at H
          exact absurd H (by simp)
      · rw [if_neg c4] at H
        have c4b0 : decide (x8_1 < (l0.length : Int)) = false := decide_eq_false c4
        clear c4
        obtain rfl := Option.some.inj H
        go_wp2
        repeat (go_quiet (fail); try go_wp2)
        go_ret
        exact ⟨by first | rfl | (simp [errW_none, errW_some] <;> rfl) | (simp [*, errW_none, errW_some] <;> rfl), by repeat (first | (with_reducible first | exact HB.out | apply below_alloc | apply pw_below_drewN | apply below_drew1 | refine below_set ?_ GE397.out) | exact HB.out)⟩
def impl_lesser_int.f (a0 : Int) (a1 : Int) : Option (Int) := if a1 < a0 then (some a1) else (some a0)
set_option maxHeartbeats 8000000 in
set_option maxRecDepth 100000 in
theorem impl_lesser_int.calls (a0 : Int) (a1 : Int) (r : Int) (w : World) (h : impl_lesser_int.f a0 a1 = some r) :
    Calls Try.prog 59 #[.int .i64 a0, .int .i64 a1] w fun e w' => e = .returned (.int .i64 r) ∧ Drawn0 w w' := by
  have H : (if a1 < a0 then (some a1) else (some a0)) = some r := h
  clear h
  by_cases c3 : a1 < a0
  · rw [if_pos c3] at H
    have c3b0 : decide (a1 < a0) = true := decide_eq_true c3
    clear c3
    obtain rfl := Option.some.inj H
    go_enter Try.func59, Try.ntmps59
    go_wp2
    go_ret
    exact ⟨by first | rfl | (simp; done) | (simp [*]; done), by repeat (first | exact Drawn0.refl _ | apply Drawn0.step)⟩
  · rw [if_neg c3] at H
    have c3b0 : decide (a1 < a0) = false := decide_eq_false c3
    clear c3
    obtain rfl := Option.some.inj H
    go_enter Try.func59, Try.ntmps59
    go_wp2
    go_ret
    exact ⟨by first | rfl | (simp; done) | (simp [*]; done), by repeat (first | exact Drawn0.refl _ | apply Drawn0.step)⟩
end Go.Proofs.Ytamncgpajkoiaaa.T
namespace Go.Proofs.Ytamncgpajkoiaaa.T
open Go.RowKit Go.Proofs.YtamncgpajkoiaaaW.PrintWords Go.Proofs.YtamncgpajkoiaaaW.PrintLast Go.Proofs.YtamncgpajkoiaaaW.PrintMore

set_option linter.unusedVariables false
set_option linter.unusedSimpArgs false
section
open Go.Shelf
attribute [local go_sem] Oper.semAt_some
section
variable {F : Fence} {n : Nat} {P : Program} {ops : Array Oper} {Q : Exit → Act → World → Prop} {md : Region.Mode}
theorem wpAnyIn_inv (Inv : Array Bool → Act → World → Prop) (todo : Array Bool → Nat)
    (h : ∀ listed a w, Inv listed a w → (Region.ready md ops listed = [] → Q .normal a w) ∧ ∀ i ∈ Region.ready md ops listed, wpOpIn F n P ops Q i (fun a' w' => Inv (listed.setIfInBounds i true) a' w') a w)
    (h0 : ∀ listed a w, Inv listed a w → todo listed = 0 → Region.ready md ops listed = [])
    (hdec : ∀ listed i a w, Inv listed a w → i ∈ Region.ready md ops listed → todo (listed.setIfInBounds i true) < todo listed) :
    ∀ (fuel : Nat) (listed : Array Bool) (a : Act) (w : World), Inv listed a w → todo listed ≤ fuel → wpAnyIn F n P md ops Q fuel listed a w
  | 0, listed, a, w, hi, ht => by
    have hr := h0 listed a w hi (by omega)
    exact ⟨hr, (h listed a w hi).1 hr⟩
  | fuel + 1, listed, a, w, hi, ht => by
    refine ⟨(h listed a w hi).1, fun i hm => ?_⟩
    have hd := hdec listed i a w hi hm
    refine wpOpIn_mono ?_ ((h listed a w hi).2 i hm)
    intro a' w' hi'
    exact wpAnyIn_inv Inv todo h h0 hdec fuel _ a' w' hi' (by omega)
def tmReg : Nat → Bool → Bool → Bool → Bool → Bool → Bool → Bool → Bool → Bool → Bool → Bool
  | 0, b0, _, _, _, _, _, _, _, _, _ => !b0
  | 1, _, b1, _, _, _, _, _, _, _, _ => !b1
  | 2, _, _, b2, _, _, _, _, _, _, _ => !b2
  | 3, b0, b1, b2, b3, _, _, _, _, _, _ => b0 && b1 && b2 && !b3
  | 4, _, _, _, _, b4, _, _, _, _, _ => !b4
  | 5, _, _, _, _, _, b5, _, _, _, _ => !b5
  | 6, _, _, _, _, _, _, b6, _, _, _ => !b6
  | 7, _, _, _, b3, b4, b5, b6, b7, _, _ => b3 && b4 && b5 && b6 && !b7
  | 8, _, _, _, b3, _, _, _, b7, b8, _ => b3 && b7 && !b8
  | 9, b0, b1, b2, b3, b4, b5, b6, b7, b8, b9 => b0 && b1 && b2 && b3 && b4 && b5 && b6 && b7 && b8 && !b9
  | _, _, _, _, _, _, _, _, _, _, _ => false
def tmTab (ops : Array Oper) : Bool := [true, false].all fun b0 => [true, false].all fun b1 => [true, false].all fun b2 => [true, false].all fun b3 => [true, false].all fun b4 => [true, false].all fun b5 => [true, false].all fun b6 => [true, false].all fun b7 => [true, false].all fun b8 => [true, false].all fun b9 =>
  let r := Region.ready .any ops #[b0, b1, b2, b3, b4, b5, b6, b7, b8, b9]
  r.all (fun i => tmReg i b0 b1 b2 b3 b4 b5 b6 b7 b8 b9) && (r.isEmpty == (b0 && b1 && b2 && b3 && b4 && b5 && b6 && b7 && b8 && b9))
theorem tmTab_at {ops : Array Oper} (h : tmTab ops = true) (b0 b1 b2 b3 b4 b5 b6 b7 b8 b9 : Bool) :
    (∀ i ∈ Region.ready .any ops #[b0, b1, b2, b3, b4, b5, b6, b7, b8, b9], tmReg i b0 b1 b2 b3 b4 b5 b6 b7 b8 b9 = true) ∧ (Region.ready .any ops #[b0, b1, b2, b3, b4, b5, b6, b7, b8, b9] = [] ↔ (b0 && b1 && b2 && b3 && b4 && b5 && b6 && b7 && b8 && b9) = true) := by
  have hb : ∀ b : Bool, b ∈ [true, false] := by decide
  unfold tmTab at h
  have := List.all_eq_true.mp (List.all_eq_true.mp (List.all_eq_true.mp (List.all_eq_true.mp (List.all_eq_true.mp (List.all_eq_true.mp (List.all_eq_true.mp (List.all_eq_true.mp (List.all_eq_true.mp (List.all_eq_true.mp h b0 (hb _)) b1 (hb _)) b2 (hb _)) b3 (hb _)) b4 (hb _)) b5 (hb _)) b6 (hb _)) b7 (hb _)) b8 (hb _)) b9 (hb _)
  rw [Bool.and_eq_true] at this
  refine ⟨fun i hi => List.all_eq_true.mp this.1 i hi, ?_⟩
  have h2 := eq_of_beq this.2
  rw [← h2, List.isEmpty_iff]
theorem wpAnyIn_inv10 (htab : tmTab ops = true) (Inv : Bool → Bool → Bool → Bool → Bool → Bool → Bool → Bool → Bool → Bool → Act → World → Prop)
    (hdone : ∀ a w, Inv true true true true true true true true true true a w → Q .normal a w)
    (s0 : ∀ (b1 b2 b3 b4 b5 b6 b7 b8 b9 : Bool) a w, Inv false b1 b2 b3 b4 b5 b6 b7 b8 b9 a w → wpOpIn F n P ops Q 0 (fun a' w' => Inv true b1 b2 b3 b4 b5 b6 b7 b8 b9 a' w') a w)
    (s1 : ∀ (b0 b2 b3 b4 b5 b6 b7 b8 b9 : Bool) a w, Inv b0 false b2 b3 b4 b5 b6 b7 b8 b9 a w → wpOpIn F n P ops Q 1 (fun a' w' => Inv b0 true b2 b3 b4 b5 b6 b7 b8 b9 a' w') a w)
    (s2 : ∀ (b0 b1 b3 b4 b5 b6 b7 b8 b9 : Bool) a w, Inv b0 b1 false b3 b4 b5 b6 b7 b8 b9 a w → wpOpIn F n P ops Q 2 (fun a' w' => Inv b0 b1 true b3 b4 b5 b6 b7 b8 b9 a' w') a w)
    (s3 : ∀ (b4 b5 b6 b7 b8 b9 : Bool) a w, Inv true true true false b4 b5 b6 b7 b8 b9 a w → wpOpIn F n P ops Q 3 (fun a' w' => Inv true true true true b4 b5 b6 b7 b8 b9 a' w') a w)
    (s4 : ∀ (b0 b1 b2 b3 b5 b6 b7 b8 b9 : Bool) a w, Inv b0 b1 b2 b3 false b5 b6 b7 b8 b9 a w → wpOpIn F n P ops Q 4 (fun a' w' => Inv b0 b1 b2 b3 true b5 b6 b7 b8 b9 a' w') a w)
    (s5 : ∀ (b0 b1 b2 b3 b4 b6 b7 b8 b9 : Bool) a w, Inv b0 b1 b2 b3 b4 false b6 b7 b8 b9 a w → wpOpIn F n P ops Q 5 (fun a' w' => Inv b0 b1 b2 b3 b4 true b6 b7 b8 b9 a' w') a w)
    (s6 : ∀ (b0 b1 b2 b3 b4 b5 b7 b8 b9 : Bool) a w, Inv b0 b1 b2 b3 b4 b5 false b7 b8 b9 a w → wpOpIn F n P ops Q 6 (fun a' w' => Inv b0 b1 b2 b3 b4 b5 true b7 b8 b9 a' w') a w)
    (s7 : ∀ (b0 b1 b2 b8 b9 : Bool) a w, Inv b0 b1 b2 true true true true false b8 b9 a w → wpOpIn F n P ops Q 7 (fun a' w' => Inv b0 b1 b2 true true true true true b8 b9 a' w') a w)
    (s8 : ∀ (b0 b1 b2 b4 b5 b6 b9 : Bool) a w, Inv b0 b1 b2 true b4 b5 b6 true false b9 a w → wpOpIn F n P ops Q 8 (fun a' w' => Inv b0 b1 b2 true b4 b5 b6 true true b9 a' w') a w)
    (s9 : ∀ a w, Inv true true true true true true true true true false a w → wpOpIn F n P ops Q 9 (fun a' w' => Inv true true true true true true true true true true a' w') a w)
    {a : Act} {w : World} (hi : Inv false false false false false false false false false false a w) : wpAnyIn F n P .any ops Q 10 #[false, false, false, false, false, false, false, false, false, false] a w := by
  refine wpAnyIn_inv (fun l a w => ∃ b0 b1 b2 b3 b4 b5 b6 b7 b8 b9 : Bool, l = #[b0, b1, b2, b3, b4, b5, b6, b7, b8, b9] ∧ Inv b0 b1 b2 b3 b4 b5 b6 b7 b8 b9 a w) (fun l => l.toList.count false) ?_ ?_ ?_ _ _ _ _ ⟨_, _, _, _, _, _, _, _, _, _, rfl, hi⟩ (by decide)
  · rintro listed a w ⟨b0, b1, b2, b3, b4, b5, b6, b7, b8, b9, rfl, hinv⟩
    obtain ⟨hT, hE⟩ := tmTab_at htab b0 b1 b2 b3 b4 b5 b6 b7 b8 b9
    refine ⟨fun hr => ?_, fun i hm => ?_⟩
    · have := hE.mp hr
      simp only [Bool.and_eq_true] at this
      obtain ⟨⟨⟨⟨⟨⟨⟨⟨⟨rfl, rfl⟩, rfl⟩, rfl⟩, rfl⟩, rfl⟩, rfl⟩, rfl⟩, rfl⟩, rfl⟩ := this
      exact hdone _ _ hinv
    have hreg := hT i hm
    clear hT hE hm
    match i, hreg with
    | 0, hreg => simp only [tmReg, Bool.and_eq_true, Bool.not_eq_true'] at hreg; obtain rfl := hreg; exact wpOpIn_mono (fun a' w' hi' => ⟨true, b1, b2, b3, b4, b5, b6, b7, b8, b9, rfl, hi'⟩) (s0 b1 b2 b3 b4 b5 b6 b7 b8 b9 a w hinv)
    | 1, hreg => simp only [tmReg, Bool.and_eq_true, Bool.not_eq_true'] at hreg; obtain rfl := hreg; exact wpOpIn_mono (fun a' w' hi' => ⟨b0, true, b2, b3, b4, b5, b6, b7, b8, b9, rfl, hi'⟩) (s1 b0 b2 b3 b4 b5 b6 b7 b8 b9 a w hinv)
    | 2, hreg => simp only [tmReg, Bool.and_eq_true, Bool.not_eq_true'] at hreg; obtain rfl := hreg; exact wpOpIn_mono (fun a' w' hi' => ⟨b0, b1, true, b3, b4, b5, b6, b7, b8, b9, rfl, hi'⟩) (s2 b0 b1 b3 b4 b5 b6 b7 b8 b9 a w hinv)
    | 3, hreg => simp only [tmReg, Bool.and_eq_true, Bool.not_eq_true'] at hreg; obtain ⟨⟨⟨rfl, rfl⟩, rfl⟩, rfl⟩ := hreg; exact wpOpIn_mono (fun a' w' hi' => ⟨true, true, true, true, b4, b5, b6, b7, b8, b9, rfl, hi'⟩) (s3 b4 b5 b6 b7 b8 b9 a w hinv)
    | 4, hreg => simp only [tmReg, Bool.and_eq_true, Bool.not_eq_true'] at hreg; obtain rfl := hreg; exact wpOpIn_mono (fun a' w' hi' => ⟨b0, b1, b2, b3, true, b5, b6, b7, b8, b9, rfl, hi'⟩) (s4 b0 b1 b2 b3 b5 b6 b7 b8 b9 a w hinv)
    | 5, hreg => simp only [tmReg, Bool.and_eq_true, Bool.not_eq_true'] at hreg; obtain rfl := hreg; exact wpOpIn_mono (fun a' w' hi' => ⟨b0, b1, b2, b3, b4, true, b6, b7, b8, b9, rfl, hi'⟩) (s5 b0 b1 b2 b3 b4 b6 b7 b8 b9 a w hinv)
    | 6, hreg => simp only [tmReg, Bool.and_eq_true, Bool.not_eq_true'] at hreg; obtain rfl := hreg; exact wpOpIn_mono (fun a' w' hi' => ⟨b0, b1, b2, b3, b4, b5, true, b7, b8, b9, rfl, hi'⟩) (s6 b0 b1 b2 b3 b4 b5 b7 b8 b9 a w hinv)
    | 7, hreg => simp only [tmReg, Bool.and_eq_true, Bool.not_eq_true'] at hreg; obtain ⟨⟨⟨⟨rfl, rfl⟩, rfl⟩, rfl⟩, rfl⟩ := hreg; exact wpOpIn_mono (fun a' w' hi' => ⟨b0, b1, b2, true, true, true, true, true, b8, b9, rfl, hi'⟩) (s7 b0 b1 b2 b8 b9 a w hinv)
    | 8, hreg => simp only [tmReg, Bool.and_eq_true, Bool.not_eq_true'] at hreg; obtain ⟨⟨rfl, rfl⟩, rfl⟩ := hreg; exact wpOpIn_mono (fun a' w' hi' => ⟨b0, b1, b2, true, b4, b5, b6, true, true, b9, rfl, hi'⟩) (s8 b0 b1 b2 b4 b5 b6 b9 a w hinv)
    | 9, hreg => simp only [tmReg, Bool.and_eq_true, Bool.not_eq_true'] at hreg; obtain ⟨⟨⟨⟨⟨⟨⟨⟨⟨rfl, rfl⟩, rfl⟩, rfl⟩, rfl⟩, rfl⟩, rfl⟩, rfl⟩, rfl⟩, rfl⟩ := hreg; exact wpOpIn_mono (fun a' w' hi' => ⟨true, true, true, true, true, true, true, true, true, true, rfl, hi'⟩) (s9  a w hinv)
    | i + 10, hreg => simp [tmReg] at hreg
  · rintro listed a w ⟨b0, b1, b2, b3, b4, b5, b6, b7, b8, b9, rfl, hinv⟩ h0
    obtain ⟨hT, hE⟩ := tmTab_at htab b0 b1 b2 b3 b4 b5 b6 b7 b8 b9
    refine hE.mpr ?_
    simp only [List.count_eq_zero] at h0
    simp at h0
    simp [h0]
  · rintro listed i a w ⟨b0, b1, b2, b3, b4, b5, b6, b7, b8, b9, rfl, hinv⟩ hm
    obtain ⟨hT, hE⟩ := tmTab_at htab b0 b1 b2 b3 b4 b5 b6 b7 b8 b9
    have hreg := hT i hm
    clear hT hE hm
    match i, hreg with
    | 0, hreg => simp only [tmReg, Bool.and_eq_true, Bool.not_eq_true'] at hreg; obtain rfl := hreg; simp [List.count_cons]
    | 1, hreg => simp only [tmReg, Bool.and_eq_true, Bool.not_eq_true'] at hreg; obtain rfl := hreg; simp [List.count_cons]
    | 2, hreg => simp only [tmReg, Bool.and_eq_true, Bool.not_eq_true'] at hreg; obtain rfl := hreg; simp [List.count_cons]
    | 3, hreg => simp only [tmReg, Bool.and_eq_true, Bool.not_eq_true'] at hreg; obtain ⟨⟨⟨rfl, rfl⟩, rfl⟩, rfl⟩ := hreg; simp [List.count_cons]
    | 4, hreg => simp only [tmReg, Bool.and_eq_true, Bool.not_eq_true'] at hreg; obtain rfl := hreg; simp [List.count_cons]
    | 5, hreg => simp only [tmReg, Bool.and_eq_true, Bool.not_eq_true'] at hreg; obtain rfl := hreg; simp [List.count_cons]
    | 6, hreg => simp only [tmReg, Bool.and_eq_true, Bool.not_eq_true'] at hreg; obtain rfl := hreg; simp [List.count_cons]
    | 7, hreg => simp only [tmReg, Bool.and_eq_true, Bool.not_eq_true'] at hreg; obtain ⟨⟨⟨⟨rfl, rfl⟩, rfl⟩, rfl⟩, rfl⟩ := hreg; simp [List.count_cons]
    | 8, hreg => simp only [tmReg, Bool.and_eq_true, Bool.not_eq_true'] at hreg; obtain ⟨⟨rfl, rfl⟩, rfl⟩ := hreg; simp [List.count_cons]
    | 9, hreg => simp only [tmReg, Bool.and_eq_true, Bool.not_eq_true'] at hreg; obtain ⟨⟨⟨⟨⟨⟨⟨⟨⟨rfl, rfl⟩, rfl⟩, rfl⟩, rfl⟩, rfl⟩, rfl⟩, rfl⟩, rfl⟩, rfl⟩ := hreg; simp [List.count_cons]
    | i + 10, hreg => simp [tmReg] at hreg
end
def bw_l (n : Nat) : List (Fin n) := (List.finRange n).reverse
theorem bw_take_succ (n m : Nat) (h : m < n) : (bw_l n).take (m + 1) = (bw_l n).take m ++ [⟨n - 1 - m, by omega⟩] := by
  have hl : m < (bw_l n).length := by simp [bw_l]; exact h
  rw [List.take_add_one, List.getElem?_eq_getElem hl]
  simp [bw_l, List.getElem_reverse]
theorem bw_take_length (n m : Nat) (h : m ≤ n) : ((bw_l n).take m).length = m := by simp [bw_l]; omega
set_option maxRecDepth 100000 in
set_option maxHeartbeats 2000000 in
theorem bw1_in (F : Fence) (n : Nat) (h8 : F.fn 60) (hro : F.round = none) (hn : 1 ≤ n) (l Bs n₀ : Nat) (A0 : Option Addr) (c0 : Nat) (l0 : List S37) (J Jx : List (Fin l0.length) → World → Prop)
    (hY : ∀ pre (x : Fin l0.length) W, J pre W → pre.length < l0.length → YieldAt F (n - 1) Try.prog l #[.int .i64 (x.1 : Int), .agg #[.int .i64 (rd_T37 l0 (x.1 : Int)).f0, .int .i64 (rd_T37 l0 (x.1 : Int)).f1]] W fun e W' =>
      (e = .returned (.bool true) ∧ J (pre ++ [x]) W' ∧ Below n₀ W W') ∨ (e = .returned (.bool false) ∧ Jx (pre ++ [x]) W'))
    (w W : World) (hn₀ : n₀ = w.heap.size) (hBs0 : w.cell? ⟨Bs, 0, none⟩ = some (.slice A0 l0.length c0)) (hC : Kd.C k37 w A0 l0.length l0) (hWB : Below n₀ w W) (h0 : J [] W) :
    CallsIn F n Try.prog 60 #[.func (.yield l) #[] #[], .pointer (some ⟨Bs, 0, none⟩)] W fun e W' => (∃ v, e = .returned v) ∧
      ((∃ ys, ys = bw_l l0.length ∧ J ys W') ∨ (∃ pre, pre <+: bw_l l0.length ∧ Jx pre W')) := by
  have hmax : l0.length ≤ 9223372036854775807 := hC.2.1
  have HC := Aside0.mk hC
  clear hC
  have hBs := (hWB.cell (by rw [hn₀]; exact World.block_lt_of_cell? w _ hBs0)).trans hBs0
  refine callsIn_of_wp Try.func60 rfl h8 ?_ hro
  simp only [Try.ntmps60, List.size_toArray, List.length_cons, List.length_nil, Nat.reduceAdd, Nat.reduceSub, Array.replicate_succ, Array.replicate_zero, List.push_toArray, List.append_toArray, List.nil_append, List.cons_append]
  gi_wp2
  gi_loopw [3] (fun i wr => ∃ m : Nat, m ≤ l0.length ∧ i = .int .i64 ((l0.length : Int) - 1 - m) ∧ J ((bw_l l0.length).take m) wr ∧ Below n₀ W wr)
    (fun i _ => (intOf i + 1).toNat)
  case atStart => exact ⟨0, Nat.zero_le _, by go_num, by simpa using h0, Below.refl _ _⟩
  case round =>
    obtain ⟨m, hm, rfl, hJs, hnx⟩ := hrel
    have hbs := ((hWB.trans hnx).cell (by rw [hn₀]; exact World.block_lt_of_cell? w _ hBs0)).trans hBs0
    by_cases hlt : m < l0.length
    · have hidx : ((l0.length : Int) - 1 - m) = ((l0.length - 1 - m : Nat) : Int) := by omega
      obtain ⟨ad, he, hx0, hx1⟩ := at_T37 HC.out ((l0.length - 1 - m : Nat) : Int) (by omega) (by omega)
      subst he
      have hc0 := ((hWB.trans hnx).cell (by rw [hn₀]; exact World.block_lt_of_cell? w _ hx0)).trans hx0
      have hc1 := ((hWB.trans hnx).cell (by rw [hn₀]; exact World.block_lt_of_cell? w _ hx1)).trans hx1
      clear hx0 hx1
      simp only [Int.toNat_natCast] at hc0 hc1
      obtain ⟨fn, tmps, assign, body, hy, hR⟩ := hY _ ⟨l0.length - 1 - m, by omega⟩ wr hJs (by rw [bw_take_length _ _ hm]; exact hlt)
      dsimp only at hy
      rw [hidx]
      have hk0 : ((l0.length - 1 - m : Nat) : Int) < l0.length := by omega
      gi_wp2
      refine hR.mono ?_
      rintro e W3 (⟨rfl, hJ3, hk3⟩ | ⟨rfl, hJx3⟩)
      · gi_wp2
        go_roundw
        case rel => exact ⟨m + 1, by omega, by go_num, by rw [bw_take_succ _ _ hlt]; exact hJ3, hnx.trans hk3⟩
        case measure => simp [intOf] <;> omega
      · gi_wp2
        refine bodyPost_ret (results_none rfl _ _ _) rfl ?_
        exact ⟨⟨_, rfl⟩, .inr ⟨_, (bw_take_succ _ _ hlt) ▸ List.take_prefix _ _, hJx3⟩⟩
    · obtain rfl : m = l0.length := by omega
      gi_wp2
      go_end0
      exact ⟨⟨_, rfl⟩, .inl ⟨_, rfl, by rwa [List.take_of_length_le (by simp [bw_l])] at hJs⟩⟩
theorem bw_stops (F : Fence) (n : Nat) (h8 : F.fn 60) (hro : F.round = none) (hn : 1 ≤ n) (Bs : Nat) (A0 : Option Addr) (c0 : Nat) (l0 : List S37) (w : World)
    (hc : w.cell? ⟨Bs, 0, none⟩ = some (.slice A0 l0.length c0)) (hC : Kd.C k37 w A0 l0.length l0) :
    SeqStopsK F n Try.prog 60 #[.pointer (some ⟨Bs, 0, none⟩)] (fun x : Fin l0.length => #[Value.int .i64 (x.1 : Int), .agg #[.int .i64 (rd_T37 l0 (x.1 : Int)).f0, .int .i64 (rd_T37 l0 (x.1 : Int)).f1]]) (Below w.heap.size) (fun ys => ys = bw_l l0.length)
      (fun pre => pre <+: bw_l l0.length) l0.length w := fun l J Jx W hW _ _ hY h0 =>
  bw1_in F n h8 hro hn l Bs w.heap.size A0 c0 l0 J Jx hY w W rfl hc hC hW h0
set_option maxHeartbeats 1000000 in
theorem bw_in (F : Fence) (n : Nat) (h6 : F.fn 57) (hro : F.round = none) (A0 : Option Addr) (len cap : Nat) (w : World) :
    CallsIn F n Try.prog 57 #[.slice A0 len cap] w fun e w' => e = .returned (.func (.func 60) #[] #[.pointer (some ⟨w.heap.size, 0, none⟩)]) ∧ w' = w.alloc (.cells #[.slice A0 len cap] 23) := by
  refine callsIn_of_wp Try.func57 rfl h6 ?_ hro
  simp only [Try.ntmps57, List.size_toArray, List.length_cons, List.length_nil, Nat.reduceAdd, Nat.reduceSub, Array.replicate_succ, Array.replicate_zero, List.push_toArray, List.append_toArray, List.nil_append, List.cons_append]
  gi_wp2
  go_ret
  exact ⟨rfl, rfl⟩
def impl_meetEnd (l : List S37) (i : Nat) (e : Int) : Int := if i + 1 < l.length then (rd_T37 l ((i : Int) + 1)).f1 else e
theorem impl_meetEnd_eq {l : List S37} {i : Nat} (e : Int) (h : i < l.length) (hm : l.length ≤ 9223372036854775807) : impl_endAt.f l (i : Int) e = some (impl_meetEnd l i e) := by
  have hw : wrap64 ((i : Int) + 1) = (i : Int) + 1 := by unfold wrap64; omega
  unfold impl_endAt.f impl_meetEnd
  rw [hw]
  by_cases hi : i + 1 < l.length
  · rw [if_pos (by omega), if_pos (by omega), if_pos hi]
  · rw [if_neg (by omega), if_neg hi]
def impl_meetFind (l : List S37) (x : S37) : Option Nat := l.findIdx? (fun t => x.f0 == t.f0 && x.f1 == t.f1)
theorem impl_meetFind_ev (l : List S37) (x : S37) (hm : l.length ≤ 9223372036854775807) :
    ∀ (n i : Nat), l.length - i = n → i ≤ l.length → (∀ j, j < i → (x.f0 == (rd_T37 l (j : Int)).f0 && x.f1 == (rd_T37 l (j : Int)).f1) = false) →
      impl_Term_58.l0 (n + 1) l (l.length : Int) (i : Int) x.f0 x.f1 = some (match impl_meetFind l x with | some j => (j : Int) | none => -1)
  | 0, i, hn, hi, hno => by
    have hil : i = l.length := by omega
    have hf : impl_meetFind l x = none := by
      unfold impl_meetFind
      rw [List.findIdx?_eq_none_iff]
      intro y hy
      obtain ⟨j, hj, rfl⟩ := List.getElem_of_mem hy
      have := hno j (by omega)
      simpa [rd_T37, List.getD_eq_getElem?_getD, List.getElem?_eq_getElem hj] using this
    unfold impl_Term_58.l0
    rw [if_neg (by omega), hf]
  | n + 1, i, hn, hi, hno => by
    have hil : i < l.length := by omega
    unfold impl_Term_58.l0
    rw [if_pos (by omega), if_pos (by omega), if_pos (by omega)]
    by_cases hx : (x.f0 == (rd_T37 l (i : Int)).f0 && x.f1 == (rd_T37 l (i : Int)).f1) = true
    · have hf : impl_meetFind l x = some i := by
        unfold impl_meetFind
        rw [List.findIdx?_eq_some_iff_getElem]
        refine ⟨hil, ?_, ?_⟩
        · simpa [rd_T37, List.getD_eq_getElem?_getD, List.getElem?_eq_getElem hil] using hx
        · intro j hj
          have := hno j hj
          have hj' : j < l.length := by omega
          simpa [rd_T37, List.getD_eq_getElem?_getD, List.getElem?_eq_getElem hj'] using this
      rw [if_pos hx, hf]
    · rw [if_neg hx]
      have hw : wrap64 ((i : Int) + 1) = ((i + 1 : Nat) : Int) := by unfold wrap64; omega
      rw [hw]
      refine impl_meetFind_ev l x hm n (i + 1) (by omega) (by omega) (fun j hj => ?_)
      by_cases hji : j = i
      · subst hji; simpa using hx
      · exact hno j (by omega)
theorem impl_meetFind_lt {l : List S37} {x : S37} {j : Nat} (h : impl_meetFind l x = some j) : j < l.length := by
  unfold impl_meetFind at h
  rw [List.findIdx?_eq_some_iff_getElem] at h
  exact h.1
theorem impl_meetFind_f (l : List S37) (x : S37) (hm : l.length ≤ 9223372036854775807) : impl_Term_58.f (l.length + 1) l x.f0 x.f1 = some (match impl_meetFind l x with | some j => (j : Int) | none => -1) :=
  impl_meetFind_ev l x hm l.length 0 (by omega) (by omega) (fun j hj => by omega)
def impl_meetMin (a b : Int) : Int := if b < a then b else a
def impl_meetAt (l0 : List S37) (a1 : Int) (l2 : List S37) (a3 : Int) (i : Fin l0.length) : Option Int := (impl_meetFind l2 (rd_T37 l0 (i.1 : Int))).map fun j => impl_meetMin (impl_meetEnd l0 i.1 a1) (impl_meetEnd l2 j a3)
def impl_TermsMeet.f (k : Nat) (l0 : List S37) (a1 : Int) (l2 : List S37) (a3 : Int) : Option Int := (impl_endValid.f k l0 a1).bind fun t => if t = true then ((impl_endValid.f k l2 a3).bind fun t => if t = true then some (((bw_l l0.length).findSome? (impl_meetAt l0 a1 l2 a3)).getD 0) else some (-1)) else some (-1)
theorem impl_TermsMeet.mono : ∀ a0 a1 a2 a3 k, LeO (impl_TermsMeet.f k a0 a1 a2 a3) (impl_TermsMeet.f (k + 1) a0 a1 a2 a3) := by
  intro a0 a1 a2 a3 k
  unfold impl_TermsMeet.f
  refine LeO.bind (impl_endValid.mono _ _ _) (fun _ => LeO.ite (LeO.bind (impl_endValid.mono _ _ _) (fun _ => LeO.refl _)) (LeO.refl _))
theorem keepsFrom_below {B : Nat} {W W' : World} (h : Below W.heap.size W W') : KeepsFrom B W W' := ⟨h.size, fun k _ _ hk _ => (h.block k (Array.getElem?_eq_some_iff.1 hk).1).trans hk⟩
attribute [local go_sem] Oper.semAt_some
set_option maxHeartbeats 4000000 in
set_option maxRecDepth 100000 in
theorem impl_TermsMeet.calls (k : Nat) (A0 : Option Addr) (c0 : Nat) (l0 : List (S37)) (a1 : Int) (A2 : Option Addr) (c2 : Nat) (l2 : List (S37)) (a3 : Int) (r : Int) (w : World) (hr0 : Kd.C k37 w A0 l0.length l0) (hc0 : l0.length ≤ c0) (hr2 : Kd.C k37 w A2 l2.length l2) (hc2 : l2.length ≤ c2) (h : impl_TermsMeet.f k l0 a1 l2 a3 = some r) :
    Calls Try.prog 39 #[.slice A0 l0.length c0, .int .i64 a1, .slice A2 l2.length c2, .int .i64 a3] w fun e w' => e = .returned (.int .i64 r) ∧ Below w.heap.size w w' := by
  have hm0 : l0.length ≤ 9223372036854775807 := hr0.2.1
  have hm2 : l2.length ≤ 9223372036854775807 := hr2.2.1
  unfold impl_TermsMeet.f at h
  replace h := Option.bind_eq_some_iff.mp h
  obtain ⟨t0, hv0, h⟩ := h
  have HV0 := Aside0.mk hv0
  have HR0 := Aside0.mk hr0
  have HR2 := Aside0.mk hr2
  have HC0 := Aside0.mk hc0
  have HC2 := Aside0.mk hc2
  have H := Aside0.mk h
  clear hr0 hr2 hc0 hc2 h hv0
  refine callsIn_wide (n := 8).1 ?_
  have hro : (Fence.wide).round = none := rfl
  refine callsIn_of_wp_marks Try.func39 rfl trivial ?_ hro
  simp only [Try.ntmps39, List.size_toArray, List.length_cons, List.length_nil, Nat.reduceAdd, Nat.reduceSub, Array.replicate_succ, Array.replicate_zero, List.push_toArray, List.append_toArray, List.nil_append, List.cons_append]
  have hB5 : Below w.heap.size w (((((w.alloc (.cells #[.slice A0 l0.length c0] 23)).alloc (.cells #[.int .i64 a1] 3)).alloc (.cells #[.slice A2 l2.length c2] 23)).alloc (.cells #[.int .i64 a3] 3)).alloc (.cells #[.int .i64 0] 3)) :=
    (((((Below.refl _ w).alloc (Nat.le_refl _) _).alloc (by simp) _).alloc (by simp; omega) _).alloc (by simp; omega) _).alloc (by simp; omega) _
  have HR05 := Aside0.mk (Kd.C_below HR0.out hB5)
  have HR25 := Aside0.mk (Kd.C_below HR2.out hB5)
  cases t0 with
  | false =>
    have hr : r = -1 := by have := H.out; simpa using this.symm
    have HRr := Aside0.mk hr
    clear hr H
    gi_wp2_with (refine ⟨trivial, ?_⟩; gi_at_call 52; refine (callsIn_wide.2 (impl_endValid.calls k _ _ l0 a1 false _ HR05.out HC0.out HV0.out)).mono ?_; rintro e w1 ⟨rfl, hb⟩)
    refine ⟨trivial, ?_⟩
    have hBR := Boxed.new ((((w.alloc (.cells #[.slice A0 l0.length c0] 23)).alloc (.cells #[.int .i64 a1] 3)).alloc (.cells #[.slice A2 l2.length c2] 23)).alloc (.cells #[.int .i64 a3] 3)) 3 (.int .i64 0)
    simp only [World.size_alloc] at hBR
    have hBR1 : Boxed w1 (w.heap.size + 1 + 1 + 1 + 1) 3 (.int .i64 0) := (hb.block _ (by simp)).trans hBR
    have cR := hBR1.cell
    have fR := hBR1.frozen
    gi_wp2
    have hc5 := (hBR1.set (.int .i64 (-1))).cell
    refine ⟨.int .i64 (-1), ?_, by rw [HRr.out], (below_step hB5 hb).setCell (p := ⟨w.heap.size + 1 + 1 + 1 + 1, 0, none⟩) (by simp; omega) _⟩
    simp [results, Try.f39, go_sem, hc5]
  | true =>
    have h2 := H.out
    rw [if_pos rfl] at h2
    replace h2 := Option.bind_eq_some_iff.mp h2
    obtain ⟨t1, hv2, h2⟩ := h2
    have HV2 := Aside0.mk hv2
    have H2 := Aside0.mk h2
    clear H hv2 h2
    have hBR := Boxed.new ((((w.alloc (.cells #[.slice A0 l0.length c0] 23)).alloc (.cells #[.int .i64 a1] 3)).alloc (.cells #[.slice A2 l2.length c2] 23)).alloc (.cells #[.int .i64 a3] 3)) 3 (.int .i64 0)
    simp only [World.size_alloc] at hBR
    have hB3 := (Boxed.new (((w.alloc (.cells #[.slice A0 l0.length c0] 23)).alloc (.cells #[.int .i64 a1] 3)).alloc (.cells #[.slice A2 l2.length c2] 23)) 3 (.int .i64 a3)).alloc (.cells #[.int .i64 0] 3)
    have hB2 := ((Boxed.new ((w.alloc (.cells #[.slice A0 l0.length c0] 23)).alloc (.cells #[.int .i64 a1] 3)) 23 (.slice A2 l2.length c2)).alloc (.cells #[.int .i64 a3] 3)).alloc (.cells #[.int .i64 0] 3)
    have hB1 := (((Boxed.new (w.alloc (.cells #[.slice A0 l0.length c0] 23)) 3 (.int .i64 a1)).alloc (.cells #[.slice A2 l2.length c2] 23)).alloc (.cells #[.int .i64 a3] 3)).alloc (.cells #[.int .i64 0] 3)
    have hB0 := ((((Boxed.new w 23 (.slice A0 l0.length c0)).alloc (.cells #[.int .i64 a1] 3)).alloc (.cells #[.slice A2 l2.length c2] 23)).alloc (.cells #[.int .i64 a3] 3)).alloc (.cells #[.int .i64 0] 3)
    simp only [World.size_alloc] at hB3 hB2 hB1 hB0
    have key : ∀ w1 : World, Below (((((w.alloc (.cells #[.slice A0 l0.length c0] 23)).alloc (.cells #[.int .i64 a1] 3)).alloc (.cells #[.slice A2 l2.length c2] 23)).alloc (.cells #[.int .i64 a3] 3)).alloc (.cells #[.int .i64 0] 3)).heap.size (((((w.alloc (.cells #[.slice A0 l0.length c0] 23)).alloc (.cells #[.int .i64 a1] 3)).alloc (.cells #[.slice A2 l2.length c2] 23)).alloc (.cells #[.int .i64 a3] 3)).alloc (.cells #[.int .i64 0] 3)) w1 →
        (Boxed w1 w.heap.size 23 (.slice A0 l0.length c0) ∧ Boxed w1 (w.heap.size + 1) 3 (.int .i64 a1) ∧ Boxed w1 (w.heap.size + 1 + 1) 23 (.slice A2 l2.length c2) ∧ Boxed w1 (w.heap.size + 1 + 1 + 1) 3 (.int .i64 a3) ∧ Boxed w1 (w.heap.size + 1 + 1 + 1 + 1) 3 (.int .i64 0)) ∧ Below w.heap.size w w1 ∧ w.heap.size + 5 ≤ w1.heap.size := by
      intro w1 hb
      refine ⟨⟨(hb.block _ hB0.lt).trans hB0, (hb.block _ hB1.lt).trans hB1, (hb.block _ hB2.lt).trans hB2, (hb.block _ hB3.lt).trans hB3, (hb.block _ hBR.lt).trans hBR⟩, below_step hB5 hb, ?_⟩
      have := hb.size; simp at this; omega
    have KEY := Aside0.mk key
    clear key hB0 hB1 hB2 hB3 hBR
    cases t1 with
    | false =>
      have hr : r = -1 := by have := H2.out; simpa using this.symm
      have HRr := Aside0.mk hr
      clear hr H2
      gi_wp2_with (first | (refine ⟨trivial, ?_⟩; gi_at_call 52; refine (callsIn_wide.2 (impl_endValid.calls k _ _ l0 a1 true _ HR05.out HC0.out HV0.out)).mono ?_; clear HV0; rintro e w1 ⟨rfl, hb1⟩; have HK1 := Aside0.mk (KEY.out w1 hb1); have d2 := HK1.out.1.2.2.1.cell; have d3 := HK1.out.1.2.2.2.1.cell; have HR21 := Aside0.mk (Kd.C_below HR2.out HK1.out.2.1)) | (refine ⟨trivial, ?_⟩; gi_at_call 52; refine (callsIn_wide.2 (impl_endValid.calls k _ _ l2 a3 _ _ HR21.out HC2.out HV2.out)).mono ?_; clear HV2 d2 d3 HR21; rintro e w2 ⟨rfl, hb2⟩; have hb12 := below_step hb1 hb2; have HK2 := Aside0.mk (KEY.out w2 hb12); clear hb2 hb12 hb1 HK1; have d0 := HK2.out.1.1.cell; have d4 := HK2.out.1.2.2.2.2.cell; have f4 := HK2.out.1.2.2.2.2.frozen))
      obtain ⟨⟨-, -, -, -, b4⟩, hBw2, hsz2⟩ := HK2.out
      have hc5 := (b4.set (.int .i64 (-1))).cell
      refine ⟨.int .i64 (-1), ?_, by rw [HRr.out], hBw2.setCell (p := ⟨w.heap.size + 1 + 1 + 1 + 1, 0, none⟩) (by simp; omega) _⟩
      simp [results, Try.f39, go_sem, hc5]
    | true =>
      have hr : some (((bw_l l0.length).findSome? (impl_meetAt l0 a1 l2 a3)).getD 0) = some r := by have := H2.out; rwa [if_pos rfl] at this
      replace hr := Option.some.inj hr
      clear H2
      gi_wp2_with (first | (refine ⟨trivial, ?_⟩; gi_at_call 52; refine (callsIn_wide.2 (impl_endValid.calls k _ _ l0 a1 true _ HR05.out HC0.out HV0.out)).mono ?_; clear HV0; rintro e w1 ⟨rfl, hb1⟩; have HK1 := Aside0.mk (KEY.out w1 hb1); have d2 := HK1.out.1.2.2.1.cell; have d3 := HK1.out.1.2.2.2.1.cell; have HR21 := Aside0.mk (Kd.C_below HR2.out HK1.out.2.1)) | (refine ⟨trivial, ?_⟩; gi_at_call 52; refine (callsIn_wide.2 (impl_endValid.calls k _ _ l2 a3 _ _ HR21.out HC2.out HV2.out)).mono ?_; clear HV2 d2 d3 HR21; rintro e w2 ⟨rfl, hb2⟩; have hb12 := below_step hb1 hb2; have HK2 := Aside0.mk (KEY.out w2 hb12); clear hb2 hb12 hb1 HK1; have d0 := HK2.out.1.1.cell; have d4 := HK2.out.1.2.2.2.2.cell; have f4 := HK2.out.1.2.2.2.2.frozen) | (refine ⟨trivial, ?_⟩; gi_at_call 57; refine (bw_in Fence.wide _ trivial rfl _ _ _ _).mono ?_; rintro e w3 ⟨rfl, rfl⟩))
      obtain ⟨⟨b0, b1, b2, b3, b4⟩, hBw2, hsz2⟩ := HK2.out
      have bB := Boxed.new w2 23 (.slice A0 l0.length c0)
      have b0' := b0.alloc (.cells #[.slice A0 l0.length c0] 23)
      have b1' := b1.alloc (.cells #[.slice A0 l0.length c0] 23)
      have b2' := b2.alloc (.cells #[.slice A0 l0.length c0] 23)
      have b3' := b3.alloc (.cells #[.slice A0 l0.length c0] 23)
      have b4' := b4.alloc (.cells #[.slice A0 l0.length c0] 23)
      have hBw3 := hBw2.alloc (by omega) (.cells #[.slice A0 l0.length c0] 23)
      have HR03 := Aside0.mk (Kd.C_below HR0.out hBw3)
      have HR23 := Aside0.mk (Kd.C_below HR2.out hBw3)
      have hsz3 : w.heap.size + 5 ≤ (w2.alloc (.cells #[.slice A0 l0.length c0] 23)).heap.size := by simp; omega
      clear b0 b1 b2 b3 b4 d0 d4 f4 hBw2
      generalize hg : w2.heap.size = g2 at bB ⊢
      obtain ⟨W0, hW0⟩ : ∃ W0, w2.alloc (.cells #[.slice A0 l0.length c0] 23) = W0 := ⟨_, rfl⟩
      rw [hW0] at bB b0' b1' b2' b3' b4' hBw3 HR03 HR23 hsz3 ⊢
      have hlt4 : w.heap.size + 1 + 1 + 1 + 1 < W0.heap.size := b4'.lt
      clear hW0
      refine wpIn_rangeFunc_ownH rfl (by omega) (gf := 60) (lb := #[.pointer (some ⟨g2, 0, none⟩)]) rfl trivial (enters_of Try.func60 (by kernel_rfl) rfl)
        (bw_stops Fence.wide _ trivial rfl (by omega) g2 A0 c0 l0 W0 bB.cell HR03.out) belowK_t (belowK_b (Nat.le_refl _)) (Below.refl _ _) (fun _ => rfl)
        (fun pre W => (∀ i ∈ pre, impl_meetFind l2 (rd_T37 l0 (i.1 : Int)) = none) ∧ Below W0.heap.size W0 W)
        (fun c pre W => (c = .ret ∧ ∃ ini last, pre = ini ++ [last] ∧ (∀ i ∈ ini, impl_meetFind l2 (rd_T37 l0 (i.1 : Int)) = none) ∧ ∃ v, impl_meetAt l0 a1 l2 a3 last = some v ∧ W.cell? ⟨w.heap.size + 1 + 1 + 1 + 1, 0, none⟩ = some (.int .i64 v)) ∧ Below w.heap.size w W)
        (OwnFrom.and (ownFrom_pure _ _) (ownFrom_below (Nat.le_refl _) (Nat.le_refl _)))
        (fun c => OwnFrom.and (Own.from (fun s A B row hs hg hr => by obtain ⟨hc, ini, last, e1, e2, v, e3, e4⟩ := hs; exact ⟨hc, ini, last, e1, e2, v, e3, Go.cell_kept e4 hg hr⟩) _) (ownFrom_below (Nat.le_refl _) (by omega)))
        ⟨by simp, Below.refl _ _⟩
        (fun x a' W => ∃ Bx, W0.heap.size ≤ Bx ∧ W.cell? ⟨Bx, 0, none⟩ = some (.int .i64 (rd_T37 l0 (x.1 : Int)).f0) ∧ W.cell? ⟨Bx, 1, none⟩ = some (.int .i64 (rd_T37 l0 (x.1 : Int)).f1) ∧ a' = { tmps := #[.slice A0 l0.length c0, .int .i64 a1, .slice A2 l2.length c2, .int .i64 a3, .pointer (some ⟨w.heap.size, 0, none⟩), .pointer (some ⟨w.heap.size + 1, 0, none⟩), .pointer (some ⟨w.heap.size + 1 + 1, 0, none⟩), .pointer (some ⟨w.heap.size + 1 + 1 + 1, 0, none⟩), .pointer (some ⟨w.heap.size + 1 + 1 + 1 + 1, 0, none⟩), .int .i64 (x.1 : Int), .pointer (some ⟨Bx, 0, none⟩), undef, .slice A0 l0.length c0, .int .i64 a1, .bool true, .bool false, .bool false, .slice A2 l2.length c2, .int .i64 a3, .bool true, .bool false, .bool false, .slice A0 l0.length c0, .func (.func 60) #[] #[.pointer (some ⟨g2, 0, none⟩)], .int .i64 (x.1 : Int), .agg #[.int .i64 (rd_T37 l0 (x.1 : Int)).f0, .int .i64 (rd_T37 l0 (x.1 : Int)).f1], undef, undef, undef, undef, undef, undef, undef, undef, undef, undef, undef, undef, undef, undef], defers := [] })
        (fun x a' _ X Y row hs hg hr => by obtain ⟨Bx, e0, e1, e2, e3⟩ := hs; exact ⟨Bx, e0, Go.cell_kept e1 hg (fun r e => (hr r e).2), Go.cell_kept e2 hg (fun r e => (hr r e).2), e3⟩)
        ?assign ?body ?done ?stop
      case assign =>
        rintro l pre x W K ⟨hp, hB⟩ hK
        gi_wp2
        exact hK _ _ ((KeepsOthers.alloc _ _).from _) ((Below.refl _ W).alloc hB.size _) ⟨hp, hB.alloc hB.size _⟩ ⟨W.heap.size, hB.size, by simp, by simp, rfl⟩
      case body =>
        rintro l pre x a' W hl ⟨lr, hlr⟩ ⟨hp, hB⟩ ⟨Bx, hBx, cx0, cx1, rfl⟩ hlt
        have KEY2 : ∀ W', Below W0.heap.size W0 W' → (W'.cell? ⟨w.heap.size, 0, none⟩ = some (.slice A0 l0.length c0) ∧ W'.cell? ⟨w.heap.size + 1, 0, none⟩ = some (.int .i64 a1) ∧ W'.cell? ⟨w.heap.size + 1 + 1, 0, none⟩ = some (.slice A2 l2.length c2) ∧ W'.cell? ⟨w.heap.size + 1 + 1 + 1, 0, none⟩ = some (.int .i64 a3)) ∧ Boxed W' (w.heap.size + 1 + 1 + 1 + 1) 3 (.int .i64 0) ∧ Kd.C k37 W' A0 l0.length l0 ∧ Kd.C k37 W' A2 l2.length l2 := by
          intro W' hb
          refine ⟨⟨(hb.cell b0'.lt).trans b0'.cell, (hb.cell b1'.lt).trans b1'.cell, (hb.cell b2'.lt).trans b2'.cell, (hb.cell b3'.lt).trans b3'.cell⟩, (hb.block _ b4'.lt).trans b4', Kd.C_below HR03.out hb, Kd.C_below HR23.out hb⟩
        obtain ⟨⟨-, -, d2, -⟩, -, -, hR2W⟩ := KEY2 W hB
        have HRW := Aside0.mk hR2W
        clear hR2W
        have K2 := Aside0.mk KEY2
        clear KEY2
        cases hf : impl_meetFind l2 (rd_T37 l0 (x.1 : Int)) with
        | none =>
          have hF := impl_meetFind_f l2 (rd_T37 l0 (x.1 : Int)) hm2
          rw [hf] at hF
          have HF := Aside0.mk hF
          clear hF
          gi_wp2_with (refine ⟨trivial, ?_⟩; gi_at_call 58; refine (CallsIn.inRound l (callsIn_wide.2 (impl_Term_58.calls (l2.length + 1) _ _ l2 _ _ _ _ HRW.out HC2.out HF.out))).mono ?_; rintro e w6 ⟨rfl, hb6⟩; dsimp only)
          exact ⟨keepsFrom_below hb6, hb6.mono hB.size, ⟨fun i hi => (List.mem_append.1 hi).elim (hp i) (fun e => by simp at e; subst e; exact hf), hB.trans (hb6.mono hB.size)⟩⟩
        | some j =>
          have hF := impl_meetFind_f l2 (rd_T37 l0 (x.1 : Int)) hm2
          rw [hf] at hF
          have HF := Aside0.mk hF
          clear hF
          have hjl := impl_meetFind_lt hf
          have E0 := Aside0.mk (impl_meetEnd_eq (l := l0) a1 x.2 hm0)
          have E2 := Aside0.mk (impl_meetEnd_eq (l := l2) a3 hjl hm2)
          gi_wp2_with (refine ⟨trivial, ?_⟩; gi_at_call 58; refine (CallsIn.inRound l (callsIn_wide.2 (impl_Term_58.calls (l2.length + 1) _ _ l2 _ _ _ _ HRW.out HC2.out HF.out))).mono ?_; rintro e w6 ⟨rfl, hb6⟩; dsimp only)
          have hB6 := hB.trans (hb6.mono hB.size)
          have HB6 := Aside0.mk hB6
          obtain ⟨⟨c0', c1', c2', c3'⟩, b4w, -, -⟩ := K2.out w6 hB6
          have c4' := b4w.cell
          have f4' := b4w.frozen
          have E0_ := E0
          have E2_ := E2
          have hmx : Try.prog.follows .mixedOrders = true := by kernel_rfl
          have HBW6 := Aside0.mk hb6
          clear hb6 hB6 d2 cx0 cx1
          obtain ⟨mk, hmk⟩ : ∃ mk : Value → Value → Value → Value → Value → Value → Value → Value → Value → Act, mk = fun u0 u1 u2 u3 u4 u5 u6 u7 u8 => { tmps := #[.slice A0 l0.length c0, .int .i64 a1, .slice A2 l2.length c2, .int .i64 a3, .pointer (some ⟨w.heap.size, 0, none⟩), .pointer (some ⟨w.heap.size + 1, 0, none⟩), .pointer (some ⟨w.heap.size + 1 + 1, 0, none⟩), .pointer (some ⟨w.heap.size + 1 + 1 + 1, 0, none⟩), .pointer (some ⟨w.heap.size + 1 + 1 + 1 + 1, 0, none⟩), .int .i64 (x.1 : Int), .pointer (some ⟨Bx, 0, none⟩), .int .i64 (j : Int), .slice A0 l0.length c0, .int .i64 a1, .bool true, .bool false, .bool false, .slice A2 l2.length c2, .int .i64 a3, .bool true, .bool false, .bool false, .slice A0 l0.length c0, .func (.func 60) #[] #[.pointer (some ⟨g2, 0, none⟩)], .int .i64 (x.1 : Int), .agg #[.int .i64 (rd_T37 l0 (x.1 : Int)).f0, .int .i64 (rd_T37 l0 (x.1 : Int)).f1], .slice A2 l2.length c2, .agg #[.int .i64 (rd_T37 l0 (x.1 : Int)).f0, .int .i64 (rd_T37 l0 (x.1 : Int)).f1], .int .i64 (j : Int), .int .i64 (j : Int), .bool true, u0, u1, u2, u3, u4, u5, u6, u7, u8], defers := [] } := ⟨_, rfl⟩
          obtain ⟨vv, hvv⟩ : ∃ vv, vv = impl_meetMin (impl_meetEnd l0 x.1 a1) (impl_meetEnd l2 j a3) := ⟨_, rfl⟩
          have HVV := Aside0.mk hvv
          clear hvv
          refine wpIn_region_any hmx (wpAnyIn_inv10 (by kernel_rfl) (fun b0 b1 b2 b3 b4 b5 b6 b7 b8 b9 a' W' => ∃ u0 u1 u2 u3 u4 u5 u6 u7 u8, a' = mk u0 u1 u2 u3 u4 u5 u6 u7 u8 ∧
              (b0 = true → u0 = .slice A0 l0.length c0) ∧ (b1 = true → u1 = .int .i64 (x.1 : Int)) ∧ (b2 = true → u2 = .int .i64 a1) ∧ (b3 = true → u3 = .int .i64 (impl_meetEnd l0 x.1 a1)) ∧ (b4 = true → u4 = .slice A2 l2.length c2) ∧ (b5 = true → u5 = .int .i64 (j : Int)) ∧ (b6 = true → u6 = .int .i64 a3) ∧ (b7 = true → u7 = .int .i64 (impl_meetEnd l2 j a3)) ∧ (b8 = true → u8 = .int .i64 vv) ∧
              (b9 = false → ∃ m, W' = w6.drewN m) ∧ (b9 = true → ∃ m, W' = (w6.drewN m).setCell ⟨w.heap.size + 1 + 1 + 1 + 1, 0, none⟩ (.int .i64 vv)) ∧ (b9 = true → (b0 && b1 && b2 && b3 && b4 && b5 && b6 && b7 && b8) = true)) ?hdone ?s0 ?s1 ?s2 ?s3 ?s4 ?s5 ?s6 ?s7 ?s8 ?s9 ⟨_, _, _, _, _, _, _, _, _, by rw [hmk], by simp, by simp, by simp, by simp, by simp, by simp, by simp, by simp, by simp, fun _ => ⟨1, rfl⟩, by simp, by simp⟩)
          case hdone =>
            rintro a' W' ⟨u0, u1, u2, u3, u4, u5, u6, u7, u8, rfl, -, -, -, -, -, -, -, -, -, -, hW, -⟩
            obtain ⟨m, rfl⟩ := hW rfl
            rw [hmk]
            gi_wp2
            have hBW : Below w.heap.size w W := hBw3.trans (hB.mono (by omega))
            have hkf : KeepsFrom W0.heap.size W w6 := keepsFrom_below HBW6.out
            refine ⟨?_, ⟨rfl, pre, x, rfl, hp, vv, by simp only [impl_meetAt, hf, Option.map_some, HVV.out], ?_⟩, ?_⟩
            · exact (hkf.trans ⟨Nat.le_refl _, fun k o _ h _ => h⟩ : KeepsFrom W0.heap.size W (w6.drewN m)).trans ((KeepsOthers.setCell _ _ _).from _)
            · exact World.cell?_setCell_same' _ _ _ (by rw [show (w6.drewN m).cell? _ = _ from c4']; rfl)
            · exact (pw_below_drewN (hBW.trans (HBW6.out.mono hBW.size)) m).setCell (p := ⟨w.heap.size + 1 + 1 + 1 + 1, 0, none⟩) (by simp; omega) _
          case s0 =>
            rintro z0 z1 z2 z3 z4 z5 z6 z7 z8 a' W' ⟨u0, u1, u2, u3, u4, u5, u6, u7, u8, rfl, h0, h1, h2, h3, h4, h5, h6, h7, h8, h9, h10, h11⟩
            have hz : z8 = false := by cases z8 <;> simp at h11 ⊢
            subst hz
            obtain ⟨m, rfl⟩ := h9 rfl
            rw [hmk]
            refine wpOpIn_step rfl (fun K hK => ?_)
            have HK := Aside0.mk hK
            clear hK
            go_simp
            exact HK.out _ _ ⟨_, u1, u2, u3, u4, u5, u6, u7, u8, rfl, fun _ => rfl, h1, h2, h3, h4, h5, h6, h7, h8, fun _ => ⟨_, rfl⟩, by simp, by simp⟩
          case s1 =>
            rintro z0 z1 z2 z3 z4 z5 z6 z7 z8 a' W' ⟨u0, u1, u2, u3, u4, u5, u6, u7, u8, rfl, h0, h1, h2, h3, h4, h5, h6, h7, h8, h9, h10, h11⟩
            have hz : z8 = false := by cases z8 <;> simp at h11 ⊢
            subst hz
            obtain ⟨m, rfl⟩ := h9 rfl
            rw [hmk]
            refine wpOpIn_step rfl (fun K hK => ?_)
            have HK := Aside0.mk hK
            clear hK
            go_simp
            exact HK.out _ _ ⟨u0, _, u2, u3, u4, u5, u6, u7, u8, rfl, h0, fun _ => rfl, h2, h3, h4, h5, h6, h7, h8, fun _ => ⟨_, rfl⟩, by simp, by simp⟩
          case s2 =>
            rintro z0 z1 z2 z3 z4 z5 z6 z7 z8 a' W' ⟨u0, u1, u2, u3, u4, u5, u6, u7, u8, rfl, h0, h1, h2, h3, h4, h5, h6, h7, h8, h9, h10, h11⟩
            have hz : z8 = false := by cases z8 <;> simp at h11 ⊢
            subst hz
            obtain ⟨m, rfl⟩ := h9 rfl
            rw [hmk]
            refine wpOpIn_step rfl (fun K hK => ?_)
            have HK := Aside0.mk hK
            clear hK
            go_simp
            exact HK.out _ _ ⟨u0, u1, _, u3, u4, u5, u6, u7, u8, rfl, h0, h1, fun _ => rfl, h3, h4, h5, h6, h7, h8, fun _ => ⟨_, rfl⟩, by simp, by simp⟩
          case s3 =>
            rintro z0 z1 z2 z3 z4 z5 a' W' ⟨u0, u1, u2, u3, u4, u5, u6, u7, u8, rfl, h0, h1, h2, h3, h4, h5, h6, h7, h8, h9, h10, h11⟩
            have hz : z5 = false := by cases z5 <;> simp at h11 ⊢
            subst hz
            obtain ⟨m, rfl⟩ := h9 rfl
            obtain rfl := h0 rfl
            obtain rfl := h1 rfl
            obtain rfl := h2 rfl
            rw [hmk]
            refine wpOpIn_step rfl (fun K hK => ?_)
            have HK := Aside0.mk hK
            clear hK
            go_simp
            gi_wp2_with (refine ⟨trivial, ?_⟩; gi_at_call 55; refine (CallsIn.inRound l (callsIn_wide.2 (impl_endAt.calls A0 c0 l0 (x.1 : Int) a1 _ _ (K2.out _ (pw_below_drewN HB6.out m)).2.2.1 HC0.out E0.out))).mono ?_; rintro e w7 ⟨rfl, ⟨n7, rfl⟩⟩; dsimp only)
            exact HK.out _ _ ⟨_, _, _, _, u4, u5, u6, u7, u8, rfl, fun _ => rfl, fun _ => rfl, fun _ => rfl, fun _ => rfl, h4, h5, h6, h7, h8, fun _ => ⟨_, rfl⟩, by simp, by simp⟩
          case s4 =>
            rintro z0 z1 z2 z3 z4 z5 z6 z7 z8 a' W' ⟨u0, u1, u2, u3, u4, u5, u6, u7, u8, rfl, h0, h1, h2, h3, h4, h5, h6, h7, h8, h9, h10, h11⟩
            have hz : z8 = false := by cases z8 <;> simp at h11 ⊢
            subst hz
            obtain ⟨m, rfl⟩ := h9 rfl
            rw [hmk]
            refine wpOpIn_step rfl (fun K hK => ?_)
            have HK := Aside0.mk hK
            clear hK
            go_simp
            exact HK.out _ _ ⟨u0, u1, u2, u3, _, u5, u6, u7, u8, rfl, h0, h1, h2, h3, fun _ => rfl, h5, h6, h7, h8, fun _ => ⟨_, rfl⟩, by simp, by simp⟩
          case s5 =>
            rintro z0 z1 z2 z3 z4 z5 z6 z7 z8 a' W' ⟨u0, u1, u2, u3, u4, u5, u6, u7, u8, rfl, h0, h1, h2, h3, h4, h5, h6, h7, h8, h9, h10, h11⟩
            have hz : z8 = false := by cases z8 <;> simp at h11 ⊢
            subst hz
            obtain ⟨m, rfl⟩ := h9 rfl
            rw [hmk]
            refine wpOpIn_step rfl (fun K hK => ?_)
            have HK := Aside0.mk hK
            clear hK
            go_simp
            exact HK.out _ _ ⟨u0, u1, u2, u3, u4, _, u6, u7, u8, rfl, h0, h1, h2, h3, h4, fun _ => rfl, h6, h7, h8, fun _ => ⟨_, rfl⟩, by simp, by simp⟩
          case s6 =>
            rintro z0 z1 z2 z3 z4 z5 z6 z7 z8 a' W' ⟨u0, u1, u2, u3, u4, u5, u6, u7, u8, rfl, h0, h1, h2, h3, h4, h5, h6, h7, h8, h9, h10, h11⟩
            have hz : z8 = false := by cases z8 <;> simp at h11 ⊢
            subst hz
            obtain ⟨m, rfl⟩ := h9 rfl
            rw [hmk]
            refine wpOpIn_step rfl (fun K hK => ?_)
            have HK := Aside0.mk hK
            clear hK
            go_simp
            exact HK.out _ _ ⟨u0, u1, u2, u3, u4, u5, _, u7, u8, rfl, h0, h1, h2, h3, h4, h5, fun _ => rfl, h7, h8, fun _ => ⟨_, rfl⟩, by simp, by simp⟩
          case s7 =>
            rintro z0 z1 z2 z3 z4 a' W' ⟨u0, u1, u2, u3, u4, u5, u6, u7, u8, rfl, h0, h1, h2, h3, h4, h5, h6, h7, h8, h9, h10, h11⟩
            have hz : z4 = false := by cases z4 <;> simp at h11 ⊢
            subst hz
            obtain ⟨m, rfl⟩ := h9 rfl
            obtain rfl := h3 rfl
            obtain rfl := h4 rfl
            obtain rfl := h5 rfl
            obtain rfl := h6 rfl
            rw [hmk]
            refine wpOpIn_step rfl (fun K hK => ?_)
            have HK := Aside0.mk hK
            clear hK
            go_simp
            gi_wp2_with (refine ⟨trivial, ?_⟩; gi_at_call 55; refine (CallsIn.inRound l (callsIn_wide.2 (impl_endAt.calls A2 c2 l2 (j : Int) a3 _ _ (K2.out _ (pw_below_drewN HB6.out m)).2.2.2 HC2.out E2.out))).mono ?_; rintro e w7 ⟨rfl, ⟨n7, rfl⟩⟩; dsimp only)
            exact HK.out _ _ ⟨u0, u1, u2, _, _, _, _, _, u8, rfl, h0, h1, h2, fun _ => rfl, fun _ => rfl, fun _ => rfl, fun _ => rfl, fun _ => rfl, h8, fun _ => ⟨_, rfl⟩, by simp, by simp⟩
          case s8 =>
            rintro z0 z1 z2 z3 z4 z5 z6 a' W' ⟨u0, u1, u2, u3, u4, u5, u6, u7, u8, rfl, h0, h1, h2, h3, h4, h5, h6, h7, h8, h9, h10, h11⟩
            have hz : z6 = false := by cases z6 <;> simp at h11 ⊢
            subst hz
            obtain ⟨m, rfl⟩ := h9 rfl
            obtain rfl := h3 rfl
            obtain rfl := h7 rfl
            rw [hmk]
            refine wpOpIn_step rfl (fun K hK => ?_)
            have HK := Aside0.mk hK
            clear hK
            go_simp
            gi_wp2_with (refine ⟨trivial, ?_⟩; gi_at_call 59; refine (CallsIn.inRound l (callsIn_wide.2 (impl_lesser_int.calls _ _ vv _ (by rw [HVV.out]; unfold impl_lesser_int.f impl_meetMin; split <;> rfl)))).mono ?_; rintro e w7 ⟨rfl, ⟨n7, rfl⟩⟩; dsimp only)
            exact HK.out _ _ ⟨u0, u1, u2, _, u4, u5, u6, _, _, rfl, h0, h1, h2, fun _ => rfl, h4, h5, h6, fun _ => rfl, fun _ => rfl, fun _ => ⟨_, rfl⟩, by simp, by simp⟩
          case s9 =>
            rintro a' W' ⟨u0, u1, u2, u3, u4, u5, u6, u7, u8, rfl, h0, h1, h2, h3, h4, h5, h6, h7, h8, h9, h10, h11⟩
            obtain ⟨m, rfl⟩ := h9 rfl
            obtain rfl := h0 rfl
            obtain rfl := h1 rfl
            obtain rfl := h2 rfl
            obtain rfl := h3 rfl
            obtain rfl := h4 rfl
            obtain rfl := h5 rfl
            obtain rfl := h6 rfl
            obtain rfl := h7 rfl
            obtain rfl := h8 rfl
            rw [hmk]
            refine wpOpIn_step rfl (fun K hK => ?_)
            have HK := Aside0.mk hK
            clear hK
            go_simp
            exact HK.out _ _ ⟨_, _, _, _, _, _, _, _, _, rfl, fun _ => rfl, fun _ => rfl, fun _ => rfl, fun _ => rfl, fun _ => rfl, fun _ => rfl, fun _ => rfl, fun _ => rfl, fun _ => rfl, by simp, fun _ => ⟨_, rfl⟩, by simp⟩
      case done =>
        rintro D ys W hD rfl ⟨hp, hB⟩ hK
        have d4 := (hB.block _ b4'.lt).trans b4'
        have b4 : Boxed W _ _ _ := d4
        have c4 := b4.cell
        have f4 := b4.frozen
        gi_wp2
        have hK' := (KeepsOthers.setCell W ⟨w.heap.size + 1 + 1 + 1 + 1, 0, none⟩ (.int .i64 0)).same D _ hK rfl
        refine ⟨by simp, .inl ⟨_, _, rfl, run_takeDeferred hK', ?_⟩⟩
        have hc5 := Go.cell_kept (b4.set (.int .i64 0)).cell (grownBy_putObj' _ D (.deferred none)) (fun r e => by cases e; exact ⟨_, hK', rfl⟩)
        have hno : (bw_l l0.length).findSome? (impl_meetAt l0 a1 l2 a3) = none := List.findSome?_eq_none_iff.mpr (fun i hi => by simp only [impl_meetAt, hp i hi, Option.map_none])
        refine ⟨.int .i64 0, ?_, by rw [← hr, hno]; rfl, ((hBw3.trans (hB.mono (by omega))).setCell (p := ⟨w.heap.size + 1 + 1 + 1 + 1, 0, none⟩) (by simp; omega) _).trans (belowK_b (w := w) (Nat.le_refl _) _ D _ _ (by omega) hK' rfl rfl)⟩
        simp [results, Try.f39, go_sem, hc5]
      case stop =>
        rintro D c pre W hD hpre ⟨⟨rfl, ini, last, e1, e2, v, e3, e4⟩, hB⟩ hK
        gi_wp2
        refine ⟨by simp, .inl ⟨_, _, rfl, run_takeDeferred hK, ?_⟩⟩
        have hc5 := Go.cell_kept e4 (grownBy_putObj' _ D (.deferred none)) (fun r e => by cases e; exact ⟨_, hK, rfl⟩)
        have hyes : (bw_l l0.length).findSome? (impl_meetAt l0 a1 l2 a3) = some v := by
          obtain ⟨suf, hs⟩ := hpre
          rw [← hs, e1, List.findSome?_append, List.findSome?_append, List.findSome?_eq_none_iff.mpr (fun i hi => by simp only [impl_meetAt, e2 i hi, Option.map_none])]
          simp [e3]
        refine ⟨.int .i64 v, ?_, by rw [← hr, hyes]; rfl, hB.trans (belowK_b (w := w) (Nat.le_refl _) W D _ _ (by omega) hK rfl rfl)⟩
        simp [results, Try.f39, go_sem, hc5]
end
end Go.Proofs.Ytamncgpajkoiaaa.T
namespace Go.Proofs.Ytamncgpajkoiaaa.T
open Go.RowKit Go.Proofs.YtamncgpajkoiaaaW.PrintWords Go.Proofs.YtamncgpajkoiaaaW.PrintLast Go.Proofs.YtamncgpajkoiaaaW.PrintMore

set_option linter.unusedVariables false
set_option linter.unusedSimpArgs false
def laws_FnExactTermsMeet.f (k : Nat) (l0 : List (S44)) (a1 : Int) (l2 : List (S44)) (a3 : Int) : Option (Bool) := (laws_szTermS.f l0 1048576).bind fun t399 => (if t399 < 0 then (some true) else ((laws_szTermS.f l2 t399).bind fun t400 => (if t400 < 0 then (some true) else ((laws_toTermS.f k l0).bind fun t401 => ((laws_toTermS.f k l2).bind fun t404 => ((spec_TermsMeet.f k t401 a1 t404 a3).bind fun t407 => ((laws_toTermS.f k l0).bind fun t408 => ((laws_toTermS.f k l2).bind fun t411 => ((impl_TermsMeet.f k t408 a1 t411 a3).bind fun t414 => (if t414 = t407 then ((laws_toTermS.f k l0).bind fun t415 => ((laws_eqTermS.f k t408 t415).bind fun t418 => (if t418 = true then ((laws_toTermS.f k l2).bind fun t419 => ((laws_eqTermS.f k t411 t419).bind fun t422 => (if t422 = true then (some true) else (some false)))) else (some false)))) else (some false)))))))))))
theorem laws_FnExactTermsMeet.mono : ∀ a0 a1 a2 a3 k, LeO (laws_FnExactTermsMeet.f k a0 a1 a2 a3) (laws_FnExactTermsMeet.f (k + 1) a0 a1 a2 a3) := by
  intro a0 a1 a2 a3 k
  unfold laws_FnExactTermsMeet.f
  repeat' first
      | (with_reducible exact impl_TermsMeet.mono _ _ _ _ _)
      | (with_reducible exact laws_eqTermS.mono _ _ _)
      | (with_reducible exact laws_toTermS.mono _ _)
      | (with_reducible exact spec_TermsMeet.mono _ _ _ _ _)
      | (with_reducible exact LeO.refl _)
      | (with_reducible exact LeO.none _)
      | (with_reducible refine LeO.ite ?_ ?_)
      | (with_reducible refine LeO.bind ?_ (fun _ => ?_))
      | exact impl_TermsMeet.mono _ _ _ _ _
      | exact laws_eqTermS.mono _ _ _
      | exact laws_toTermS.mono _ _
      | exact spec_TermsMeet.mono _ _ _ _ _
      | exact LeO.none _
      | refine LeO.ite ?_ ?_
      | refine LeO.bind ?_ (fun _ => ?_)
set_option maxHeartbeats 8000000 in
set_option maxRecDepth 100000 in
theorem laws_FnExactTermsMeet.calls (k : Nat) (A0 : Option Addr) (c0 : Nat) (l0 : List (S44)) (a1 : Int) (A2 : Option Addr) (c2 : Nat) (l2 : List (S44)) (a3 : Int) (r : Bool) (w : World) (hr0 : Kd.C k44 w A0 l0.length l0) (hc0 : l0.length ≤ c0) (hr2 : Kd.C k44 w A2 l2.length l2) (hc2 : l2.length ≤ c2) (h : laws_FnExactTermsMeet.f k l0 a1 l2 a3 = some r) :
    Calls Try.prog 13 #[.slice A0 l0.length c0, .int .i64 a1, .slice A2 l2.length c2, .int .i64 a3] w fun e w' => e = .returned (.bool r) ∧ Below w.heap.size w w' := by
  have HR0 := Aside0.mk hr0
  have HC0 := Aside0.mk hc0
  clear hr0 hc0
  have HR2 := Aside0.mk hr2
  have HC2 := Aside0.mk hc2
  clear hr2 hc2
  have HB := Aside0.mk (Below.refl w.heap.size w)
  have H : ((laws_szTermS.f l0 1048576).bind fun t399 => (if t399 < 0 then (some true) else ((laws_szTermS.f l2 t399).bind fun t400 => (if t400 < 0 then (some true) else ((laws_toTermS.f k l0).bind fun t401 => ((laws_toTermS.f k l2).bind fun t404 => ((spec_TermsMeet.f k t401 a1 t404 a3).bind fun t407 => ((laws_toTermS.f k l0).bind fun t408 => ((laws_toTermS.f k l2).bind fun t411 => ((impl_TermsMeet.f k t408 a1 t411 a3).bind fun t414 => (if t414 = t407 then ((laws_toTermS.f k l0).bind fun t415 => ((laws_eqTermS.f k t408 t415).bind fun t418 => (if t418 = true then ((laws_toTermS.f k l2).bind fun t419 => ((laws_eqTermS.f k t411 t419).bind fun t422 => (if t422 = true then (some true) else (some false)))) else (some false)))) else (some false)))))))))))) = some r := h
  clear h
  replace H := Option.bind_eq_some_iff.mp H
  obtain ⟨t399, A50, H⟩ := H
  replace H : (if t399 < 0 then (some true) else ((laws_szTermS.f l2 t399).bind fun t400 => (if t400 < 0 then (some true) else ((laws_toTermS.f k l0).bind fun t401 => ((laws_toTermS.f k l2).bind fun t404 => ((spec_TermsMeet.f k t401 a1 t404 a3).bind fun t407 => ((laws_toTermS.f k l0).bind fun t408 => ((laws_toTermS.f k l2).bind fun t411 => ((impl_TermsMeet.f k t408 a1 t411 a3).bind fun t414 => (if t414 = t407 then ((laws_toTermS.f k l0).bind fun t415 => ((laws_eqTermS.f k t408 t415).bind fun t418 => (if t418 = true then ((laws_toTermS.f k l2).bind fun t419 => ((laws_eqTermS.f k t411 t419).bind fun t422 => (if t422 = true then (some true) else (some false)))) else (some false)))) else (some false))))))))))) = some r := H
  have A5 := Aside0.mk A50
  clear A50
  by_cases c6 : t399 < 0
  · rw [if_pos c6] at H
    have c6b0 : decide (t399 < 0) = true := decide_eq_true c6
    clear c6
    obtain rfl := Option.some.inj H
    go_enter Try.func13, Try.ntmps13
    go_wp2_with (first | ((with_reducible refine gate_callee (f := 22) rfl ?_); refine goesL_ (some 16) rfl rfl Try.func22 (by kernel_rfl) rfl #[.slice A0 l0.length c0, .int .i64 1048576] rfl (by (try simp only [List.map_toArray, List.map_cons, List.map_nil]); first | done | rfl | (simp only [List.length_drop, List.length_take]; rfl)) ?_; (with_reducible refine (laws_szTermS.calls _ _ l0 1048576 t399 _ ?side1 ?side2 A5.out).mono ?_); (case side1 => repeat (first | exact HR0.out | (with_reducible refine Kd.C_alloc ?_ _) | (with_reducible refine Kd.C_drewN ?_ _) | (with_reducible refine Kd.C_drew ?_))); (case side2 => exact HC0.out); rintro e w' ⟨rfl, ⟨nd, rfl⟩⟩; refine ⟨_, rfl, ?_⟩))
    go_ret
    exact ⟨by first | rfl | (simp [errW_none, errW_some] <;> rfl) | (simp [*, errW_none, errW_some] <;> rfl), by repeat (first | (with_reducible first | exact HB.out | apply below_alloc | apply pw_below_drewN | apply below_drew1) | exact HB.out)⟩
  · rw [if_neg c6] at H
    have c6b0 : decide (t399 < 0) = false := decide_eq_false c6
    clear c6
    replace H := Option.bind_eq_some_iff.mp H
    obtain ⟨t400, A70, H⟩ := H
    replace H : (if t400 < 0 then (some true) else ((laws_toTermS.f k l0).bind fun t401 => ((laws_toTermS.f k l2).bind fun t404 => ((spec_TermsMeet.f k t401 a1 t404 a3).bind fun t407 => ((laws_toTermS.f k l0).bind fun t408 => ((laws_toTermS.f k l2).bind fun t411 => ((impl_TermsMeet.f k t408 a1 t411 a3).bind fun t414 => (if t414 = t407 then ((laws_toTermS.f k l0).bind fun t415 => ((laws_eqTermS.f k t408 t415).bind fun t418 => (if t418 = true then ((laws_toTermS.f k l2).bind fun t419 => ((laws_eqTermS.f k t411 t419).bind fun t422 => (if t422 = true then (some true) else (some false)))) else (some false)))) else (some false))))))))) = some r := H
    have A7 := Aside0.mk A70
    clear A70
    by_cases c8 : t400 < 0
    · rw [if_pos c8] at H
      have c8b0 : decide (t400 < 0) = true := decide_eq_true c8
      clear c8
      obtain rfl := Option.some.inj H
      go_enter Try.func13, Try.ntmps13
      go_wp2_with (first | ((with_reducible refine gate_callee (f := 22) rfl ?_); refine goesL_ (some 16) rfl rfl Try.func22 (by kernel_rfl) rfl #[.slice A0 l0.length c0, .int .i64 1048576] rfl (by (try simp only [List.map_toArray, List.map_cons, List.map_nil]); first | done | rfl | (simp only [List.length_drop, List.length_take]; rfl)) ?_; (with_reducible refine (laws_szTermS.calls _ _ l0 1048576 t399 _ ?side1 ?side2 A5.out).mono ?_); (case side1 => repeat (first | exact HR0.out | (with_reducible refine Kd.C_alloc ?_ _) | (with_reducible refine Kd.C_drewN ?_ _) | (with_reducible refine Kd.C_drew ?_))); (case side2 => exact HC0.out); rintro e w' ⟨rfl, ⟨nd, rfl⟩⟩; refine ⟨_, rfl, ?_⟩) | ((with_reducible refine gate_callee (f := 22) rfl ?_); refine goesL_ (some 21) rfl rfl Try.func22 (by kernel_rfl) rfl #[.slice A2 l2.length c2, .int .i64 t399] rfl (by (try simp only [List.map_toArray, List.map_cons, List.map_nil]); first | done | rfl | (simp only [List.length_drop, List.length_take]; rfl)) ?_; (with_reducible refine (laws_szTermS.calls _ _ l2 t399 t400 _ ?side1 ?side2 A7.out).mono ?_); (case side1 => repeat (first | exact HR2.out | (with_reducible refine Kd.C_alloc ?_ _) | (with_reducible refine Kd.C_drewN ?_ _) | (with_reducible refine Kd.C_drew ?_))); (case side2 => exact HC2.out); rintro e w' ⟨rfl, ⟨nd, rfl⟩⟩; refine ⟨_, rfl, ?_⟩))
      go_ret
      exact ⟨by first | rfl | (simp [errW_none, errW_some] <;> rfl) | (simp [*, errW_none, errW_some] <;> rfl), by repeat (first | (with_reducible first | exact HB.out | apply below_alloc | apply pw_below_drewN | apply below_drew1) | exact HB.out)⟩
    · rw [if_neg c8] at H
      have c8b0 : decide (t400 < 0) = false := decide_eq_false c8
      clear c8
      replace H := Option.bind_eq_some_iff.mp H
      obtain ⟨t401, A90, H⟩ := H
      replace H : ((laws_toTermS.f k l2).bind fun t404 => ((spec_TermsMeet.f k t401 a1 t404 a3).bind fun t407 => ((laws_toTermS.f k l0).bind fun t408 => ((laws_toTermS.f k l2).bind fun t411 => ((impl_TermsMeet.f k t408 a1 t411 a3).bind fun t414 => (if t414 = t407 then ((laws_toTermS.f k l0).bind fun t415 => ((laws_eqTermS.f k t408 t415).bind fun t418 => (if t418 = true then ((laws_toTermS.f k l2).bind fun t419 => ((laws_eqTermS.f k t411 t419).bind fun t422 => (if t422 = true then (some true) else (some false)))) else (some false)))) else (some false))))))) = some r := H
      have A9 := Aside0.mk A90
      clear A90
      replace H := Option.bind_eq_some_iff.mp H
      obtain ⟨t404, A100, H⟩ := H
      replace H : ((spec_TermsMeet.f k t401 a1 t404 a3).bind fun t407 => ((laws_toTermS.f k l0).bind fun t408 => ((laws_toTermS.f k l2).bind fun t411 => ((impl_TermsMeet.f k t408 a1 t411 a3).bind fun t414 => (if t414 = t407 then ((laws_toTermS.f k l0).bind fun t415 => ((laws_eqTermS.f k t408 t415).bind fun t418 => (if t418 = true then ((laws_toTermS.f k l2).bind fun t419 => ((laws_eqTermS.f k t411 t419).bind fun t422 => (if t422 = true then (some true) else (some false)))) else (some false)))) else (some false)))))) = some r := H
      have A10 := Aside0.mk A100
      clear A100
      replace H := Option.bind_eq_some_iff.mp H
      obtain ⟨t407, A110, H⟩ := H
      replace H : ((laws_toTermS.f k l0).bind fun t408 => ((laws_toTermS.f k l2).bind fun t411 => ((impl_TermsMeet.f k t408 a1 t411 a3).bind fun t414 => (if t414 = t407 then ((laws_toTermS.f k l0).bind fun t415 => ((laws_eqTermS.f k t408 t415).bind fun t418 => (if t418 = true then ((laws_toTermS.f k l2).bind fun t419 => ((laws_eqTermS.f k t411 t419).bind fun t422 => (if t422 = true then (some true) else (some false)))) else (some false)))) else (some false))))) = some r := H
      have A11 := Aside0.mk A110
      clear A110
      replace H := Option.bind_eq_some_iff.mp H
      obtain ⟨t408, A120, H⟩ := H
      replace H : ((laws_toTermS.f k l2).bind fun t411 => ((impl_TermsMeet.f k t408 a1 t411 a3).bind fun t414 => (if t414 = t407 then ((laws_toTermS.f k l0).bind fun t415 => ((laws_eqTermS.f k t408 t415).bind fun t418 => (if t418 = true then ((laws_toTermS.f k l2).bind fun t419 => ((laws_eqTermS.f k t411 t419).bind fun t422 => (if t422 = true then (some true) else (some false)))) else (some false)))) else (some false)))) = some r := H
      have A12 := Aside0.mk A120
      clear A120
      replace H := Option.bind_eq_some_iff.mp H
      obtain ⟨t411, A130, H⟩ := H
      replace H : ((impl_TermsMeet.f k t408 a1 t411 a3).bind fun t414 => (if t414 = t407 then ((laws_toTermS.f k l0).bind fun t415 => ((laws_eqTermS.f k t408 t415).bind fun t418 => (if t418 = true then ((laws_toTermS.f k l2).bind fun t419 => ((laws_eqTermS.f k t411 t419).bind fun t422 => (if t422 = true then (some true) else (some false)))) else (some false)))) else (some false))) = some r := H
      have A13 := Aside0.mk A130
      clear A130
      replace H := Option.bind_eq_some_iff.mp H
      obtain ⟨t414, A140, H⟩ := H
      replace H : (if t414 = t407 then ((laws_toTermS.f k l0).bind fun t415 => ((laws_eqTermS.f k t408 t415).bind fun t418 => (if t418 = true then ((laws_toTermS.f k l2).bind fun t419 => ((laws_eqTermS.f k t411 t419).bind fun t422 => (if t422 = true then (some true) else (some false)))) else (some false)))) else (some false)) = some r := H
      have A14 := Aside0.mk A140
      clear A140
      by_cases c15 : t414 = t407
      · rw [if_pos c15] at H
        have c15b0 : (t414 == t407) = true := beq_iff_eq.mpr c15
        have c15b1 : (t414 != t407) = false := bne_eq_false_iff_eq.mpr c15
        clear c15
        replace H := Option.bind_eq_some_iff.mp H
        obtain ⟨t415, A160, H⟩ := H
        replace H : ((laws_eqTermS.f k t408 t415).bind fun t418 => (if t418 = true then ((laws_toTermS.f k l2).bind fun t419 => ((laws_eqTermS.f k t411 t419).bind fun t422 => (if t422 = true then (some true) else (some false)))) else (some false))) = some r := H
        have A16 := Aside0.mk A160
        clear A160
        replace H := Option.bind_eq_some_iff.mp H
        obtain ⟨t418, A170, H⟩ := H
        replace H : (if t418 = true then ((laws_toTermS.f k l2).bind fun t419 => ((laws_eqTermS.f k t411 t419).bind fun t422 => (if t422 = true then (some true) else (some false)))) else (some false)) = some r := H
        have A17 := Aside0.mk A170
        clear A170
        by_cases c18 : t418 = true
        · subst c18
          have H1 : ((laws_toTermS.f k l2).bind fun t419 => ((laws_eqTermS.f k t411 t419).bind fun t422 => (if t422 = true then (some true) else (some false)))) = some r := by rw [if_pos rfl] at H; exact H
          clear H
          have H := H1
          clear H1
          replace H := Option.bind_eq_some_iff.mp H
          obtain ⟨t419, A190, H⟩ := H
          replace H : ((laws_eqTermS.f k t411 t419).bind fun t422 => (if t422 = true then (some true) else (some false))) = some r := H
          have A19 := Aside0.mk A190
          clear A190
          replace H := Option.bind_eq_some_iff.mp H
          obtain ⟨t422, A200, H⟩ := H
          replace H : (if t422 = true then (some true) else (some false)) = some r := H
          have A20 := Aside0.mk A200
          clear A200
          by_cases c21 : t422 = true
          · subst c21
            have H1 : (some true) = some r := by rw [if_pos rfl] at H; exact H
            clear H
            have H := H1
            clear H1
            obtain rfl := Option.some.inj H
            go_enter Try.func13, Try.ntmps13
            go_wp2_with (first | ((with_reducible refine gate_callee (f := 22) rfl ?_); refine goesL_ (some 16) rfl rfl Try.func22 (by kernel_rfl) rfl #[.slice A0 l0.length c0, .int .i64 1048576] rfl (by (try simp only [List.map_toArray, List.map_cons, List.map_nil]); first | done | rfl | (simp only [List.length_drop, List.length_take]; rfl)) ?_; (with_reducible refine (laws_szTermS.calls _ _ l0 1048576 t399 _ ?side1 ?side2 A5.out).mono ?_); (case side1 => repeat (first | exact HR0.out | (with_reducible refine Kd.C_alloc ?_ _) | (with_reducible refine Kd.C_drewN ?_ _) | (with_reducible refine Kd.C_drew ?_))); (case side2 => exact HC0.out); rintro e w' ⟨rfl, ⟨nd, rfl⟩⟩; refine ⟨_, rfl, ?_⟩) | ((with_reducible refine gate_callee (f := 22) rfl ?_); refine goesL_ (some 21) rfl rfl Try.func22 (by kernel_rfl) rfl #[.slice A2 l2.length c2, .int .i64 t399] rfl (by (try simp only [List.map_toArray, List.map_cons, List.map_nil]); first | done | rfl | (simp only [List.length_drop, List.length_take]; rfl)) ?_; (with_reducible refine (laws_szTermS.calls _ _ l2 t399 t400 _ ?side1 ?side2 A7.out).mono ?_); (case side1 => repeat (first | exact HR2.out | (with_reducible refine Kd.C_alloc ?_ _) | (with_reducible refine Kd.C_drewN ?_ _) | (with_reducible refine Kd.C_drew ?_))); (case side2 => exact HC2.out); rintro e w' ⟨rfl, ⟨nd, rfl⟩⟩; refine ⟨_, rfl, ?_⟩) | ((with_reducible refine gate_callee (f := 23) rfl ?_); refine goesL_ (some 25) rfl rfl Try.func23 (by kernel_rfl) rfl #[.slice A0 l0.length c0] rfl (by (try simp only [List.map_toArray, List.map_cons, List.map_nil]); first | done | rfl | (simp only [List.length_drop, List.length_take]; rfl)) ?_; (with_reducible refine (laws_toTermS.calls k _ _ l0 t401 _ ?side1 ?side2 A9.out).mono ?_); (case side1 => repeat (first | exact HR0.out | (with_reducible refine Kd.C_alloc ?_ _) | (with_reducible refine Kd.C_drewN ?_ _) | (with_reducible refine Kd.C_drew ?_))); (case side2 => exact HC0.out); rintro e w22 ⟨v402, rfl, ho0, hb⟩; refine ⟨_, rfl, ?_⟩; have n0_ := Aside0.mk (Kd.R_lower ho0 (below_size (by repeat (first | (with_reducible first | exact HB.out | apply below_alloc | apply pw_below_drewN | apply below_drew1) | exact HB.out)))); have n1_ := Aside0.mk (below_step (by repeat (first | (with_reducible first | exact HB.out | apply below_alloc | apply pw_below_drewN | apply below_drew1) | exact HB.out)) hb); clear HB; have HO403 := n0_; have HB := n1_; clear n0_ n1_; (try clear hb); (try clear hb2); (try clear hk); (try clear hi); (try clear ho0)) | ((with_reducible refine gate_callee (f := 23) rfl ?_); refine goesL_ (some 28) rfl rfl Try.func23 (by kernel_rfl) rfl #[.slice A2 l2.length c2] rfl (by (try simp only [List.map_toArray, List.map_cons, List.map_nil]); first | done | rfl | (simp only [List.length_drop, List.length_take]; rfl)) ?_; (with_reducible refine (laws_toTermS.calls k _ _ l2 t404 _ ?side1 ?side2 A10.out).mono ?_); (case side1 => repeat (first | exact (Kd.C_below HR2.out HB.out) | (with_reducible refine Kd.C_alloc ?_ _) | (with_reducible refine Kd.C_drewN ?_ _) | (with_reducible refine Kd.C_drew ?_))); (case side2 => exact HC2.out); rintro e w23 ⟨v405, rfl, ho0, hb⟩; refine ⟨_, rfl, ?_⟩; have n0_ := Aside0.mk (Kd.R_elder' (by (with_reducible repeat (first | apply Kd.R_alloc | apply Kd.R_drewN | apply Kd.R_drew)); exact HO403.out) (Kd.R_base ho0) hb); have n1_ := Aside0.mk (Kd.R_lower (Kd.R_new' ho0 (Kd.R_lt (by (with_reducible repeat (first | apply Kd.R_alloc | apply Kd.R_drewN | apply Kd.R_drew)); exact HO403.out))) (below_size (by repeat (first | (with_reducible first | exact HB.out | apply below_alloc | apply pw_below_drewN | apply below_drew1) | exact HB.out)))); have n2_ := Aside0.mk (below_step (by repeat (first | (with_reducible first | exact HB.out | apply below_alloc | apply pw_below_drewN | apply below_drew1) | exact HB.out)) hb); clear HO403; clear HB; have HO403 := n0_; have HO406 := n1_; have HB := n2_; clear n0_ n1_ n2_; (try clear hb); (try clear hb2); (try clear hk); (try clear hi); (try clear ho0); obtain ⟨Ao24, co24, eo24⟩ := Kd.R_slice HO403.out; subst eo24; obtain ⟨Ao25, co25, eo25⟩ := Kd.R_slice HO406.out; subst eo25) | ((with_reducible refine gate_callee (f := 38) rfl ?_); refine goesL_ (some 30) rfl rfl Try.func38 (by kernel_rfl) rfl #[.slice Ao24 t401.length co24, .int .i64 a1, .slice Ao25 t404.length co25, .int .i64 a3] rfl (by (try simp only [List.map_toArray, List.map_cons, List.map_nil]); first | done | rfl | (simp only [List.length_drop, List.length_take]; rfl)) ?_; (with_reducible refine (spec_TermsMeet.calls k _ _ t401 a1 _ _ t404 a3 t407 _ ?side1 ?side2 ?side3 ?side4 A11.out).mono ?_); (case side1 => repeat (first | exact (Kd.R_reads' HO403.out).2.2 | (with_reducible refine Kd.C_alloc ?_ _) | (with_reducible refine Kd.C_drewN ?_ _) | (with_reducible refine Kd.C_drew ?_))); (case side2 => exact (Kd.R_reads' HO403.out).2.1); (case side3 => repeat (first | exact (Kd.R_reads' HO406.out).2.2 | (with_reducible refine Kd.C_alloc ?_ _) | (with_reducible refine Kd.C_drewN ?_ _) | (with_reducible refine Kd.C_drew ?_))); (case side4 => exact (Kd.R_reads' HO406.out).2.1); rintro e w26 ⟨rfl, hb⟩; refine ⟨_, rfl, ?_⟩; have n0_ := Aside0.mk (Kd.R_below (by (with_reducible repeat (first | apply Kd.R_alloc | apply Kd.R_drewN | apply Kd.R_drew)); exact HO403.out) hb); have n1_ := Aside0.mk (Kd.R_below (by (with_reducible repeat (first | apply Kd.R_alloc | apply Kd.R_drewN | apply Kd.R_drew)); exact HO406.out) hb); have n2_ := Aside0.mk (below_step (by repeat (first | (with_reducible first | exact HB.out | apply below_alloc | apply pw_below_drewN | apply below_drew1) | exact HB.out)) hb); clear HO403; clear HO406; clear HB; have HO403 := n0_; have HO406 := n1_; have HB := n2_; clear n0_ n1_ n2_; (try clear hb); (try clear hb2); (try clear hk); (try clear hi)) | ((with_reducible refine gate_callee (f := 23) rfl ?_); refine goesL_ (some 32) rfl rfl Try.func23 (by kernel_rfl) rfl #[.slice A0 l0.length c0] rfl (by (try simp only [List.map_toArray, List.map_cons, List.map_nil]); first | done | rfl | (simp only [List.length_drop, List.length_take]; rfl)) ?_; (with_reducible refine (laws_toTermS.calls k _ _ l0 t408 _ ?side1 ?side2 A12.out).mono ?_); (case side1 => repeat (first | exact (Kd.C_below HR0.out HB.out) | (with_reducible refine Kd.C_alloc ?_ _) | (with_reducible refine Kd.C_drewN ?_ _) | (with_reducible refine Kd.C_drew ?_))); (case side2 => exact HC0.out); rintro e w27 ⟨v409, rfl, ho0, hb⟩; refine ⟨_, rfl, ?_⟩; have n0_ := Aside0.mk (Kd.R_elder' (by (with_reducible repeat (first | apply Kd.R_alloc | apply Kd.R_drewN | apply Kd.R_drew)); exact HO403.out) (Kd.R_base ho0) hb); have n1_ := Aside0.mk (Kd.R_elder' (by (with_reducible repeat (first | apply Kd.R_alloc | apply Kd.R_drewN | apply Kd.R_drew)); exact HO406.out) (Kd.R_base ho0) hb); have n2_ := Aside0.mk (Kd.R_lower (Kd.R_new' (Kd.R_new' ho0 (Kd.R_lt (by (with_reducible repeat (first | apply Kd.R_alloc | apply Kd.R_drewN | apply Kd.R_drew)); exact HO403.out))) (Kd.R_lt (by (with_reducible repeat (first | apply Kd.R_alloc | apply Kd.R_drewN | apply Kd.R_drew)); exact HO406.out))) (below_size (by repeat (first | (with_reducible first | exact HB.out | apply below_alloc | apply pw_below_drewN | apply below_drew1) | exact HB.out)))); have n3_ := Aside0.mk (below_step (by repeat (first | (with_reducible first | exact HB.out | apply below_alloc | apply pw_below_drewN | apply below_drew1) | exact HB.out)) hb); clear HO403; clear HO406; clear HB; have HO403 := n0_; have HO406 := n1_; have HO410 := n2_; have HB := n3_; clear n0_ n1_ n2_ n3_; (try clear hb); (try clear hb2); (try clear hk); (try clear hi); (try clear ho0)) | ((with_reducible refine gate_callee (f := 23) rfl ?_); refine goesL_ (some 34) rfl rfl Try.func23 (by kernel_rfl) rfl #[.slice A2 l2.length c2] rfl (by (try simp only [List.map_toArray, List.map_cons, List.map_nil]); first | done | rfl | (simp only [List.length_drop, List.length_take]; rfl)) ?_; (with_reducible refine (laws_toTermS.calls k _ _ l2 t411 _ ?side1 ?side2 A13.out).mono ?_); (case side1 => repeat (first | exact (Kd.C_below HR2.out HB.out) | (with_reducible refine Kd.C_alloc ?_ _) | (with_reducible refine Kd.C_drewN ?_ _) | (with_reducible refine Kd.C_drew ?_))); (case side2 => exact HC2.out); rintro e w28 ⟨v412, rfl, ho0, hb⟩; refine ⟨_, rfl, ?_⟩; have n0_ := Aside0.mk (Kd.R_elder' (by (with_reducible repeat (first | apply Kd.R_alloc | apply Kd.R_drewN | apply Kd.R_drew)); exact HO403.out) (Kd.R_base ho0) hb); have n1_ := Aside0.mk (Kd.R_elder' (by (with_reducible repeat (first | apply Kd.R_alloc | apply Kd.R_drewN | apply Kd.R_drew)); exact HO406.out) (Kd.R_base ho0) hb); have n2_ := Aside0.mk (Kd.R_elder' (by (with_reducible repeat (first | apply Kd.R_alloc | apply Kd.R_drewN | apply Kd.R_drew)); exact HO410.out) (Kd.R_base ho0) hb); have n3_ := Aside0.mk (Kd.R_lower (Kd.R_new' (Kd.R_new' (Kd.R_new' ho0 (Kd.R_lt (by (with_reducible repeat (first | apply Kd.R_alloc | apply Kd.R_drewN | apply Kd.R_drew)); exact HO403.out))) (Kd.R_lt (by (with_reducible repeat (first | apply Kd.R_alloc | apply Kd.R_drewN | apply Kd.R_drew)); exact HO406.out))) (Kd.R_lt (by (with_reducible repeat (first | apply Kd.R_alloc | apply Kd.R_drewN | apply Kd.R_drew)); exact HO410.out))) (below_size (by repeat (first | (with_reducible first | exact HB.out | apply below_alloc | apply pw_below_drewN | apply below_drew1) | exact HB.out)))); have n4_ := Aside0.mk (below_step (by repeat (first | (with_reducible first | exact HB.out | apply below_alloc | apply pw_below_drewN | apply below_drew1) | exact HB.out)) hb); clear HO403; clear HO406; clear HO410; clear HB; have HO403 := n0_; have HO406 := n1_; have HO410 := n2_; have HO413 := n3_; have HB := n4_; clear n0_ n1_ n2_ n3_ n4_; (try clear hb); (try clear hb2); (try clear hk); (try clear hi); (try clear ho0); obtain ⟨Ao29, co29, eo29⟩ := Kd.R_slice HO410.out; subst eo29; obtain ⟨Ao30, co30, eo30⟩ := Kd.R_slice HO413.out; subst eo30) | ((with_reducible refine gate_callee (f := 39) rfl ?_); refine goesL_ (some 39) rfl rfl Try.func39 (by kernel_rfl) rfl #[.slice Ao29 t408.length co29, .int .i64 a1, .slice Ao30 t411.length co30, .int .i64 a3] rfl (by (try simp only [List.map_toArray, List.map_cons, List.map_nil]); first | done | rfl | (simp only [List.length_drop, List.length_take]; rfl)) ?_; (with_reducible refine (impl_TermsMeet.calls k _ _ t408 a1 _ _ t411 a3 t414 _ ?side1 ?side2 ?side3 ?side4 A14.out).mono ?_); (case side1 => repeat (first | exact (Kd.R_reads' HO410.out).2.2 | (with_reducible refine Kd.C_alloc ?_ _) | (with_reducible refine Kd.C_drewN ?_ _) | (with_reducible refine Kd.C_drew ?_))); (case side2 => exact (Kd.R_reads' HO410.out).2.1); (case side3 => repeat (first | exact (Kd.R_reads' HO413.out).2.2 | (with_reducible refine Kd.C_alloc ?_ _) | (with_reducible refine Kd.C_drewN ?_ _) | (with_reducible refine Kd.C_drew ?_))); (case side4 => exact (Kd.R_reads' HO413.out).2.1); rintro e w31 ⟨rfl, hb⟩; refine ⟨_, rfl, ?_⟩; have n0_ := Aside0.mk (Kd.R_below (by (with_reducible repeat (first | apply Kd.R_alloc | apply Kd.R_drewN | apply Kd.R_drew)); exact HO403.out) hb); have n1_ := Aside0.mk (Kd.R_below (by (with_reducible repeat (first | apply Kd.R_alloc | apply Kd.R_drewN | apply Kd.R_drew)); exact HO406.out) hb); have n2_ := Aside0.mk (Kd.R_below (by (with_reducible repeat (first | apply Kd.R_alloc | apply Kd.R_drewN | apply Kd.R_drew)); exact HO410.out) hb); have n3_ := Aside0.mk (Kd.R_below (by (with_reducible repeat (first | apply Kd.R_alloc | apply Kd.R_drewN | apply Kd.R_drew)); exact HO413.out) hb); have n4_ := Aside0.mk (below_step (by repeat (first | (with_reducible first | exact HB.out | apply below_alloc | apply pw_below_drewN | apply below_drew1) | exact HB.out)) hb); clear HO403; clear HO406; clear HO410; clear HO413; clear HB; have HO403 := n0_; have HO406 := n1_; have HO410 := n2_; have HO413 := n3_; have HB := n4_; clear n0_ n1_ n2_ n3_ n4_; (try clear hb); (try clear hb2); (try clear hk); (try clear hi)) | ((with_reducible refine gate_callee (f := 23) rfl ?_); refine goesL_ (some 45) rfl rfl Try.func23 (by kernel_rfl) rfl #[.slice A0 l0.length c0] rfl (by (try simp only [List.map_toArray, List.map_cons, List.map_nil]); first | done | rfl | (simp only [List.length_drop, List.length_take]; rfl)) ?_; (with_reducible refine (laws_toTermS.calls k _ _ l0 t415 _ ?side1 ?side2 A16.out).mono ?_); (case side1 => repeat (first | exact (Kd.C_below HR0.out HB.out) | (with_reducible refine Kd.C_alloc ?_ _) | (with_reducible refine Kd.C_drewN ?_ _) | (with_reducible refine Kd.C_drew ?_))); (case side2 => exact HC0.out); rintro e w32 ⟨v416, rfl, ho0, hb⟩; refine ⟨_, rfl, ?_⟩; have n0_ := Aside0.mk (Kd.R_elder' (by (with_reducible repeat (first | apply Kd.R_alloc | apply Kd.R_drewN | apply Kd.R_drew)); exact HO403.out) (Kd.R_base ho0) hb); have n1_ := Aside0.mk (Kd.R_elder' (by (with_reducible repeat (first | apply Kd.R_alloc | apply Kd.R_drewN | apply Kd.R_drew)); exact HO406.out) (Kd.R_base ho0) hb); have n2_ := Aside0.mk (Kd.R_elder' (by (with_reducible repeat (first | apply Kd.R_alloc | apply Kd.R_drewN | apply Kd.R_drew)); exact HO410.out) (Kd.R_base ho0) hb); have n3_ := Aside0.mk (Kd.R_elder' (by (with_reducible repeat (first | apply Kd.R_alloc | apply Kd.R_drewN | apply Kd.R_drew)); exact HO413.out) (Kd.R_base ho0) hb); have n4_ := Aside0.mk (Kd.R_lower (Kd.R_new' (Kd.R_new' (Kd.R_new' (Kd.R_new' ho0 (Kd.R_lt (by (with_reducible repeat (first | apply Kd.R_alloc | apply Kd.R_drewN | apply Kd.R_drew)); exact HO403.out))) (Kd.R_lt (by (with_reducible repeat (first | apply Kd.R_alloc | apply Kd.R_drewN | apply Kd.R_drew)); exact HO406.out))) (Kd.R_lt (by (with_reducible repeat (first | apply Kd.R_alloc | apply Kd.R_drewN | apply Kd.R_drew)); exact HO410.out))) (Kd.R_lt (by (with_reducible repeat (first | apply Kd.R_alloc | apply Kd.R_drewN | apply Kd.R_drew)); exact HO413.out))) (below_size (by repeat (first | (with_reducible first | exact HB.out | apply below_alloc | apply pw_below_drewN | apply below_drew1) | exact HB.out)))); have n5_ := Aside0.mk (below_step (by repeat (first | (with_reducible first | exact HB.out | apply below_alloc | apply pw_below_drewN | apply below_drew1) | exact HB.out)) hb); clear HO403; clear HO406; clear HO410; clear HO413; clear HB; have HO403 := n0_; have HO406 := n1_; have HO410 := n2_; have HO413 := n3_; have HO417 := n4_; have HB := n5_; clear n0_ n1_ n2_ n3_ n4_ n5_; (try clear hb); (try clear hb2); (try clear hk); (try clear hi); (try clear ho0); obtain ⟨Ao33, co33, eo33⟩ := Kd.R_slice HO417.out; subst eo33) | ((with_reducible refine gate_callee (f := 24) rfl ?_); refine goesL_ (some 46) rfl rfl Try.func24 (by kernel_rfl) rfl #[.slice Ao29 t408.length co29, .slice Ao33 t415.length co33] rfl (by (try simp only [List.map_toArray, List.map_cons, List.map_nil]); first | done | rfl | (simp only [List.length_drop, List.length_take]; rfl)) ?_; (with_reducible refine (laws_eqTermS.calls k _ _ t408 _ _ t415 true _ ?side1 ?side2 ?side3 ?side4 A17.out).mono ?_); (case side1 => repeat (first | exact (Kd.R_reads' HO410.out).2.2 | (with_reducible refine Kd.C_alloc ?_ _) | (with_reducible refine Kd.C_drewN ?_ _) | (with_reducible refine Kd.C_drew ?_))); (case side2 => exact (Kd.R_reads' HO410.out).2.1); (case side3 => repeat (first | exact (Kd.R_reads' HO417.out).2.2 | (with_reducible refine Kd.C_alloc ?_ _) | (with_reducible refine Kd.C_drewN ?_ _) | (with_reducible refine Kd.C_drew ?_))); (case side4 => exact (Kd.R_reads' HO417.out).2.1); rintro e w34 ⟨rfl, hb⟩; refine ⟨_, rfl, ?_⟩; have n0_ := Aside0.mk (Kd.R_below (by (with_reducible repeat (first | apply Kd.R_alloc | apply Kd.R_drewN | apply Kd.R_drew)); exact HO403.out) hb); have n1_ := Aside0.mk (Kd.R_below (by (with_reducible repeat (first | apply Kd.R_alloc | apply Kd.R_drewN | apply Kd.R_drew)); exact HO406.out) hb); have n2_ := Aside0.mk (Kd.R_below (by (with_reducible repeat (first | apply Kd.R_alloc | apply Kd.R_drewN | apply Kd.R_drew)); exact HO410.out) hb); have n3_ := Aside0.mk (Kd.R_below (by (with_reducible repeat (first | apply Kd.R_alloc | apply Kd.R_drewN | apply Kd.R_drew)); exact HO413.out) hb); have n4_ := Aside0.mk (Kd.R_below (by (with_reducible repeat (first | apply Kd.R_alloc | apply Kd.R_drewN | apply Kd.R_drew)); exact HO417.out) hb); have n5_ := Aside0.mk (below_step (by repeat (first | (with_reducible first | exact HB.out | apply below_alloc | apply pw_below_drewN | apply below_drew1) | exact HB.out)) hb); clear HO403; clear HO406; clear HO410; clear HO413; clear HO417; clear HB; have HO403 := n0_; have HO406 := n1_; have HO410 := n2_; have HO413 := n3_; have HO417 := n4_; have HB := n5_; clear n0_ n1_ n2_ n3_ n4_ n5_; (try clear hb); (try clear hb2); (try clear hk); (try clear hi)) | ((with_reducible refine gate_callee (f := 23) rfl ?_); refine goesL_ (some 50) rfl rfl Try.func23 (by kernel_rfl) rfl #[.slice A2 l2.length c2] rfl (by (try simp only [List.map_toArray, List.map_cons, List.map_nil]); first | done | rfl | (simp only [List.length_drop, List.length_take]; rfl)) ?_; (with_reducible refine (laws_toTermS.calls k _ _ l2 t419 _ ?side1 ?side2 A19.out).mono ?_); (case side1 => repeat (first | exact (Kd.C_below HR2.out HB.out) | (with_reducible refine Kd.C_alloc ?_ _) | (with_reducible refine Kd.C_drewN ?_ _) | (with_reducible refine Kd.C_drew ?_))); (case side2 => exact HC2.out); rintro e w35 ⟨v420, rfl, ho0, hb⟩; refine ⟨_, rfl, ?_⟩; have n0_ := Aside0.mk (Kd.R_elder' (by (with_reducible repeat (first | apply Kd.R_alloc | apply Kd.R_drewN | apply Kd.R_drew)); exact HO403.out) (Kd.R_base ho0) hb); have n1_ := Aside0.mk (Kd.R_elder' (by (with_reducible repeat (first | apply Kd.R_alloc | apply Kd.R_drewN | apply Kd.R_drew)); exact HO406.out) (Kd.R_base ho0) hb); have n2_ := Aside0.mk (Kd.R_elder' (by (with_reducible repeat (first | apply Kd.R_alloc | apply Kd.R_drewN | apply Kd.R_drew)); exact HO410.out) (Kd.R_base ho0) hb); have n3_ := Aside0.mk (Kd.R_elder' (by (with_reducible repeat (first | apply Kd.R_alloc | apply Kd.R_drewN | apply Kd.R_drew)); exact HO413.out) (Kd.R_base ho0) hb); have n4_ := Aside0.mk (Kd.R_elder' (by (with_reducible repeat (first | apply Kd.R_alloc | apply Kd.R_drewN | apply Kd.R_drew)); exact HO417.out) (Kd.R_base ho0) hb); have n5_ := Aside0.mk (Kd.R_lower (Kd.R_new' (Kd.R_new' (Kd.R_new' (Kd.R_new' (Kd.R_new' ho0 (Kd.R_lt (by (with_reducible repeat (first | apply Kd.R_alloc | apply Kd.R_drewN | apply Kd.R_drew)); exact HO403.out))) (Kd.R_lt (by (with_reducible repeat (first | apply Kd.R_alloc | apply Kd.R_drewN | apply Kd.R_drew)); exact HO406.out))) (Kd.R_lt (by (with_reducible repeat (first | apply Kd.R_alloc | apply Kd.R_drewN | apply Kd.R_drew)); exact HO410.out))) (Kd.R_lt (by (with_reducible repeat (first | apply Kd.R_alloc | apply Kd.R_drewN | apply Kd.R_drew)); exact HO413.out))) (Kd.R_lt (by (with_reducible repeat (first | apply Kd.R_alloc | apply Kd.R_drewN | apply Kd.R_drew)); exact HO417.out))) (below_size (by repeat (first | (with_reducible first | exact HB.out | apply below_alloc | apply pw_below_drewN | apply below_drew1) | exact HB.out)))); have n6_ := Aside0.mk (below_step (by repeat (first | (with_reducible first | exact HB.out | apply below_alloc | apply pw_below_drewN | apply below_drew1) | exact HB.out)) hb); clear HO403; clear HO406; clear HO410; clear HO413; clear HO417; clear HB; have HO403 := n0_; have HO406 := n1_; have HO410 := n2_; have HO413 := n3_; have HO417 := n4_; have HO421 := n5_; have HB := n6_; clear n0_ n1_ n2_ n3_ n4_ n5_ n6_; (try clear hb); (try clear hb2); (try clear hk); (try clear hi); (try clear ho0); obtain ⟨Ao36, co36, eo36⟩ := Kd.R_slice HO421.out; subst eo36) | ((with_reducible refine gate_callee (f := 24) rfl ?_); refine goesL_ (some 51) rfl rfl Try.func24 (by kernel_rfl) rfl #[.slice Ao30 t411.length co30, .slice Ao36 t419.length co36] rfl (by (try simp only [List.map_toArray, List.map_cons, List.map_nil]); first | done | rfl | (simp only [List.length_drop, List.length_take]; rfl)) ?_; (with_reducible refine (laws_eqTermS.calls k _ _ t411 _ _ t419 true _ ?side1 ?side2 ?side3 ?side4 A20.out).mono ?_); (case side1 => repeat (first | exact (Kd.R_reads' HO413.out).2.2 | (with_reducible refine Kd.C_alloc ?_ _) | (with_reducible refine Kd.C_drewN ?_ _) | (with_reducible refine Kd.C_drew ?_))); (case side2 => exact (Kd.R_reads' HO413.out).2.1); (case side3 => repeat (first | exact (Kd.R_reads' HO421.out).2.2 | (with_reducible refine Kd.C_alloc ?_ _) | (with_reducible refine Kd.C_drewN ?_ _) | (with_reducible refine Kd.C_drew ?_))); (case side4 => exact (Kd.R_reads' HO421.out).2.1); rintro e w37 ⟨rfl, hb⟩; refine ⟨_, rfl, ?_⟩; have n0_ := Aside0.mk (Kd.R_below (by (with_reducible repeat (first | apply Kd.R_alloc | apply Kd.R_drewN | apply Kd.R_drew)); exact HO403.out) hb); have n1_ := Aside0.mk (Kd.R_below (by (with_reducible repeat (first | apply Kd.R_alloc | apply Kd.R_drewN | apply Kd.R_drew)); exact HO406.out) hb); have n2_ := Aside0.mk (Kd.R_below (by (with_reducible repeat (first | apply Kd.R_alloc | apply Kd.R_drewN | apply Kd.R_drew)); exact HO410.out) hb); have n3_ := Aside0.mk (Kd.R_below (by (with_reducible repeat (first | apply Kd.R_alloc | apply Kd.R_drewN | apply Kd.R_drew)); exact HO413.out) hb); have n4_ := Aside0.mk (Kd.R_below (by (with_reducible repeat (first | apply Kd.R_alloc | apply Kd.R_drewN | apply Kd.R_drew)); exact HO417.out) hb); have n5_ := Aside0.mk (Kd.R_below (by (with_reducible repeat (first | apply Kd.R_alloc | apply Kd.R_drewN | apply Kd.R_drew)); exact HO421.out) hb); have n6_ := Aside0.mk (below_step (by repeat (first | (with_reducible first | exact HB.out | apply below_alloc | apply pw_below_drewN | apply below_drew1) | exact HB.out)) hb); clear HO403; clear HO406; clear HO410; clear HO413; clear HO417; clear HO421; clear HB; have HO403 := n0_; have HO406 := n1_; have HO410 := n2_; have HO413 := n3_; have HO417 := n4_; have HO421 := n5_; have HB := n6_; clear n0_ n1_ n2_ n3_ n4_ n5_ n6_; (try clear hb); (try clear hb2); (try clear hk); (try clear hi)))
            go_ret
            exact ⟨by first | rfl | (simp [errW_none, errW_some] <;> rfl) | (simp [*, errW_none, errW_some] <;> rfl), by repeat (first | (with_reducible first | exact HB.out | apply below_alloc | apply pw_below_drewN | apply below_drew1) | exact HB.out)⟩
          · replace c21 := Bool.eq_false_iff.mpr c21
            subst c21
            have H1 : (some false) = some r := by rw [if_neg (show ¬ (false = true) by decide)] at H; exact H
            clear H
            have H := H1
            clear H1
            obtain rfl := Option.some.inj H
            go_enter Try.func13, Try.ntmps13
            go_wp2_with (first | ((with_reducible refine gate_callee (f := 22) rfl ?_); refine goesL_ (some 16) rfl rfl Try.func22 (by kernel_rfl) rfl #[.slice A0 l0.length c0, .int .i64 1048576] rfl (by (try simp only [List.map_toArray, List.map_cons, List.map_nil]); first | done | rfl | (simp only [List.length_drop, List.length_take]; rfl)) ?_; (with_reducible refine (laws_szTermS.calls _ _ l0 1048576 t399 _ ?side1 ?side2 A5.out).mono ?_); (case side1 => repeat (first | exact HR0.out | (with_reducible refine Kd.C_alloc ?_ _) | (with_reducible refine Kd.C_drewN ?_ _) | (with_reducible refine Kd.C_drew ?_))); (case side2 => exact HC0.out); rintro e w' ⟨rfl, ⟨nd, rfl⟩⟩; refine ⟨_, rfl, ?_⟩) | ((with_reducible refine gate_callee (f := 22) rfl ?_); refine goesL_ (some 21) rfl rfl Try.func22 (by kernel_rfl) rfl #[.slice A2 l2.length c2, .int .i64 t399] rfl (by (try simp only [List.map_toArray, List.map_cons, List.map_nil]); first | done | rfl | (simp only [List.length_drop, List.length_take]; rfl)) ?_; (with_reducible refine (laws_szTermS.calls _ _ l2 t399 t400 _ ?side1 ?side2 A7.out).mono ?_); (case side1 => repeat (first | exact HR2.out | (with_reducible refine Kd.C_alloc ?_ _) | (with_reducible refine Kd.C_drewN ?_ _) | (with_reducible refine Kd.C_drew ?_))); (case side2 => exact HC2.out); rintro e w' ⟨rfl, ⟨nd, rfl⟩⟩; refine ⟨_, rfl, ?_⟩) | ((with_reducible refine gate_callee (f := 23) rfl ?_); refine goesL_ (some 25) rfl rfl Try.func23 (by kernel_rfl) rfl #[.slice A0 l0.length c0] rfl (by (try simp only [List.map_toArray, List.map_cons, List.map_nil]); first | done | rfl | (simp only [List.length_drop, List.length_take]; rfl)) ?_; (with_reducible refine (laws_toTermS.calls k _ _ l0 t401 _ ?side1 ?side2 A9.out).mono ?_); (case side1 => repeat (first | exact HR0.out | (with_reducible refine Kd.C_alloc ?_ _) | (with_reducible refine Kd.C_drewN ?_ _) | (with_reducible refine Kd.C_drew ?_))); (case side2 => exact HC0.out); rintro e w38 ⟨v402, rfl, ho0, hb⟩; refine ⟨_, rfl, ?_⟩; have n0_ := Aside0.mk (Kd.R_lower ho0 (below_size (by repeat (first | (with_reducible first | exact HB.out | apply below_alloc | apply pw_below_drewN | apply below_drew1) | exact HB.out)))); have n1_ := Aside0.mk (below_step (by repeat (first | (with_reducible first | exact HB.out | apply below_alloc | apply pw_below_drewN | apply below_drew1) | exact HB.out)) hb); clear HB; have HO403 := n0_; have HB := n1_; clear n0_ n1_; (try clear hb); (try clear hb2); (try clear hk); (try clear hi); (try clear ho0)) | ((with_reducible refine gate_callee (f := 23) rfl ?_); refine goesL_ (some 28) rfl rfl Try.func23 (by kernel_rfl) rfl #[.slice A2 l2.length c2] rfl (by (try simp only [List.map_toArray, List.map_cons, List.map_nil]); first | done | rfl | (simp only [List.length_drop, List.length_take]; rfl)) ?_; (with_reducible refine (laws_toTermS.calls k _ _ l2 t404 _ ?side1 ?side2 A10.out).mono ?_); (case side1 => repeat (first | exact (Kd.C_below HR2.out HB.out) | (with_reducible refine Kd.C_alloc ?_ _) | (with_reducible refine Kd.C_drewN ?_ _) | (with_reducible refine Kd.C_drew ?_))); (case side2 => exact HC2.out); rintro e w39 ⟨v405, rfl, ho0, hb⟩; refine ⟨_, rfl, ?_⟩; have n0_ := Aside0.mk (Kd.R_elder' (by (with_reducible repeat (first | apply Kd.R_alloc | apply Kd.R_drewN | apply Kd.R_drew)); exact HO403.out) (Kd.R_base ho0) hb); have n1_ := Aside0.mk (Kd.R_lower (Kd.R_new' ho0 (Kd.R_lt (by (with_reducible repeat (first | apply Kd.R_alloc | apply Kd.R_drewN | apply Kd.R_drew)); exact HO403.out))) (below_size (by repeat (first | (with_reducible first | exact HB.out | apply below_alloc | apply pw_below_drewN | apply below_drew1) | exact HB.out)))); have n2_ := Aside0.mk (below_step (by repeat (first | (with_reducible first | exact HB.out | apply below_alloc | apply pw_below_drewN | apply below_drew1) | exact HB.out)) hb); clear HO403; clear HB; have HO403 := n0_; have HO406 := n1_; have HB := n2_; clear n0_ n1_ n2_; (try clear hb); (try clear hb2); (try clear hk); (try clear hi); (try clear ho0); obtain ⟨Ao40, co40, eo40⟩ := Kd.R_slice HO403.out; subst eo40; obtain ⟨Ao41, co41, eo41⟩ := Kd.R_slice HO406.out; subst eo41) | ((with_reducible refine gate_callee (f := 38) rfl ?_); refine goesL_ (some 30) rfl rfl Try.func38 (by kernel_rfl) rfl #[.slice Ao40 t401.length co40, .int .i64 a1, .slice Ao41 t404.length co41, .int .i64 a3] rfl (by (try simp only [List.map_toArray, List.map_cons, List.map_nil]); first | done | rfl | (simp only [List.length_drop, List.length_take]; rfl)) ?_; (with_reducible refine (spec_TermsMeet.calls k _ _ t401 a1 _ _ t404 a3 t407 _ ?side1 ?side2 ?side3 ?side4 A11.out).mono ?_); (case side1 => repeat (first | exact (Kd.R_reads' HO403.out).2.2 | (with_reducible refine Kd.C_alloc ?_ _) | (with_reducible refine Kd.C_drewN ?_ _) | (with_reducible refine Kd.C_drew ?_))); (case side2 => exact (Kd.R_reads' HO403.out).2.1); (case side3 => repeat (first | exact (Kd.R_reads' HO406.out).2.2 | (with_reducible refine Kd.C_alloc ?_ _) | (with_reducible refine Kd.C_drewN ?_ _) | (with_reducible refine Kd.C_drew ?_))); (case side4 => exact (Kd.R_reads' HO406.out).2.1); rintro e w42 ⟨rfl, hb⟩; refine ⟨_, rfl, ?_⟩; have n0_ := Aside0.mk (Kd.R_below (by (with_reducible repeat (first | apply Kd.R_alloc | apply Kd.R_drewN | apply Kd.R_drew)); exact HO403.out) hb); have n1_ := Aside0.mk (Kd.R_below (by (with_reducible repeat (first | apply Kd.R_alloc | apply Kd.R_drewN | apply Kd.R_drew)); exact HO406.out) hb); have n2_ := Aside0.mk (below_step (by repeat (first | (with_reducible first | exact HB.out | apply below_alloc | apply pw_below_drewN | apply below_drew1) | exact HB.out)) hb); clear HO403; clear HO406; clear HB; have HO403 := n0_; have HO406 := n1_; have HB := n2_; clear n0_ n1_ n2_; (try clear hb); (try clear hb2); (try clear hk); (try clear hi)) | ((with_reducible refine gate_callee (f := 23) rfl ?_); refine goesL_ (some 32) rfl rfl Try.func23 (by kernel_rfl) rfl #[.slice A0 l0.length c0] rfl (by (try simp only [List.map_toArray, List.map_cons, List.map_nil]); first | done | rfl | (simp only [List.length_drop, List.length_take]; rfl)) ?_; (with_reducible refine (laws_toTermS.calls k _ _ l0 t408 _ ?side1 ?side2 A12.out).mono ?_); (case side1 => repeat (first | exact (Kd.C_below HR0.out HB.out) | (with_reducible refine Kd.C_alloc ?_ _) | (with_reducible refine Kd.C_drewN ?_ _) | (with_reducible refine Kd.C_drew ?_))); (case side2 => exact HC0.out); rintro e w43 ⟨v409, rfl, ho0, hb⟩; refine ⟨_, rfl, ?_⟩; have n0_ := Aside0.mk (Kd.R_elder' (by (with_reducible repeat (first | apply Kd.R_alloc | apply Kd.R_drewN | apply Kd.R_drew)); exact HO403.out) (Kd.R_base ho0) hb); have n1_ := Aside0.mk (Kd.R_elder' (by (with_reducible repeat (first | apply Kd.R_alloc | apply Kd.R_drewN | apply Kd.R_drew)); exact HO406.out) (Kd.R_base ho0) hb); have n2_ := Aside0.mk (Kd.R_lower (Kd.R_new' (Kd.R_new' ho0 (Kd.R_lt (by (with_reducible repeat (first | apply Kd.R_alloc | apply Kd.R_drewN | apply Kd.R_drew)); exact HO403.out))) (Kd.R_lt (by (with_reducible repeat (first | apply Kd.R_alloc | apply Kd.R_drewN | apply Kd.R_drew)); exact HO406.out))) (below_size (by repeat (first | (with_reducible first | exact HB.out | apply below_alloc | apply pw_below_drewN | apply below_drew1) | exact HB.out)))); have n3_ := Aside0.mk (below_step (by repeat (first | (with_reducible first | exact HB.out | apply below_alloc | apply pw_below_drewN | apply below_drew1) | exact HB.out)) hb); clear HO403; clear HO406; clear HB; have HO403 := n0_; have HO406 := n1_; have HO410 := n2_; have HB := n3_; clear n0_ n1_ n2_ n3_; (try clear hb); (try clear hb2); (try clear hk); (try clear hi); (try clear ho0)) | ((with_reducible refine gate_callee (f := 23) rfl ?_); refine goesL_ (some 34) rfl rfl Try.func23 (by kernel_rfl) rfl #[.slice A2 l2.length c2] rfl (by (try simp only [List.map_toArray, List.map_cons, List.map_nil]); first | done | rfl | (simp only [List.length_drop, List.length_take]; rfl)) ?_; (with_reducible refine (laws_toTermS.calls k _ _ l2 t411 _ ?side1 ?side2 A13.out).mono ?_); (case side1 => repeat (first | exact (Kd.C_below HR2.out HB.out) | (with_reducible refine Kd.C_alloc ?_ _) | (with_reducible refine Kd.C_drewN ?_ _) | (with_reducible refine Kd.C_drew ?_))); (case side2 => exact HC2.out); rintro e w44 ⟨v412, rfl, ho0, hb⟩; refine ⟨_, rfl, ?_⟩; have n0_ := Aside0.mk (Kd.R_elder' (by (with_reducible repeat (first | apply Kd.R_alloc | apply Kd.R_drewN | apply Kd.R_drew)); exact HO403.out) (Kd.R_base ho0) hb); have n1_ := Aside0.mk (Kd.R_elder' (by (with_reducible repeat (first | apply Kd.R_alloc | apply Kd.R_drewN | apply Kd.R_drew)); exact HO406.out) (Kd.R_base ho0) hb); have n2_ := Aside0.mk (Kd.R_elder' (by (with_reducible repeat (first | apply Kd.R_alloc | apply Kd.R_drewN | apply Kd.R_drew)); exact HO410.out) (Kd.R_base ho0) hb); have n3_ := Aside0.mk (Kd.R_lower (Kd.R_new' (Kd.R_new' (Kd.R_new' ho0 (Kd.R_lt (by (with_reducible repeat (first | apply Kd.R_alloc | apply Kd.R_drewN | apply Kd.R_drew)); exact HO403.out))) (Kd.R_lt (by (with_reducible repeat (first | apply Kd.R_alloc | apply Kd.R_drewN | apply Kd.R_drew)); exact HO406.out))) (Kd.R_lt (by (with_reducible repeat (first | apply Kd.R_alloc | apply Kd.R_drewN | apply Kd.R_drew)); exact HO410.out))) (below_size (by repeat (first | (with_reducible first | exact HB.out | apply below_alloc | apply pw_below_drewN | apply below_drew1) | exact HB.out)))); have n4_ := Aside0.mk (below_step (by repeat (first | (with_reducible first | exact HB.out | apply below_alloc | apply pw_below_drewN | apply below_drew1) | exact HB.out)) hb); clear HO403; clear HO406; clear HO410; clear HB; have HO403 := n0_; have HO406 := n1_; have HO410 := n2_; have HO413 := n3_; have HB := n4_; clear n0_ n1_ n2_ n3_ n4_; (try clear hb); (try clear hb2); (try clear hk); (try clear hi); (try clear ho0); obtain ⟨Ao45, co45, eo45⟩ := Kd.R_slice HO410.out; subst eo45; obtain ⟨Ao46, co46, eo46⟩ := Kd.R_slice HO413.out; subst eo46) | ((with_reducible refine gate_callee (f := 39) rfl ?_); refine goesL_ (some 39) rfl rfl Try.func39 (by kernel_rfl) rfl #[.slice Ao45 t408.length co45, .int .i64 a1, .slice Ao46 t411.length co46, .int .i64 a3] rfl (by (try simp only [List.map_toArray, List.map_cons, List.map_nil]); first | done | rfl | (simp only [List.length_drop, List.length_take]; rfl)) ?_; (with_reducible refine (impl_TermsMeet.calls k _ _ t408 a1 _ _ t411 a3 t414 _ ?side1 ?side2 ?side3 ?side4 A14.out).mono ?_); (case side1 => repeat (first | exact (Kd.R_reads' HO410.out).2.2 | (with_reducible refine Kd.C_alloc ?_ _) | (with_reducible refine Kd.C_drewN ?_ _) | (with_reducible refine Kd.C_drew ?_))); (case side2 => exact (Kd.R_reads' HO410.out).2.1); (case side3 => repeat (first | exact (Kd.R_reads' HO413.out).2.2 | (with_reducible refine Kd.C_alloc ?_ _) | (with_reducible refine Kd.C_drewN ?_ _) | (with_reducible refine Kd.C_drew ?_))); (case side4 => exact (Kd.R_reads' HO413.out).2.1); rintro e w47 ⟨rfl, hb⟩; refine ⟨_, rfl, ?_⟩; have n0_ := Aside0.mk (Kd.R_below (by (with_reducible repeat (first | apply Kd.R_alloc | apply Kd.R_drewN | apply Kd.R_drew)); exact HO403.out) hb); have n1_ := Aside0.mk (Kd.R_below (by (with_reducible repeat (first | apply Kd.R_alloc | apply Kd.R_drewN | apply Kd.R_drew)); exact HO406.out) hb); have n2_ := Aside0.mk (Kd.R_below (by (with_reducible repeat (first | apply Kd.R_alloc | apply Kd.R_drewN | apply Kd.R_drew)); exact HO410.out) hb); have n3_ := Aside0.mk (Kd.R_below (by (with_reducible repeat (first | apply Kd.R_alloc | apply Kd.R_drewN | apply Kd.R_drew)); exact HO413.out) hb); have n4_ := Aside0.mk (below_step (by repeat (first | (with_reducible first | exact HB.out | apply below_alloc | apply pw_below_drewN | apply below_drew1) | exact HB.out)) hb); clear HO403; clear HO406; clear HO410; clear HO413; clear HB; have HO403 := n0_; have HO406 := n1_; have HO410 := n2_; have HO413 := n3_; have HB := n4_; clear n0_ n1_ n2_ n3_ n4_; (try clear hb); (try clear hb2); (try clear hk); (try clear hi)) | ((with_reducible refine gate_callee (f := 23) rfl ?_); refine goesL_ (some 45) rfl rfl Try.func23 (by kernel_rfl) rfl #[.slice A0 l0.length c0] rfl (by (try simp only [List.map_toArray, List.map_cons, List.map_nil]); first | done | rfl | (simp only [List.length_drop, List.length_take]; rfl)) ?_; (with_reducible refine (laws_toTermS.calls k _ _ l0 t415 _ ?side1 ?side2 A16.out).mono ?_); (case side1 => repeat (first | exact (Kd.C_below HR0.out HB.out) | (with_reducible refine Kd.C_alloc ?_ _) | (with_reducible refine Kd.C_drewN ?_ _) | (with_reducible refine Kd.C_drew ?_))); (case side2 => exact HC0.out); rintro e w48 ⟨v416, rfl, ho0, hb⟩; refine ⟨_, rfl, ?_⟩; have n0_ := Aside0.mk (Kd.R_elder' (by (with_reducible repeat (first | apply Kd.R_alloc | apply Kd.R_drewN | apply Kd.R_drew)); exact HO403.out) (Kd.R_base ho0) hb); have n1_ := Aside0.mk (Kd.R_elder' (by (with_reducible repeat (first | apply Kd.R_alloc | apply Kd.R_drewN | apply Kd.R_drew)); exact HO406.out) (Kd.R_base ho0) hb); have n2_ := Aside0.mk (Kd.R_elder' (by (with_reducible repeat (first | apply Kd.R_alloc | apply Kd.R_drewN | apply Kd.R_drew)); exact HO410.out) (Kd.R_base ho0) hb); have n3_ := Aside0.mk (Kd.R_elder' (by (with_reducible repeat (first | apply Kd.R_alloc | apply Kd.R_drewN | apply Kd.R_drew)); exact HO413.out) (Kd.R_base ho0) hb); have n4_ := Aside0.mk (Kd.R_lower (Kd.R_new' (Kd.R_new' (Kd.R_new' (Kd.R_new' ho0 (Kd.R_lt (by (with_reducible repeat (first | apply Kd.R_alloc | apply Kd.R_drewN | apply Kd.R_drew)); exact HO403.out))) (Kd.R_lt (by (with_reducible repeat (first | apply Kd.R_alloc | apply Kd.R_drewN | apply Kd.R_drew)); exact HO406.out))) (Kd.R_lt (by (with_reducible repeat (first | apply Kd.R_alloc | apply Kd.R_drewN | apply Kd.R_drew)); exact HO410.out))) (Kd.R_lt (by (with_reducible repeat (first | apply Kd.R_alloc | apply Kd.R_drewN | apply Kd.R_drew)); exact HO413.out))) (below_size (by repeat (first | (with_reducible first | exact HB.out | apply below_alloc | apply pw_below_drewN | apply below_drew1) | exact HB.out)))); have n5_ := Aside0.mk (below_step (by repeat (first | (with_reducible first | exact HB.out | apply below_alloc | apply pw_below_drewN | apply below_drew1) | exact HB.out)) hb); clear HO403; clear HO406; clear HO410; clear HO413; clear HB; have HO403 := n0_; have HO406 := n1_; have HO410 := n2_; have HO413 := n3_; have HO417 := n4_; have HB := n5_; clear n0_ n1_ n2_ n3_ n4_ n5_; (try clear hb); (try clear hb2); (try clear hk); (try clear hi); (try clear ho0); obtain ⟨Ao49, co49, eo49⟩ := Kd.R_slice HO417.out; subst eo49) | ((with_reducible refine gate_callee (f := 24) rfl ?_); refine goesL_ (some 46) rfl rfl Try.func24 (by kernel_rfl) rfl #[.slice Ao45 t408.length co45, .slice Ao49 t415.length co49] rfl (by (try simp only [List.map_toArray, List.map_cons, List.map_nil]); first | done | rfl | (simp only [List.length_drop, List.length_take]; rfl)) ?_; (with_reducible refine (laws_eqTermS.calls k _ _ t408 _ _ t415 true _ ?side1 ?side2 ?side3 ?side4 A17.out).mono ?_); (case side1 => repeat (first | exact (Kd.R_reads' HO410.out).2.2 | (with_reducible refine Kd.C_alloc ?_ _) | (with_reducible refine Kd.C_drewN ?_ _) | (with_reducible refine Kd.C_drew ?_))); (case side2 => exact (Kd.R_reads' HO410.out).2.1); (case side3 => repeat (first | exact (Kd.R_reads' HO417.out).2.2 | (with_reducible refine Kd.C_alloc ?_ _) | (with_reducible refine Kd.C_drewN ?_ _) | (with_reducible refine Kd.C_drew ?_))); (case side4 => exact (Kd.R_reads' HO417.out).2.1); rintro e w50 ⟨rfl, hb⟩; refine ⟨_, rfl, ?_⟩; have n0_ := Aside0.mk (Kd.R_below (by (with_reducible repeat (first | apply Kd.R_alloc | apply Kd.R_drewN | apply Kd.R_drew)); exact HO403.out) hb); have n1_ := Aside0.mk (Kd.R_below (by (with_reducible repeat (first | apply Kd.R_alloc | apply Kd.R_drewN | apply Kd.R_drew)); exact HO406.out) hb); have n2_ := Aside0.mk (Kd.R_below (by (with_reducible repeat (first | apply Kd.R_alloc | apply Kd.R_drewN | apply Kd.R_drew)); exact HO410.out) hb); have n3_ := Aside0.mk (Kd.R_below (by (with_reducible repeat (first | apply Kd.R_alloc | apply Kd.R_drewN | apply Kd.R_drew)); exact HO413.out) hb); have n4_ := Aside0.mk (Kd.R_below (by (with_reducible repeat (first | apply Kd.R_alloc | apply Kd.R_drewN | apply Kd.R_drew)); exact HO417.out) hb); have n5_ := Aside0.mk (below_step (by repeat (first | (with_reducible first | exact HB.out | apply below_alloc | apply pw_below_drewN | apply below_drew1) | exact HB.out)) hb); clear HO403; clear HO406; clear HO410; clear HO413; clear HO417; clear HB; have HO403 := n0_; have HO406 := n1_; have HO410 := n2_; have HO413 := n3_; have HO417 := n4_; have HB := n5_; clear n0_ n1_ n2_ n3_ n4_ n5_; (try clear hb); (try clear hb2); (try clear hk); (try clear hi)) | ((with_reducible refine gate_callee (f := 23) rfl ?_); refine goesL_ (some 50) rfl rfl Try.func23 (by kernel_rfl) rfl #[.slice A2 l2.length c2] rfl (by (try simp only [List.map_toArray, List.map_cons, List.map_nil]); first | done | rfl | (simp only [List.length_drop, List.length_take]; rfl)) ?_; (with_reducible refine (laws_toTermS.calls k _ _ l2 t419 _ ?side1 ?side2 A19.out).mono ?_); (case side1 => repeat (first | exact (Kd.C_below HR2.out HB.out) | (with_reducible refine Kd.C_alloc ?_ _) | (with_reducible refine Kd.C_drewN ?_ _) | (with_reducible refine Kd.C_drew ?_))); (case side2 => exact HC2.out); rintro e w51 ⟨v420, rfl, ho0, hb⟩; refine ⟨_, rfl, ?_⟩; have n0_ := Aside0.mk (Kd.R_elder' (by (with_reducible repeat (first | apply Kd.R_alloc | apply Kd.R_drewN | apply Kd.R_drew)); exact HO403.out) (Kd.R_base ho0) hb); have n1_ := Aside0.mk (Kd.R_elder' (by (with_reducible repeat (first | apply Kd.R_alloc | apply Kd.R_drewN | apply Kd.R_drew)); exact HO406.out) (Kd.R_base ho0) hb); have n2_ := Aside0.mk (Kd.R_elder' (by (with_reducible repeat (first | apply Kd.R_alloc | apply Kd.R_drewN | apply Kd.R_drew)); exact HO410.out) (Kd.R_base ho0) hb); have n3_ := Aside0.mk (Kd.R_elder' (by (with_reducible repeat (first | apply Kd.R_alloc | apply Kd.R_drewN | apply Kd.R_drew)); exact HO413.out) (Kd.R_base ho0) hb); have n4_ := Aside0.mk (Kd.R_elder' (by (with_reducible repeat (first | apply Kd.R_alloc | apply Kd.R_drewN | apply Kd.R_drew)); exact HO417.out) (Kd.R_base ho0) hb); have n5_ := Aside0.mk (Kd.R_lower (Kd.R_new' (Kd.R_new' (Kd.R_new' (Kd.R_new' (Kd.R_new' ho0 (Kd.R_lt (by (with_reducible repeat (first | apply Kd.R_alloc | apply Kd.R_drewN | apply Kd.R_drew)); exact HO403.out))) (Kd.R_lt (by (with_reducible repeat (first | apply Kd.R_alloc | apply Kd.R_drewN | apply Kd.R_drew)); exact HO406.out))) (Kd.R_lt (by (with_reducible repeat (first | apply Kd.R_alloc | apply Kd.R_drewN | apply Kd.R_drew)); exact HO410.out))) (Kd.R_lt (by (with_reducible repeat (first | apply Kd.R_alloc | apply Kd.R_drewN | apply Kd.R_drew)); exact HO413.out))) (Kd.R_lt (by (with_reducible repeat (first | apply Kd.R_alloc | apply Kd.R_drewN | apply Kd.R_drew)); exact HO417.out))) (below_size (by repeat (first | (with_reducible first | exact HB.out | apply below_alloc | apply pw_below_drewN | apply below_drew1) | exact HB.out)))); have n6_ := Aside0.mk (below_step (by repeat (first | (with_reducible first | exact HB.out | apply below_alloc | apply pw_below_drewN | apply below_drew1) | exact HB.out)) hb); clear HO403; clear HO406; clear HO410; clear HO413; clear HO417; clear HB; have HO403 := n0_; have HO406 := n1_; have HO410 := n2_; have HO413 := n3_; have HO417 := n4_; have HO421 := n5_; have HB := n6_; clear n0_ n1_ n2_ n3_ n4_ n5_ n6_; (try clear hb); (try clear hb2); (try clear hk); (try clear hi); (try clear ho0); obtain ⟨Ao52, co52, eo52⟩ := Kd.R_slice HO421.out; subst eo52) | ((with_reducible refine gate_callee (f := 24) rfl ?_); refine goesL_ (some 51) rfl rfl Try.func24 (by kernel_rfl) rfl #[.slice Ao46 t411.length co46, .slice Ao52 t419.length co52] rfl (by (try simp only [List.map_toArray, List.map_cons, List.map_nil]); first | done | rfl | (simp only [List.length_drop, List.length_take]; rfl)) ?_; (with_reducible refine (laws_eqTermS.calls k _ _ t411 _ _ t419 false _ ?side1 ?side2 ?side3 ?side4 A20.out).mono ?_); (case side1 => repeat (first | exact (Kd.R_reads' HO413.out).2.2 | (with_reducible refine Kd.C_alloc ?_ _) | (with_reducible refine Kd.C_drewN ?_ _) | (with_reducible refine Kd.C_drew ?_))); (case side2 => exact (Kd.R_reads' HO413.out).2.1); (case side3 => repeat (first | exact (Kd.R_reads' HO421.out).2.2 | (with_reducible refine Kd.C_alloc ?_ _) | (with_reducible refine Kd.C_drewN ?_ _) | (with_reducible refine Kd.C_drew ?_))); (case side4 => exact (Kd.R_reads' HO421.out).2.1); rintro e w53 ⟨rfl, hb⟩; refine ⟨_, rfl, ?_⟩; have n0_ := Aside0.mk (Kd.R_below (by (with_reducible repeat (first | apply Kd.R_alloc | apply Kd.R_drewN | apply Kd.R_drew)); exact HO403.out) hb); have n1_ := Aside0.mk (Kd.R_below (by (with_reducible repeat (first | apply Kd.R_alloc | apply Kd.R_drewN | apply Kd.R_drew)); exact HO406.out) hb); have n2_ := Aside0.mk (Kd.R_below (by (with_reducible repeat (first | apply Kd.R_alloc | apply Kd.R_drewN | apply Kd.R_drew)); exact HO410.out) hb); have n3_ := Aside0.mk (Kd.R_below (by (with_reducible repeat (first | apply Kd.R_alloc | apply Kd.R_drewN | apply Kd.R_drew)); exact HO413.out) hb); have n4_ := Aside0.mk (Kd.R_below (by (with_reducible repeat (first | apply Kd.R_alloc | apply Kd.R_drewN | apply Kd.R_drew)); exact HO417.out) hb); have n5_ := Aside0.mk (Kd.R_below (by (with_reducible repeat (first | apply Kd.R_alloc | apply Kd.R_drewN | apply Kd.R_drew)); exact HO421.out) hb); have n6_ := Aside0.mk (below_step (by repeat (first | (with_reducible first | exact HB.out | apply below_alloc | apply pw_below_drewN | apply below_drew1) | exact HB.out)) hb); clear HO403; clear HO406; clear HO410; clear HO413; clear HO417; clear HO421; clear HB; have HO403 := n0_; have HO406 := n1_; have HO410 := n2_; have HO413 := n3_; have HO417 := n4_; have HO421 := n5_; have HB := n6_; clear n0_ n1_ n2_ n3_ n4_ n5_ n6_; (try clear hb); (try clear hb2); (try clear hk); (try clear hi)))
            go_ret
            exact ⟨by first | rfl | (simp [errW_none, errW_some] <;> rfl) | (simp [*, errW_none, errW_some] <;> rfl), by repeat (first | (with_reducible first | exact HB.out | apply below_alloc | apply pw_below_drewN | apply below_drew1) | exact HB.out)⟩
        · replace c18 := Bool.eq_false_iff.mpr c18
          subst c18
          have H1 : (some false) = some r := by rw [if_neg (show ¬ (false = true) by decide)] at H; exact H
          clear H
          have H := H1
          clear H1
          obtain rfl := Option.some.inj H
          go_enter Try.func13, Try.ntmps13
          go_wp2_with (first | ((with_reducible refine gate_callee (f := 22) rfl ?_); refine goesL_ (some 16) rfl rfl Try.func22 (by kernel_rfl) rfl #[.slice A0 l0.length c0, .int .i64 1048576] rfl (by (try simp only [List.map_toArray, List.map_cons, List.map_nil]); first | done | rfl | (simp only [List.length_drop, List.length_take]; rfl)) ?_; (with_reducible refine (laws_szTermS.calls _ _ l0 1048576 t399 _ ?side1 ?side2 A5.out).mono ?_); (case side1 => repeat (first | exact HR0.out | (with_reducible refine Kd.C_alloc ?_ _) | (with_reducible refine Kd.C_drewN ?_ _) | (with_reducible refine Kd.C_drew ?_))); (case side2 => exact HC0.out); rintro e w' ⟨rfl, ⟨nd, rfl⟩⟩; refine ⟨_, rfl, ?_⟩) | ((with_reducible refine gate_callee (f := 22) rfl ?_); refine goesL_ (some 21) rfl rfl Try.func22 (by kernel_rfl) rfl #[.slice A2 l2.length c2, .int .i64 t399] rfl (by (try simp only [List.map_toArray, List.map_cons, List.map_nil]); first | done | rfl | (simp only [List.length_drop, List.length_take]; rfl)) ?_; (with_reducible refine (laws_szTermS.calls _ _ l2 t399 t400 _ ?side1 ?side2 A7.out).mono ?_); (case side1 => repeat (first | exact HR2.out | (with_reducible refine Kd.C_alloc ?_ _) | (with_reducible refine Kd.C_drewN ?_ _) | (with_reducible refine Kd.C_drew ?_))); (case side2 => exact HC2.out); rintro e w' ⟨rfl, ⟨nd, rfl⟩⟩; refine ⟨_, rfl, ?_⟩) | ((with_reducible refine gate_callee (f := 23) rfl ?_); refine goesL_ (some 25) rfl rfl Try.func23 (by kernel_rfl) rfl #[.slice A0 l0.length c0] rfl (by (try simp only [List.map_toArray, List.map_cons, List.map_nil]); first | done | rfl | (simp only [List.length_drop, List.length_take]; rfl)) ?_; (with_reducible refine (laws_toTermS.calls k _ _ l0 t401 _ ?side1 ?side2 A9.out).mono ?_); (case side1 => repeat (first | exact HR0.out | (with_reducible refine Kd.C_alloc ?_ _) | (with_reducible refine Kd.C_drewN ?_ _) | (with_reducible refine Kd.C_drew ?_))); (case side2 => exact HC0.out); rintro e w54 ⟨v402, rfl, ho0, hb⟩; refine ⟨_, rfl, ?_⟩; have n0_ := Aside0.mk (Kd.R_lower ho0 (below_size (by repeat (first | (with_reducible first | exact HB.out | apply below_alloc | apply pw_below_drewN | apply below_drew1) | exact HB.out)))); have n1_ := Aside0.mk (below_step (by repeat (first | (with_reducible first | exact HB.out | apply below_alloc | apply pw_below_drewN | apply below_drew1) | exact HB.out)) hb); clear HB; have HO403 := n0_; have HB := n1_; clear n0_ n1_; (try clear hb); (try clear hb2); (try clear hk); (try clear hi); (try clear ho0)) | ((with_reducible refine gate_callee (f := 23) rfl ?_); refine goesL_ (some 28) rfl rfl Try.func23 (by kernel_rfl) rfl #[.slice A2 l2.length c2] rfl (by (try simp only [List.map_toArray, List.map_cons, List.map_nil]); first | done | rfl | (simp only [List.length_drop, List.length_take]; rfl)) ?_; (with_reducible refine (laws_toTermS.calls k _ _ l2 t404 _ ?side1 ?side2 A10.out).mono ?_); (case side1 => repeat (first | exact (Kd.C_below HR2.out HB.out) | (with_reducible refine Kd.C_alloc ?_ _) | (with_reducible refine Kd.C_drewN ?_ _) | (with_reducible refine Kd.C_drew ?_))); (case side2 => exact HC2.out); rintro e w55 ⟨v405, rfl, ho0, hb⟩; refine ⟨_, rfl, ?_⟩; have n0_ := Aside0.mk (Kd.R_elder' (by (with_reducible repeat (first | apply Kd.R_alloc | apply Kd.R_drewN | apply Kd.R_drew)); exact HO403.out) (Kd.R_base ho0) hb); have n1_ := Aside0.mk (Kd.R_lower (Kd.R_new' ho0 (Kd.R_lt (by (with_reducible repeat (first | apply Kd.R_alloc | apply Kd.R_drewN | apply Kd.R_drew)); exact HO403.out))) (below_size (by repeat (first | (with_reducible first | exact HB.out | apply below_alloc | apply pw_below_drewN | apply below_drew1) | exact HB.out)))); have n2_ := Aside0.mk (below_step (by repeat (first | (with_reducible first | exact HB.out | apply below_alloc | apply pw_below_drewN | apply below_drew1) | exact HB.out)) hb); clear HO403; clear HB; have HO403 := n0_; have HO406 := n1_; have HB := n2_; clear n0_ n1_ n2_; (try clear hb); (try clear hb2); (try clear hk); (try clear hi); (try clear ho0); obtain ⟨Ao56, co56, eo56⟩ := Kd.R_slice HO403.out; subst eo56; obtain ⟨Ao57, co57, eo57⟩ := Kd.R_slice HO406.out; subst eo57) | ((with_reducible refine gate_callee (f := 38) rfl ?_); refine goesL_ (some 30) rfl rfl Try.func38 (by kernel_rfl) rfl #[.slice Ao56 t401.length co56, .int .i64 a1, .slice Ao57 t404.length co57, .int .i64 a3] rfl (by (try simp only [List.map_toArray, List.map_cons, List.map_nil]); first | done | rfl | (simp only [List.length_drop, List.length_take]; rfl)) ?_; (with_reducible refine (spec_TermsMeet.calls k _ _ t401 a1 _ _ t404 a3 t407 _ ?side1 ?side2 ?side3 ?side4 A11.out).mono ?_); (case side1 => repeat (first | exact (Kd.R_reads' HO403.out).2.2 | (with_reducible refine Kd.C_alloc ?_ _) | (with_reducible refine Kd.C_drewN ?_ _) | (with_reducible refine Kd.C_drew ?_))); (case side2 => exact (Kd.R_reads' HO403.out).2.1); (case side3 => repeat (first | exact (Kd.R_reads' HO406.out).2.2 | (with_reducible refine Kd.C_alloc ?_ _) | (with_reducible refine Kd.C_drewN ?_ _) | (with_reducible refine Kd.C_drew ?_))); (case side4 => exact (Kd.R_reads' HO406.out).2.1); rintro e w58 ⟨rfl, hb⟩; refine ⟨_, rfl, ?_⟩; have n0_ := Aside0.mk (Kd.R_below (by (with_reducible repeat (first | apply Kd.R_alloc | apply Kd.R_drewN | apply Kd.R_drew)); exact HO403.out) hb); have n1_ := Aside0.mk (Kd.R_below (by (with_reducible repeat (first | apply Kd.R_alloc | apply Kd.R_drewN | apply Kd.R_drew)); exact HO406.out) hb); have n2_ := Aside0.mk (below_step (by repeat (first | (with_reducible first | exact HB.out | apply below_alloc | apply pw_below_drewN | apply below_drew1) | exact HB.out)) hb); clear HO403; clear HO406; clear HB; have HO403 := n0_; have HO406 := n1_; have HB := n2_; clear n0_ n1_ n2_; (try clear hb); (try clear hb2); (try clear hk); (try clear hi)) | ((with_reducible refine gate_callee (f := 23) rfl ?_); refine goesL_ (some 32) rfl rfl Try.func23 (by kernel_rfl) rfl #[.slice A0 l0.length c0] rfl (by (try simp only [List.map_toArray, List.map_cons, List.map_nil]); first | done | rfl | (simp only [List.length_drop, List.length_take]; rfl)) ?_; (with_reducible refine (laws_toTermS.calls k _ _ l0 t408 _ ?side1 ?side2 A12.out).mono ?_); (case side1 => repeat (first | exact (Kd.C_below HR0.out HB.out) | (with_reducible refine Kd.C_alloc ?_ _) | (with_reducible refine Kd.C_drewN ?_ _) | (with_reducible refine Kd.C_drew ?_))); (case side2 => exact HC0.out); rintro e w59 ⟨v409, rfl, ho0, hb⟩; refine ⟨_, rfl, ?_⟩; have n0_ := Aside0.mk (Kd.R_elder' (by (with_reducible repeat (first | apply Kd.R_alloc | apply Kd.R_drewN | apply Kd.R_drew)); exact HO403.out) (Kd.R_base ho0) hb); have n1_ := Aside0.mk (Kd.R_elder' (by (with_reducible repeat (first | apply Kd.R_alloc | apply Kd.R_drewN | apply Kd.R_drew)); exact HO406.out) (Kd.R_base ho0) hb); have n2_ := Aside0.mk (Kd.R_lower (Kd.R_new' (Kd.R_new' ho0 (Kd.R_lt (by (with_reducible repeat (first | apply Kd.R_alloc | apply Kd.R_drewN | apply Kd.R_drew)); exact HO403.out))) (Kd.R_lt (by (with_reducible repeat (first | apply Kd.R_alloc | apply Kd.R_drewN | apply Kd.R_drew)); exact HO406.out))) (below_size (by repeat (first | (with_reducible first | exact HB.out | apply below_alloc | apply pw_below_drewN | apply below_drew1) | exact HB.out)))); have n3_ := Aside0.mk (below_step (by repeat (first | (with_reducible first | exact HB.out | apply below_alloc | apply pw_below_drewN | apply below_drew1) | exact HB.out)) hb); clear HO403; clear HO406; clear HB; have HO403 := n0_; have HO406 := n1_; have HO410 := n2_; have HB := n3_; clear n0_ n1_ n2_ n3_; (try clear hb); (try clear hb2); (try clear hk); (try clear hi); (try clear ho0)) | ((with_reducible refine gate_callee (f := 23) rfl ?_); refine goesL_ (some 34) rfl rfl Try.func23 (by kernel_rfl) rfl #[.slice A2 l2.length c2] rfl (by (try simp only [List.map_toArray, List.map_cons, List.map_nil]); first | done | rfl | (simp only [List.length_drop, List.length_take]; rfl)) ?_; (with_reducible refine (laws_toTermS.calls k _ _ l2 t411 _ ?side1 ?side2 A13.out).mono ?_); (case side1 => repeat (first | exact (Kd.C_below HR2.out HB.out) | (with_reducible refine Kd.C_alloc ?_ _) | (with_reducible refine Kd.C_drewN ?_ _) | (with_reducible refine Kd.C_drew ?_))); (case side2 => exact HC2.out); rintro e w60 ⟨v412, rfl, ho0, hb⟩; refine ⟨_, rfl, ?_⟩; have n0_ := Aside0.mk (Kd.R_elder' (by (with_reducible repeat (first | apply Kd.R_alloc | apply Kd.R_drewN | apply Kd.R_drew)); exact HO403.out) (Kd.R_base ho0) hb); have n1_ := Aside0.mk (Kd.R_elder' (by (with_reducible repeat (first | apply Kd.R_alloc | apply Kd.R_drewN | apply Kd.R_drew)); exact HO406.out) (Kd.R_base ho0) hb); have n2_ := Aside0.mk (Kd.R_elder' (by (with_reducible repeat (first | apply Kd.R_alloc | apply Kd.R_drewN | apply Kd.R_drew)); exact HO410.out) (Kd.R_base ho0) hb); have n3_ := Aside0.mk (Kd.R_lower (Kd.R_new' (Kd.R_new' (Kd.R_new' ho0 (Kd.R_lt (by (with_reducible repeat (first | apply Kd.R_alloc | apply Kd.R_drewN | apply Kd.R_drew)); exact HO403.out))) (Kd.R_lt (by (with_reducible repeat (first | apply Kd.R_alloc | apply Kd.R_drewN | apply Kd.R_drew)); exact HO406.out))) (Kd.R_lt (by (with_reducible repeat (first | apply Kd.R_alloc | apply Kd.R_drewN | apply Kd.R_drew)); exact HO410.out))) (below_size (by repeat (first | (with_reducible first | exact HB.out | apply below_alloc | apply pw_below_drewN | apply below_drew1) | exact HB.out)))); have n4_ := Aside0.mk (below_step (by repeat (first | (with_reducible first | exact HB.out | apply below_alloc | apply pw_below_drewN | apply below_drew1) | exact HB.out)) hb); clear HO403; clear HO406; clear HO410; clear HB; have HO403 := n0_; have HO406 := n1_; have HO410 := n2_; have HO413 := n3_; have HB := n4_; clear n0_ n1_ n2_ n3_ n4_; (try clear hb); (try clear hb2); (try clear hk); (try clear hi); (try clear ho0); obtain ⟨Ao61, co61, eo61⟩ := Kd.R_slice HO410.out; subst eo61; obtain ⟨Ao62, co62, eo62⟩ := Kd.R_slice HO413.out; subst eo62) | ((with_reducible refine gate_callee (f := 39) rfl ?_); refine goesL_ (some 39) rfl rfl Try.func39 (by kernel_rfl) rfl #[.slice Ao61 t408.length co61, .int .i64 a1, .slice Ao62 t411.length co62, .int .i64 a3] rfl (by (try simp only [List.map_toArray, List.map_cons, List.map_nil]); first | done | rfl | (simp only [List.length_drop, List.length_take]; rfl)) ?_; (with_reducible refine (impl_TermsMeet.calls k _ _ t408 a1 _ _ t411 a3 t414 _ ?side1 ?side2 ?side3 ?side4 A14.out).mono ?_); (case side1 => repeat (first | exact (Kd.R_reads' HO410.out).2.2 | (with_reducible refine Kd.C_alloc ?_ _) | (with_reducible refine Kd.C_drewN ?_ _) | (with_reducible refine Kd.C_drew ?_))); (case side2 => exact (Kd.R_reads' HO410.out).2.1); (case side3 => repeat (first | exact (Kd.R_reads' HO413.out).2.2 | (with_reducible refine Kd.C_alloc ?_ _) | (with_reducible refine Kd.C_drewN ?_ _) | (with_reducible refine Kd.C_drew ?_))); (case side4 => exact (Kd.R_reads' HO413.out).2.1); rintro e w63 ⟨rfl, hb⟩; refine ⟨_, rfl, ?_⟩; have n0_ := Aside0.mk (Kd.R_below (by (with_reducible repeat (first | apply Kd.R_alloc | apply Kd.R_drewN | apply Kd.R_drew)); exact HO403.out) hb); have n1_ := Aside0.mk (Kd.R_below (by (with_reducible repeat (first | apply Kd.R_alloc | apply Kd.R_drewN | apply Kd.R_drew)); exact HO406.out) hb); have n2_ := Aside0.mk (Kd.R_below (by (with_reducible repeat (first | apply Kd.R_alloc | apply Kd.R_drewN | apply Kd.R_drew)); exact HO410.out) hb); have n3_ := Aside0.mk (Kd.R_below (by (with_reducible repeat (first | apply Kd.R_alloc | apply Kd.R_drewN | apply Kd.R_drew)); exact HO413.out) hb); have n4_ := Aside0.mk (below_step (by repeat (first | (with_reducible first | exact HB.out | apply below_alloc | apply pw_below_drewN | apply below_drew1) | exact HB.out)) hb); clear HO403; clear HO406; clear HO410; clear HO413; clear HB; have HO403 := n0_; have HO406 := n1_; have HO410 := n2_; have HO413 := n3_; have HB := n4_; clear n0_ n1_ n2_ n3_ n4_; (try clear hb); (try clear hb2); (try clear hk); (try clear hi)) | ((with_reducible refine gate_callee (f := 23) rfl ?_); refine goesL_ (some 45) rfl rfl Try.func23 (by kernel_rfl) rfl #[.slice A0 l0.length c0] rfl (by (try simp only [List.map_toArray, List.map_cons, List.map_nil]); first | done | rfl | (simp only [List.length_drop, List.length_take]; rfl)) ?_; (with_reducible refine (laws_toTermS.calls k _ _ l0 t415 _ ?side1 ?side2 A16.out).mono ?_); (case side1 => repeat (first | exact (Kd.C_below HR0.out HB.out) | (with_reducible refine Kd.C_alloc ?_ _) | (with_reducible refine Kd.C_drewN ?_ _) | (with_reducible refine Kd.C_drew ?_))); (case side2 => exact HC0.out); rintro e w64 ⟨v416, rfl, ho0, hb⟩; refine ⟨_, rfl, ?_⟩; have n0_ := Aside0.mk (Kd.R_elder' (by (with_reducible repeat (first | apply Kd.R_alloc | apply Kd.R_drewN | apply Kd.R_drew)); exact HO403.out) (Kd.R_base ho0) hb); have n1_ := Aside0.mk (Kd.R_elder' (by (with_reducible repeat (first | apply Kd.R_alloc | apply Kd.R_drewN | apply Kd.R_drew)); exact HO406.out) (Kd.R_base ho0) hb); have n2_ := Aside0.mk (Kd.R_elder' (by (with_reducible repeat (first | apply Kd.R_alloc | apply Kd.R_drewN | apply Kd.R_drew)); exact HO410.out) (Kd.R_base ho0) hb); have n3_ := Aside0.mk (Kd.R_elder' (by (with_reducible repeat (first | apply Kd.R_alloc | apply Kd.R_drewN | apply Kd.R_drew)); exact HO413.out) (Kd.R_base ho0) hb); have n4_ := Aside0.mk (Kd.R_lower (Kd.R_new' (Kd.R_new' (Kd.R_new' (Kd.R_new' ho0 (Kd.R_lt (by (with_reducible repeat (first | apply Kd.R_alloc | apply Kd.R_drewN | apply Kd.R_drew)); exact HO403.out))) (Kd.R_lt (by (with_reducible repeat (first | apply Kd.R_alloc | apply Kd.R_drewN | apply Kd.R_drew)); exact HO406.out))) (Kd.R_lt (by (with_reducible repeat (first | apply Kd.R_alloc | apply Kd.R_drewN | apply Kd.R_drew)); exact HO410.out))) (Kd.R_lt (by (with_reducible repeat (first | apply Kd.R_alloc | apply Kd.R_drewN | apply Kd.R_drew)); exact HO413.out))) (below_size (by repeat (first | (with_reducible first | exact HB.out | apply below_alloc | apply pw_below_drewN | apply below_drew1) | exact HB.out)))); have n5_ := Aside0.mk (below_step (by repeat (first | (with_reducible first | exact HB.out | apply below_alloc | apply pw_below_drewN | apply below_drew1) | exact HB.out)) hb); clear HO403; clear HO406; clear HO410; clear HO413; clear HB; have HO403 := n0_; have HO406 := n1_; have HO410 := n2_; have HO413 := n3_; have HO417 := n4_; have HB := n5_; clear n0_ n1_ n2_ n3_ n4_ n5_; (try clear hb); (try clear hb2); (try clear hk); (try clear hi); (try clear ho0); obtain ⟨Ao65, co65, eo65⟩ := Kd.R_slice HO417.out; subst eo65) | ((with_reducible refine gate_callee (f := 24) rfl ?_); refine goesL_ (some 46) rfl rfl Try.func24 (by kernel_rfl) rfl #[.slice Ao61 t408.length co61, .slice Ao65 t415.length co65] rfl (by (try simp only [List.map_toArray, List.map_cons, List.map_nil]); first | done | rfl | (simp only [List.length_drop, List.length_take]; rfl)) ?_; (with_reducible refine (laws_eqTermS.calls k _ _ t408 _ _ t415 false _ ?side1 ?side2 ?side3 ?side4 A17.out).mono ?_); (case side1 => repeat (first | exact (Kd.R_reads' HO410.out).2.2 | (with_reducible refine Kd.C_alloc ?_ _) | (with_reducible refine Kd.C_drewN ?_ _) | (with_reducible refine Kd.C_drew ?_))); (case side2 => exact (Kd.R_reads' HO410.out).2.1); (case side3 => repeat (first | exact (Kd.R_reads' HO417.out).2.2 | (with_reducible refine Kd.C_alloc ?_ _) | (with_reducible refine Kd.C_drewN ?_ _) | (with_reducible refine Kd.C_drew ?_))); (case side4 => exact (Kd.R_reads' HO417.out).2.1); rintro e w66 ⟨rfl, hb⟩; refine ⟨_, rfl, ?_⟩; have n0_ := Aside0.mk (Kd.R_below (by (with_reducible repeat (first | apply Kd.R_alloc | apply Kd.R_drewN | apply Kd.R_drew)); exact HO403.out) hb); have n1_ := Aside0.mk (Kd.R_below (by (with_reducible repeat (first | apply Kd.R_alloc | apply Kd.R_drewN | apply Kd.R_drew)); exact HO406.out) hb); have n2_ := Aside0.mk (Kd.R_below (by (with_reducible repeat (first | apply Kd.R_alloc | apply Kd.R_drewN | apply Kd.R_drew)); exact HO410.out) hb); have n3_ := Aside0.mk (Kd.R_below (by (with_reducible repeat (first | apply Kd.R_alloc | apply Kd.R_drewN | apply Kd.R_drew)); exact HO413.out) hb); have n4_ := Aside0.mk (Kd.R_below (by (with_reducible repeat (first | apply Kd.R_alloc | apply Kd.R_drewN | apply Kd.R_drew)); exact HO417.out) hb); have n5_ := Aside0.mk (below_step (by repeat (first | (with_reducible first | exact HB.out | apply below_alloc | apply pw_below_drewN | apply below_drew1) | exact HB.out)) hb); clear HO403; clear HO406; clear HO410; clear HO413; clear HO417; clear HB; have HO403 := n0_; have HO406 := n1_; have HO410 := n2_; have HO413 := n3_; have HO417 := n4_; have HB := n5_; clear n0_ n1_ n2_ n3_ n4_ n5_; (try clear hb); (try clear hb2); (try clear hk); (try clear hi)))
          go_ret
          exact ⟨by first | rfl | (simp [errW_none, errW_some] <;> rfl) | (simp [*, errW_none, errW_some] <;> rfl), by repeat (first | (with_reducible first | exact HB.out | apply below_alloc | apply pw_below_drewN | apply below_drew1) | exact HB.out)⟩
      · rw [if_neg c15] at H
        have c15b0 : (t414 == t407) = false := beq_eq_false_iff_ne.mpr c15
        have c15b1 : (t414 != t407) = true := bne_iff_ne.mpr c15
        obtain rfl := Option.some.inj H
        go_enter Try.func13, Try.ntmps13
        go_wp2_with (first | ((with_reducible refine gate_callee (f := 22) rfl ?_); refine goesL_ (some 16) rfl rfl Try.func22 (by kernel_rfl) rfl #[.slice A0 l0.length c0, .int .i64 1048576] rfl (by (try simp only [List.map_toArray, List.map_cons, List.map_nil]); first | done | rfl | (simp only [List.length_drop, List.length_take]; rfl)) ?_; (with_reducible refine (laws_szTermS.calls _ _ l0 1048576 t399 _ ?side1 ?side2 A5.out).mono ?_); (case side1 => repeat (first | exact HR0.out | (with_reducible refine Kd.C_alloc ?_ _) | (with_reducible refine Kd.C_drewN ?_ _) | (with_reducible refine Kd.C_drew ?_))); (case side2 => exact HC0.out); rintro e w' ⟨rfl, ⟨nd, rfl⟩⟩; refine ⟨_, rfl, ?_⟩) | ((with_reducible refine gate_callee (f := 22) rfl ?_); refine goesL_ (some 21) rfl rfl Try.func22 (by kernel_rfl) rfl #[.slice A2 l2.length c2, .int .i64 t399] rfl (by (try simp only [List.map_toArray, List.map_cons, List.map_nil]); first | done | rfl | (simp only [List.length_drop, List.length_take]; rfl)) ?_; (with_reducible refine (laws_szTermS.calls _ _ l2 t399 t400 _ ?side1 ?side2 A7.out).mono ?_); (case side1 => repeat (first | exact HR2.out | (with_reducible refine Kd.C_alloc ?_ _) | (with_reducible refine Kd.C_drewN ?_ _) | (with_reducible refine Kd.C_drew ?_))); (case side2 => exact HC2.out); rintro e w' ⟨rfl, ⟨nd, rfl⟩⟩; refine ⟨_, rfl, ?_⟩) | ((with_reducible refine gate_callee (f := 23) rfl ?_); refine goesL_ (some 25) rfl rfl Try.func23 (by kernel_rfl) rfl #[.slice A0 l0.length c0] rfl (by (try simp only [List.map_toArray, List.map_cons, List.map_nil]); first | done | rfl | (simp only [List.length_drop, List.length_take]; rfl)) ?_; (with_reducible refine (laws_toTermS.calls k _ _ l0 t401 _ ?side1 ?side2 A9.out).mono ?_); (case side1 => repeat (first | exact HR0.out | (with_reducible refine Kd.C_alloc ?_ _) | (with_reducible refine Kd.C_drewN ?_ _) | (with_reducible refine Kd.C_drew ?_))); (case side2 => exact HC0.out); rintro e w67 ⟨v402, rfl, ho0, hb⟩; refine ⟨_, rfl, ?_⟩; have n0_ := Aside0.mk (Kd.R_lower ho0 (below_size (by repeat (first | (with_reducible first | exact HB.out | apply below_alloc | apply pw_below_drewN | apply below_drew1) | exact HB.out)))); have n1_ := Aside0.mk (below_step (by repeat (first | (with_reducible first | exact HB.out | apply below_alloc | apply pw_below_drewN | apply below_drew1) | exact HB.out)) hb); clear HB; have HO403 := n0_; have HB := n1_; clear n0_ n1_; (try clear hb); (try clear hb2); (try clear hk); (try clear hi); (try clear ho0)) | ((with_reducible refine gate_callee (f := 23) rfl ?_); refine goesL_ (some 28) rfl rfl Try.func23 (by kernel_rfl) rfl #[.slice A2 l2.length c2] rfl (by (try simp only [List.map_toArray, List.map_cons, List.map_nil]); first | done | rfl | (simp only [List.length_drop, List.length_take]; rfl)) ?_; (with_reducible refine (laws_toTermS.calls k _ _ l2 t404 _ ?side1 ?side2 A10.out).mono ?_); (case side1 => repeat (first | exact (Kd.C_below HR2.out HB.out) | (with_reducible refine Kd.C_alloc ?_ _) | (with_reducible refine Kd.C_drewN ?_ _) | (with_reducible refine Kd.C_drew ?_))); (case side2 => exact HC2.out); rintro e w68 ⟨v405, rfl, ho0, hb⟩; refine ⟨_, rfl, ?_⟩; have n0_ := Aside0.mk (Kd.R_elder' (by (with_reducible repeat (first | apply Kd.R_alloc | apply Kd.R_drewN | apply Kd.R_drew)); exact HO403.out) (Kd.R_base ho0) hb); have n1_ := Aside0.mk (Kd.R_lower (Kd.R_new' ho0 (Kd.R_lt (by (with_reducible repeat (first | apply Kd.R_alloc | apply Kd.R_drewN | apply Kd.R_drew)); exact HO403.out))) (below_size (by repeat (first | (with_reducible first | exact HB.out | apply below_alloc | apply pw_below_drewN | apply below_drew1) | exact HB.out)))); have n2_ := Aside0.mk (below_step (by repeat (first | (with_reducible first | exact HB.out | apply below_alloc | apply pw_below_drewN | apply below_drew1) | exact HB.out)) hb); clear HO403; clear HB; have HO403 := n0_; have HO406 := n1_; have HB := n2_; clear n0_ n1_ n2_; (try clear hb); (try clear hb2); (try clear hk); (try clear hi); (try clear ho0); obtain ⟨Ao69, co69, eo69⟩ := Kd.R_slice HO403.out; subst eo69; obtain ⟨Ao70, co70, eo70⟩ := Kd.R_slice HO406.out; subst eo70) | ((with_reducible refine gate_callee (f := 38) rfl ?_); refine goesL_ (some 30) rfl rfl Try.func38 (by kernel_rfl) rfl #[.slice Ao69 t401.length co69, .int .i64 a1, .slice Ao70 t404.length co70, .int .i64 a3] rfl (by (try simp only [List.map_toArray, List.map_cons, List.map_nil]); first | done | rfl | (simp only [List.length_drop, List.length_take]; rfl)) ?_; (with_reducible refine (spec_TermsMeet.calls k _ _ t401 a1 _ _ t404 a3 t407 _ ?side1 ?side2 ?side3 ?side4 A11.out).mono ?_); (case side1 => repeat (first | exact (Kd.R_reads' HO403.out).2.2 | (with_reducible refine Kd.C_alloc ?_ _) | (with_reducible refine Kd.C_drewN ?_ _) | (with_reducible refine Kd.C_drew ?_))); (case side2 => exact (Kd.R_reads' HO403.out).2.1); (case side3 => repeat (first | exact (Kd.R_reads' HO406.out).2.2 | (with_reducible refine Kd.C_alloc ?_ _) | (with_reducible refine Kd.C_drewN ?_ _) | (with_reducible refine Kd.C_drew ?_))); (case side4 => exact (Kd.R_reads' HO406.out).2.1); rintro e w71 ⟨rfl, hb⟩; refine ⟨_, rfl, ?_⟩; have n0_ := Aside0.mk (Kd.R_below (by (with_reducible repeat (first | apply Kd.R_alloc | apply Kd.R_drewN | apply Kd.R_drew)); exact HO403.out) hb); have n1_ := Aside0.mk (Kd.R_below (by (with_reducible repeat (first | apply Kd.R_alloc | apply Kd.R_drewN | apply Kd.R_drew)); exact HO406.out) hb); have n2_ := Aside0.mk (below_step (by repeat (first | (with_reducible first | exact HB.out | apply below_alloc | apply pw_below_drewN | apply below_drew1) | exact HB.out)) hb); clear HO403; clear HO406; clear HB; have HO403 := n0_; have HO406 := n1_; have HB := n2_; clear n0_ n1_ n2_; (try clear hb); (try clear hb2); (try clear hk); (try clear hi)) | ((with_reducible refine gate_callee (f := 23) rfl ?_); refine goesL_ (some 32) rfl rfl Try.func23 (by kernel_rfl) rfl #[.slice A0 l0.length c0] rfl (by (try simp only [List.map_toArray, List.map_cons, List.map_nil]); first | done | rfl | (simp only [List.length_drop, List.length_take]; rfl)) ?_; (with_reducible refine (laws_toTermS.calls k _ _ l0 t408 _ ?side1 ?side2 A12.out).mono ?_); (case side1 => repeat (first | exact (Kd.C_below HR0.out HB.out) | (with_reducible refine Kd.C_alloc ?_ _) | (with_reducible refine Kd.C_drewN ?_ _) | (with_reducible refine Kd.C_drew ?_))); (case side2 => exact HC0.out); rintro e w72 ⟨v409, rfl, ho0, hb⟩; refine ⟨_, rfl, ?_⟩; have n0_ := Aside0.mk (Kd.R_elder' (by (with_reducible repeat (first | apply Kd.R_alloc | apply Kd.R_drewN | apply Kd.R_drew)); exact HO403.out) (Kd.R_base ho0) hb); have n1_ := Aside0.mk (Kd.R_elder' (by (with_reducible repeat (first | apply Kd.R_alloc | apply Kd.R_drewN | apply Kd.R_drew)); exact HO406.out) (Kd.R_base ho0) hb); have n2_ := Aside0.mk (Kd.R_lower (Kd.R_new' (Kd.R_new' ho0 (Kd.R_lt (by (with_reducible repeat (first | apply Kd.R_alloc | apply Kd.R_drewN | apply Kd.R_drew)); exact HO403.out))) (Kd.R_lt (by (with_reducible repeat (first | apply Kd.R_alloc | apply Kd.R_drewN | apply Kd.R_drew)); exact HO406.out))) (below_size (by repeat (first | (with_reducible first | exact HB.out | apply below_alloc | apply pw_below_drewN | apply below_drew1) | exact HB.out)))); have n3_ := Aside0.mk (below_step (by repeat (first | (with_reducible first | exact HB.out | apply below_alloc | apply pw_below_drewN | apply below_drew1) | exact HB.out)) hb); clear HO403; clear HO406; clear HB; have HO403 := n0_; have HO406 := n1_; have HO410 := n2_; have HB := n3_; clear n0_ n1_ n2_ n3_; (try clear hb); (try clear hb2); (try clear hk); (try clear hi); (try clear ho0)) | ((with_reducible refine gate_callee (f := 23) rfl ?_); refine goesL_ (some 34) rfl rfl Try.func23 (by kernel_rfl) rfl #[.slice A2 l2.length c2] rfl (by (try simp only [List.map_toArray, List.map_cons, List.map_nil]); first | done | rfl | (simp only [List.length_drop, List.length_take]; rfl)) ?_; (with_reducible refine (laws_toTermS.calls k _ _ l2 t411 _ ?side1 ?side2 A13.out).mono ?_); (case side1 => repeat (first | exact (Kd.C_below HR2.out HB.out) | (with_reducible refine Kd.C_alloc ?_ _) | (with_reducible refine Kd.C_drewN ?_ _) | (with_reducible refine Kd.C_drew ?_))); (case side2 => exact HC2.out); rintro e w73 ⟨v412, rfl, ho0, hb⟩; refine ⟨_, rfl, ?_⟩; have n0_ := Aside0.mk (Kd.R_elder' (by (with_reducible repeat (first | apply Kd.R_alloc | apply Kd.R_drewN | apply Kd.R_drew)); exact HO403.out) (Kd.R_base ho0) hb); have n1_ := Aside0.mk (Kd.R_elder' (by (with_reducible repeat (first | apply Kd.R_alloc | apply Kd.R_drewN | apply Kd.R_drew)); exact HO406.out) (Kd.R_base ho0) hb); have n2_ := Aside0.mk (Kd.R_elder' (by (with_reducible repeat (first | apply Kd.R_alloc | apply Kd.R_drewN | apply Kd.R_drew)); exact HO410.out) (Kd.R_base ho0) hb); have n3_ := Aside0.mk (Kd.R_lower (Kd.R_new' (Kd.R_new' (Kd.R_new' ho0 (Kd.R_lt (by (with_reducible repeat (first | apply Kd.R_alloc | apply Kd.R_drewN | apply Kd.R_drew)); exact HO403.out))) (Kd.R_lt (by (with_reducible repeat (first | apply Kd.R_alloc | apply Kd.R_drewN | apply Kd.R_drew)); exact HO406.out))) (Kd.R_lt (by (with_reducible repeat (first | apply Kd.R_alloc | apply Kd.R_drewN | apply Kd.R_drew)); exact HO410.out))) (below_size (by repeat (first | (with_reducible first | exact HB.out | apply below_alloc | apply pw_below_drewN | apply below_drew1) | exact HB.out)))); have n4_ := Aside0.mk (below_step (by repeat (first | (with_reducible first | exact HB.out | apply below_alloc | apply pw_below_drewN | apply below_drew1) | exact HB.out)) hb); clear HO403; clear HO406; clear HO410; clear HB; have HO403 := n0_; have HO406 := n1_; have HO410 := n2_; have HO413 := n3_; have HB := n4_; clear n0_ n1_ n2_ n3_ n4_; (try clear hb); (try clear hb2); (try clear hk); (try clear hi); (try clear ho0); obtain ⟨Ao74, co74, eo74⟩ := Kd.R_slice HO410.out; subst eo74; obtain ⟨Ao75, co75, eo75⟩ := Kd.R_slice HO413.out; subst eo75) | ((with_reducible refine gate_callee (f := 39) rfl ?_); refine goesL_ (some 39) rfl rfl Try.func39 (by kernel_rfl) rfl #[.slice Ao74 t408.length co74, .int .i64 a1, .slice Ao75 t411.length co75, .int .i64 a3] rfl (by (try simp only [List.map_toArray, List.map_cons, List.map_nil]); first | done | rfl | (simp only [List.length_drop, List.length_take]; rfl)) ?_; (with_reducible refine (impl_TermsMeet.calls k _ _ t408 a1 _ _ t411 a3 t414 _ ?side1 ?side2 ?side3 ?side4 A14.out).mono ?_); (case side1 => repeat (first | exact (Kd.R_reads' HO410.out).2.2 | (with_reducible refine Kd.C_alloc ?_ _) | (with_reducible refine Kd.C_drewN ?_ _) | (with_reducible refine Kd.C_drew ?_))); (case side2 => exact (Kd.R_reads' HO410.out).2.1); (case side3 => repeat (first | exact (Kd.R_reads' HO413.out).2.2 | (with_reducible refine Kd.C_alloc ?_ _) | (with_reducible refine Kd.C_drewN ?_ _) | (with_reducible refine Kd.C_drew ?_))); (case side4 => exact (Kd.R_reads' HO413.out).2.1); rintro e w76 ⟨rfl, hb⟩; refine ⟨_, rfl, ?_⟩; have n0_ := Aside0.mk (Kd.R_below (by (with_reducible repeat (first | apply Kd.R_alloc | apply Kd.R_drewN | apply Kd.R_drew)); exact HO403.out) hb); have n1_ := Aside0.mk (Kd.R_below (by (with_reducible repeat (first | apply Kd.R_alloc | apply Kd.R_drewN | apply Kd.R_drew)); exact HO406.out) hb); have n2_ := Aside0.mk (Kd.R_below (by (with_reducible repeat (first | apply Kd.R_alloc | apply Kd.R_drewN | apply Kd.R_drew)); exact HO410.out) hb); have n3_ := Aside0.mk (Kd.R_below (by (with_reducible repeat (first | apply Kd.R_alloc | apply Kd.R_drewN | apply Kd.R_drew)); exact HO413.out) hb); have n4_ := Aside0.mk (below_step (by repeat (first | (with_reducible first | exact HB.out | apply below_alloc | apply pw_below_drewN | apply below_drew1) | exact HB.out)) hb); clear HO403; clear HO406; clear HO410; clear HO413; clear HB; have HO403 := n0_; have HO406 := n1_; have HO410 := n2_; have HO413 := n3_; have HB := n4_; clear n0_ n1_ n2_ n3_ n4_; (try clear hb); (try clear hb2); (try clear hk); (try clear hi)))
        go_ret
        exact ⟨by first | rfl | (simp [errW_none, errW_some] <;> rfl) | (simp [*, errW_none, errW_some] <;> rfl), by repeat (first | (with_reducible first | exact HB.out | apply below_alloc | apply pw_below_drewN | apply below_drew1) | exact HB.out)⟩
end Go.Proofs.Ytamncgpajkoiaaa.T
namespace Go.Proofs.Ytamncgpajkoiaaa.Q
open Go.RowKit Go.Proofs.YtamncgpajkoiaaaW.PrintWords
def Opens {α : Type} (P : Program) (d : Kd α) (t : TypeId) (WF : α → Prop) : Prop :=
  ∀ (H : Type) (enc : TypeId × Value → H) (w : World) (base : Nat) (spare : Nat → Bool) (held : Bool) (fuel : Nat) (cs : List Value) (x : DataW H × List MemPlace), DataW.trod enc P w base spare held fuel t cs = some x → ∃ v : α, d.K w v cs ∧ WF v
theorem Opens.int {P : Program} {t : TypeId} {k : IntKind} (ht : P.underlying t = some (.int k)) : Opens P (Kd.int k) t (fun n => (Lit.int k n).wf = true) := by
  intro H enc w base spare held fuel cs x h
  obtain ⟨n, rfl, _, hw⟩ := DataW.trod_int ht h
  exact ⟨n, rfl, hw⟩
theorem Opens.bool {P : Program} {t : TypeId} (ht : P.underlying t = some .bool) : Opens P Kd.bool t (fun _ => True) := by
  intro H enc w base spare held fuel cs x h
  obtain ⟨n, rfl, _⟩ := DataW.trod_bool ht h
  exact ⟨n, rfl, trivial⟩
theorem Opens.iso {α β : Type} {P : Program} {t : TypeId} {d : Kd α} {WF : α → Prop} {f : β → α} (h : Opens P d t WF) (g : α → β) (hg : ∀ a, f (g a) = a) : Opens P (Kd.iso d f) t (fun b => WF (f b)) := by
  intro H enc w base spare held fuel cs x hx
  obtain ⟨v, hv, hw⟩ := h H enc w base spare held fuel cs x hx
  exact ⟨g v, by show d.K w (f (g v)) cs; rw [hg]; exact hv, by show WF (f (g v)); rw [hg]; exact hw⟩
theorem list_of {α : Type} {Q : Nat → α → Prop} : ∀ (n : Nat), (∀ i, i < n → ∃ v, Q i v) → ∃ l : List α, l.length = n ∧ ∀ j p, l[j]? = some p → Q j p
  | 0, _ => ⟨[], rfl, fun j p h => by simp at h⟩
  | n + 1, h => by
    obtain ⟨l, hl, hq⟩ := list_of n (fun i hi => h i (by omega))
    obtain ⟨v, hv⟩ := h n (by omega)
    refine ⟨l ++ [v], by simp [hl], fun j p hj => ?_⟩
    rcases Nat.lt_or_ge j l.length with h1 | h1
    · rw [List.getElem?_append_left h1] at hj
      exact hq j p hj
    · rw [List.getElem?_append_right h1] at hj
      have h2 : j - l.length = 0 := by
        have := (List.getElem?_eq_some_iff.1 hj).1
        simp at this
        omega
      rw [h2] at hj
      simp at hj
      subst hj
      have : j = n := by omega
      subst this
      exact hv
theorem cells_get {w : World} {base : Nat} {a : Addr} {n : Nat} {cs : List Value} (h : w.cells? base a n = some cs) : cs.length = n ∧ ∀ (i : Nat) (u : Value), cs[i]? = some u → w.cell? (a.add i) = some u := by
  unfold World.cells? at h
  split at h
  · have hl : cs.length = n := by simpa using mapM_some_length h
    refine ⟨hl, fun i u hu => ?_⟩
    have hi : i < cs.length := (List.getElem?_eq_some_iff.1 hu).1
    have := mapM_some_get h i i (by rw [List.getElem?_range (by omega)])
    rw [this, hu]
  · cases h
theorem add_add' (a : Addr) (x y : Nat) : (a.add x).add y = a.add (x + y) := by
  by_cases hx : x = 0 <;> by_cases hy : y = 0 <;> simp [Addr.add, hx, hy, Nat.add_assoc]
theorem Opens.slice {α : Type} {P : Program} {t e : TypeId} {d : Kd α} {WF : α → Prop} (ht : P.underlying t = some (.slice e)) (h : Opens P d e WF) (hs : P.cellsOf e = d.sz) : Opens P (Kd.slice e d) t (fun l => l.length ≤ maxLen ∧ ∀ v ∈ l, WF v) := by
  intro H enc w base spare held fuel cs x hx
  rcases Go.Deep.open_slice ht hx with ⟨rfl, _⟩ | ⟨a, len, cap, m, n, D, Pl, rfl, hb, hl, hm, hmm, _, hi⟩
  · exact ⟨[], ⟨none, 0, rfl, Nat.le_refl _, rfl, by simp, fun h => by simp at h⟩, by simp, fun v hv => by simp at hv⟩
  · have hlm : len ≤ m := by rw [hmm]; split <;> omega
    obtain ⟨l, hll, hq⟩ := list_of (Q := fun i v => ∃ c, w.cells? base (a.add (i * P.cellsOf e)) (P.cellsOf e) = some c ∧ d.K w v c ∧ WF v) len (fun i hlt => by
      obtain ⟨c, hc, hd⟩ := hi i (by omega)
      obtain ⟨v, hv, hw⟩ := h H enc w base spare held n c _ hd
      exact ⟨v, c, hc, hv, hw⟩)
    subst hll
    refine ⟨l, ⟨some a, cap, rfl, hl, rfl, by unfold maxLen at hm; omega, fun _ => ⟨a, rfl, fun j p hj => ?_⟩⟩, Nat.le_trans hl hm, fun v hv => ?_⟩
    · obtain ⟨c, hc, hk, _⟩ := hq j p hj
      obtain ⟨h1, h2⟩ := cells_get hc
      refine ⟨c, by rw [h1, hs], hk, fun i u hu => ?_⟩
      rw [← hs, ← add_add']
      exact h2 i u hu
    · obtain ⟨j, hj, rfl⟩ := List.getElem_of_mem hv
      obtain ⟨_, _, _, hw⟩ := hq j _ (List.getElem?_eq_getElem hj)
      exact hw
def OpensFs {α : Type} (P : Program) (o : Nat) (fs : List Field) (d : Kd α) (WF : α → Prop) : Prop :=
  ∀ (H : Type) (enc : TypeId × Value → H) (w : World) (base : Nat) (spare : Nat → Bool) (held : Bool) (fuel : Nat) (cs : List Value), (∀ f ∈ fs, ∃ x : DataW H × List MemPlace, DataW.trod enc P w base spare held fuel f.type ((cs.drop f.offset).take (P.cellsOf f.type)) = some x) → cs.length = o + d.sz → ∃ v : α, d.K w v (cs.drop o) ∧ WF v
theorem OpensFs.one {α : Type} {P : Program} {o : Nat} {f : Field} {d : Kd α} {WF : α → Prop} (ho : f.offset = o) (hs : P.cellsOf f.type = d.sz) (h : Opens P d f.type WF) : OpensFs P o [f] d WF := by
  intro H enc w base spare held fuel cs hx hl
  obtain ⟨x, hx⟩ := hx f (by simp)
  rw [ho, hs, List.take_of_length_le (by rw [List.length_drop]; omega)] at hx
  exact h H enc w base spare held fuel _ x hx
theorem OpensFs.cons {α β : Type} {P : Program} {o : Nat} {f : Field} {fs : List Field} {d : Kd α} {d' : Kd β} {WF : α → Prop} {WF' : β → Prop} (ho : f.offset = o) (hs : P.cellsOf f.type = d.sz) (h : Opens P d f.type WF) (h' : OpensFs P (o + d.sz) fs d' WF') : OpensFs P o (f :: fs) (Kd.pair d d') (fun p => WF p.1 ∧ WF' p.2) := by
  intro H enc w base spare held fuel cs hx hl
  obtain ⟨x, hx0⟩ := hx f (by simp)
  rw [ho, hs] at hx0
  obtain ⟨v, hv, hw⟩ := h H enc w base spare held fuel _ x hx0
  have hl' : cs.length = o + d.sz + d'.sz := by rw [hl]; exact (Nat.add_assoc _ _ _).symm
  obtain ⟨v', hv', hw'⟩ := h' H enc w base spare held fuel cs (fun f' hf' => hx f' (List.mem_cons_of_mem _ hf')) hl'
  refine ⟨(v, v'), ⟨(cs.drop o).take d.sz, cs.drop (o + d.sz), ?_, hv, hv'⟩, hw, hw'⟩
  rw [← List.drop_drop, List.take_append_drop]
theorem Opens.struct {α : Type} {P : Program} {t : TypeId} {fs : Array Field} {d : Kd α} {WF : α → Prop} (ht : P.underlying t = some (.struct fs)) (hs : P.cellsOf t = d.sz) (h : OpensFs P 0 fs.toList d WF) : Opens P d t WF := by
  intro H enc w base spare held fuel cs x hx
  obtain ⟨xs, n, _, _, hl, hxs, hf⟩ := DataW.trod_struct ht hx
  refine h H enc w base spare held n cs (fun f hfm => ?_) (by rw [hl, hs, Nat.zero_add])
  obtain ⟨i, hi, rfl⟩ := List.getElem_of_mem hfm
  have hi' : i < fs.size := by simpa using hi
  have := hf i fs[i] (Array.getElem?_eq_getElem hi')
  rw [List.getElem?_eq_getElem (by omega)] at this
  exact ⟨_, by simpa using this⟩
end Go.Proofs.Ytamncgpajkoiaaa.Q
namespace Go.Proofs.Ytamncgpajkoiaaa.T
open Go.RowKit Go.Proofs.YtamncgpajkoiaaaW.PrintWords
set_option linter.unusedVariables false
def WF44 (x : S44) : Prop := (Lit.int .i64 x.f0).wf = true ∧ (Lit.int .i64 x.f1).wf = true
theorem opens44 : Q.Opens Try.prog k44 44 WF44 :=
  Q.Opens.iso (Q.Opens.struct Try.underlying44 (by kernel_rfl) (Q.OpensFs.cons rfl (by kernel_rfl) (Q.Opens.int Try.underlying3) (Q.OpensFs.one rfl (by kernel_rfl) (Q.Opens.int Try.underlying3)))) (fun p => ⟨p.1, p.2⟩) (fun _ => rfl)
end Go.Proofs.Ytamncgpajkoiaaa.T
namespace Go.Proofs.Ytamncgpajkoiaaa.Q
set_option linter.unusedVariables false
set_option linter.unusedSimpArgs false
theorem pairwise_of_next {α : Type} {R : α → α → Prop} (tr : ∀ a b c, R a b → R b c → R a c) {l : List α} (h : ∀ j (h : j + 1 < l.length), R (l[j]'(by omega)) l[j + 1]) : l.Pairwise R := by
  rw [List.pairwise_iff_getElem]
  intro i j hi hj hij
  obtain ⟨d, rfl⟩ : ∃ d, j = i + 1 + d := ⟨j - i - 1, by omega⟩
  clear hij
  induction d with
  | zero => exact h i (by omega)
  | succ d ih => exact tr _ _ _ (ih (by omega)) (h (i + 1 + d) (by omega))
theorem next_of_pairwise {α : Type} {R : α → α → Prop} {l : List α} (h : l.Pairwise R) (j : Nat) (hj : j + 1 < l.length) : R (l[j]'(by omega)) l[j + 1] :=
  List.pairwise_iff_getElem.1 h j (j + 1) (by omega) hj (by omega)
end Go.Proofs.Ytamncgpajkoiaaa.Q
namespace Go.Proofs.Ytamncgpajkoiaaa.Q
open Go.RowKit Go.Proofs.YtamncgpajkoiaaaW.PrintWords
set_option linter.unusedVariables false
set_option linter.unusedSimpArgs false
theorem ev_succ {α : Type} {g : Nat → Option α} {r : α} (h : Ev (fun k => g (k + 1)) r) : Ev g r := Ev.step (f := fun k => g (k + 1)) (fun _ => rfl) h
theorem ev_of_all {α : Type} {g : Nat → Option α} {r : α} (h : ∀ k, g k = some r) : Ev g r := ⟨0, fun k _ => h k⟩
theorem ev_some {α : Type} (r : α) : Ev (fun _ => some r) r := ev_of_all fun _ => rfl
theorem bsome {α β : Type} (a : α) (f : α → Option β) : (some a).bind f = f a := Eq.trans (Option.bind_some a f) (Eq.refl _)
end Go.Proofs.Ytamncgpajkoiaaa.Q
namespace Go.Proofs.Ytamncgpajkoiaaa.Q
open Go.RowKit Go.Proofs.Ytamncgpajkoiaaa.T Go.Proofs.YtamncgpajkoiaaaW.PrintWords Go.Proofs.YtamncgpajkoiaaaW.PrintLast
set_option linter.unusedVariables false
set_option linter.unusedSimpArgs false
theorem wrap_id {x : Int} (h0 : -9223372036854775808 ≤ x) (h1 : x < 9223372036854775808) : wrap64 x = x := by unfold wrap64; omega
end Go.Proofs.Ytamncgpajkoiaaa.Q
namespace Go.Proofs.Ytamncgpajkoiaaa.Q
open Go.RowKit Go.Proofs.Ytamncgpajkoiaaa.T Go.Proofs.YtamncgpajkoiaaaW.PrintWords Go.Proofs.YtamncgpajkoiaaaW.PrintLast
set_option linter.unusedVariables false
set_option linter.unusedSimpArgs false
abbrev Tm := S37
abbrev rt (l : List Tm) (i : Int) : Tm := rd_T37 l i
theorem rt_nat (l : List Tm) (j : Nat) (h : j < l.length) : rt l (j : Int) = l[j] := by
  unfold rt rd_T37
  rw [Int.toNat_natCast, List.getD_eq_getElem?_getD, List.getElem?_eq_getElem h]
  rfl
def okT (t : Tm) : Prop := 0 ≤ t.f0 ∧ t.f0 ≤ 999 ∧ 0 ≤ t.f1 ∧ t.f1 ≤ 99999
instance (t : Tm) : Decidable (okT t) := by unfold okT; infer_instance
def ltT (a b : Tm) : Prop := a.f0 < b.f0 ∧ a.f1 < b.f1
instance (a b : Tm) : Decidable (ltT a b) := by unfold ltT; infer_instance
def VF (l : List Tm) (i : Nat) : Prop := ∀ j, i ≤ j → j < l.length → okT (rt l j) ∧ (0 < j → ltT (rt l ((j : Int) - 1)) (rt l j))
def VT (l : List Tm) : Prop := l.length ≤ 8 ∧ VF l 0
theorem VF_end {l : List Tm} {i : Nat} (h : l.length ≤ i) : VF l i := fun j h1 h2 => by omega
theorem VF_step {l : List Tm} {i : Nat} (h : i < l.length) : VF l i ↔ (okT (rt l i) ∧ (0 < i → ltT (rt l ((i : Int) - 1)) (rt l i))) ∧ VF l (i + 1) := by
  constructor
  · intro hv
    exact ⟨hv i (Nat.le_refl _) h, fun j h1 h2 => hv j (by omega) h2⟩
  · rintro ⟨h1, h2⟩ j h3 h4
    by_cases e : j = i
    · subst e; exact h1
    · exact h2 j (by omega) h4
theorem impl_within_eq (a b c : Int) : impl_within.f a b c = some (decide (b ≤ a ∧ a ≤ c)) := by
  unfold impl_within.f
  by_cases h : a ≥ b
  · rw [if_pos h]
    have : (b ≤ a ∧ a ≤ c) ↔ a ≤ c := ⟨fun h => h.2, fun h' => ⟨h, h'⟩⟩
    simp [this]
  · rw [if_neg h]
    have : ¬ (b ≤ a ∧ a ≤ c) := fun h' => h h'.1
    simp [this]
theorem spec_l6In_eq (a b c : Int) : spec_l6In.f a b c = some (decide (b ≤ a ∧ a ≤ c)) := by
  unfold spec_l6In.f
  by_cases h : a ≥ b
  · rw [if_pos h]
    have : (b ≤ a ∧ a ≤ c) ↔ a ≤ c := ⟨fun h => h.2, fun h' => ⟨h, h'⟩⟩
    simp [this]
  · rw [if_neg h]
    have : ¬ (b ≤ a ∧ a ≤ c) := fun h' => h h'.1
    simp [this]
theorem implValid_loop (l : List Tm) (hl : l.length ≤ 1000000000000) : ∀ (d i : Nat), l.length - i = d → i ≤ l.length → ∃ b, Ev (fun k => impl_TermsValid.l0 k l l (l.length : Int) (i : Int)) b ∧ (b = true ↔ VF l i) := by
  intro d
  induction d with
  | zero =>
    intro i hd hi
    refine ⟨true, ev_succ ?_, by simp; exact VF_end (by omega)⟩
    simp only [impl_TermsValid.l0, if_neg (show ¬ (i : Int) < (l.length : Int) by omega)]
    exact ev_some _
  | succ d ih =>
    intro i hd hi
    have hlt : (i : Int) < (l.length : Int) := by omega
    obtain ⟨b, hb, hb2⟩ := ih (i + 1) (by omega) (by omega)
    have e1 : wrap64 ((i : Int) + 1) = ((i + 1 : Nat) : Int) := by rw [wrap_id (by omega) (by omega)]; omega
    rw [VF_step (show i < l.length by omega)]
    by_cases k1 : 0 ≤ (rt l i).f0 ∧ (rt l i).f0 ≤ 999
    · by_cases k2 : 0 ≤ (rt l i).f1 ∧ (rt l i).f1 ≤ 99999
      · have hok : okT (rt l i) := ⟨k1.1, k1.2, k2.1, k2.2⟩
        by_cases h0 : 0 < i
        · have e2 : wrap64 ((i : Int) - 1) = (i : Int) - 1 := wrap_id (by omega) (by omega)
          by_cases k3 : (rt l ((i : Int) - 1)).f0 ≥ (rt l i).f0
          · refine ⟨false, ev_succ ?_, ?_⟩
            · simp only [impl_TermsValid.l0, if_pos hlt, if_pos (show (0 : Int) ≤ i by omega), impl_within_eq, bsome, decide_eq_true_eq, if_pos k1, decide_eq_true k2, Bool.not_true]
              refine ev_succ ?_
              simp only [impl_TermsValid.j1, if_neg (show ¬ (false = true) by decide), if_pos (show (i : Int) > 0 by omega), e2, if_pos (show 0 ≤ (i : Int) - 1 by omega), if_pos (show (i : Int) - 1 < (l.length : Int) by omega), if_pos k3]
              exact ev_some _
            · simp only [Bool.false_eq_true, false_iff]
              rintro ⟨⟨_, h3⟩, _⟩
              have := (h3 h0).1
              omega
          · by_cases k4 : (rt l ((i : Int) - 1)).f1 ≥ (rt l i).f1
            · refine ⟨false, ev_succ ?_, ?_⟩
              · simp only [impl_TermsValid.l0, if_pos hlt, if_pos (show (0 : Int) ≤ i by omega), impl_within_eq, bsome, decide_eq_true_eq, if_pos k1, decide_eq_true k2, Bool.not_true]
                refine ev_succ ?_
                simp only [impl_TermsValid.j1, if_neg (show ¬ (false = true) by decide), if_pos (show (i : Int) > 0 by omega), e2, if_pos (show 0 ≤ (i : Int) - 1 by omega), if_pos (show (i : Int) - 1 < (l.length : Int) by omega), if_neg k3, if_pos k4]
                exact ev_some _
              · simp only [Bool.false_eq_true, false_iff]
                rintro ⟨⟨_, h3⟩, _⟩
                have := (h3 h0).2
                omega
            · refine ⟨b, ev_succ ?_, ?_⟩
              · simp only [impl_TermsValid.l0, if_pos hlt, if_pos (show (0 : Int) ≤ i by omega), impl_within_eq, bsome, decide_eq_true_eq, if_pos k1, decide_eq_true k2, Bool.not_true]
                refine ev_succ ?_
                simp only [impl_TermsValid.j1, if_neg (show ¬ (false = true) by decide), if_pos (show (i : Int) > 0 by omega), e2, if_pos (show 0 ≤ (i : Int) - 1 by omega), if_pos (show (i : Int) - 1 < (l.length : Int) by omega), if_neg k3, if_neg k4, e1]
                exact hb
              · rw [hb2]
                exact ⟨fun h => ⟨⟨hok, fun _ => ⟨by omega, by omega⟩⟩, h⟩, fun h => h.2⟩
        · refine ⟨b, ev_succ ?_, ?_⟩
          · simp only [impl_TermsValid.l0, if_pos hlt, if_pos (show (0 : Int) ≤ i by omega), impl_within_eq, bsome, decide_eq_true_eq, if_pos k1, decide_eq_true k2, Bool.not_true]
            refine ev_succ ?_
            simp only [impl_TermsValid.j1, if_neg (show ¬ (false = true) by decide), if_neg (show ¬ (i : Int) > 0 by omega), e1]
            exact hb
          · rw [hb2]
            exact ⟨fun h => ⟨⟨hok, fun h' => absurd h' h0⟩, h⟩, fun h => h.2⟩
      · refine ⟨false, ev_succ ?_, ?_⟩
        · simp only [impl_TermsValid.l0, if_pos hlt, if_pos (show (0 : Int) ≤ i by omega), impl_within_eq, bsome, decide_eq_true_eq, if_pos k1, decide_eq_false k2, Bool.not_false]
          refine ev_succ ?_
          simp only [impl_TermsValid.j1, if_true]
          exact ev_some _
        · simp only [Bool.false_eq_true, false_iff]
          rintro ⟨⟨h3, _⟩, _⟩
          exact k2 ⟨h3.2.2.1, h3.2.2.2⟩
    · refine ⟨false, ev_succ ?_, ?_⟩
      · simp only [impl_TermsValid.l0, if_pos hlt, if_pos (show (0 : Int) ≤ i by omega), impl_within_eq, bsome, decide_eq_true_eq, if_neg k1]
        refine ev_succ ?_
        simp only [impl_TermsValid.j1, if_true]
        exact ev_some _
      · simp only [Bool.false_eq_true, false_iff]
        rintro ⟨⟨h3, _⟩, _⟩
        exact k1 ⟨h3.1, h3.2.1⟩
theorem implValid_ev (l : List Tm) (hl : l.length ≤ 1000000000000) : ∃ b, Ev (fun k => impl_TermsValid.f k l) b ∧ (b = true ↔ VT l) := by
  unfold impl_TermsValid.f
  by_cases h : (l.length : Int) > 8
  · refine ⟨false, ?_, ?_⟩
    · simp only [if_pos h]; exact ev_some _
    · simp only [Bool.false_eq_true, false_iff]
      rintro ⟨h2, _⟩
      omega
  · obtain ⟨b, hb, hb2⟩ := implValid_loop l hl l.length 0 (by omega) (by omega)
    refine ⟨b, ?_, ?_⟩
    · simp only [if_neg h]; exact hb
    · rw [hb2]
      exact ⟨fun h' => ⟨by omega, h'⟩, fun h' => h'.2⟩
theorem specValid_loop (l : List Tm) (hl : l.length ≤ 1000000000000) : ∀ (d i : Nat), l.length - i = d → i ≤ l.length → ∃ b, Ev (fun k => spec_TermsValid.l0 k l (i : Int)) b ∧ (b = true ↔ (l.length ≤ 8 ∧ VF l i)) := by
  intro d
  induction d with
  | zero =>
    intro i hd hi
    refine ⟨decide ((l.length : Int) ≤ 8), ev_succ ?_, ?_⟩
    · simp only [spec_TermsValid.l0, if_neg (show ¬ (i : Int) < (l.length : Int) by omega)]
      exact ev_some _
    · simp only [decide_eq_true_eq]
      exact ⟨fun h => ⟨by omega, VF_end (by omega)⟩, fun h => by have := h.1; omega⟩
  | succ d ih =>
    intro i hd hi
    have hlt : (i : Int) < (l.length : Int) := by omega
    obtain ⟨b, hb, hb2⟩ := ih (i + 1) (by omega) (by omega)
    have e1 : wrap64 ((i : Int) + 1) = ((i + 1 : Nat) : Int) := by rw [wrap_id (by omega) (by omega)]; omega
    rw [VF_step (show i < l.length by omega)]
    by_cases k1 : 0 ≤ (rt l i).f0 ∧ (rt l i).f0 ≤ 999
    · by_cases k2 : 0 ≤ (rt l i).f1 ∧ (rt l i).f1 ≤ 99999
      · have hok : okT (rt l i) := ⟨k1.1, k1.2, k2.1, k2.2⟩
        by_cases h0 : 0 < i
        · have e2 : wrap64 ((i : Int) - 1) = (i : Int) - 1 := wrap_id (by omega) (by omega)
          by_cases k3 : (rt l ((i : Int) - 1)).f0 ≥ (rt l i).f0
          · refine ⟨false, ev_succ ?_, ?_⟩
            · simp only [spec_TermsValid.l0, if_pos hlt, if_pos (show (0 : Int) ≤ i by omega), spec_l6In_eq, bsome, decide_eq_true_eq, if_pos k1, if_pos k2, if_pos (show (i : Int) > 0 by omega), e2, if_pos (show 0 ≤ (i : Int) - 1 by omega), if_pos (show (i : Int) - 1 < (l.length : Int) by omega), if_pos k3]
              exact ev_some _
            · simp only [Bool.false_eq_true, false_iff]
              rintro ⟨_, ⟨_, h3⟩, _⟩
              have := (h3 h0).1
              omega
          · by_cases k4 : (rt l ((i : Int) - 1)).f1 ≥ (rt l i).f1
            · refine ⟨false, ev_succ ?_, ?_⟩
              · simp only [spec_TermsValid.l0, if_pos hlt, if_pos (show (0 : Int) ≤ i by omega), spec_l6In_eq, bsome, decide_eq_true_eq, if_pos k1, if_pos k2, if_pos (show (i : Int) > 0 by omega), e2, if_pos (show 0 ≤ (i : Int) - 1 by omega), if_pos (show (i : Int) - 1 < (l.length : Int) by omega), if_neg k3, if_pos k4]
                exact ev_some _
              · simp only [Bool.false_eq_true, false_iff]
                rintro ⟨_, ⟨_, h3⟩, _⟩
                have := (h3 h0).2
                omega
            · refine ⟨b, ev_succ ?_, ?_⟩
              · simp only [spec_TermsValid.l0, if_pos hlt, if_pos (show (0 : Int) ≤ i by omega), spec_l6In_eq, bsome, decide_eq_true_eq, if_pos k1, if_pos k2, if_pos (show (i : Int) > 0 by omega), e2, if_pos (show 0 ≤ (i : Int) - 1 by omega), if_pos (show (i : Int) - 1 < (l.length : Int) by omega), if_neg k3, if_neg k4, e1]
                exact hb
              · rw [hb2]
                exact ⟨fun h => ⟨h.1, ⟨hok, fun _ => ⟨by omega, by omega⟩⟩, h.2⟩, fun h => ⟨h.1, h.2.2⟩⟩
        · refine ⟨b, ev_succ ?_, ?_⟩
          · simp only [spec_TermsValid.l0, if_pos hlt, if_pos (show (0 : Int) ≤ i by omega), spec_l6In_eq, bsome, decide_eq_true_eq, if_pos k1, if_pos k2, if_neg (show ¬ (i : Int) > 0 by omega), e1]
            exact hb
          · rw [hb2]
            exact ⟨fun h => ⟨h.1, ⟨hok, fun h' => absurd h' h0⟩, h.2⟩, fun h => ⟨h.1, h.2.2⟩⟩
      · refine ⟨false, ev_succ ?_, ?_⟩
        · simp only [spec_TermsValid.l0, if_pos hlt, if_pos (show (0 : Int) ≤ i by omega), spec_l6In_eq, bsome, decide_eq_true_eq, if_pos k1, if_neg k2]
          exact ev_some _
        · simp only [Bool.false_eq_true, false_iff]
          rintro ⟨_, ⟨h3, _⟩, _⟩
          exact k2 ⟨h3.2.2.1, h3.2.2.2⟩
    · refine ⟨false, ev_succ ?_, ?_⟩
      · simp only [spec_TermsValid.l0, if_pos hlt, if_pos (show (0 : Int) ≤ i by omega), spec_l6In_eq, bsome, decide_eq_true_eq, if_neg k1]
        exact ev_some _
      · simp only [Bool.false_eq_true, false_iff]
        rintro ⟨_, ⟨h3, _⟩, _⟩
        exact k1 ⟨h3.1, h3.2.1⟩
theorem specValid_ev (l : List Tm) (hl : l.length ≤ 1000000000000) : ∃ b, Ev (fun k => spec_TermsValid.f k l) b ∧ (b = true ↔ VT l) := by
  unfold spec_TermsValid.f
  exact specValid_loop l hl l.length 0 (by omega) (by omega)
open Classical in
noncomputable def vt (l : List Tm) : Bool := decide (VT l)
theorem vt_iff (l : List Tm) : vt l = true ↔ VT l := by unfold vt; simp
theorem vt_of {b : Bool} {l : List Tm} (h : b = true ↔ VT l) : b = vt l := by
  rw [Bool.eq_iff_iff, h, vt_iff]
theorem implValid (l : List Tm) (hl : l.length ≤ 1000000000000) : Ev (fun k => impl_TermsValid.f k l) (vt l) := by
  obtain ⟨b, hb, h⟩ := implValid_ev l hl
  rw [← vt_of h]; exact hb
theorem specValid (l : List Tm) (hl : l.length ≤ 1000000000000) : Ev (fun k => spec_TermsValid.f k l) (vt l) := by
  obtain ⟨b, hb, h⟩ := specValid_ev l hl
  rw [← vt_of h]; exact hb
end Go.Proofs.Ytamncgpajkoiaaa.Q
namespace Go.Proofs.Ytamncgpajkoiaaa.Q
open Go.RowKit Go.Proofs.Ytamncgpajkoiaaa.T Go.Proofs.YtamncgpajkoiaaaW.PrintWords Go.Proofs.YtamncgpajkoiaaaW.PrintLast
set_option linter.unusedVariables false
set_option linter.unusedSimpArgs false
theorem ltT_trans {a b c : Tm} (h : ltT a b) (h' : ltT b c) : ltT a c := ⟨Int.lt_trans h.1 h'.1, Int.lt_trans h.2 h'.2⟩
theorem VT_iff (l : List Tm) : VT l ↔ l.length ≤ 8 ∧ (∀ t ∈ l, okT t) ∧ l.Pairwise ltT := by
  constructor
  · rintro ⟨h8, hv⟩
    refine ⟨h8, ?_, pairwise_of_next (R := ltT) (fun _ _ _ => ltT_trans) ?_⟩
    · intro t ht
      obtain ⟨j, hj, rfl⟩ := List.getElem_of_mem ht
      have := (hv j (Nat.zero_le _) hj).1
      rwa [rt_nat l j hj] at this
    · intro j hj
      have := (hv (j + 1) (Nat.zero_le _) hj).2 (by omega)
      rw [rt_nat l (j + 1) hj] at this
      rw [show ((j + 1 : Nat) : Int) - 1 = (j : Int) by omega, rt_nat l j (by omega)] at this
      exact this
  · rintro ⟨h8, hok, hp⟩
    refine ⟨h8, fun j _ hj => ⟨?_, fun h0 => ?_⟩⟩
    · rw [rt_nat l j hj]
      exact hok _ (List.getElem_mem hj)
    · obtain ⟨i, rfl⟩ : ∃ i, j = i + 1 := ⟨j - 1, by omega⟩
      rw [rt_nat l (i + 1) hj, show ((i + 1 : Nat) : Int) - 1 = (i : Int) by omega, rt_nat l i (by omega)]
      exact next_of_pairwise hp i hj
end Go.Proofs.Ytamncgpajkoiaaa.Q
namespace Go.Proofs.Ytamncgpajkoiaaa.T
open Go.RowKit Go.Proofs.YtamncgpajkoiaaaW.PrintWords Go.Proofs.YtamncgpajkoiaaaW.PrintLast Go.Proofs.YtamncgpajkoiaaaW.PrintMore

set_option linter.unusedVariables false
set_option linter.unusedSimpArgs false
end Go.Proofs.Ytamncgpajkoiaaa.T
namespace Go.Proofs.Ytamncgpajkoiaaa.T
open Go.RowKit Go.Proofs.YtamncgpajkoiaaaW.PrintWords Go.Proofs.YtamncgpajkoiaaaW.PrintLast Go.Proofs.YtamncgpajkoiaaaW.PrintMore

set_option linter.unusedVariables false
set_option linter.unusedSimpArgs false
end Go.Proofs.Ytamncgpajkoiaaa.T
namespace Go.Proofs.Ytamncgpajkoiaaa.T
open Go.RowKit Go.Proofs.YtamncgpajkoiaaaW.PrintWords Go.Proofs.YtamncgpajkoiaaaW.PrintLast Go.Proofs.YtamncgpajkoiaaaW.PrintMore

set_option linter.unusedVariables false
set_option linter.unusedSimpArgs false

end Go.Proofs.Ytamncgpajkoiaaa.T
namespace Go.Proofs.Ytamncgpajkoiaaa.Q
open Go.RowKit Go.Proofs.Ytamncgpajkoiaaa.T Go.Proofs.YtamncgpajkoiaaaW.PrintWords Go.Proofs.YtamncgpajkoiaaaW.PrintLast
theorem Tm_ext {a b : Tm} (h0 : a.f0 = b.f0) (h1 : a.f1 = b.f1) : a = b := by
  cases a
  cases b
  simp at h0 h1
  rw [h0, h1]
instance : DecidableEq Tm := fun a b => decidable_of_iff (a.f0 = b.f0 ∧ a.f1 = b.f1) ⟨fun h => Tm_ext h.1 h.2, fun h => by rw [h]; exact ⟨rfl, rfl⟩⟩
theorem drop_at {l : List Tm} {i : Nat} (h : i < l.length) : l.drop i = rt l i :: l.drop (i + 1) := by
  rw [List.drop_eq_getElem_cons h, rt_nat l i h]
end Go.Proofs.Ytamncgpajkoiaaa.Q
namespace Go.Proofs.Ytamncgpajkoiaaa.Q
open Go.RowKit Go.Proofs.Ytamncgpajkoiaaa.T Go.Proofs.YtamncgpajkoiaaaW.PrintWords Go.Proofs.YtamncgpajkoiaaaW.PrintLast
set_option linter.unusedVariables false
set_option linter.unusedSimpArgs false
abbrev Lm := S44
def toT (x : Lm) : Tm := ⟨x.f0, x.f1⟩
theorem rdL (l : List Lm) (j : Nat) (h : j < l.length) : rd_T44 l (j : Int) = l[j] := by
  unfold rd_T44
  rw [Int.toNat_natCast, List.getD_eq_getElem?_getD, List.getElem?_eq_getElem h]
  rfl
theorem szTerms (l : List Lm) (h : l.length ≤ maxLen) : (l.length ≤ 1048576 ∧ laws_szTermS.f l 1048576 = some (1048576 - (l.length : Int))) ∨ (1048576 < l.length ∧ laws_szTermS.f l 1048576 = some (-1)) := by
  unfold maxLen at h
  have e : wrap64 (1048576 - (l.length : Int)) = 1048576 - (l.length : Int) := wrap_id (by omega) (by omega)
  unfold laws_szTermS.f
  rw [e]
  by_cases hc : 1048576 - (l.length : Int) < 0
  · rw [if_pos hc]; exact .inr ⟨by omega, rfl⟩
  · rw [if_neg hc]; exact .inl ⟨by omega, rfl⟩
theorem set_mid {α : Type} (a : List α) (x y : α) (b : List α) (i : Nat) (h : i = a.length) : (a ++ x :: b).set i y = a ++ y :: b := by
  subst h
  simp
theorem toTerms_loop (l : List Lm) (hl : l.length ≤ 1048576) : ∀ (d i : Nat), l.length - i = d → i ≤ l.length → Ev (fun k => laws_toTermS.l0 k l ((l.map toT).take i ++ List.replicate (l.length - i) z37) (i : Int)) (l.map toT) := by
  intro d
  induction d with
  | zero =>
    intro i hd hi
    refine ev_succ ?_
    simp only [laws_toTermS.l0, if_neg (show ¬ (i : Int) < (l.length : Int) by omega)]
    rw [show l.length - i = 0 by omega, List.replicate_zero, List.append_nil, List.take_of_length_le (by simp; omega)]
    exact ev_some _
  | succ d ih =>
    intro i hd hi
    have hlt : (i : Int) < (l.length : Int) := by omega
    have e1 : wrap64 ((i : Int) + 1) = ((i + 1 : Nat) : Int) := by rw [wrap_id (by omega) (by omega)]; omega
    obtain ⟨m, hm⟩ : ∃ m, l.length - i = m + 1 := ⟨l.length - i - 1, by omega⟩
    have hlen : ((l.map toT).take i).length = i := by simp; omega
    have hset : ((l.map toT).take i ++ List.replicate (l.length - i) z37).set i (toT l[i]) = (l.map toT).take (i + 1) ++ List.replicate (l.length - (i + 1)) z37 := by
      rw [hm, List.replicate_succ, set_mid _ _ _ _ _ hlen.symm, show l.length - (i + 1) = m by omega, List.take_succ_eq_append_getElem (by simp; omega), List.append_assoc]
      simp
    refine ev_succ ?_
    simp only [laws_toTermS.l0, if_pos hlt, if_pos (show (0 : Int) ≤ i by omega), laws_toTerm.f, bsome, if_pos (show (i : Int) < ((((l.map toT).take i ++ List.replicate (l.length - i) z37).length : Nat) : Int) by simp; omega), e1, Int.toNat_natCast, rdL l i (by omega)]
    have := ih (i + 1) (by omega) (by omega)
    rw [← hset] at this
    exact this
theorem toTerms (l : List Lm) (hl : l.length ≤ 1048576) : Ev (fun k => laws_toTermS.f k l) (l.map toT) := by
  unfold laws_toTermS.f
  simp only [if_pos (show 0 ≤ (l.length : Int) by omega), Int.toNat_natCast, if_pos (show l.length ≤ 17592186044416 by omega)]
  have := toTerms_loop l hl l.length 0 (by omega) (by omega)
  simpa using this
theorem eqTerms_loop (a b : List Tm) (hl : a.length = b.length) (hs : a.length ≤ 1048576) : ∀ (d i : Nat), a.length - i = d → i ≤ a.length → Ev (fun k => laws_eqTermS.l0 k a b (i : Int)) (decide (a.drop i = b.drop i)) := by
  intro d
  induction d with
  | zero =>
    intro i hd hi
    rw [show a.drop i = [] from List.drop_eq_nil_of_le (by omega), show b.drop i = [] from List.drop_eq_nil_of_le (by omega)]
    refine ev_succ ?_
    simp only [laws_eqTermS.l0, if_neg (show ¬ (i : Int) < (a.length : Int) by omega), decide_true]
    exact ev_some _
  | succ d ih =>
    intro i hd hi
    have hlt : (i : Int) < (a.length : Int) := by omega
    have e1 : wrap64 ((i : Int) + 1) = ((i + 1 : Nat) : Int) := by rw [wrap_id (by omega) (by omega)]; omega
    rw [drop_at (show i < a.length by omega), drop_at (show i < b.length by omega)]
    refine ev_succ ?_
    simp only [laws_eqTermS.l0, if_pos hlt, if_pos (show (0 : Int) ≤ i by omega), if_pos (show (i : Int) < (b.length : Int) by omega), laws_eqTerm.f, e1]
    by_cases h0 : (rt a i).f0 = (rt b i).f0
    · by_cases h1 : (rt a i).f1 = (rt b i).f1
      · simp only [if_pos h0, if_pos h1, bsome, if_true]
        have := ih (i + 1) (by omega) (by omega)
        simpa [Tm_ext h0 h1] using this
      · have hne : ¬ rt a i = rt b i := fun h => h1 (by rw [h])
        simp only [if_pos h0, if_neg h1, bsome, Bool.false_eq_true, if_false]
        rw [decide_eq_false (by simp [hne])]
        exact ev_some _
    · have hne : ¬ rt a i = rt b i := fun h => h0 (by rw [h])
      simp only [if_neg h0, bsome, Bool.false_eq_true, if_false]
      rw [decide_eq_false (by simp [hne])]
      exact ev_some _
theorem eqTerms (a b : List Tm) (hs : a.length ≤ 1048576) : Ev (fun k => laws_eqTermS.f k a b) (decide (a = b)) := by
  unfold laws_eqTermS.f
  by_cases h : (a.length : Int) = (b.length : Int)
  · simp only [if_pos h]
    have := eqTerms_loop a b (by omega) hs a.length 0 (by omega) (by omega)
    simpa using this
  · simp only [if_neg h]
    rw [decide_eq_false (fun e => h (by rw [e]))]
    exact ev_some _
theorem eqTerms_self (a : List Tm) (hs : a.length ≤ 1048576) : Ev (fun k => laws_eqTermS.f k a a) true := by
  have := eqTerms a a hs
  rwa [decide_eq_true rfl] at this
end Go.Proofs.Ytamncgpajkoiaaa.Q
namespace Go.Proofs.Ytamncgpajkoiaaa.Q
open Go.RowKit Go.Proofs.Ytamncgpajkoiaaa.T Go.Proofs.YtamncgpajkoiaaaW.PrintWords Go.Proofs.YtamncgpajkoiaaaW.PrintLast
set_option linter.unusedVariables false
set_option linter.unusedSimpArgs false
def lastTm (l : List Tm) : Tm := rt l ((l.length : Int) - 1)
open Classical in
noncomputable def ve (l : List Tm) (e : Int) : Bool := vt l && decide (0 ≤ e ∧ e ≤ 100000 ∧ (l.length = 0 ∨ (lastTm l).f1 < e))
theorem implEndValid (l : List Tm) (e : Int) (hl : l.length ≤ 1000000000000) : Ev (fun k => impl_endValid.f k l e) (ve l e) := by
  unfold impl_endValid.f ve
  refine Ev.bind (implValid l hl) ?_
  by_cases hv : vt l = true
  · have e2 : wrap64 ((l.length : Int) - 1) = (l.length : Int) - 1 := wrap_id (by omega) (by omega)
    simp only [if_pos hv, impl_within_eq, bsome, decide_eq_true_eq, hv, Bool.true_and]
    by_cases h1 : 0 ≤ e ∧ e ≤ 100000
    · simp only [if_pos h1]
      by_cases h0 : l.length = 0
      · simp only [if_pos (show (l.length : Int) = 0 by omega)]
        rw [decide_eq_true ⟨h1.1, h1.2, .inl h0⟩]
        exact ev_some _
      · simp only [if_neg (show ¬ (l.length : Int) = 0 by omega), e2, if_pos (show 0 ≤ (l.length : Int) - 1 by omega), if_pos (show (l.length : Int) - 1 < (l.length : Int) by omega)]
        have : decide (e > (rt l ((l.length : Int) - 1)).f1) = decide (0 ≤ e ∧ e ≤ 100000 ∧ (l.length = 0 ∨ (lastTm l).f1 < e)) := by
          rw [decide_eq_decide]
          exact ⟨fun h => ⟨h1.1, h1.2, .inr h⟩, fun h => h.2.2.resolve_left h0⟩
        rw [← this]
        exact ev_some _
    · simp only [if_neg h1]
      rw [decide_eq_false (fun h => h1 ⟨h.1, h.2.1⟩)]
      exact ev_some _
  · have hv' : vt l = false := by simpa using hv
    simp only [if_neg hv, hv', Bool.false_and]
    exact ev_some _
theorem specOk (l : List Tm) (e : Int) (hl : l.length ≤ 1000000000000) : Ev (fun k => spec_l23Ok.f k l e) (ve l e) := by
  unfold spec_l23Ok.f ve
  refine Ev.bind (specValid l hl) ?_
  by_cases hv : vt l = true
  · have e2 : wrap64 ((l.length : Int) - 1) = (l.length : Int) - 1 := wrap_id (by omega) (by omega)
    simp only [if_pos hv, spec_l6In_eq, bsome, decide_eq_true_eq, hv, Bool.true_and]
    by_cases h1 : 0 ≤ e ∧ e ≤ 100000
    · simp only [if_pos h1]
      by_cases h0 : l.length = 0
      · simp only [if_pos (show (l.length : Int) = 0 by omega)]
        rw [decide_eq_true ⟨h1.1, h1.2, .inl h0⟩]
        exact ev_some _
      · simp only [if_neg (show ¬ (l.length : Int) = 0 by omega), e2, if_pos (show 0 ≤ (l.length : Int) - 1 by omega), if_pos (show (l.length : Int) - 1 < (l.length : Int) by omega)]
        have : decide ((rt l ((l.length : Int) - 1)).f1 < e) = decide (0 ≤ e ∧ e ≤ 100000 ∧ (l.length = 0 ∨ (lastTm l).f1 < e)) := by
          rw [decide_eq_decide]
          exact ⟨fun h => ⟨h1.1, h1.2, .inr h⟩, fun h => h.2.2.resolve_left h0⟩
        rw [← this]
        exact ev_some _
    · simp only [if_neg h1]
      rw [decide_eq_false (fun h => h1 ⟨h.1, h.2.1⟩)]
      exact ev_some _
  · have hv' : vt l = false := by simpa using hv
    simp only [if_neg hv, hv', Bool.false_and]
    exact ev_some _
theorem ve_vt {l : List Tm} {e : Int} (h : ve l e = true) : VT l ∧ 0 ≤ e ∧ e ≤ 100000 ∧ (l.length = 0 ∨ (lastTm l).f1 < e) := by
  unfold ve at h
  rw [Bool.and_eq_true, vt_iff] at h
  exact ⟨h.1, by simpa using h.2⟩
def atT (l : List Tm) (x : Int) : Int := impl_findTerm l x
theorem atT_cases (l : List Tm) (x : Int) : (atT l x = -1 ∧ ∀ j, j < l.length → (rt l j).f0 ≠ x) ∨ ∃ i : Nat, i < l.length ∧ atT l x = i ∧ (rt l i).f0 = x ∧ ∀ j, j < i → (rt l j).f0 ≠ x := by
  unfold atT impl_findTerm
  cases h : l.findIdx? (fun t => t.f0 == x) with
  | none =>
    refine .inl ⟨rfl, fun j hj => ?_⟩
    rw [List.findIdx?_eq_none_iff] at h
    have := h l[j] (List.getElem_mem hj)
    rw [rt_nat l j hj]
    simpa using this
  | some i =>
    rw [List.findIdx?_eq_some_iff_getElem] at h
    obtain ⟨hi, h1, h2⟩ := h
    refine .inr ⟨i, hi, rfl, ?_, fun j hj => ?_⟩
    · rw [rt_nat l i hi]; simpa using h1
    · rw [rt_nat l j (by omega)]
      have := h2 j hj
      simpa using this
theorem specAt_loop (l : List Tm) (x : Int) (hl : l.length ≤ 1000000000000) : ∀ (d i : Nat), l.length - i = d → i ≤ l.length → (∀ j, j < i → (rt l j).f0 ≠ x) → Ev (fun k => spec_l23At.l0 k l x (i : Int)) (atT l x) := by
  intro d
  induction d with
  | zero =>
    intro i hd hi hn
    refine ev_succ ?_
    simp only [spec_l23At.l0, if_neg (show ¬ (i : Int) < (l.length : Int) by omega)]
    rcases atT_cases l x with ⟨h, _⟩ | ⟨j, hj, h, h1, _⟩
    · rw [h]; exact ev_some _
    · exact absurd h1 (hn j (by omega))
  | succ d ih =>
    intro i hd hi hn
    have e1 : wrap64 ((i : Int) + 1) = ((i + 1 : Nat) : Int) := by rw [wrap_id (by omega) (by omega)]; omega
    refine ev_succ ?_
    by_cases h : (rt l i).f0 = x
    · simp only [spec_l23At.l0, if_pos (show (i : Int) < (l.length : Int) by omega), if_pos (show (0 : Int) ≤ i by omega), if_pos h]
      rcases atT_cases l x with ⟨_, h2⟩ | ⟨j, hj, h2, h3, h4⟩
      · exact absurd h (h2 i (by omega))
      · have : j = i := by
          rcases Nat.lt_trichotomy j i with h5 | h5 | h5
          · exact absurd h3 (hn j h5)
          · exact h5
          · exact absurd h (h4 i h5)
        rw [h2, this]
        exact ev_some _
    · simp only [spec_l23At.l0, if_pos (show (i : Int) < (l.length : Int) by omega), if_pos (show (0 : Int) ≤ i by omega), if_neg h, e1]
      refine ih (i + 1) (by omega) (by omega) (fun j hj => ?_)
      by_cases e : j = i
      · subst e; exact h
      · exact hn j (by omega)
theorem specAt (l : List Tm) (x : Int) (hl : l.length ≤ 1000000000000) : Ev (fun k => spec_l23At.f k l x) (atT l x) := by
  unfold spec_l23At.f
  exact specAt_loop l x hl l.length 0 (by omega) (by omega) (fun j hj => by omega)
def endT (l : List Tm) (i : Int) (e : Int) : Int := if i + 1 < (l.length : Int) then (rt l (i + 1)).f1 else e
theorem specEnd (l : List Tm) (i e : Int) (h0 : 0 ≤ i) (h1 : i ≤ 1000000000000) : spec_l23End.f l i e = some (endT l i e) := by
  unfold spec_l23End.f endT
  rw [wrap_id (by omega) (by omega)]
  by_cases h : i + 1 < (l.length : Int)
  · rw [if_pos h, if_pos (by omega), if_pos h]
  · rw [if_neg h, if_neg h]
end Go.Proofs.Ytamncgpajkoiaaa.Q
