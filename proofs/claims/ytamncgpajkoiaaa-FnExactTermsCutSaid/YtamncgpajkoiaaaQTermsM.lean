/- Marks that the exact laws write into terms, and read again. -/
import Derived.Test.YtamncgpajkoiaaaQTermsX
import Derived.Test.YtamncgpajkoiaaaT10
import Derived.Test.YtamncgpajkoiaaaT11
namespace Go.Proofs.Ytamncgpajkoiaaa.Q
open Go.RowKit Go.Proofs.Ytamncgpajkoiaaa.T Go.Proofs.YtamncgpajkoiaaaW.PrintWords Go.Proofs.YtamncgpajkoiaaaW.PrintLast
set_option linter.unusedVariables false
set_option linter.unusedSimpArgs false

/-- The marks from a number on, in so many terms. -/
def marks : Nat → Int → List Tm
  | 0, _ => []
  | n + 1, a => ⟨a, a + 1⟩ :: marks n (a + 1 + 1)
theorem marks_length : ∀ (n : Nat) (a : Int), (marks n a).length = n
  | 0, _ => rfl
  | n + 1, a => by simp [marks, marks_length n]
theorem marks_snoc : ∀ (n : Nat) (a : Int), marks (n + 1) a = marks n a ++ [⟨a + 2 * n, a + 2 * n + 1⟩]
  | 0, a => by simp [marks]
  | n + 1, a => by
    rw [marks, marks_snoc n, marks]
    simp
    omega
theorem marks_at : ∀ (n : Nat) (a : Int) (j : Nat) (h : j < (marks n a).length), (marks n a)[j] = ⟨a + 2 * j, a + 2 * j + 1⟩
  | 0, a, j, h => by simp [marks] at h
  | n + 1, a, 0, h => by simp [marks]
  | n + 1, a, j + 1, h => by
    have := marks_at n (a + 1 + 1) j (by simpa [marks] using h)
    simp only [marks, List.getElem_cons_succ]
    rw [this]
    congr 1 <;> omega

theorem mark_loop (l : List Tm) (hl : l.length ≤ 1048576) : ∀ (d i : Nat), l.length - i = d → i ≤ l.length → Ev (fun k => laws_markTermS.l0 k (marks i 1 ++ l.drop i) (1 + 2 * (i : Int)) (i : Int)) (1 + 2 * (l.length : Int), marks l.length 1) := by
  intro d
  induction d with
  | zero =>
    intro i hd hi
    obtain rfl : i = l.length := by omega
    refine ev_succ ?_
    simp only [laws_markTermS.l0, List.drop_length, List.append_nil, marks_length, if_neg (show ¬ (l.length : Int) < (l.length : Int) by omega)]
    exact ev_some _
  | succ d ih =>
    intro i hd hi
    have e1 : wrap64 ((i : Int) + 1) = ((i + 1 : Nat) : Int) := by rw [wrap_id (by omega) (by omega)]; omega
    have e2 : wrap64 (1 + 2 * (i : Int) + 1) = 1 + 2 * (i : Int) + 1 := wrap_id (by omega) (by omega)
    have e3 : wrap64 (1 + 2 * (i : Int) + 1 + 1) = 1 + 2 * ((i + 1 : Nat) : Int) := by rw [wrap_id (by omega) (by omega)]; omega
    have hlen : (marks i 1 ++ l.drop i).length = l.length := by simp [marks_length]; omega
    refine ev_succ ?_
    have hd1 : l.drop i = rt l i :: l.drop (i + 1) := drop_at (by omega)
    have hr : ∀ (x : Tm) (r : List Tm), rd_T37 (marks i 1 ++ x :: r) (i : Int) = x := by
      intro x r
      unfold rd_T37
      rw [Int.toNat_natCast, List.getD_eq_getElem?_getD, List.getElem?_append_right (by rw [marks_length]; omega), marks_length]
      simp
    simp only [laws_markTermS.l0, hlen, if_pos (show (i : Int) < (l.length : Int) by omega), if_pos (show (0 : Int) ≤ i by omega), bsome, e1, e2, e3, Int.toNat_natCast]
    rw [hd1, hr]
    rw [set_mid _ _ _ _ _ (marks_length i 1).symm, hr, set_mid _ _ _ _ _ (marks_length i 1).symm]
    have := ih (i + 1) (by omega) (by omega)
    rw [marks_snoc, List.append_assoc] at this
    exact this
theorem held_loop (n : Nat) (hn : n ≤ 1048576) : ∀ (d i : Nat), n - i = d → i ≤ n → Ev (fun k => laws_heldTermS.l0 k (marks n 1) (1 + 2 * (i : Int)) (i : Int)) (1 + 2 * (n : Int)) := by
  intro d
  induction d with
  | zero =>
    intro i hd hi
    obtain rfl : i = n := by omega
    refine ev_succ ?_
    simp only [laws_heldTermS.l0, marks_length, if_neg (show ¬ (i : Int) < (i : Int) by omega)]
    exact ev_some _
  | succ d ih =>
    intro i hd hi
    have e1 : wrap64 ((i : Int) + 1) = ((i + 1 : Nat) : Int) := by rw [wrap_id (by omega) (by omega)]; omega
    have e2 : wrap64 (1 + 2 * (i : Int) + 1) = 1 + 2 * (i : Int) + 1 := wrap_id (by omega) (by omega)
    have e3 : wrap64 (1 + 2 * (i : Int) + 1 + 1) = 1 + 2 * ((i + 1 : Nat) : Int) := by rw [wrap_id (by omega) (by omega)]; omega
    have hr : rd_T37 (marks n 1) (i : Int) = ⟨1 + 2 * (i : Int), 1 + 2 * (i : Int) + 1⟩ := by
      show rt (marks n 1) (i : Int) = _
      rw [rt_nat _ _ (by rw [marks_length]; omega), marks_at]
    refine ev_succ ?_
    simp only [laws_heldTermS.l0, marks_length, if_pos (show (i : Int) < (n : Int) by omega), if_pos (show (0 : Int) ≤ i by omega), hr, e1, e2, e3, if_true]
    exact ih (i + 1) (by omega) (by omega)
theorem markTerms (l : List Tm) (hl : l.length ≤ 1048576) : ∃ m l', Ev (fun k => laws_markTermS.f k l 1) (m, l') ∧ 0 ≤ m ∧ Ev (fun k => laws_heldTermS.f k l' 1) m := by
  refine ⟨1 + 2 * (l.length : Int), marks l.length 1, ?_, by omega, ?_⟩
  · have := mark_loop l hl l.length 0 (by omega) (by omega)
    simpa [marks, laws_markTermS.f] using this
  · have := held_loop l.length hl l.length 0 (by omega) (by omega)
    simpa [laws_heldTermS.f] using this

end Go.Proofs.Ytamncgpajkoiaaa.Q
