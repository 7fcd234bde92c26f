/- What the exact laws of chapter 23 do with their arguments: copies, and comparisons. -/
import Derived.Test.YtamncgpajkoiaaaQTerms3
import Derived.Test.YtamncgpajkoiaaaT6
namespace Go.Proofs.Ytamncgpajkoiaaa.Q
open Go.RowKit Go.Proofs.Ytamncgpajkoiaaa.T Go.Proofs.YtamncgpajkoiaaaW.PrintWords Go.Proofs.YtamncgpajkoiaaaW.PrintLast
set_option linter.unusedVariables false
set_option linter.unusedSimpArgs false

abbrev Lm := S44
def toT (x : Lm) : Tm := ⟨x.f0, x.f1⟩
theorem rdL (l : List Lm) (j : Nat) (h : j < l.length) : rd_T44 l (j : Int) = l[j] := by
  unfold rd_T44
  rw [Int.toNat_natCast, List.getD_eq_getElem?_getD, List.getElem?_eq_getElem h]
  rfl
theorem szTerms (l : List Lm) (h : l.length ≤ maxLen) : (l.length ≤ 1048576 ∧ laws_szTermS.f l 1048576 = some (1048576 - (l.length : Int))) ∨ (1048576 < l.length ∧ laws_szTermS.f l 1048576 = some (-1)) := by
  unfold maxLen at h
  have e : wrap64 (1048576 - (l.length : Int)) = 1048576 - (l.length : Int) := wrap_id (by omega) (by omega)
  unfold laws_szTermS.f
  rw [e]
  by_cases hc : 1048576 - (l.length : Int) < 0
  · rw [if_pos hc]; exact .inr ⟨by omega, rfl⟩
  · rw [if_neg hc]; exact .inl ⟨by omega, rfl⟩

theorem set_mid {α : Type} (a : List α) (x y : α) (b : List α) (i : Nat) (h : i = a.length) : (a ++ x :: b).set i y = a ++ y :: b := by
  subst h
  simp

theorem toTerms_loop (l : List Lm) (hl : l.length ≤ 1048576) : ∀ (d i : Nat), l.length - i = d → i ≤ l.length → Ev (fun k => laws_toTermS.l0 k l ((l.map toT).take i ++ List.replicate (l.length - i) z37) (i : Int)) (l.map toT) := by
  intro d
  induction d with
  | zero =>
    intro i hd hi
    refine ev_succ ?_
    simp only [laws_toTermS.l0, if_neg (show ¬ (i : Int) < (l.length : Int) by omega)]
    rw [show l.length - i = 0 by omega, List.replicate_zero, List.append_nil, List.take_of_length_le (by simp; omega)]
    exact ev_some _
  | succ d ih =>
    intro i hd hi
    have hlt : (i : Int) < (l.length : Int) := by omega
    have e1 : wrap64 ((i : Int) + 1) = ((i + 1 : Nat) : Int) := by rw [wrap_id (by omega) (by omega)]; omega
    obtain ⟨m, hm⟩ : ∃ m, l.length - i = m + 1 := ⟨l.length - i - 1, by omega⟩
    have hlen : ((l.map toT).take i).length = i := by simp; omega
    have hset : ((l.map toT).take i ++ List.replicate (l.length - i) z37).set i (toT l[i]) = (l.map toT).take (i + 1) ++ List.replicate (l.length - (i + 1)) z37 := by
      rw [hm, List.replicate_succ, set_mid _ _ _ _ _ hlen.symm, show l.length - (i + 1) = m by omega, List.take_succ_eq_append_getElem (by simp; omega), List.append_assoc]
      simp
    refine ev_succ ?_
    simp only [laws_toTermS.l0, if_pos hlt, if_pos (show (0 : Int) ≤ i by omega), laws_toTerm.f, bsome, if_pos (show (i : Int) < ((((l.map toT).take i ++ List.replicate (l.length - i) z37).length : Nat) : Int) by simp; omega), e1, Int.toNat_natCast, rdL l i (by omega)]
    have := ih (i + 1) (by omega) (by omega)
    rw [← hset] at this
    exact this
theorem toTerms (l : List Lm) (hl : l.length ≤ 1048576) : Ev (fun k => laws_toTermS.f k l) (l.map toT) := by
  unfold laws_toTermS.f
  simp only [if_pos (show 0 ≤ (l.length : Int) by omega), Int.toNat_natCast, if_pos (show l.length ≤ 17592186044416 by omega)]
  have := toTerms_loop l hl l.length 0 (by omega) (by omega)
  simpa using this

theorem eqTerms_loop (a b : List Tm) (hl : a.length = b.length) (hs : a.length ≤ 1048576) : ∀ (d i : Nat), a.length - i = d → i ≤ a.length → Ev (fun k => laws_eqTermS.l0 k a b (i : Int)) (decide (a.drop i = b.drop i)) := by
  intro d
  induction d with
  | zero =>
    intro i hd hi
    rw [show a.drop i = [] from List.drop_eq_nil_of_le (by omega), show b.drop i = [] from List.drop_eq_nil_of_le (by omega)]
    refine ev_succ ?_
    simp only [laws_eqTermS.l0, if_neg (show ¬ (i : Int) < (a.length : Int) by omega), decide_true]
    exact ev_some _
  | succ d ih =>
    intro i hd hi
    have hlt : (i : Int) < (a.length : Int) := by omega
    have e1 : wrap64 ((i : Int) + 1) = ((i + 1 : Nat) : Int) := by rw [wrap_id (by omega) (by omega)]; omega
    rw [drop_at (show i < a.length by omega), drop_at (show i < b.length by omega)]
    refine ev_succ ?_
    simp only [laws_eqTermS.l0, if_pos hlt, if_pos (show (0 : Int) ≤ i by omega), if_pos (show (i : Int) < (b.length : Int) by omega), laws_eqTerm.f, e1]
    by_cases h0 : (rt a i).f0 = (rt b i).f0
    · by_cases h1 : (rt a i).f1 = (rt b i).f1
      · simp only [if_pos h0, if_pos h1, bsome, if_true]
        have := ih (i + 1) (by omega) (by omega)
        simpa [Tm_ext h0 h1] using this
      · have hne : ¬ rt a i = rt b i := fun h => h1 (by rw [h])
        simp only [if_pos h0, if_neg h1, bsome, Bool.false_eq_true, if_false]
        rw [decide_eq_false (by simp [hne])]
        exact ev_some _
    · have hne : ¬ rt a i = rt b i := fun h => h0 (by rw [h])
      simp only [if_neg h0, bsome, Bool.false_eq_true, if_false]
      rw [decide_eq_false (by simp [hne])]
      exact ev_some _
theorem eqTerms (a b : List Tm) (hs : a.length ≤ 1048576) : Ev (fun k => laws_eqTermS.f k a b) (decide (a = b)) := by
  unfold laws_eqTermS.f
  by_cases h : (a.length : Int) = (b.length : Int)
  · simp only [if_pos h]
    have := eqTerms_loop a b (by omega) hs a.length 0 (by omega) (by omega)
    simpa using this
  · simp only [if_neg h]
    rw [decide_eq_false (fun e => h (by rw [e]))]
    exact ev_some _
theorem eqTerms_self (a : List Tm) (hs : a.length ≤ 1048576) : Ev (fun k => laws_eqTermS.f k a a) true := by
  have := eqTerms a a hs
  rwa [decide_eq_true rfl] at this

end Go.Proofs.Ytamncgpajkoiaaa.Q
