/- What TermsCut and the comparison of terms answer, in plain words. -/
import Derived.Test.YtamncgpajkoiaaaQTerms2
import Derived.Test.YtamncgpajkoiaaaT7
namespace Go.Proofs.Ytamncgpajkoiaaa.Q
open Go.RowKit Go.Proofs.Ytamncgpajkoiaaa.T Go.Proofs.YtamncgpajkoiaaaW.PrintWords Go.Proofs.YtamncgpajkoiaaaW.PrintLast

theorem Tm_ext {a b : Tm} (h0 : a.f0 = b.f0) (h1 : a.f1 = b.f1) : a = b := by
  cases a
  cases b
  simp at h0 h1
  rw [h0, h1]
instance : DecidableEq Tm := fun a b => decidable_of_iff (a.f0 = b.f0 ∧ a.f1 = b.f1) ⟨fun h => Tm_ext h.1 h.2, fun h => by rw [h]; exact ⟨rfl, rfl⟩⟩

theorem drop_at {l : List Tm} {i : Nat} (h : i < l.length) : l.drop i = rt l i :: l.drop (i + 1) := by
  rw [List.drop_eq_getElem_cons h, rt_nat l i h]
def aheadT (o : Int) (t : Tm) : Bool := decide (t.f1 < o)

theorem implCut_loop (o : Int) (l : List Tm) (hl : l.length ≤ 1000000000000) : ∀ (d i : Nat) (acc : List Tm), l.length - i = d → i ≤ l.length → acc.length ≤ i → Ev (fun k => impl_TermsCut.l0 k o acc l (l.length : Int) (i : Int)) (acc ++ (l.drop i).filter (aheadT o), true) := by
  intro d
  induction d with
  | zero =>
    intro i acc hd hi ha
    rw [show l.drop i = [] from List.drop_eq_nil_of_le (by omega), List.filter_nil, List.append_nil]
    refine ev_succ ?_
    simp only [impl_TermsCut.l0, if_neg (show ¬ (i : Int) < (l.length : Int) by omega)]
    exact ev_some _
  | succ d ih =>
    intro i acc hd hi ha
    have hlt : (i : Int) < (l.length : Int) := by omega
    have e1 : wrap64 ((i : Int) + 1) = ((i + 1 : Nat) : Int) := by rw [wrap_id (by omega) (by omega)]; omega
    rw [drop_at (show i < l.length by omega)]
    refine ev_succ ?_
    by_cases h : (rt l i).f1 < o
    · rw [List.filter_cons_of_pos (show aheadT o (rt l i) = true by simpa [aheadT] using h), show acc ++ rt l i :: (l.drop (i + 1)).filter (aheadT o) = (acc ++ [rt l i]) ++ (l.drop (i + 1)).filter (aheadT o) by simp]
      simp only [impl_TermsCut.l0, if_pos hlt, if_pos (show (0 : Int) ≤ i by omega), if_pos h, if_pos (show acc.length < 8796093022208 by omega), e1]
      exact ih (i + 1) (acc ++ [rt l i]) (by omega) (by omega) (by simp; omega)
    · rw [List.filter_cons_of_neg (show ¬ aheadT o (rt l i) = true by simpa [aheadT] using h)]
      simp only [impl_TermsCut.l0, if_pos hlt, if_pos (show (0 : Int) ≤ i by omega), if_neg h, e1]
      exact ih (i + 1) acc (by omega) (by omega) (by omega)
theorem specCut_loop (o : Int) (l : List Tm) (hl : l.length ≤ 1000000000000) : ∀ (d i : Nat) (acc : List Tm), l.length - i = d → i ≤ l.length → acc.length ≤ i → Ev (fun k => spec_TermsCut.l0 k l o acc (i : Int)) (acc ++ (l.drop i).filter (aheadT o), true) := by
  intro d
  induction d with
  | zero =>
    intro i acc hd hi ha
    rw [show l.drop i = [] from List.drop_eq_nil_of_le (by omega), List.filter_nil, List.append_nil]
    refine ev_succ ?_
    simp only [spec_TermsCut.l0, if_neg (show ¬ (i : Int) < (l.length : Int) by omega)]
    exact ev_some _
  | succ d ih =>
    intro i acc hd hi ha
    have hlt : (i : Int) < (l.length : Int) := by omega
    have e1 : wrap64 ((i : Int) + 1) = ((i + 1 : Nat) : Int) := by rw [wrap_id (by omega) (by omega)]; omega
    rw [drop_at (show i < l.length by omega)]
    refine ev_succ ?_
    by_cases h : (rt l i).f1 < o
    · rw [List.filter_cons_of_pos (show aheadT o (rt l i) = true by simpa [aheadT] using h), show acc ++ rt l i :: (l.drop (i + 1)).filter (aheadT o) = (acc ++ [rt l i]) ++ (l.drop (i + 1)).filter (aheadT o) by simp]
      simp only [spec_TermsCut.l0, if_pos hlt, if_pos (show (0 : Int) ≤ i by omega), if_pos h, if_pos (show acc.length < 8796093022208 by omega), e1]
      exact ih (i + 1) (acc ++ [rt l i]) (by omega) (by omega) (by simp; omega)
    · rw [List.filter_cons_of_neg (show ¬ aheadT o (rt l i) = true by simpa [aheadT] using h)]
      simp only [spec_TermsCut.l0, if_pos hlt, if_pos (show (0 : Int) ≤ i by omega), if_neg h, e1]
      exact ih (i + 1) acc (by omega) (by omega) (by omega)

noncomputable def cutT (l : List Tm) (o : Int) : List Tm := if vt l = true then l.filter (aheadT o) else []
theorem implCut (l : List Tm) (o : Int) (hl : l.length ≤ 1000000000000) : Ev (fun k => impl_TermsCut.f k l o) (cutT l o, vt l) := by
  unfold impl_TermsCut.f
  refine Ev.bind (implValid l hl) ?_
  by_cases h : vt l = true
  · simp only [if_pos h]
    have := implCut_loop o l hl l.length 0 [] (by omega) (by omega) (by simp)
    simpa [cutT, h] using this
  · simp only [if_neg h]
    have h' : vt l = false := by simpa using h
    simp only [cutT, h', Bool.false_eq_true, if_false]
    exact ev_some _
theorem specCut (l : List Tm) (o : Int) (hl : l.length ≤ 1000000000000) : Ev (fun k => spec_TermsCut.f k l o) (cutT l o, vt l) := by
  unfold spec_TermsCut.f
  simp only [bsome]
  refine Ev.bind (specValid l hl) ?_
  by_cases h : vt l = true
  · simp only [if_pos h]
    have := specCut_loop o l hl l.length 0 [] (by omega) (by omega) (by simp)
    simpa [cutT, h] using this
  · simp only [if_neg h]
    have h' : vt l = false := by simpa using h
    simp only [cutT, h', Bool.false_eq_true, if_false]
    exact ev_some _

theorem same_loop (a b : List Tm) (hl : a.length = b.length) (hs : a.length ≤ 1000000000000) : ∀ (d i : Nat), a.length - i = d → i ≤ a.length → Ev (fun k => laws_sameTerms.l0 k a b (i : Int)) (decide (a.drop i = b.drop i)) := by
  intro d
  induction d with
  | zero =>
    intro i hd hi
    rw [show a.drop i = [] from List.drop_eq_nil_of_le (by omega), show b.drop i = [] from List.drop_eq_nil_of_le (by omega)]
    refine ev_succ ?_
    simp only [laws_sameTerms.l0, if_neg (show ¬ (i : Int) < (a.length : Int) by omega), decide_true]
    exact ev_some _
  | succ d ih =>
    intro i hd hi
    have hlt : (i : Int) < (a.length : Int) := by omega
    have e1 : wrap64 ((i : Int) + 1) = ((i + 1 : Nat) : Int) := by rw [wrap_id (by omega) (by omega)]; omega
    rw [drop_at (show i < a.length by omega), drop_at (show i < b.length by omega)]
    refine ev_succ ?_
    by_cases h : rt a i = rt b i
    · have hc : ((!((rt a i).f0 == (rt b i).f0) || (!((rt a i).f1 == (rt b i).f1))) = true) = False := by rw [h]; simp
      simp only [laws_sameTerms.l0, if_pos hlt, if_pos (show (0 : Int) ≤ i by omega), if_pos (show (i : Int) < (b.length : Int) by omega), hc, if_false, e1]
      have := ih (i + 1) (by omega) (by omega)
      simpa [h] using this
    · have hc : ((!((rt a i).f0 == (rt b i).f0) || (!((rt a i).f1 == (rt b i).f1))) = true) = True := by
        refine eq_true ?_
        by_cases h0 : (rt a i).f0 = (rt b i).f0
        · have : ¬ (rt a i).f1 = (rt b i).f1 := fun h1 => h (Tm_ext h0 h1)
          simp [h0, this]
        · simp [h0]
      simp only [laws_sameTerms.l0, if_pos hlt, if_pos (show (0 : Int) ≤ i by omega), if_pos (show (i : Int) < (b.length : Int) by omega), hc, if_true]
      rw [decide_eq_false (by simp [h])]
      exact ev_some _
theorem sameTerms (a b : List Tm) (hs : a.length ≤ 1000000000000) : Ev (fun k => laws_sameTerms.f k a b) (decide (a = b)) := by
  unfold laws_sameTerms.f
  by_cases h : (a.length : Int) = (b.length : Int)
  · simp only [if_pos h]
    have := same_loop a b (by omega) hs a.length 0 (by omega) (by omega)
    simpa using this
  · simp only [if_neg h]
    rw [decide_eq_false (fun e => h (by rw [e]))]
    exact ev_some _

theorem cutT_len (l : List Tm) (o : Int) : (cutT l o).length ≤ l.length := by
  unfold cutT
  split
  · exact List.length_filter_le _ _
  · simp
theorem cutT_valid {l : List Tm} (o : Int) (h : VT l) : VT (l.filter (aheadT o)) := VT_sublist h List.filter_sublist

end Go.Proofs.Ytamncgpajkoiaaa.Q
