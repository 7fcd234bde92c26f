/- Valid terms as a row that ascends. -/
import Derived.Test.YtamncgpajkoiaaaQList
import Derived.Test.YtamncgpajkoiaaaQTerms
namespace Go.Proofs.Ytamncgpajkoiaaa.Q
open Go.RowKit Go.Proofs.Ytamncgpajkoiaaa.T Go.Proofs.YtamncgpajkoiaaaW.PrintWords Go.Proofs.YtamncgpajkoiaaaW.PrintLast
set_option linter.unusedVariables false
set_option linter.unusedSimpArgs false

theorem ltT_trans {a b c : Tm} (h : ltT a b) (h' : ltT b c) : ltT a c := ⟨Int.lt_trans h.1 h'.1, Int.lt_trans h.2 h'.2⟩
theorem ltT_irrefl (a : Tm) : ¬ ltT a a := fun h => Int.lt_irrefl _ h.1

theorem VT_iff (l : List Tm) : VT l ↔ l.length ≤ 8 ∧ (∀ t ∈ l, okT t) ∧ l.Pairwise ltT := by
  constructor
  · rintro ⟨h8, hv⟩
    refine ⟨h8, ?_, pairwise_of_next (R := ltT) (fun _ _ _ => ltT_trans) ?_⟩
    · intro t ht
      obtain ⟨j, hj, rfl⟩ := List.getElem_of_mem ht
      have := (hv j (Nat.zero_le _) hj).1
      rwa [rt_nat l j hj] at this
    · intro j hj
      have := (hv (j + 1) (Nat.zero_le _) hj).2 (by omega)
      rw [rt_nat l (j + 1) hj] at this
      rw [show ((j + 1 : Nat) : Int) - 1 = (j : Int) by omega, rt_nat l j (by omega)] at this
      exact this
  · rintro ⟨h8, hok, hp⟩
    refine ⟨h8, fun j _ hj => ⟨?_, fun h0 => ?_⟩⟩
    · rw [rt_nat l j hj]
      exact hok _ (List.getElem_mem hj)
    · obtain ⟨i, rfl⟩ : ∃ i, j = i + 1 := ⟨j - 1, by omega⟩
      rw [rt_nat l (i + 1) hj, show ((i + 1 : Nat) : Int) - 1 = (i : Int) by omega, rt_nat l i (by omega)]
      exact next_of_pairwise hp i hj
theorem VT_sublist {l m : List Tm} (h : VT l) (hs : m.Sublist l) : VT m := by
  rw [VT_iff] at h ⊢
  exact ⟨Nat.le_trans hs.length_le h.1, fun t ht => h.2.1 t (hs.subset ht), h.2.2.sublist hs⟩
theorem VT_without {l : List Tm} (h : VT l) (k : Nat) : VT (l.take k ++ l.drop (k + 1)) := VT_sublist h (sublist_without l k)
theorem VT_twice {l : List Tm} {k : Nat} (hk : k < l.length) : ¬ VT (l.take (k + 1) ++ l.drop k) := by
  rw [VT_iff]
  exact fun h => twice_not_pairwise ltT_irrefl hk h.2.2
theorem VT_len {l : List Tm} (h : VT l) : l.length ≤ 8 := h.1

end Go.Proofs.Ytamncgpajkoiaaa.Q
