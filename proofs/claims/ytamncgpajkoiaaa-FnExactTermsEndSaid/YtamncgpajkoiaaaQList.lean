/- Plain words on lists: rows that ascend. -/
import Derived.RowKit
namespace Go.Proofs.Ytamncgpajkoiaaa.Q
set_option linter.unusedVariables false
set_option linter.unusedSimpArgs false

/-- Each element stands in R to the one before: any two, then, if R is transitive. -/
theorem pairwise_of_next {α : Type} {R : α → α → Prop} (tr : ∀ a b c, R a b → R b c → R a c) {l : List α} (h : ∀ j (h : j + 1 < l.length), R (l[j]'(by omega)) l[j + 1]) : l.Pairwise R := by
  rw [List.pairwise_iff_getElem]
  intro i j hi hj hij
  obtain ⟨d, rfl⟩ : ∃ d, j = i + 1 + d := ⟨j - i - 1, by omega⟩
  clear hij
  induction d with
  | zero => exact h i (by omega)
  | succ d ih => exact tr _ _ _ (ih (by omega)) (h (i + 1 + d) (by omega))
theorem next_of_pairwise {α : Type} {R : α → α → Prop} {l : List α} (h : l.Pairwise R) (j : Nat) (hj : j + 1 < l.length) : R (l[j]'(by omega)) l[j + 1] :=
  List.pairwise_iff_getElem.1 h j (j + 1) (by omega) hj (by omega)

theorem sublist_without {α : Type} (l : List α) (k : Nat) : (l.take k ++ l.drop (k + 1)).Sublist l := by
  conv => rhs; rw [← List.take_append_drop k l]
  refine List.Sublist.append (List.Sublist.refl _) ?_
  rw [← List.drop_drop]
  exact List.drop_sublist 1 _
theorem twice_not_pairwise {α : Type} {R : α → α → Prop} (ir : ∀ a, ¬ R a a) {l : List α} {k : Nat} (hk : k < l.length) : ¬ (l.take (k + 1) ++ l.drop k).Pairwise R := by
  intro h
  rw [List.pairwise_append] at h
  have h1 : l[k] ∈ l.take (k + 1) := by
    rw [List.mem_iff_getElem]
    exact ⟨k, by rw [List.length_take]; omega, by simp⟩
  have h2 : l[k] ∈ l.drop k := by
    rw [List.mem_iff_getElem]
    exact ⟨0, by rw [List.length_drop]; omega, by simp⟩
  exact ir _ (h.2.2 _ h1 _ h2)

/-- Of a row that ascends, what is ahead of a mark is its beginning. -/
theorem filter_prefix {α : Type} {R : α → α → Prop} {p : α → Bool} (mono : ∀ a b, R a b → p b = true → p a = true) : ∀ {l : List α}, l.Pairwise R →
    l.filter p = l.take (l.filter p).length ∧ ∀ h : (l.filter p).length < l.length, p (l[(l.filter p).length]'h) = false
  | [], _ => ⟨rfl, fun h => by simp at h⟩
  | a :: l, h => by
    rw [List.pairwise_cons] at h
    obtain ⟨ih1, ih2⟩ := filter_prefix mono h.2
    by_cases ha : p a = true
    · rw [List.filter_cons_of_pos ha]
      refine ⟨by rw [List.length_cons, List.take_succ_cons, ← ih1], fun h' => ?_⟩
      have := ih2 (by simpa using h')
      simpa using this
    · have hn : l.filter p = [] := by
        rw [List.filter_eq_nil_iff]
        exact fun b hb hp => ha (mono a b (h.1 b hb) hp)
      rw [List.filter_cons_of_neg ha, hn]
      exact ⟨by simp, fun _ => by simpa using ha⟩
theorem filter_length_le {α : Type} {p q : α → Bool} (h : ∀ a, p a = true → q a = true) (l : List α) : (l.filter p).length ≤ (l.filter q).length := by
  rw [← List.countP_eq_length_filter, ← List.countP_eq_length_filter]
  exact List.countP_mono_left (fun a _ => h a)

end Go.Proofs.Ytamncgpajkoiaaa.Q
