/- What chapter 23's printed functions answer, in plain words: the validity of terms, what is cut, what the draws give. -/
import Derived.Test.YtamncgpajkoiaaaQEv
import Derived.Test.YtamncgpajkoiaaaQRd
import Derived.Test.YtamncgpajkoiaaaT3
import Derived.Test.YtamncgpajkoiaaaT2
import Derived.Test.YtamncgpajkoiaaaT4
namespace Go.Proofs.Ytamncgpajkoiaaa.Q
open Go.RowKit Go.Proofs.Ytamncgpajkoiaaa.T Go.Proofs.YtamncgpajkoiaaaW.PrintWords Go.Proofs.YtamncgpajkoiaaaW.PrintLast
set_option linter.unusedVariables false
set_option linter.unusedSimpArgs false

abbrev Tm := S37
abbrev rt (l : List Tm) (i : Int) : Tm := rd_T37 l i
theorem rt_nat (l : List Tm) (j : Nat) (h : j < l.length) : rt l (j : Int) = l[j] := by
  unfold rt rd_T37
  rw [Int.toNat_natCast, List.getD_eq_getElem?_getD, List.getElem?_eq_getElem h]
  rfl

theorem bytes_of {l : List Int} (h : ∀ x ∈ l, (Lit.int .u8 x).wf = true) : Bytes l := by
  intro x hx
  have := h x hx
  simp [Lit.wf, IntKind.min, IntKind.max, IntKind.signed, IntKind.bits] at this
  omega

theorem open_ev (l : List Int) (h : Bytes l) : ∃ b, spec_l6Open.f l = some (b, 0) ∧ Bytes b ∧ b.length ≤ 2000 := by
  unfold spec_l6Open.f
  by_cases hc : (l.length : Int) > 2000
  · rw [if_pos hc, if_pos (by omega)]
    exact ⟨_, rfl, fun x hx => h x (List.mem_of_mem_take hx), by rw [List.length_take]; omega⟩
  · rw [if_neg hc]
    exact ⟨_, rfl, h, by omega⟩

theorem terms_exit (bs : List Int) (hb : Bytes bs) (hl : bs.length ≤ 2000) (n : Int) (l : List Tm) (a b i p : Int) (hi : (l.length : Int) = i) (hlt : ¬ i < n) (h0 : 0 ≤ p) (h1 : p + 1 ≤ 900000000) (hi9 : i ≤ 9) :
    ∃ r p', Ev (fun k => spec_l92Terms.l0 k l n a b i bs p) (r, p') ∧ r.length ≤ 9 ∧ p ≤ p' ∧ p' ≤ p + 1 := by
  by_cases h2 : n > 1
  · obtain ⟨v, hv, v0, v1⟩ := pick_ev bs p 24 hb hl h0 (by omega) (by omega)
    by_cases hv0 : v = 0
    · refine ⟨?r, p + 1, ev_succ ?h, ?c, by omega, by omega⟩
      case h =>
        simp only [spec_l92Terms.l0, if_neg hlt, if_pos h2]
        refine Ev.bind hv ?_
        simp only [if_pos hv0, if_pos (show 1 < (l.length : Int) by omega)]
        exact ev_some _
      case c => rw [List.length_set]; omega
    · refine ⟨l, p + 1, ev_succ ?h, by omega, by omega, by omega⟩
      simp only [spec_l92Terms.l0, if_neg hlt, if_pos h2]
      refine Ev.bind hv ?_
      simp only [if_neg hv0]
      exact ev_some _
  · refine ⟨l, p, ev_succ ?_, by omega, by omega, by omega⟩
    simp only [spec_l92Terms.l0, if_neg hlt, if_neg h2]
    exact ev_some _

theorem terms_loop (bs : List Int) (hb : Bytes bs) (hl : bs.length ≤ 2000) (n : Int) (hn : n ≤ 9) : ∀ (d : Nat) (l : List Tm) (a b i p : Int), (l.length : Int) = i → n - i ≤ d → 0 ≤ p → p + 2 * d + 1 ≤ 900000000 → i ≤ 9 →
    ∃ r p', Ev (fun k => spec_l92Terms.l0 k l n a b i bs p) (r, p') ∧ r.length ≤ 9 ∧ p ≤ p' ∧ p' ≤ p + 2 * d + 1 := by
  intro d
  induction d with
  | zero =>
    intro l a b i p hi hd h0 h1 hi9
    obtain ⟨r, p', h, h2, h3, h4⟩ := terms_exit bs hb hl n l a b i p hi (by omega) h0 (by omega) hi9
    exact ⟨r, p', h, h2, h3, by omega⟩
  | succ d ih =>
    intro l a b i p hi hd h0 h1 hi9
    by_cases hlt : i < n
    · obtain ⟨v, hv, v0, v1⟩ := pick_ev bs p 3 hb hl h0 (by omega) (by omega)
      obtain ⟨u, hu, u0, u1⟩ := pick_ev bs (p + 1) 8 hb hl (by omega) (by omega) (by omega)
      obtain ⟨r, p', hr, h3, h4, h5⟩ := ih (l ++ [⟨a, b⟩]) (wrap64 ((wrap64 (a + 1)) + (wrap64 (Int.tdiv v 2)))) (wrap64 ((wrap64 (b + 1)) + u)) (i + 1) (p + 1 + 1) (by simp; omega) (by omega) (by omega) (by omega) (by omega)
      refine ⟨r, p', ev_succ ?_, h3, by omega, by omega⟩
      simp only [spec_l92Terms.l0, if_pos hlt, if_pos (show l.length < 8796093022208 by omega)]
      refine Ev.bind hv ?_
      refine Ev.bind hu ?_
      rw [show wrap64 (i + 1) = i + 1 from wrap_id (by omega) (by omega)]
      exact hr
    · obtain ⟨r, p', h, h2, h3, h4⟩ := terms_exit bs hb hl n l a b i p hi hlt h0 (by omega) hi9
      exact ⟨r, p', h, h2, h3, by omega⟩

theorem terms_ev (bs : List Int) (hb : Bytes bs) (hl : bs.length ≤ 2000) (p : Int) (h0 : 0 ≤ p) (h1 : p ≤ 1000000) :
    ∃ r p', Ev (fun k => spec_l92Terms.f k bs p) (r, p') ∧ r.length ≤ 9 ∧ 0 ≤ p' ∧ p' ≤ p + 30 := by
  obtain ⟨v, hv, v0, v1⟩ := pick_ev bs p 6 hb hl h0 (by omega) (by omega)
  obtain ⟨u, hu, u0, u1⟩ := pick_ev bs (p + 1) 20 hb hl (by omega) (by omega) (by omega)
  by_cases hu0 : u = 0
  · obtain ⟨x, hx, x0, x1⟩ := pick_ev bs (p + 1 + 1) 2 hb hl (by omega) (by omega) (by omega)
    obtain ⟨y, hy, y0, y1⟩ := pick_ev bs (p + 1 + 1 + 1) 3 hb hl (by omega) (by omega) (by omega)
    obtain ⟨r, p', hr, h3, h4, h5⟩ := terms_loop bs hb hl (8 + x) (by omega) 9 [] y 0 0 (p + 1 + 1 + 1 + 1) (by simp) (by omega) (by omega) (by omega) (by omega)
    refine ⟨r, p', ?_, h3, by omega, by omega⟩
    unfold spec_l92Terms.f
    simp only [bsome]
    refine Ev.bind hv ?_
    refine Ev.bind hu ?_
    simp only [if_pos hu0]
    refine Ev.bind hx ?_
    rw [show wrap64 (8 + x) = 8 + x from wrap_id (by omega) (by omega)]
    refine ev_succ ?_
    simp only [spec_l92Terms.j0]
    exact Ev.bind hy hr
  · obtain ⟨y, hy, y0, y1⟩ := pick_ev bs (p + 1 + 1) 3 hb hl (by omega) (by omega) (by omega)
    obtain ⟨r, p', hr, h3, h4, h5⟩ := terms_loop bs hb hl v (by omega) 9 [] y 0 0 (p + 1 + 1 + 1) (by simp) (by omega) (by omega) (by omega) (by omega)
    refine ⟨r, p', ?_, h3, by omega, by omega⟩
    unfold spec_l92Terms.f
    simp only [bsome]
    refine Ev.bind hv ?_
    refine Ev.bind hu ?_
    simp only [if_neg hu0]
    refine ev_succ ?_
    simp only [spec_l92Terms.j0]
    exact Ev.bind hy hr

/-! ### valid terms -/
def okT (t : Tm) : Prop := 0 ≤ t.f0 ∧ t.f0 ≤ 999 ∧ 0 ≤ t.f1 ∧ t.f1 ≤ 99999
instance (t : Tm) : Decidable (okT t) := by unfold okT; infer_instance
def ltT (a b : Tm) : Prop := a.f0 < b.f0 ∧ a.f1 < b.f1
instance (a b : Tm) : Decidable (ltT a b) := by unfold ltT; infer_instance
/-- From place i on all is fine. -/
def VF (l : List Tm) (i : Nat) : Prop := ∀ j, i ≤ j → j < l.length → okT (rt l j) ∧ (0 < j → ltT (rt l ((j : Int) - 1)) (rt l j))
def VT (l : List Tm) : Prop := l.length ≤ 8 ∧ VF l 0

theorem VF_end {l : List Tm} {i : Nat} (h : l.length ≤ i) : VF l i := fun j h1 h2 => by omega
theorem VF_step {l : List Tm} {i : Nat} (h : i < l.length) : VF l i ↔ (okT (rt l i) ∧ (0 < i → ltT (rt l ((i : Int) - 1)) (rt l i))) ∧ VF l (i + 1) := by
  constructor
  · intro hv
    exact ⟨hv i (Nat.le_refl _) h, fun j h1 h2 => hv j (by omega) h2⟩
  · rintro ⟨h1, h2⟩ j h3 h4
    by_cases e : j = i
    · subst e; exact h1
    · exact h2 j (by omega) h4

theorem impl_within_eq (a b c : Int) : impl_within.f a b c = some (decide (b ≤ a ∧ a ≤ c)) := by
  unfold impl_within.f
  by_cases h : a ≥ b
  · rw [if_pos h]
    have : (b ≤ a ∧ a ≤ c) ↔ a ≤ c := ⟨fun h => h.2, fun h' => ⟨h, h'⟩⟩
    simp [this]
  · rw [if_neg h]
    have : ¬ (b ≤ a ∧ a ≤ c) := fun h' => h h'.1
    simp [this]
theorem spec_l6In_eq (a b c : Int) : spec_l6In.f a b c = some (decide (b ≤ a ∧ a ≤ c)) := by
  unfold spec_l6In.f
  by_cases h : a ≥ b
  · rw [if_pos h]
    have : (b ≤ a ∧ a ≤ c) ↔ a ≤ c := ⟨fun h => h.2, fun h' => ⟨h, h'⟩⟩
    simp [this]
  · rw [if_neg h]
    have : ¬ (b ≤ a ∧ a ≤ c) := fun h' => h h'.1
    simp [this]

theorem implValid_loop (l : List Tm) (hl : l.length ≤ 1000000000000) : ∀ (d i : Nat), l.length - i = d → i ≤ l.length → ∃ b, Ev (fun k => impl_TermsValid.l0 k l l (l.length : Int) (i : Int)) b ∧ (b = true ↔ VF l i) := by
  intro d
  induction d with
  | zero =>
    intro i hd hi
    refine ⟨true, ev_succ ?_, by simp; exact VF_end (by omega)⟩
    simp only [impl_TermsValid.l0, if_neg (show ¬ (i : Int) < (l.length : Int) by omega)]
    exact ev_some _
  | succ d ih =>
    intro i hd hi
    have hlt : (i : Int) < (l.length : Int) := by omega
    obtain ⟨b, hb, hb2⟩ := ih (i + 1) (by omega) (by omega)
    have e1 : wrap64 ((i : Int) + 1) = ((i + 1 : Nat) : Int) := by rw [wrap_id (by omega) (by omega)]; omega
    rw [VF_step (show i < l.length by omega)]
    by_cases k1 : 0 ≤ (rt l i).f0 ∧ (rt l i).f0 ≤ 999
    · by_cases k2 : 0 ≤ (rt l i).f1 ∧ (rt l i).f1 ≤ 99999
      · have hok : okT (rt l i) := ⟨k1.1, k1.2, k2.1, k2.2⟩
        by_cases h0 : 0 < i
        · have e2 : wrap64 ((i : Int) - 1) = (i : Int) - 1 := wrap_id (by omega) (by omega)
          by_cases k3 : (rt l ((i : Int) - 1)).f0 ≥ (rt l i).f0
          · refine ⟨false, ev_succ ?_, ?_⟩
            · simp only [impl_TermsValid.l0, if_pos hlt, if_pos (show (0 : Int) ≤ i by omega), impl_within_eq, bsome, decide_eq_true_eq, if_pos k1, decide_eq_true k2, Bool.not_true]
              refine ev_succ ?_
              simp only [impl_TermsValid.j1, if_neg (show ¬ (false = true) by decide), if_pos (show (i : Int) > 0 by omega), e2, if_pos (show 0 ≤ (i : Int) - 1 by omega), if_pos (show (i : Int) - 1 < (l.length : Int) by omega), if_pos k3]
              exact ev_some _
            · simp only [Bool.false_eq_true, false_iff]
              rintro ⟨⟨_, h3⟩, _⟩
              have := (h3 h0).1
              omega
          · by_cases k4 : (rt l ((i : Int) - 1)).f1 ≥ (rt l i).f1
            · refine ⟨false, ev_succ ?_, ?_⟩
              · simp only [impl_TermsValid.l0, if_pos hlt, if_pos (show (0 : Int) ≤ i by omega), impl_within_eq, bsome, decide_eq_true_eq, if_pos k1, decide_eq_true k2, Bool.not_true]
                refine ev_succ ?_
                simp only [impl_TermsValid.j1, if_neg (show ¬ (false = true) by decide), if_pos (show (i : Int) > 0 by omega), e2, if_pos (show 0 ≤ (i : Int) - 1 by omega), if_pos (show (i : Int) - 1 < (l.length : Int) by omega), if_neg k3, if_pos k4]
                exact ev_some _
              · simp only [Bool.false_eq_true, false_iff]
                rintro ⟨⟨_, h3⟩, _⟩
                have := (h3 h0).2
                omega
            · refine ⟨b, ev_succ ?_, ?_⟩
              · simp only [impl_TermsValid.l0, if_pos hlt, if_pos (show (0 : Int) ≤ i by omega), impl_within_eq, bsome, decide_eq_true_eq, if_pos k1, decide_eq_true k2, Bool.not_true]
                refine ev_succ ?_
                simp only [impl_TermsValid.j1, if_neg (show ¬ (false = true) by decide), if_pos (show (i : Int) > 0 by omega), e2, if_pos (show 0 ≤ (i : Int) - 1 by omega), if_pos (show (i : Int) - 1 < (l.length : Int) by omega), if_neg k3, if_neg k4, e1]
                exact hb
              · rw [hb2]
                exact ⟨fun h => ⟨⟨hok, fun _ => ⟨by omega, by omega⟩⟩, h⟩, fun h => h.2⟩
        · refine ⟨b, ev_succ ?_, ?_⟩
          · simp only [impl_TermsValid.l0, if_pos hlt, if_pos (show (0 : Int) ≤ i by omega), impl_within_eq, bsome, decide_eq_true_eq, if_pos k1, decide_eq_true k2, Bool.not_true]
            refine ev_succ ?_
            simp only [impl_TermsValid.j1, if_neg (show ¬ (false = true) by decide), if_neg (show ¬ (i : Int) > 0 by omega), e1]
            exact hb
          · rw [hb2]
            exact ⟨fun h => ⟨⟨hok, fun h' => absurd h' h0⟩, h⟩, fun h => h.2⟩
      · refine ⟨false, ev_succ ?_, ?_⟩
        · simp only [impl_TermsValid.l0, if_pos hlt, if_pos (show (0 : Int) ≤ i by omega), impl_within_eq, bsome, decide_eq_true_eq, if_pos k1, decide_eq_false k2, Bool.not_false]
          refine ev_succ ?_
          simp only [impl_TermsValid.j1, if_true]
          exact ev_some _
        · simp only [Bool.false_eq_true, false_iff]
          rintro ⟨⟨h3, _⟩, _⟩
          exact k2 ⟨h3.2.2.1, h3.2.2.2⟩
    · refine ⟨false, ev_succ ?_, ?_⟩
      · simp only [impl_TermsValid.l0, if_pos hlt, if_pos (show (0 : Int) ≤ i by omega), impl_within_eq, bsome, decide_eq_true_eq, if_neg k1]
        refine ev_succ ?_
        simp only [impl_TermsValid.j1, if_true]
        exact ev_some _
      · simp only [Bool.false_eq_true, false_iff]
        rintro ⟨⟨h3, _⟩, _⟩
        exact k1 ⟨h3.1, h3.2.1⟩

theorem implValid_ev (l : List Tm) (hl : l.length ≤ 1000000000000) : ∃ b, Ev (fun k => impl_TermsValid.f k l) b ∧ (b = true ↔ VT l) := by
  unfold impl_TermsValid.f
  by_cases h : (l.length : Int) > 8
  · refine ⟨false, ?_, ?_⟩
    · simp only [if_pos h]; exact ev_some _
    · simp only [Bool.false_eq_true, false_iff]
      rintro ⟨h2, _⟩
      omega
  · obtain ⟨b, hb, hb2⟩ := implValid_loop l hl l.length 0 (by omega) (by omega)
    refine ⟨b, ?_, ?_⟩
    · simp only [if_neg h]; exact hb
    · rw [hb2]
      exact ⟨fun h' => ⟨by omega, h'⟩, fun h' => h'.2⟩

theorem specValid_loop (l : List Tm) (hl : l.length ≤ 1000000000000) : ∀ (d i : Nat), l.length - i = d → i ≤ l.length → ∃ b, Ev (fun k => spec_TermsValid.l0 k l (i : Int)) b ∧ (b = true ↔ (l.length ≤ 8 ∧ VF l i)) := by
  intro d
  induction d with
  | zero =>
    intro i hd hi
    refine ⟨decide ((l.length : Int) ≤ 8), ev_succ ?_, ?_⟩
    · simp only [spec_TermsValid.l0, if_neg (show ¬ (i : Int) < (l.length : Int) by omega)]
      exact ev_some _
    · simp only [decide_eq_true_eq]
      exact ⟨fun h => ⟨by omega, VF_end (by omega)⟩, fun h => by have := h.1; omega⟩
  | succ d ih =>
    intro i hd hi
    have hlt : (i : Int) < (l.length : Int) := by omega
    obtain ⟨b, hb, hb2⟩ := ih (i + 1) (by omega) (by omega)
    have e1 : wrap64 ((i : Int) + 1) = ((i + 1 : Nat) : Int) := by rw [wrap_id (by omega) (by omega)]; omega
    rw [VF_step (show i < l.length by omega)]
    by_cases k1 : 0 ≤ (rt l i).f0 ∧ (rt l i).f0 ≤ 999
    · by_cases k2 : 0 ≤ (rt l i).f1 ∧ (rt l i).f1 ≤ 99999
      · have hok : okT (rt l i) := ⟨k1.1, k1.2, k2.1, k2.2⟩
        by_cases h0 : 0 < i
        · have e2 : wrap64 ((i : Int) - 1) = (i : Int) - 1 := wrap_id (by omega) (by omega)
          by_cases k3 : (rt l ((i : Int) - 1)).f0 ≥ (rt l i).f0
          · refine ⟨false, ev_succ ?_, ?_⟩
            · simp only [spec_TermsValid.l0, if_pos hlt, if_pos (show (0 : Int) ≤ i by omega), spec_l6In_eq, bsome, decide_eq_true_eq, if_pos k1, if_pos k2, if_pos (show (i : Int) > 0 by omega), e2, if_pos (show 0 ≤ (i : Int) - 1 by omega), if_pos (show (i : Int) - 1 < (l.length : Int) by omega), if_pos k3]
              exact ev_some _
            · simp only [Bool.false_eq_true, false_iff]
              rintro ⟨_, ⟨_, h3⟩, _⟩
              have := (h3 h0).1
              omega
          · by_cases k4 : (rt l ((i : Int) - 1)).f1 ≥ (rt l i).f1
            · refine ⟨false, ev_succ ?_, ?_⟩
              · simp only [spec_TermsValid.l0, if_pos hlt, if_pos (show (0 : Int) ≤ i by omega), spec_l6In_eq, bsome, decide_eq_true_eq, if_pos k1, if_pos k2, if_pos (show (i : Int) > 0 by omega), e2, if_pos (show 0 ≤ (i : Int) - 1 by omega), if_pos (show (i : Int) - 1 < (l.length : Int) by omega), if_neg k3, if_pos k4]
                exact ev_some _
              · simp only [Bool.false_eq_true, false_iff]
                rintro ⟨_, ⟨_, h3⟩, _⟩
                have := (h3 h0).2
                omega
            · refine ⟨b, ev_succ ?_, ?_⟩
              · simp only [spec_TermsValid.l0, if_pos hlt, if_pos (show (0 : Int) ≤ i by omega), spec_l6In_eq, bsome, decide_eq_true_eq, if_pos k1, if_pos k2, if_pos (show (i : Int) > 0 by omega), e2, if_pos (show 0 ≤ (i : Int) - 1 by omega), if_pos (show (i : Int) - 1 < (l.length : Int) by omega), if_neg k3, if_neg k4, e1]
                exact hb
              · rw [hb2]
                exact ⟨fun h => ⟨h.1, ⟨hok, fun _ => ⟨by omega, by omega⟩⟩, h.2⟩, fun h => ⟨h.1, h.2.2⟩⟩
        · refine ⟨b, ev_succ ?_, ?_⟩
          · simp only [spec_TermsValid.l0, if_pos hlt, if_pos (show (0 : Int) ≤ i by omega), spec_l6In_eq, bsome, decide_eq_true_eq, if_pos k1, if_pos k2, if_neg (show ¬ (i : Int) > 0 by omega), e1]
            exact hb
          · rw [hb2]
            exact ⟨fun h => ⟨h.1, ⟨hok, fun h' => absurd h' h0⟩, h.2⟩, fun h => ⟨h.1, h.2.2⟩⟩
      · refine ⟨false, ev_succ ?_, ?_⟩
        · simp only [spec_TermsValid.l0, if_pos hlt, if_pos (show (0 : Int) ≤ i by omega), spec_l6In_eq, bsome, decide_eq_true_eq, if_pos k1, if_neg k2]
          exact ev_some _
        · simp only [Bool.false_eq_true, false_iff]
          rintro ⟨_, ⟨h3, _⟩, _⟩
          exact k2 ⟨h3.2.2.1, h3.2.2.2⟩
    · refine ⟨false, ev_succ ?_, ?_⟩
      · simp only [spec_TermsValid.l0, if_pos hlt, if_pos (show (0 : Int) ≤ i by omega), spec_l6In_eq, bsome, decide_eq_true_eq, if_neg k1]
        exact ev_some _
      · simp only [Bool.false_eq_true, false_iff]
        rintro ⟨_, ⟨h3, _⟩, _⟩
        exact k1 ⟨h3.1, h3.2.1⟩

theorem specValid_ev (l : List Tm) (hl : l.length ≤ 1000000000000) : ∃ b, Ev (fun k => spec_TermsValid.f k l) b ∧ (b = true ↔ VT l) := by
  unfold spec_TermsValid.f
  exact specValid_loop l hl l.length 0 (by omega) (by omega)

open Classical in
/-- Both say whether terms are valid. -/
noncomputable def vt (l : List Tm) : Bool := decide (VT l)
theorem vt_iff (l : List Tm) : vt l = true ↔ VT l := by unfold vt; simp
theorem vt_of {b : Bool} {l : List Tm} (h : b = true ↔ VT l) : b = vt l := by
  rw [Bool.eq_iff_iff, h, vt_iff]
theorem implValid (l : List Tm) (hl : l.length ≤ 1000000000000) : Ev (fun k => impl_TermsValid.f k l) (vt l) := by
  obtain ⟨b, hb, h⟩ := implValid_ev l hl
  rw [← vt_of h]; exact hb
theorem specValid (l : List Tm) (hl : l.length ≤ 1000000000000) : Ev (fun k => spec_TermsValid.f k l) (vt l) := by
  obtain ⟨b, hb, h⟩ := specValid_ev l hl
  rw [← vt_of h]; exact hb

end Go.Proofs.Ytamncgpajkoiaaa.Q
