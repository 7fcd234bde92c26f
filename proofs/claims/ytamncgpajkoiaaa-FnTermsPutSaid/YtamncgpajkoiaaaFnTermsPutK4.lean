/- FnTermsPut, part 5 of 5: merged by wip/tools/pack.py out of the texts that the row reaches; the pure statement is the session's own. -/
import Derived.Test.YtamncgpajkoiaaaRows
import Derived.WalkKit
import Derived.ProofKit
import Derived.OpenShut
import Derived.ShutString
import Derived.ChangeOld
import Derived.Below
import Derived.SizedLaws
import Derived.Test.YtamncgpajkoiaaaFnTermsPutK3
namespace Go.Proofs.Ytamncgpajkoiaaa.UQ
open Go.RowKit Go.Proofs.Ytamncgpajkoiaaa.U Go.Proofs.YtamncgpajkoiaaaW.PrintWords Go.Proofs.YtamncgpajkoiaaaW.PrintLast
set_option linter.unusedVariables false
set_option linter.unusedSimpArgs false
theorem wrap_id {x : Int} (h0 : -9223372036854775808 ≤ x) (h1 : x < 9223372036854775808) : wrap64 x = x := by unfold wrap64; omega
theorem tmod_range {x n : Int} (h : 0 ≤ x) (hn : 1 ≤ n) : 0 ≤ Int.tmod x n ∧ Int.tmod x n < n := by
  rw [Int.tmod_eq_emod_of_nonneg h]
  exact ⟨Int.emod_nonneg _ (by omega), Int.emod_lt_of_pos _ (by omega)⟩
theorem xor_nonneg {a b : Int} (h1 : 0 ≤ a) (h2 : a < 4611686018427387904) (h3 : 0 ≤ b) (h4 : b < 4611686018427387904) : 0 ≤ Go.bits .xor .i64 a b := by
  obtain ⟨A, rfl⟩ := Int.eq_ofNat_of_zero_le h1
  obtain ⟨B, rfl⟩ := Int.eq_ofNat_of_zero_le h3
  have hx : A ^^^ B < 2 ^ 62 := Nat.xor_lt_two_pow (by omega) (by omega)
  have e1 : (BitVec.ofInt 64 (A : Int)).toNat = A := by
    rw [BitVec.ofInt_natCast, BitVec.toNat_ofNat]; exact Nat.mod_eq_of_lt (by omega)
  have e2 : (BitVec.ofInt 64 (B : Int)).toNat = B := by
    rw [BitVec.ofInt_natCast, BitVec.toNat_ofNat]; exact Nat.mod_eq_of_lt (by omega)
  show 0 ≤ IntKind.i64.wrap ((BitVec.ofInt 64 (A : Int) ^^^ BitVec.ofInt 64 (B : Int)).toNat : Int)
  rw [BitVec.toNat_xor, e1, e2]
  simp only [IntKind.wrap, IntKind.bits, IntKind.signed]
  simp
  omega
def Bytes (b : List Int) : Prop := ∀ x ∈ b, 0 ≤ x ∧ x ≤ 255
theorem rd_bytes {b : List Int} (h : Bytes b) (i : Int) : 0 ≤ rd b i ∧ rd b i ≤ 255 := by
  unfold rd
  rw [List.getD_eq_getElem?_getD]
  cases e : b[i.toNat]? with
  | none => simp
  | some x => exact h x (List.mem_of_getElem? e)
theorem pick_ev (b : List Int) (p n : Int) (hb : Bytes b) (hl : b.length ≤ 2000) (h0 : 0 ≤ p) (h1 : p ≤ 1000000000) (hn : 1 ≤ n) :
    ∃ v, Ev (fun k => spec_l6Rd_pick.f k b p n) (v, p + 1) ∧ 0 ≤ v ∧ v < n := by
  have e1 : wrap64 (p + 1) = p + 1 := wrap_id (by omega) (by omega)
  have e2 : wrap64 (p + 1 - 1) = p := by rw [wrap_id (by omega) (by omega)]; omega
  by_cases hz : b.length = 0
  · refine ⟨0, ⟨1, fun k hk => ?_⟩, by omega, by omega⟩
    obtain ⟨k, rfl⟩ : ∃ m, k = m + 1 := ⟨k - 1, by omega⟩
    show spec_l6Rd_pick.f (k + 1) b p n = _
    unfold spec_l6Rd_pick.f
    rw [if_neg (by omega), e1]
    simp [spec_l6Rd_pick.j0, hz]
  · have hz' : (((b.length : Int) == 0) = true) = False := by simp; intro h; simp [h] at hz
    by_cases hlt : p < (b.length : Int)
    · obtain ⟨r0, r1⟩ := rd_bytes hb p
      have := tmod_range (x := rd b p) r0 hn
      refine ⟨Int.tmod (rd b p) n, ⟨1, fun k hk => ?_⟩, this.1, this.2⟩
      obtain ⟨k, rfl⟩ : ∃ m, k = m + 1 := ⟨k - 1, by omega⟩
      show spec_l6Rd_pick.f (k + 1) b p n = _
      unfold spec_l6Rd_pick.f
      rw [if_neg (by omega), e1]
      simp only [spec_l6Rd_pick.j0, e2, hz']
      rw [if_neg (by simp), if_pos hlt, if_pos h0, if_neg (by omega), wrap_id (by omega) (by omega)]
    · obtain ⟨q0, q1⟩ := tmod_range (x := p) (n := (b.length : Int)) h0 (by omega)
      obtain ⟨r0, r1⟩ := rd_bytes hb (Int.tmod p (b.length : Int))
      have f1 : wrap64 (p * 7) = p * 7 := wrap_id (by omega) (by omega)
      have f2 : wrap64 (p * 7 + 3) = p * 7 + 3 := wrap_id (by omega) (by omega)
      obtain ⟨q2, q3⟩ := tmod_range (x := p * 7 + 3) (n := (b.length : Int)) (by omega) (by omega)
      obtain ⟨r2, r3⟩ := rd_bytes hb (Int.tmod (p * 7 + 3) (b.length : Int))
      have d0 : 0 ≤ Int.tdiv p (b.length : Int) ∧ Int.tdiv p (b.length : Int) ≤ p := by
        rw [Int.tdiv_eq_ediv_of_nonneg h0]
        exact ⟨Int.ediv_nonneg h0 (by omega), Int.ediv_le_self _ h0⟩
      obtain ⟨x, hx⟩ : ∃ x, x = rd b (Int.tmod p (b.length : Int)) := ⟨_, rfl⟩
      obtain ⟨y, hy⟩ : ∃ y, y = rd b (Int.tmod (p * 7 + 3) (b.length : Int)) := ⟨_, rfl⟩
      obtain ⟨z, hz2⟩ : ∃ z, z = Int.tdiv p (b.length : Int) := ⟨_, rfl⟩
      obtain ⟨s, hs⟩ : ∃ s, s = x * 131 + y * 1117 + p * 29 + z * 53 := ⟨_, rfl⟩
      rw [← hx] at r0 r1
      rw [← hy] at r2 r3
      rw [← hz2] at d0
      have s0 : 0 ≤ s ∧ s < 4611686018427387904 := by omega
      have t0 : 0 ≤ Int.tdiv s 64 ∧ Int.tdiv s 64 ≤ s := by
        rw [Int.tdiv_eq_ediv_of_nonneg s0.1]
        exact ⟨Int.ediv_nonneg s0.1 (by omega), Int.ediv_le_self _ s0.1⟩
      have w1 : wrap64 x = x := wrap_id (by omega) (by omega)
      have w2 : wrap64 y = y := wrap_id (by omega) (by omega)
      have w3 : wrap64 z = z := wrap_id (by omega) (by omega)
      have w4 : wrap64 (x * 131) = x * 131 := wrap_id (by omega) (by omega)
      have w5 : wrap64 (y * 1117) = y * 1117 := wrap_id (by omega) (by omega)
      have w6 : wrap64 (p * 29) = p * 29 := wrap_id (by omega) (by omega)
      have w7 : wrap64 (z * 53) = z * 53 := wrap_id (by omega) (by omega)
      have w8 : wrap64 (x * 131 + y * 1117) = x * 131 + y * 1117 := wrap_id (by omega) (by omega)
      have w9 : wrap64 (x * 131 + y * 1117 + p * 29) = x * 131 + y * 1117 + p * 29 := wrap_id (by omega) (by omega)
      have wa : wrap64 (x * 131 + y * 1117 + p * 29 + z * 53) = s := by rw [hs]; exact wrap_id (by omega) (by omega)
      have wb : wrap64 (Int.tdiv s 64) = Int.tdiv s 64 := wrap_id (by omega) (by omega)
      have := tmod_range (x := Go.bits .xor .i64 s (Int.tdiv s 64)) (n := n) (xor_nonneg s0.1 s0.2 t0.1 (by omega)) hn
      refine ⟨_, ⟨1, fun k hk => ?_⟩, this.1, this.2⟩
      obtain ⟨k, rfl⟩ : ∃ m, k = m + 1 := ⟨k - 1, by omega⟩
      show spec_l6Rd_pick.f (k + 1) b p n = _
      unfold spec_l6Rd_pick.f
      rw [if_neg (by omega), e1]
      simp only [spec_l6Rd_pick.j0, e2, hz', f1, f2]
      rw [if_neg (by simp), if_neg hlt, if_neg (by omega), if_pos q0, if_pos q1, if_pos q2, if_pos q3, if_neg (by omega), ← hx, ← hy, ← hz2, w1, w2, w3, w4, w5, w6, w7, w8, w9, wa, wb]
theorem pick_evs (b : List Int) (p n : Int) (hb : Bytes b) (hl : b.length ≤ 2000) (h0 : 0 ≤ p) (h1 : p ≤ 1000000000) (hn : 1 ≤ n) :
    Evs (fun k => spec_l6Rd_pick.f k b p n) (fun r => 0 ≤ r.1 ∧ r.1 < n ∧ r.2 = p + 1) := by
  obtain ⟨v, h, v0, v1⟩ := pick_ev b p n hb hl h0 h1 hn
  exact ⟨_, h, v0, v1, rfl⟩
end Go.Proofs.Ytamncgpajkoiaaa.UQ
namespace Go.Proofs.Ytamncgpajkoiaaa.UQ
open Go.RowKit Go.Proofs.Ytamncgpajkoiaaa.U Go.Proofs.YtamncgpajkoiaaaW.PrintWords Go.Proofs.YtamncgpajkoiaaaW.PrintLast
set_option linter.unusedVariables false
set_option linter.unusedSimpArgs false
abbrev Tm := S37
abbrev rt (l : List Tm) (i : Int) : Tm := rd_T37 l i
theorem rt_nat (l : List Tm) (j : Nat) (h : j < l.length) : rt l (j : Int) = l[j] := by
  unfold rt rd_T37
  rw [Int.toNat_natCast, List.getD_eq_getElem?_getD, List.getElem?_eq_getElem h]
  rfl
theorem bytes_of {l : List Int} (h : ∀ x ∈ l, (Lit.int .u8 x).wf = true) : Bytes l := by
  intro x hx
  have := h x hx
  simp [Lit.wf, IntKind.min, IntKind.max, IntKind.signed, IntKind.bits] at this
  omega
theorem open_ev (l : List Int) (h : Bytes l) : ∃ b, spec_l6Open.f l = some (b, 0) ∧ Bytes b ∧ b.length ≤ 2000 := by
  unfold spec_l6Open.f
  by_cases hc : (l.length : Int) > 2000
  · rw [if_pos hc, if_pos (by omega)]
    exact ⟨_, rfl, fun x hx => h x (List.mem_of_mem_take hx), by rw [List.length_take]; omega⟩
  · rw [if_neg hc]
    exact ⟨_, rfl, h, by omega⟩
theorem terms_exit (bs : List Int) (hb : Bytes bs) (hl : bs.length ≤ 2000) (n : Int) (l : List Tm) (a b i p : Int) (hi : (l.length : Int) = i) (hlt : ¬ i < n) (h0 : 0 ≤ p) (h1 : p + 1 ≤ 900000000) (hi9 : i ≤ 9) :
    ∃ r p', Ev (fun k => spec_l92Terms.l0 k l n a b i bs p) (r, p') ∧ r.length ≤ 9 ∧ p ≤ p' ∧ p' ≤ p + 1 := by
  by_cases h2 : n > 1
  · obtain ⟨v, hv, v0, v1⟩ := pick_ev bs p 24 hb hl h0 (by omega) (by omega)
    by_cases hv0 : v = 0
    · refine ⟨?r, p + 1, ev_succ ?h, ?c, by omega, by omega⟩
      case h =>
        simp only [spec_l92Terms.l0, if_neg hlt, if_pos h2]
        refine Ev.bind hv ?_
        simp only [if_pos hv0, if_pos (show 1 < (l.length : Int) by omega)]
        exact ev_some _
      case c => rw [List.length_set]; omega
    · refine ⟨l, p + 1, ev_succ ?h, by omega, by omega, by omega⟩
      simp only [spec_l92Terms.l0, if_neg hlt, if_pos h2]
      refine Ev.bind hv ?_
      simp only [if_neg hv0]
      exact ev_some _
  · refine ⟨l, p, ev_succ ?_, by omega, by omega, by omega⟩
    simp only [spec_l92Terms.l0, if_neg hlt, if_neg h2]
    exact ev_some _
theorem terms_loop (bs : List Int) (hb : Bytes bs) (hl : bs.length ≤ 2000) (n : Int) (hn : n ≤ 9) : ∀ (d : Nat) (l : List Tm) (a b i p : Int), (l.length : Int) = i → n - i ≤ d → 0 ≤ p → p + 2 * d + 1 ≤ 900000000 → i ≤ 9 →
    ∃ r p', Ev (fun k => spec_l92Terms.l0 k l n a b i bs p) (r, p') ∧ r.length ≤ 9 ∧ p ≤ p' ∧ p' ≤ p + 2 * d + 1 := by
  intro d
  induction d with
  | zero =>
    intro l a b i p hi hd h0 h1 hi9
    obtain ⟨r, p', h, h2, h3, h4⟩ := terms_exit bs hb hl n l a b i p hi (by omega) h0 (by omega) hi9
    exact ⟨r, p', h, h2, h3, by omega⟩
  | succ d ih =>
    intro l a b i p hi hd h0 h1 hi9
    by_cases hlt : i < n
    · obtain ⟨v, hv, v0, v1⟩ := pick_ev bs p 3 hb hl h0 (by omega) (by omega)
      obtain ⟨u, hu, u0, u1⟩ := pick_ev bs (p + 1) 8 hb hl (by omega) (by omega) (by omega)
      obtain ⟨r, p', hr, h3, h4, h5⟩ := ih (l ++ [⟨a, b⟩]) (wrap64 ((wrap64 (a + 1)) + (wrap64 (Int.tdiv v 2)))) (wrap64 ((wrap64 (b + 1)) + u)) (i + 1) (p + 1 + 1) (by simp; omega) (by omega) (by omega) (by omega) (by omega)
      refine ⟨r, p', ev_succ ?_, h3, by omega, by omega⟩
      simp only [spec_l92Terms.l0, if_pos hlt, if_pos (show l.length < 8796093022208 by omega)]
      refine Ev.bind hv ?_
      refine Ev.bind hu ?_
      rw [show wrap64 (i + 1) = i + 1 from wrap_id (by omega) (by omega)]
      exact hr
    · obtain ⟨r, p', h, h2, h3, h4⟩ := terms_exit bs hb hl n l a b i p hi hlt h0 (by omega) hi9
      exact ⟨r, p', h, h2, h3, by omega⟩
theorem terms_ev (bs : List Int) (hb : Bytes bs) (hl : bs.length ≤ 2000) (p : Int) (h0 : 0 ≤ p) (h1 : p ≤ 1000000) :
    ∃ r p', Ev (fun k => spec_l92Terms.f k bs p) (r, p') ∧ r.length ≤ 9 ∧ 0 ≤ p' ∧ p' ≤ p + 30 := by
  obtain ⟨v, hv, v0, v1⟩ := pick_ev bs p 6 hb hl h0 (by omega) (by omega)
  obtain ⟨u, hu, u0, u1⟩ := pick_ev bs (p + 1) 20 hb hl (by omega) (by omega) (by omega)
  by_cases hu0 : u = 0
  · obtain ⟨x, hx, x0, x1⟩ := pick_ev bs (p + 1 + 1) 2 hb hl (by omega) (by omega) (by omega)
    obtain ⟨y, hy, y0, y1⟩ := pick_ev bs (p + 1 + 1 + 1) 3 hb hl (by omega) (by omega) (by omega)
    obtain ⟨r, p', hr, h3, h4, h5⟩ := terms_loop bs hb hl (8 + x) (by omega) 9 [] y 0 0 (p + 1 + 1 + 1 + 1) (by simp) (by omega) (by omega) (by omega) (by omega)
    refine ⟨r, p', ?_, h3, by omega, by omega⟩
    unfold spec_l92Terms.f
    simp only [bsome]
    refine Ev.bind hv ?_
    refine Ev.bind hu ?_
    simp only [if_pos hu0]
    refine Ev.bind hx ?_
    rw [show wrap64 (8 + x) = 8 + x from wrap_id (by omega) (by omega)]
    refine ev_succ ?_
    simp only [spec_l92Terms.j0]
    exact Ev.bind hy hr
  · obtain ⟨y, hy, y0, y1⟩ := pick_ev bs (p + 1 + 1) 3 hb hl (by omega) (by omega) (by omega)
    obtain ⟨r, p', hr, h3, h4, h5⟩ := terms_loop bs hb hl v (by omega) 9 [] y 0 0 (p + 1 + 1 + 1) (by simp) (by omega) (by omega) (by omega) (by omega)
    refine ⟨r, p', ?_, h3, by omega, by omega⟩
    unfold spec_l92Terms.f
    simp only [bsome]
    refine Ev.bind hv ?_
    refine Ev.bind hu ?_
    simp only [if_neg hu0]
    refine ev_succ ?_
    simp only [spec_l92Terms.j0]
    exact Ev.bind hy hr
def okT (t : Tm) : Prop := 0 ≤ t.f0 ∧ t.f0 ≤ 999 ∧ 0 ≤ t.f1 ∧ t.f1 ≤ 99999
instance (t : Tm) : Decidable (okT t) := by unfold okT; infer_instance
def ltT (a b : Tm) : Prop := a.f0 < b.f0 ∧ a.f1 < b.f1
instance (a b : Tm) : Decidable (ltT a b) := by unfold ltT; infer_instance
def VF (l : List Tm) (i : Nat) : Prop := ∀ j, i ≤ j → j < l.length → okT (rt l j) ∧ (0 < j → ltT (rt l ((j : Int) - 1)) (rt l j))
def VT (l : List Tm) : Prop := l.length ≤ 8 ∧ VF l 0
theorem VF_end {l : List Tm} {i : Nat} (h : l.length ≤ i) : VF l i := fun j h1 h2 => by omega
theorem VF_step {l : List Tm} {i : Nat} (h : i < l.length) : VF l i ↔ (okT (rt l i) ∧ (0 < i → ltT (rt l ((i : Int) - 1)) (rt l i))) ∧ VF l (i + 1) := by
  constructor
  · intro hv
    exact ⟨hv i (Nat.le_refl _) h, fun j h1 h2 => hv j (by omega) h2⟩
  · rintro ⟨h1, h2⟩ j h3 h4
    by_cases e : j = i
    · subst e; exact h1
    · exact h2 j (by omega) h4
theorem impl_within_eq (a b c : Int) : impl_within.f a b c = some (decide (b ≤ a ∧ a ≤ c)) := by
  unfold impl_within.f
  by_cases h : a ≥ b
  · rw [if_pos h]
    have : (b ≤ a ∧ a ≤ c) ↔ a ≤ c := ⟨fun h => h.2, fun h' => ⟨h, h'⟩⟩
    simp [this]
  · rw [if_neg h]
    have : ¬ (b ≤ a ∧ a ≤ c) := fun h' => h h'.1
    simp [this]
theorem spec_l6In_eq (a b c : Int) : spec_l6In.f a b c = some (decide (b ≤ a ∧ a ≤ c)) := by
  unfold spec_l6In.f
  by_cases h : a ≥ b
  · rw [if_pos h]
    have : (b ≤ a ∧ a ≤ c) ↔ a ≤ c := ⟨fun h => h.2, fun h' => ⟨h, h'⟩⟩
    simp [this]
  · rw [if_neg h]
    have : ¬ (b ≤ a ∧ a ≤ c) := fun h' => h h'.1
    simp [this]
theorem implValid_loop (l : List Tm) (hl : l.length ≤ 1000000000000) : ∀ (d i : Nat), l.length - i = d → i ≤ l.length → ∃ b, Ev (fun k => impl_TermsValid.l0 k l l (l.length : Int) (i : Int)) b ∧ (b = true ↔ VF l i) := by
  intro d
  induction d with
  | zero =>
    intro i hd hi
    refine ⟨true, ev_succ ?_, by simp; exact VF_end (by omega)⟩
    simp only [impl_TermsValid.l0, if_neg (show ¬ (i : Int) < (l.length : Int) by omega)]
    exact ev_some _
  | succ d ih =>
    intro i hd hi
    have hlt : (i : Int) < (l.length : Int) := by omega
    obtain ⟨b, hb, hb2⟩ := ih (i + 1) (by omega) (by omega)
    have e1 : wrap64 ((i : Int) + 1) = ((i + 1 : Nat) : Int) := by rw [wrap_id (by omega) (by omega)]; omega
    rw [VF_step (show i < l.length by omega)]
    by_cases k1 : 0 ≤ (rt l i).f0 ∧ (rt l i).f0 ≤ 999
    · by_cases k2 : 0 ≤ (rt l i).f1 ∧ (rt l i).f1 ≤ 99999
      · have hok : okT (rt l i) := ⟨k1.1, k1.2, k2.1, k2.2⟩
        by_cases h0 : 0 < i
        · have e2 : wrap64 ((i : Int) - 1) = (i : Int) - 1 := wrap_id (by omega) (by omega)
          by_cases k3 : (rt l ((i : Int) - 1)).f0 ≥ (rt l i).f0
          · refine ⟨false, ev_succ ?_, ?_⟩
            · simp only [impl_TermsValid.l0, if_pos hlt, if_pos (show (0 : Int) ≤ i by omega), impl_within_eq, bsome, decide_eq_true_eq, if_pos k1, decide_eq_true k2, Bool.not_true]
              refine ev_succ ?_
              simp only [impl_TermsValid.j1, if_neg (show ¬ (false = true) by decide), if_pos (show (i : Int) > 0 by omega), e2, if_pos (show 0 ≤ (i : Int) - 1 by omega), if_pos (show (i : Int) - 1 < (l.length : Int) by omega), if_pos k3]
              exact ev_some _
            · simp only [Bool.false_eq_true, false_iff]
              rintro ⟨⟨_, h3⟩, _⟩
              have := (h3 h0).1
              omega
          · by_cases k4 : (rt l ((i : Int) - 1)).f1 ≥ (rt l i).f1
            · refine ⟨false, ev_succ ?_, ?_⟩
              · simp only [impl_TermsValid.l0, if_pos hlt, if_pos (show (0 : Int) ≤ i by omega), impl_within_eq, bsome, decide_eq_true_eq, if_pos k1, decide_eq_true k2, Bool.not_true]
                refine ev_succ ?_
                simp only [impl_TermsValid.j1, if_neg (show ¬ (false = true) by decide), if_pos (show (i : Int) > 0 by omega), e2, if_pos (show 0 ≤ (i : Int) - 1 by omega), if_pos (show (i : Int) - 1 < (l.length : Int) by omega), if_neg k3, if_pos k4]
                exact ev_some _
              · simp only [Bool.false_eq_true, false_iff]
                rintro ⟨⟨_, h3⟩, _⟩
                have := (h3 h0).2
                omega
            · refine ⟨b, ev_succ ?_, ?_⟩
              · simp only [impl_TermsValid.l0, if_pos hlt, if_pos (show (0 : Int) ≤ i by omega), impl_within_eq, bsome, decide_eq_true_eq, if_pos k1, decide_eq_true k2, Bool.not_true]
                refine ev_succ ?_
                simp only [impl_TermsValid.j1, if_neg (show ¬ (false = true) by decide), if_pos (show (i : Int) > 0 by omega), e2, if_pos (show 0 ≤ (i : Int) - 1 by omega), if_pos (show (i : Int) - 1 < (l.length : Int) by omega), if_neg k3, if_neg k4, e1]
                exact hb
              · rw [hb2]
                exact ⟨fun h => ⟨⟨hok, fun _ => ⟨by omega, by omega⟩⟩, h⟩, fun h => h.2⟩
        · refine ⟨b, ev_succ ?_, ?_⟩
          · simp only [impl_TermsValid.l0, if_pos hlt, if_pos (show (0 : Int) ≤ i by omega), impl_within_eq, bsome, decide_eq_true_eq, if_pos k1, decide_eq_true k2, Bool.not_true]
            refine ev_succ ?_
            simp only [impl_TermsValid.j1, if_neg (show ¬ (false = true) by decide), if_neg (show ¬ (i : Int) > 0 by omega), e1]
            exact hb
          · rw [hb2]
            exact ⟨fun h => ⟨⟨hok, fun h' => absurd h' h0⟩, h⟩, fun h => h.2⟩
      · refine ⟨false, ev_succ ?_, ?_⟩
        · simp only [impl_TermsValid.l0, if_pos hlt, if_pos (show (0 : Int) ≤ i by omega), impl_within_eq, bsome, decide_eq_true_eq, if_pos k1, decide_eq_false k2, Bool.not_false]
          refine ev_succ ?_
          simp only [impl_TermsValid.j1, if_true]
          exact ev_some _
        · simp only [Bool.false_eq_true, false_iff]
          rintro ⟨⟨h3, _⟩, _⟩
          exact k2 ⟨h3.2.2.1, h3.2.2.2⟩
    · refine ⟨false, ev_succ ?_, ?_⟩
      · simp only [impl_TermsValid.l0, if_pos hlt, if_pos (show (0 : Int) ≤ i by omega), impl_within_eq, bsome, decide_eq_true_eq, if_neg k1]
        refine ev_succ ?_
        simp only [impl_TermsValid.j1, if_true]
        exact ev_some _
      · simp only [Bool.false_eq_true, false_iff]
        rintro ⟨⟨h3, _⟩, _⟩
        exact k1 ⟨h3.1, h3.2.1⟩
theorem implValid_ev (l : List Tm) (hl : l.length ≤ 1000000000000) : ∃ b, Ev (fun k => impl_TermsValid.f k l) b ∧ (b = true ↔ VT l) := by
  unfold impl_TermsValid.f
  by_cases h : (l.length : Int) > 8
  · refine ⟨false, ?_, ?_⟩
    · simp only [if_pos h]; exact ev_some _
    · simp only [Bool.false_eq_true, false_iff]
      rintro ⟨h2, _⟩
      omega
  · obtain ⟨b, hb, hb2⟩ := implValid_loop l hl l.length 0 (by omega) (by omega)
    refine ⟨b, ?_, ?_⟩
    · simp only [if_neg h]; exact hb
    · rw [hb2]
      exact ⟨fun h' => ⟨by omega, h'⟩, fun h' => h'.2⟩
theorem specValid_loop (l : List Tm) (hl : l.length ≤ 1000000000000) : ∀ (d i : Nat), l.length - i = d → i ≤ l.length → ∃ b, Ev (fun k => spec_TermsValid.l0 k l (i : Int)) b ∧ (b = true ↔ (l.length ≤ 8 ∧ VF l i)) := by
  intro d
  induction d with
  | zero =>
    intro i hd hi
    refine ⟨decide ((l.length : Int) ≤ 8), ev_succ ?_, ?_⟩
    · simp only [spec_TermsValid.l0, if_neg (show ¬ (i : Int) < (l.length : Int) by omega)]
      exact ev_some _
    · simp only [decide_eq_true_eq]
      exact ⟨fun h => ⟨by omega, VF_end (by omega)⟩, fun h => by have := h.1; omega⟩
  | succ d ih =>
    intro i hd hi
    have hlt : (i : Int) < (l.length : Int) := by omega
    obtain ⟨b, hb, hb2⟩ := ih (i + 1) (by omega) (by omega)
    have e1 : wrap64 ((i : Int) + 1) = ((i + 1 : Nat) : Int) := by rw [wrap_id (by omega) (by omega)]; omega
    rw [VF_step (show i < l.length by omega)]
    by_cases k1 : 0 ≤ (rt l i).f0 ∧ (rt l i).f0 ≤ 999
    · by_cases k2 : 0 ≤ (rt l i).f1 ∧ (rt l i).f1 ≤ 99999
      · have hok : okT (rt l i) := ⟨k1.1, k1.2, k2.1, k2.2⟩
        by_cases h0 : 0 < i
        · have e2 : wrap64 ((i : Int) - 1) = (i : Int) - 1 := wrap_id (by omega) (by omega)
          by_cases k3 : (rt l ((i : Int) - 1)).f0 ≥ (rt l i).f0
          · refine ⟨false, ev_succ ?_, ?_⟩
            · simp only [spec_TermsValid.l0, if_pos hlt, if_pos (show (0 : Int) ≤ i by omega), spec_l6In_eq, bsome, decide_eq_true_eq, if_pos k1, if_pos k2, if_pos (show (i : Int) > 0 by omega), e2, if_pos (show 0 ≤ (i : Int) - 1 by omega), if_pos (show (i : Int) - 1 < (l.length : Int) by omega), if_pos k3]
              exact ev_some _
            · simp only [Bool.false_eq_true, false_iff]
              rintro ⟨_, ⟨_, h3⟩, _⟩
              have := (h3 h0).1
              omega
          · by_cases k4 : (rt l ((i : Int) - 1)).f1 ≥ (rt l i).f1
            · refine ⟨false, ev_succ ?_, ?_⟩
              · simp only [spec_TermsValid.l0, if_pos hlt, if_pos (show (0 : Int) ≤ i by omega), spec_l6In_eq, bsome, decide_eq_true_eq, if_pos k1, if_pos k2, if_pos (show (i : Int) > 0 by omega), e2, if_pos (show 0 ≤ (i : Int) - 1 by omega), if_pos (show (i : Int) - 1 < (l.length : Int) by omega), if_neg k3, if_pos k4]
                exact ev_some _
              · simp only [Bool.false_eq_true, false_iff]
                rintro ⟨_, ⟨_, h3⟩, _⟩
                have := (h3 h0).2
                omega
            · refine ⟨b, ev_succ ?_, ?_⟩
              · simp only [spec_TermsValid.l0, if_pos hlt, if_pos (show (0 : Int) ≤ i by omega), spec_l6In_eq, bsome, decide_eq_true_eq, if_pos k1, if_pos k2, if_pos (show (i : Int) > 0 by omega), e2, if_pos (show 0 ≤ (i : Int) - 1 by omega), if_pos (show (i : Int) - 1 < (l.length : Int) by omega), if_neg k3, if_neg k4, e1]
                exact hb
              · rw [hb2]
                exact ⟨fun h => ⟨h.1, ⟨hok, fun _ => ⟨by omega, by omega⟩⟩, h.2⟩, fun h => ⟨h.1, h.2.2⟩⟩
        · refine ⟨b, ev_succ ?_, ?_⟩
          · simp only [spec_TermsValid.l0, if_pos hlt, if_pos (show (0 : Int) ≤ i by omega), spec_l6In_eq, bsome, decide_eq_true_eq, if_pos k1, if_pos k2, if_neg (show ¬ (i : Int) > 0 by omega), e1]
            exact hb
          · rw [hb2]
            exact ⟨fun h => ⟨h.1, ⟨hok, fun h' => absurd h' h0⟩, h.2⟩, fun h => ⟨h.1, h.2.2⟩⟩
      · refine ⟨false, ev_succ ?_, ?_⟩
        · simp only [spec_TermsValid.l0, if_pos hlt, if_pos (show (0 : Int) ≤ i by omega), spec_l6In_eq, bsome, decide_eq_true_eq, if_pos k1, if_neg k2]
          exact ev_some _
        · simp only [Bool.false_eq_true, false_iff]
          rintro ⟨_, ⟨h3, _⟩, _⟩
          exact k2 ⟨h3.2.2.1, h3.2.2.2⟩
    · refine ⟨false, ev_succ ?_, ?_⟩
      · simp only [spec_TermsValid.l0, if_pos hlt, if_pos (show (0 : Int) ≤ i by omega), spec_l6In_eq, bsome, decide_eq_true_eq, if_neg k1]
        exact ev_some _
      · simp only [Bool.false_eq_true, false_iff]
        rintro ⟨_, ⟨h3, _⟩, _⟩
        exact k1 ⟨h3.1, h3.2.1⟩
theorem specValid_ev (l : List Tm) (hl : l.length ≤ 1000000000000) : ∃ b, Ev (fun k => spec_TermsValid.f k l) b ∧ (b = true ↔ VT l) := by
  unfold spec_TermsValid.f
  exact specValid_loop l hl l.length 0 (by omega) (by omega)
open Classical in
noncomputable def vt (l : List Tm) : Bool := decide (VT l)
theorem vt_iff (l : List Tm) : vt l = true ↔ VT l := by unfold vt; simp
theorem vt_of {b : Bool} {l : List Tm} (h : b = true ↔ VT l) : b = vt l := by
  rw [Bool.eq_iff_iff, h, vt_iff]
theorem implValid (l : List Tm) (hl : l.length ≤ 1000000000000) : Ev (fun k => impl_TermsValid.f k l) (vt l) := by
  obtain ⟨b, hb, h⟩ := implValid_ev l hl
  rw [← vt_of h]; exact hb
theorem specValid (l : List Tm) (hl : l.length ≤ 1000000000000) : Ev (fun k => spec_TermsValid.f k l) (vt l) := by
  obtain ⟨b, hb, h⟩ := specValid_ev l hl
  rw [← vt_of h]; exact hb
end Go.Proofs.Ytamncgpajkoiaaa.UQ
namespace Go.Proofs.Ytamncgpajkoiaaa.UQ
open Go.RowKit Go.Proofs.Ytamncgpajkoiaaa.U Go.Proofs.YtamncgpajkoiaaaW.PrintWords Go.Proofs.YtamncgpajkoiaaaW.PrintLast
set_option linter.unusedVariables false
set_option linter.unusedSimpArgs false
theorem ltT_trans {a b c : Tm} (h : ltT a b) (h' : ltT b c) : ltT a c := ⟨Int.lt_trans h.1 h'.1, Int.lt_trans h.2 h'.2⟩
theorem VT_iff (l : List Tm) : VT l ↔ l.length ≤ 8 ∧ (∀ t ∈ l, okT t) ∧ l.Pairwise ltT := by
  constructor
  · rintro ⟨h8, hv⟩
    refine ⟨h8, ?_, pairwise_of_next (R := ltT) (fun _ _ _ => ltT_trans) ?_⟩
    · intro t ht
      obtain ⟨j, hj, rfl⟩ := List.getElem_of_mem ht
      have := (hv j (Nat.zero_le _) hj).1
      rwa [rt_nat l j hj] at this
    · intro j hj
      have := (hv (j + 1) (Nat.zero_le _) hj).2 (by omega)
      rw [rt_nat l (j + 1) hj] at this
      rw [show ((j + 1 : Nat) : Int) - 1 = (j : Int) by omega, rt_nat l j (by omega)] at this
      exact this
  · rintro ⟨h8, hok, hp⟩
    refine ⟨h8, fun j _ hj => ⟨?_, fun h0 => ?_⟩⟩
    · rw [rt_nat l j hj]
      exact hok _ (List.getElem_mem hj)
    · obtain ⟨i, rfl⟩ : ∃ i, j = i + 1 := ⟨j - 1, by omega⟩
      rw [rt_nat l (i + 1) hj, show ((i + 1 : Nat) : Int) - 1 = (i : Int) by omega, rt_nat l i (by omega)]
      exact next_of_pairwise hp i hj
end Go.Proofs.Ytamncgpajkoiaaa.UQ
namespace Go.Proofs.Ytamncgpajkoiaaa.UQ
open Go.RowKit Go.Proofs.Ytamncgpajkoiaaa.U Go.Proofs.YtamncgpajkoiaaaW.PrintWords Go.Proofs.YtamncgpajkoiaaaW.PrintLast
set_option linter.unusedVariables false
set_option linter.unusedSimpArgs false
abbrev addT (l : List Tm) (a b : Int) : List Tm := l ++ [(⟨a, b⟩ : Tm)]
noncomputable def putT (l : List Tm) (a b : Int) : List Tm := if vt (addT l a b) = true then addT l a b else []
theorem implPut (l : List Tm) (a b : Int) (hl : l.length ≤ 1000000000) : Ev (fun k => impl_TermsPut.f k l a b) (putT l a b, vt (addT l a b)) := by
  unfold impl_TermsPut.f impl_Term_47.f
  simp only [bsome, if_pos (show l.length < 8796093022208 by omega), List.length_cons, List.length_nil, if_pos (show l.length + (0 + 1) < 8796093022208 by omega)]
  refine Ev.bind (implValid (addT l a b) (by simp; omega)) ?_
  by_cases h : vt (addT l a b) = true
  · simp only [if_pos h, impl_Term_48.f, bsome, putT]
    rw [h]
    exact ev_some _
  · have h' : vt (addT l a b) = false := by simpa using h
    simp only [if_neg h, putT]
    rw [h']
    exact ev_some _
theorem specPut (l : List Tm) (a b : Int) (hl : l.length ≤ 1000000000) : Ev (fun k => spec_TermsPut.f k l a b) (putT l a b, vt (addT l a b)) := by
  unfold spec_TermsPut.f
  simp only [bsome, List.nil_append, List.length_cons, List.length_nil, if_pos (show 0 + l.length < 8796093022208 by omega), if_pos (show l.length + (0 + 1) < 8796093022208 by omega)]
  refine Ev.bind (specValid (addT l a b) (by simp; omega)) ?_
  by_cases h : vt (addT l a b) = true
  · simp only [if_pos h, putT]
    rw [h]
    exact ev_some _
  · have h' : vt (addT l a b) = false := by simpa using h
    simp only [if_neg h, putT]
    rw [h']
    exact ev_some _
theorem putT_len (l : List Tm) (a b : Int) : (putT l a b).length ≤ l.length + 1 := by
  unfold putT
  split
  · simp
  · simp
theorem addT_last (l : List Tm) (a b : Int) : rt (addT l a b) (l.length : Int) = ⟨a, b⟩ := by
  rw [rt_nat _ _ (by simp)]
  simp
theorem VT_add {l : List Tm} {a b : Int} (h : VT (addT l a b)) : VT l ∧ okT ⟨a, b⟩ ∧ ∀ j : Nat, j < l.length → ltT (rt l (j : Int)) ⟨a, b⟩ := by
  rw [VT_iff] at h
  obtain ⟨h1, h2, h3⟩ := h
  refine ⟨(VT_iff l).2 ⟨by simp at h1; omega, fun t ht => h2 t (by simp [ht]), (List.pairwise_append.1 h3).1⟩, h2 _ (by simp), fun j hj => ?_⟩
  rw [rt_nat l j hj]
  exact (List.pairwise_append.1 h3).2.2 _ (List.getElem_mem hj) _ (by simp)
end Go.Proofs.Ytamncgpajkoiaaa.UQ
namespace Go.Proofs.Ytamncgpajkoiaaa.UQ
open Go.RowKit Go.Proofs.Ytamncgpajkoiaaa.U Go.Proofs.YtamncgpajkoiaaaW.PrintWords Go.Proofs.YtamncgpajkoiaaaW.PrintLast
set_option linter.unusedVariables false
set_option linter.unusedSimpArgs false
theorem drawPut {l0 : List Int} (hb : Bytes l0) : Evs (fun k => spec_DrawTermsPut.f k l0) (fun r => r.1.length ≤ 9) := by
  obtain ⟨b, ho, hb2, hbl⟩ := open_ev l0 hb
  obtain ⟨r, p', hr, h9, hp0, hp1⟩ := terms_ev b hb2 hbl 0 (by omega) (by omega)
  unfold spec_DrawTermsPut.f
  simp only [ho, bsome]
  refine Evs.bind (Evs.of hr rfl : Evs _ (fun x => x = (r, p'))) ?_
  rintro _ rfl
  refine Evs.bind (pick_evs b p' 12 hb2 hbl hp0 (by omega) (by omega)) ?_
  rintro ⟨v, _⟩ ⟨v0, v1, rfl⟩
  refine Evs.bind (pick_evs b (p' + 1) 30 hb2 hbl (by omega) (by omega) (by omega)) ?_
  rintro ⟨u, _⟩ ⟨u0, u1, rfl⟩
  by_cases hz : (r.length : Int) > 0
  · simp only [if_pos hz]
    refine Evs.bind (pick_evs b (p' + 1 + 1) 4 hb2 hbl (by omega) (by omega) (by omega)) ?_
    rintro ⟨x, _⟩ ⟨x0, x1, rfl⟩
    refine Evs.succ ?_
    by_cases hu : x > 0
    · have e2 : wrap64 ((r.length : Int) - 1) = (r.length : Int) - 1 := wrap_id (by omega) (by omega)
      simp only [spec_DrawTermsPut.j0, decide_eq_true hu, if_true, e2, if_pos (show 0 ≤ (r.length : Int) - 1 by omega), if_pos (show (r.length : Int) - 1 < (r.length : Int) by omega)]
      refine Evs.bind (pick_evs b (p' + 1 + 1 + 1) 3 hb2 hbl (by omega) (by omega) (by omega)) ?_
      rintro ⟨y, _⟩ ⟨y0, y1, rfl⟩
      refine Evs.bind (pick_evs b (p' + 1 + 1 + 1 + 1) 9 hb2 hbl (by omega) (by omega) (by omega)) ?_
      rintro ⟨z, _⟩ ⟨z0, z1, rfl⟩
      exact Evs.done h9
    · simp only [spec_DrawTermsPut.j0, decide_eq_false hu, Bool.false_eq_true, if_false]
      exact Evs.done h9
  · simp only [if_neg hz]
    refine Evs.succ ?_
    simp only [spec_DrawTermsPut.j0, Bool.false_eq_true, if_false]
    exact Evs.done h9
theorem same_self_loop (a : List Tm) (hs : a.length ≤ 1000000000000) : ∀ (d i : Nat), a.length - i = d → i ≤ a.length → Ev (fun k => laws_sameTerms.l0 k a a (i : Int)) true := by
  intro d
  induction d with
  | zero =>
    intro i hd hi
    refine ev_succ ?_
    simp only [laws_sameTerms.l0, if_neg (show ¬ (i : Int) < (a.length : Int) by omega)]
    exact ev_some _
  | succ d ih =>
    intro i hd hi
    have e1 : wrap64 ((i : Int) + 1) = ((i + 1 : Nat) : Int) := by rw [wrap_id (by omega) (by omega)]; omega
    refine ev_succ ?_
    simp only [laws_sameTerms.l0, if_pos (show (i : Int) < (a.length : Int) by omega), if_pos (show (0 : Int) ≤ i by omega), beq_self_eq_true, Bool.not_true, Bool.or_self, Bool.false_eq_true, if_false, e1]
    exact ih (i + 1) (by omega) (by omega)
theorem sameSelf (a : List Tm) (hs : a.length ≤ 1000000000000) : Ev (fun k => laws_sameTerms.f k a a) true := by
  unfold laws_sameTerms.f
  simp only [if_true]
  exact same_self_loop a hs a.length 0 (by omega) (by omega)
end Go.Proofs.Ytamncgpajkoiaaa.UQ
namespace Go.Proofs.Ytamncgpajkoiaaa.Pure
open Go.RowKit Go.Proofs.Ytamncgpajkoiaaa.U Go.Proofs.YtamncgpajkoiaaaW.PrintWords Go.Proofs.YtamncgpajkoiaaaW.PrintLast Go.Proofs.Ytamncgpajkoiaaa.UQ
set_option linter.unusedVariables false
set_option linter.unusedSimpArgs false
theorem put_j0 (l : List Tm) (a b : Int) (h9 : l.length ≤ 9) (hv : vt (addT l a b) = true) : Ev (fun k => laws_FnTermsPut.j0 k l (addT l a b) true (addT l a b) true false a b) true := by
  have hV := (vt_iff _).1 hv
  obtain ⟨hl, ht, hlt⟩ := VT_add hV
  have hn : (((addT l a b).length : Nat) : Int) = (l.length : Int) + 1 := by simp
  have e1 : wrap64 ((l.length : Int) + 1 - 1) = (l.length : Int) := by rw [wrap_id (by omega) (by omega)]; omega
  have e2 : wrap64 ((l.length : Int) - 1) = (l.length : Int) - 1 := wrap_id (by omega) (by omega)
  refine ev_succ ?_
  simp only [laws_FnTermsPut.j0, Bool.false_eq_true, if_false]
  have hval := implValid (addT l a b) (by simp; omega)
  rw [hv] at hval
  refine Ev.bind hval ?_
  have hlast := addT_last l a b
  have hx : (rd_T37 (addT l a b) (l.length : Int)).f0 = a := by show (rt (addT l a b) _).f0 = a; rw [hlast]
  have hy : (rd_T37 (addT l a b) (l.length : Int)).f1 = b := by show (rt (addT l a b) _).f1 = b; rw [hlast]
  have htake : (addT l a b).take l.length = l := by simp [addT]
  simp only [hn, e1, if_true, if_pos (show 0 ≤ (l.length : Int) by omega), if_pos (show (l.length : Int) < (l.length : Int) + 1 by omega), hx, hy, beq_self_eq_true, Bool.and_self, if_pos (show (l.length : Int) ≤ (l.length : Int) + 1 by omega), Int.toNat_natCast, htake]
  refine Ev.bind (sameSelf l (by omega)) ?_
  simp only [if_true]
  by_cases h0 : (l.length : Int) = 0
  · simp only [if_pos h0]
    exact ev_some _
  · have h3 := hlt (l.length - 1) (by omega)
    rw [show ((l.length - 1 : Nat) : Int) = (l.length : Int) - 1 by omega] at h3
    have h4 : (rd_T37 l ((l.length : Int) - 1)).f0 < a := h3.1
    have h5 : (rd_T37 l ((l.length : Int) - 1)).f1 < b := h3.2
    simp only [if_neg h0, e2, if_pos (show 0 ≤ (l.length : Int) - 1 by omega), if_pos (show (l.length : Int) - 1 < (l.length : Int) by omega), if_pos h4, decide_eq_true h5]
    exact ev_some _
theorem FnTermsPut : laws_FnTermsPut.Pure := by
  intro l0 _ _ hb0
  refine Ev.rounds ?_
  have hb := bytes_of hb0
  unfold laws_FnTermsPut.f
  by_cases h : (l0.length : Int) > 1048576
  · simp only [if_pos h]
    exact ev_some _
  · simp only [if_neg h]
    obtain ⟨⟨r, a, b⟩, hd, h9⟩ := drawPut hb
    dsimp only at h9
    refine Ev.bind hd ?_
    refine Ev.bind (implPut r a b (by omega)) ?_
    refine Ev.bind (specPut r a b (by omega)) ?_
    have hpl := putT_len r a b
    simp only [bne_self_eq_false, Bool.false_eq_true, if_false]
    refine Ev.bind (sameSelf (putT r a b) (by omega)) ?_
    simp only [if_true]
    by_cases hv : vt (addT r a b) = true
    · rw [hv, show putT r a b = addT r a b by simp [putT, hv]]
      exact put_j0 r a b h9 hv
    · have hv' : vt (addT r a b) = false := by simpa using hv
      rw [hv']
      refine ev_succ ?_
      simp only [laws_FnTermsPut.j0, Bool.not_false, if_true, beq_self_eq_true]
      exact Ev.bind (sameSelf _ (by omega)) (ev_some _)
end Go.Proofs.Ytamncgpajkoiaaa.Pure
namespace Go.Proofs.Ytamncgpajkoiaaa.fnTermsPut
open Go.ChangeShapes Go.WideShapes Go.ChangeAt Go.RowKit
open Go.ChangeMaps (open_string shut_string)
set_option linter.unusedVariables false
theorem own : ownKnob Try.prog.godebug = none := by kernel_rfl
theorem laidOut : laidOutB Try.prog = true := by kernel_rfl
def IsRow (k : IntKind) (w : World) (a : Option Addr) (len cap : Nat) (zs : List Int) : Prop :=
  (a = none ∧ len = 0 ∧ cap = 0 ∧ zs = []) ∨
  ∃ x, a = some x ∧ len ≤ cap ∧ cap ≤ maxLen ∧ zs.length = cap ∧ (∀ i, i < zs.length → w.cell? (x.add i) = some (.int k (zs.getD i 0))) ∧ ∀ n ∈ zs, (Lit.int k n).wf = true
set_option maxRecDepth 100000 in
theorem lifted (os : Os) (started : os.Started) (H : Type) (enc : TypeId × Value → H) :
    ReturnsInHanded {} Try.checked os 7 .any (Rows.fnTermsPutSpec.pre6 enc Try.prog Try.f7 Rows.fnTermsPutRow.domain false) (Rows.fnTermsPutSpec.post enc Try.prog Try.f7 false true false false) := by
  refine returnsInHanded_of_change_sized (C := Try.checked) own started (by kernel_rfl) Try.func7
    (ChangeSpec.witness6 (enc := enc) (C := Try.checked) false ⟨#[], #[.slice none 0 0], []⟩ 8 (by kernel_rfl) (by kernel_rfl) (by kernel_rfl) (by kernel_rfl)) ?_
  intro W base args ds gs before hval0 hW hcnd hsz0 _
  have hsz : (DataW.weightsEach Try.prog (Try.f7.params.toList ++ Rows.fnTermsPutSpec.plain.varTypes Try.prog) (ds ++ gs)).all (· ≤ reachBytes) = true := hsz0
  have hval : ∀ (j : Nat) t v, Try.f7.params[j]? = some t → args[j]? = some v → Value.okWide Try.prog W .any base t v := hval0
  have hW' := hW
  obtain ⟨p, q, hA0, hV, rfl, hfz, hnd⟩ := hW
  have hA : DataW.TrodAll enc Try.prog W 0 (fun _ => true) true Try.f7.params.toList args.toList ds p := hA0
  rw [Try.params7] at hA hval hsz
  obtain ⟨v0, vs0, d0, ds0, p0, q0, hargs, rfl, rfl, h0, r0⟩ := trodAll_cons hA
  obtain ⟨rfl, rfl, rfl⟩ := trodAll_nil r0
  obtain rfl : args = #[v0] := by cases args; simp_all
  obtain ⟨rfl, rfl⟩ := trodVars_none hV
  obtain ⟨a0, len0, cap0, rfl⟩ := okWide_slice Try.underlying22 (hval 0 22 v0 rfl rfl)
  have k0 := h0
  have lt0 : ∀ x ∈ p0, x.block < W.heap.size := by obtain ⟨m, hm⟩ := k0; exact DataW.trod_lt m _ _ _ hm
  obtain ⟨z0, w0⟩ : ∃ zs, IsRow .u8 W a0 len0 cap0 zs := by
    obtain ⟨fuel, hf⟩ := h0
    rcases open_ints Try.underlying22 Try.underlying5 (by kernel_rfl) hf with ⟨hcs, _⟩ | ⟨x, l, c, zs, hcs, _, hl, hm, hz, _, hcell, hwz⟩
    · simp [Value.cells] at hcs
      obtain ⟨rfl, rfl, rfl⟩ := hcs
      exact ⟨[], .inl ⟨rfl, rfl, rfl, rfl⟩⟩
    · simp [Value.cells] at hcs
      obtain ⟨rfl, rfl, rfl⟩ := hcs
      exact ⟨zs, .inr ⟨_, rfl, hl, hm, by simpa using hz, hcell, hwz⟩⟩
  have y0 : len0 * 1 ≤ 140737488351232 := Go.Proofs.YtamncgpajkoiaaaW.PrintWords.sized_ints hsz (j := 0) (t := 22) rfl rfl Try.underlying22 Try.underlying5 (by kernel_rfl) (by kernel_rfl) h0
  clear hA0 hval0 hsz0 hsz
  refine (U.laws_FnTermsPut.walk Pure.FnTermsPut a0 len0 cap0 z0 W w0 y0).mono fun e W' ⟨he, bel⟩ => ?_
  subst he
  exact ⟨_, rfl, _, _, _, [], _, [], hW', trodAll_mk1 (shut_bool Try.underlying4 _), (trodAll_cons_mk (Below.trod laidOut (by kernel_rfl) (of_decide_eq_true (by kernel_rfl)) k0 bel lt0) trodAll_mk0), rfl, bel.frame _, fun h => by cases h⟩
theorem closed : joinedFacts Try.prog 7 Try.f7 Rows.fnTermsPutSpec Rows.fnTermsPutRow = true :=
  Head.closed_of _ _ _ _ _ (by kernel_rfl) (by kernel_rfl) (by kernel_rfl) (by kernel_rfl) (by kernel_rfl) (by kernel_rfl) (by kernel_rfl) (by kernel_rfl) (by kernel_rfl) (by kernel_rfl) (by kernel_rfl) (by kernel_rfl) (by kernel_rfl) (by kernel_rfl) (by kernel_rfl) (by kernel_rfl) (by kernel_rfl) (by kernel_rfl) (by kernel_rfl) (by kernel_rfl) (by kernel_rfl) (by kernel_rfl) (by kernel_rfl) (by kernel_rfl) (by kernel_rfl) Head.may_enter (by rw [Head.lifts_final]; kernel_rfl) (by rw [Head.make_is]; kernel_rfl) (by kernel_rfl) (by kernel_rfl) (by kernel_rfl) (by kernel_rfl)
theorem over : Rows.fnTermsPutRow.holds Try.pinned (OpenSpec.ofChange Rows.fnTermsPutSpec) :=
  OpenClaim.holds_of_wide 7 Try.f7 rfl rfl rfl rfl rfl rfl rfl ⟨rfl, rfl, rfl, rfl, rfl⟩ rfl rfl rfl rfl rfl (by kernel_rfl) Try.func7 closed
    (of_decide_eq_true (by kernel_rfl)) (by unfold Func.isWrapper; first | (rw [if_pos (by decide +kernel)]; kernel_rfl) | (rw [if_neg (by decide +kernel)]; exact ⟨rfl, rfl⟩))
    (fun os started H enc _ => lifted os started H enc)
theorem proved : Rows.FnTermsPutSaid := over
end Go.Proofs.Ytamncgpajkoiaaa.fnTermsPut
namespace Go.Proofs.Ytamncgpajkoiaaa
theorem fnTermsPut_holds : Rows.FnTermsPutSaid := fnTermsPut.proved
end Go.Proofs.Ytamncgpajkoiaaa
