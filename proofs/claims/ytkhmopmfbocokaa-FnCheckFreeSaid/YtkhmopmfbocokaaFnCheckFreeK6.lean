/- FnCheckFree, part 7 of 7: merged by wip/tools/pack.py out of the texts that the row reaches; the pure statement is the session's own. -/
import Derived.RowKit
import Derived.RegionTactic
import Derived.Test.YtkhmopmfbocokaaRows
import Derived.WalkKit
import Derived.ProofKit
import Derived.OpenShut
import Derived.ShutString
import Derived.ChangeOld
import Derived.Below
import Derived.SizedLaws
import Derived.Test.YtkhmopmfbocokaaFnCheckFreeK5
namespace Go.Proofs.Ytkhmopmfbocokaa.Q
set_option linter.unusedVariables false
set_option linter.unusedSimpArgs false
theorem pairwise_of_next {α : Type} {R : α → α → Prop} (tr : ∀ a b c, R a b → R b c → R a c) {l : List α} (h : ∀ j (h : j + 1 < l.length), R (l[j]'(by omega)) l[j + 1]) : l.Pairwise R := by
  rw [List.pairwise_iff_getElem]
  intro i j hi hj hij
  obtain ⟨d, rfl⟩ : ∃ d, j = i + 1 + d := ⟨j - i - 1, by omega⟩
  clear hij
  induction d with
  | zero => exact h i (by omega)
  | succ d ih => exact tr _ _ _ (ih (by omega)) (h (i + 1 + d) (by omega))
theorem next_of_pairwise {α : Type} {R : α → α → Prop} {l : List α} (h : l.Pairwise R) (j : Nat) (hj : j + 1 < l.length) : R (l[j]'(by omega)) l[j + 1] :=
  List.pairwise_iff_getElem.1 h j (j + 1) (by omega) hj (by omega)
end Go.Proofs.Ytkhmopmfbocokaa.Q
namespace Go.Proofs.Ytkhmopmfbocokaa.Q
open Go.RowKit Go.Proofs.Ytkhmopmfbocokaa.T Go.Proofs.YtkhmopmfbocokaaW.PrintWords Go.Proofs.YtkhmopmfbocokaaW.PrintLast
set_option linter.unusedVariables false
set_option linter.unusedSimpArgs false
abbrev Pr := S39
abbrev rp (l : List Pr) (i : Int) : Pr := rd_T39 l i
theorem rp_nat (l : List Pr) (j : Nat) (h : j < l.length) : rp l (j : Int) = l[j] := by
  unfold rp rd_T39
  rw [Int.toNat_natCast, List.getD_eq_getElem?_getD, List.getElem?_eq_getElem h]
  rfl
theorem Pr_ext {a b : Pr} (h0 : a.f0 = b.f0) (h1 : a.f1 = b.f1) (h2 : a.f2 = b.f2) : a = b := by
  cases a
  cases b
  simp at h0 h1 h2
  rw [h0, h1, h2]
instance : DecidableEq Pr := fun a b => decidable_of_iff (a.f0 = b.f0 ∧ a.f1 = b.f1 ∧ a.f2 = b.f2) ⟨fun h => Pr_ext h.1 h.2.1 h.2.2, fun h => by rw [h]; exact ⟨rfl, rfl, rfl⟩⟩
def okP (t : Pr) : Prop := (0 ≤ t.f0 ∧ t.f0 ≤ 254) ∧ (0 ≤ t.f1 ∧ t.f1 ≤ 99) ∧ (0 ≤ t.f2 ∧ t.f2 ≤ 99999)
def ltP (a b : Pr) : Prop := a.f0 < b.f0
def PF (l : List Pr) (i : Nat) : Prop := ∀ j, i ≤ j → j < l.length → okP (rp l j) ∧ (0 < j → ltP (rp l ((j : Int) - 1)) (rp l j))
def VP (l : List Pr) : Prop := l.length ≤ 20 ∧ PF l 0
open Classical in
noncomputable def vp (l : List Pr) : Bool := decide (VP l)
theorem vp_iff (l : List Pr) : vp l = true ↔ VP l := by unfold vp; simp
theorem prodsAll_vp (l : List Pr) : prodsAll l = vp l := by
  rw [Bool.eq_iff_iff, vp_iff]
  unfold prodsAll VP PF
  rw [Bool.and_eq_true, decide_eq_true_eq, decide_eq_true_eq]
  refine ⟨fun h => ⟨h.1, fun j _ hj => ?_⟩, fun h => ⟨h.1, fun j hj => ?_⟩⟩
  · have := h.2 j hj
    unfold prodAt at this
    rw [decide_eq_true_eq] at this
    exact this
  · unfold prodAt
    rw [decide_eq_true_eq]
    exact h.2 j (Nat.zero_le _) hj
theorem implPValid (l : List Pr) (hl : l.length ≤ 1000000000000) : Ev (fun k => impl_ProducersValid.f k l) (vp l) := by
  unfold impl_ProducersValid.f
  rw [prodsAll_vp]
  exact ev_some _
theorem specPValid (l : List Pr) (hl : l.length ≤ 1000000000000) : Ev (fun k => spec_ProducersValid.f k l) (vp l) := by
  unfold spec_ProducersValid.f
  rw [prodsAll_vp]
  exact ev_some _
theorem ltP_trans {a b c : Pr} (h : ltP a b) (h' : ltP b c) : ltP a c := Int.lt_trans h h'
theorem VP_iff (l : List Pr) : VP l ↔ l.length ≤ 20 ∧ (∀ t ∈ l, okP t) ∧ l.Pairwise ltP := by
  constructor
  · rintro ⟨h8, hv⟩
    refine ⟨h8, ?_, pairwise_of_next (R := ltP) (fun _ _ _ => ltP_trans) ?_⟩
    · intro t ht
      obtain ⟨j, hj, rfl⟩ := List.getElem_of_mem ht
      have := (hv j (Nat.zero_le _) hj).1
      rwa [rp_nat l j hj] at this
    · intro j hj
      have := (hv (j + 1) (Nat.zero_le _) hj).2 (by omega)
      rw [rp_nat l (j + 1) hj] at this
      rw [show ((j + 1 : Nat) : Int) - 1 = (j : Int) by omega, rp_nat l j (by omega)] at this
      exact this
  · rintro ⟨h8, hok, hp⟩
    refine ⟨h8, fun j _ hj => ⟨?_, fun h0 => ?_⟩⟩
    · rw [rp_nat l j hj]
      exact hok _ (List.getElem_mem hj)
    · obtain ⟨i, rfl⟩ : ∃ i, j = i + 1 := ⟨j - 1, by omega⟩
      rw [rp_nat l (i + 1) hj, show ((i + 1 : Nat) : Int) - 1 = (i : Int) by omega, rp_nat l i (by omega)]
      exact next_of_pairwise hp i hj
end Go.Proofs.Ytkhmopmfbocokaa.Q
namespace Go.Proofs.Ytkhmopmfbocokaa.Q
open Go.RowKit Go.Proofs.Ytkhmopmfbocokaa.T Go.Proofs.YtkhmopmfbocokaaW.PrintWords Go.Proofs.YtkhmopmfbocokaaW.PrintLast
set_option linter.unusedVariables false
set_option linter.unusedSimpArgs false
theorem lim {n c : Nat} (h : n ≤ 2000) (hc : 2000 < c) : n < c := by omega
theorem prods_end (bs : List Int) (hb : Bytes bs) (hl : bs.length ≤ 2000) (l : List Pr) (h4 : l.length ≤ 4) (f : Bool) (hf : f = true → 0 < l.length) (p : Int) (h0 : 0 ≤ p) (h1 : p ≤ 2000000) :
    Evs (fun k => spec_l92Producers.j1 k l f bs p) (fun r => r.1.length ≤ 4 ∧ p ≤ r.2 ∧ r.2 ≤ p + 2) := by
  refine Evs.succ ?_
  cases f with
  | false =>
    simp only [spec_l92Producers.j1, Bool.false_eq_true, if_false]
    exact Evs.done ⟨h4, by dsimp only; omega, by dsimp only; omega⟩
  | true =>
    have hpos := hf rfl
    simp only [spec_l92Producers.j1, if_true, bsome]
    refine Evs.bind (pick_evs bs p (l.length : Int) hb hl h0 (by omega) (by omega)) ?_
    rintro ⟨v, _⟩ ⟨v0, v1, rfl⟩
    refine Evs.bind (pick_evs bs (p + 1) 2 hb hl (by omega) (by omega) (by omega)) ?_
    rintro ⟨u, _⟩ ⟨u0, u1, rfl⟩
    simp only [if_pos u0, if_pos (show u < (([(-1), 100] : List Int).length : Int) from u1), if_pos v0, if_pos v1]
    exact Evs.done ⟨by dsimp only; rw [List.length_set]; exact h4, by dsimp only; omega, by dsimp only; omega⟩
theorem prods_loop (bs : List Int) (hb : Bytes bs) (hl : bs.length ≤ 2000) : ∀ (d : Nat) (l : List Pr) (i p : Int), 4 - i = d → 0 ≤ i → (l.length : Int) ≤ i → 0 ≤ p → p + 3 * d ≤ 1000000 →
    Evs (fun k => spec_l92Producers.l0 k l i bs p) (fun r => r.1.length ≤ 4 ∧ p ≤ r.2 ∧ r.2 ≤ p + 3 * d + 3) := by
  intro d
  induction d with
  | zero =>
    intro l i p hd hi hll h0 h1
    refine Evs.succ ?_
    simp only [spec_l92Producers.l0, if_neg (show ¬ i < 4 by omega)]
    by_cases hz : (l.length : Int) > 0
    · simp only [if_pos hz]
      refine Evs.bind (pick_evs bs p 24 hb hl h0 (by omega) (by omega)) ?_
      rintro ⟨v, _⟩ ⟨v0, v1, rfl⟩
      have h := prods_end bs hb hl l (by omega) (v == 0) (fun _ => by omega) (p + 1) (by omega) (by omega)
      exact h.mono (fun r hr => ⟨hr.1, by have := hr.2.1; omega, by have := hr.2.2; omega⟩)
    · simp only [if_neg hz]
      have h := prods_end bs hb hl l (by omega) false (fun h => by cases h) p (by omega) (by omega)
      exact h.mono (fun r hr => ⟨hr.1, by have := hr.2.1; omega, by have := hr.2.2; omega⟩)
  | succ d ih =>
    intro l i p hd hi hll h0 h1
    have e1 : wrap64 (i + 1) = i + 1 := wrap_id (by omega) (by omega)
    refine Evs.succ ?_
    simp only [spec_l92Producers.l0, if_pos (show i < 4 by omega), e1]
    refine Evs.bind (pick_evs bs p 3 hb hl h0 (by omega) (by omega)) ?_
    rintro ⟨v, _⟩ ⟨v0, v1, rfl⟩
    by_cases hv : v > 0
    · simp only [if_pos hv]
      refine Evs.bind (pick_evs bs (p + 1) 3 hb hl (by omega) (by omega) (by omega)) ?_
      rintro ⟨u, _⟩ ⟨u0, u1, rfl⟩
      refine Evs.bind (pick_evs bs (p + 1 + 1) 6 hb hl (by omega) (by omega) (by omega)) ?_
      rintro ⟨x, _⟩ ⟨x0, x1, rfl⟩
      simp only [if_pos (show l.length < 5864062014805 from lim (by omega) (by omega))]
      have h := ih (l ++ [⟨i, u, x⟩]) (i + 1) (p + 1 + 1 + 1) (by omega) (by omega) (by simp; omega) (by omega) (by omega)
      exact h.mono (fun r hr => ⟨hr.1, by have := hr.2.1; omega, by have := hr.2.2; omega⟩)
    · simp only [if_neg hv]
      have h := ih l (i + 1) (p + 1) (by omega) (by omega) (by omega) (by omega) (by omega)
      exact h.mono (fun r hr => ⟨hr.1, by have := hr.2.1; omega, by have := hr.2.2; omega⟩)
theorem prods_evs (bs : List Int) (hb : Bytes bs) (hl : bs.length ≤ 2000) (p : Int) (h0 : 0 ≤ p) (h1 : p ≤ 900000) : Evs (fun k => spec_l92Producers.f k bs p) (fun r => r.1.length ≤ 4 ∧ p ≤ r.2 ∧ r.2 ≤ p + 15) := by
  unfold spec_l92Producers.f
  have h := prods_loop bs hb hl 4 [] 0 p (by omega) (by omega) (by simp) h0 (by omega)
  refine Evs.mono h (fun r hr => ?_)
  exact ⟨hr.1, hr.2.1, by have := hr.2.2; omega⟩
end Go.Proofs.Ytkhmopmfbocokaa.Q
namespace Go.Proofs.Ytkhmopmfbocokaa.Q
open Go.RowKit Go.Proofs.Ytkhmopmfbocokaa.T Go.Proofs.YtkhmopmfbocokaaW.PrintWords Go.Proofs.YtkhmopmfbocokaaW.PrintLast
set_option linter.unusedVariables false
set_option linter.unusedSimpArgs false
def drawnN (r : List Pr × Bool × Bool × Int × Int × Int × List Rc × Int) : Prop := r.1.length ≤ 4 ∧ drawnR 5 r.2.2.2.2.2.2.1
theorem numbered_evs (bs : List Int) (hb : Bytes bs) (hl : bs.length ≤ 2000) (p : Int) (h0 : 0 ≤ p) (h1 : p ≤ 100000) : Evs (fun k => spec_l92Numbered.f k bs p) drawnN := by
  unfold spec_l92Numbered.f
  refine Evs.bind (prods_evs bs hb hl p h0 (by omega)) ?_
  rintro ⟨l, q⟩ ⟨h4, q0, q1⟩
  dsimp only at h4 q0 q1 ⊢
  refine Evs.bind (pick_evs bs q 40 hb hl (by omega) (by omega) (by omega)) ?_
  rintro ⟨u, _⟩ ⟨u0, u1, rfl⟩
  refine Evs.bind (batch_evs bs hb hl (q + 1) u (by omega) (by omega)) ?_
  rintro ⟨b0, b1, b2, b3, b4, rs, p2⟩ ⟨hd, hpos, p0, p1, _⟩
  dsimp only at hd hpos p0 p1 ⊢
  by_cases hz : (l.length : Int) > 0
  · simp only [if_pos hz]
    refine Evs.bind (pick_evs bs p2 4 hb hl (by omega) (by omega) (by omega)) ?_
    rintro ⟨v, _⟩ ⟨v0, v1, rfl⟩
    refine Evs.succ ?_
    by_cases hv : v > 0
    · simp only [spec_l92Numbered.j0, decide_eq_true hv, if_true]
      refine Evs.bind (pick_evs bs (p2 + 1) (l.length : Int) hb hl (by omega) (by omega) (by omega)) ?_
      rintro ⟨x, _⟩ ⟨x0, x1, rfl⟩
      simp only [if_pos x0, if_pos x1]
      refine Evs.bind (pick_evs bs (p2 + 1 + 1) 6 hb hl (by omega) (by omega) (by omega)) ?_
      rintro ⟨y, _⟩ ⟨y0, y1, rfl⟩
      by_cases hy : y = 0
      · simp only [if_pos hy]
        refine Evs.bind (pick_evs bs (p2 + 1 + 1 + 1) 5 hb hl (by omega) (by omega) (by omega)) ?_
        rintro ⟨z, _⟩ ⟨z0, z1, rfl⟩
        exact Evs.done ⟨h4, hd⟩
      · simp only [if_neg hy]
        by_cases hy1 : y = 1
        · simp only [if_pos hy1]
          refine Evs.bind (pick_evs bs (p2 + 1 + 1 + 1) 3 hb hl (by omega) (by omega) (by omega)) ?_
          rintro ⟨z, _⟩ ⟨z0, z1, rfl⟩
          refine Evs.bind (pick_evs bs (p2 + 1 + 1 + 1 + 1) 2 hb hl (by omega) (by omega) (by omega)) ?_
          rintro ⟨s, _⟩ ⟨s0, s1, rfl⟩
          exact Evs.done ⟨h4, hd⟩
        · simp only [if_neg hy1]
          exact Evs.done ⟨h4, hd⟩
    · simp only [spec_l92Numbered.j0, decide_eq_false hv, Bool.false_eq_true, if_false]
      exact Evs.done ⟨h4, hd⟩
  · simp only [if_neg hz]
    refine Evs.succ ?_
    simp only [spec_l92Numbered.j0, Bool.false_eq_true, if_false]
    exact Evs.done ⟨h4, hd⟩
end Go.Proofs.Ytkhmopmfbocokaa.Q
namespace Go.Proofs.Ytkhmopmfbocokaa.T
open Go.RowKit Go.Proofs.YtkhmopmfbocokaaW.PrintWords Go.Proofs.YtkhmopmfbocokaaW.PrintLast Go.Proofs.YtkhmopmfbocokaaW.PrintMore

set_option linter.unusedVariables false
set_option linter.unusedSimpArgs false
end Go.Proofs.Ytkhmopmfbocokaa.T
namespace Go.Proofs.Ytkhmopmfbocokaa.Q
open Go.RowKit Go.Proofs.Ytkhmopmfbocokaa.T Go.Proofs.YtkhmopmfbocokaaW.PrintWords Go.Proofs.YtkhmopmfbocokaaW.PrintLast
set_option linter.unusedVariables false
set_option linter.unusedSimpArgs false
def drawnC (r : List Pr × Bool × Bool × Int × Int × Int × List Rc) : Prop := r.1.length ≤ 4 ∧ smallRs r.2.2.2.2.2.2
theorem drawCheck {l0 : List Int} (hb : Bytes l0) : Evs (fun k => spec_DrawProducersCheck.f k l0) drawnC := by
  obtain ⟨b, ho, hb2, hbl⟩ := open_ev l0 hb
  unfold spec_DrawProducersCheck.f
  simp only [ho, bsome]
  refine Evs.bind (numbered_evs b hb2 hbl 0 (by omega) (by omega)) ?_
  rintro r ⟨h4, hd⟩
  exact Evs.done ⟨h4, drawnR_small (by omega) hd⟩
end Go.Proofs.Ytkhmopmfbocokaa.Q
namespace Go.Proofs.Ytkhmopmfbocokaa.T
open Go.RowKit Go.Proofs.YtkhmopmfbocokaaW.PrintWords Go.Proofs.YtkhmopmfbocokaaW.PrintLast Go.Proofs.YtkhmopmfbocokaaW.PrintMore

set_option linter.unusedVariables false
set_option linter.unusedSimpArgs false
end Go.Proofs.Ytkhmopmfbocokaa.T
namespace Go.Proofs.Ytkhmopmfbocokaa.T
open Go.RowKit Go.Proofs.YtkhmopmfbocokaaW.PrintWords Go.Proofs.YtkhmopmfbocokaaW.PrintLast Go.Proofs.YtkhmopmfbocokaaW.PrintMore

set_option linter.unusedVariables false
set_option linter.unusedSimpArgs false
end Go.Proofs.Ytkhmopmfbocokaa.T
namespace Go.Proofs.Ytkhmopmfbocokaa.T
open Go.RowKit Go.Proofs.YtkhmopmfbocokaaW.PrintWords Go.Proofs.YtkhmopmfbocokaaW.PrintLast Go.Proofs.YtkhmopmfbocokaaW.PrintMore

set_option linter.unusedVariables false
set_option linter.unusedSimpArgs false
theorem eqA39 (d : Nat) (w : World) (x0 y0 : Int) (x1 y1 : Int) (x2 y2 : Int) :
    (Op.equalIn (d + 2) 39 (.agg #[.int .i64 x0, .int .i64 x1, .int .i64 x2]) (.agg #[.int .i64 y0, .int .i64 y1, .int .i64 y2])).run Try.prog w = .ok (x0 == y0 && (x1 == y1 && (x2 == y2))) w := by
  refine eqA_of Try.underlying39 (by kernel_rfl) ?_
  refine eqf_cons (by rfl) (by go_simp; rfl) (by go_simp; rfl) (by go_simp) ?_
  refine eqf_cons (by rfl) (by go_simp; rfl) (by go_simp; rfl) (by go_simp) ?_
  exact eqf_last (by rfl) (by go_simp; rfl) (by go_simp; rfl) (by go_simp)
end Go.Proofs.Ytkhmopmfbocokaa.T
namespace Go.Proofs.Ytkhmopmfbocokaa.T
open Go.RowKit Go.Proofs.YtkhmopmfbocokaaW.PrintWords Go.Proofs.YtkhmopmfbocokaaW.PrintLast Go.Proofs.YtkhmopmfbocokaaW.PrintMore

set_option linter.unusedVariables false
set_option linter.unusedSimpArgs false
attribute [local go_sem high] eqA39
end Go.Proofs.Ytkhmopmfbocokaa.T
namespace Go.Proofs.Ytkhmopmfbocokaa.Q
open Go.RowKit Go.Proofs.Ytkhmopmfbocokaa.T Go.Proofs.YtkhmopmfbocokaaW.PrintWords Go.Proofs.YtkhmopmfbocokaaW.PrintLast
set_option linter.unusedVariables false
set_option linter.unusedSimpArgs false
theorem VP_mem {l : List Pr} (h : VP l) : ∀ t ∈ l, okP t := ((VP_iff l).1 h).2.1
theorem VP_sorted {l : List Pr} (h : VP l) : l.Pairwise ltP := ((VP_iff l).1 h).2.2
theorem VP_ids {l : List Pr} (h : VP l) : idsOk l = true := by
  unfold idsOk
  rw [List.all_eq_true]
  intro t ht
  have := (VP_mem h t ht).1
  simp
  omega
theorem VB_prod {a1 : Bool} {a2 a3 a4 : Int} {rs : List Rc} (h : VB a1 a2 a3 a4 rs) : 0 ≤ a2 ∧ a2 ≤ 255 := by
  have := h.1
  split at this
  · omega
  · omega
theorem prodOk_of {l : List Pr} (h : VP l) {a1 : Bool} {a2 a3 a4 : Int} {rs : List Rc} (hb : VB a1 a2 a3 a4 rs) : prodOk l a2 = true := by
  have := VB_prod hb
  unfold prodOk
  rw [VP_ids h]
  simp
  omega
def slotOf (t : Pr) : SlotV := ⟨true, t.f0, t.f1, t.f2⟩
theorem fold_not : ∀ (l : List Pr) (f : Nat → SlotV) (i : Nat), (∀ t ∈ l, t.f0.toNat ≠ i) → l.foldl slotPut f i = f i
  | [], f, i, h => rfl
  | a :: l, f, i, h => by
    rw [List.foldl_cons, fold_not l (slotPut f a) i (fun t ht => h t (List.mem_cons_of_mem _ ht))]
    unfold slotPut
    rw [if_neg (fun e => h a List.mem_cons_self e.symm)]
theorem fold_mem : ∀ (l : List Pr) (f : Nat → SlotV), l.Pairwise ltP → (∀ t ∈ l, 0 ≤ t.f0) → ∀ t ∈ l, l.foldl slotPut f t.f0.toNat = slotOf t
  | [], f, hs, h0, t, ht => by cases ht
  | a :: l, f, hs, h0, t, ht => by
    rw [List.foldl_cons]
    rw [List.pairwise_cons] at hs
    rcases List.mem_cons.1 ht with rfl | ht
    · rw [fold_not l _ _ (fun s hs' => by
        have h1 := hs.1 s hs'
        have h2 := h0 s (List.mem_cons_of_mem _ hs')
        have h3 := h0 t List.mem_cons_self
        unfold ltP at h1
        omega)]
      unfold slotPut slotOf
      rw [if_pos rfl]
    · exact fold_mem l _ hs.2 (fun s hs' => h0 s (List.mem_cons_of_mem _ hs')) t ht
theorem slotFn_mem {l : List Pr} (h : VP l) (t : Pr) (ht : t ∈ l) : slotFn l t.f0.toNat = slotOf t := fold_mem l _ (VP_sorted h) (fun s hs => (VP_mem h s hs).1.1) t ht
theorem slotFn_not {l : List Pr} (h : VP l) (i : Nat) (hi : ∀ t ∈ l, t.f0 ≠ (i : Int)) : slotFn l i = slot0 := by
  unfold slotFn
  rw [fold_not l _ i (fun t ht e => hi t ht (by have := (VP_mem h t ht).1.1; omega))]
def findP (l : List Pr) (p : Int) : Option Pr := l.find? (fun t => t.f0 == p)
theorem findP_some {l : List Pr} {p : Int} {t : Pr} (h : findP l p = some t) : t ∈ l ∧ t.f0 = p := by
  unfold findP at h
  exact ⟨List.mem_of_find?_eq_some h, by have := List.find?_some h; simpa using this⟩
theorem findP_none {l : List Pr} {p : Int} (h : findP l p = none) : ∀ t ∈ l, t.f0 ≠ p := by
  intro t ht
  have := List.find?_eq_none.1 h t ht
  simpa using this
def codeP (l : List Pr) (p e s : Int) : Int :=
  if p = 255 then 4 else match findP l p with
    | some t => if t.f1 > e then 3 else if t.f1 = e then seqCode s t.f2 else seqCode s 0
    | none => seqCode s 0
theorem codeAt_eq {l : List Pr} (h : VP l) (p e s : Int) (h0 : 0 ≤ p) : codeAt (slotFn l) p e s = codeP l p e s := by
  unfold codeAt codeP
  by_cases hp : p = 255
  · rw [if_pos hp, if_pos hp]
  · rw [if_neg hp, if_neg hp]
    cases hf : findP l p with
    | none =>
      rw [slotFn_not h p.toNat (fun t ht => by have := findP_none hf t ht; omega)]
      rfl
    | some t =>
      obtain ⟨h1, h2⟩ := findP_some hf
      subst h2
      rw [slotFn_mem h t h1]
      rfl
noncomputable def pcode (l : List Pr) (a1 : Bool) (a2 a3 a4 : Int) (rs : List Rc) : Int := if vp l = true then (if vb a1 a2 a3 a4 rs = true then codeP l a2 a3 a4 else 5) else 5
theorem implCheck (l : List Pr) (hl : l.length ≤ 1000000000000) (a0 a1 : Bool) (a2 a3 a4 : Int) (rs : List Rc) (hr : smallRs rs) : Ev (fun k => impl_ProducersCheck.f k l a0 a1 a2 a3 a4 rs) (pcode l a1 a2 a3 a4 rs) := by
  unfold impl_ProducersCheck.f pcode
  refine Ev.bind (implPValid l hl) ?_
  by_cases h : vp l = true
  · simp only [if_pos h]
    refine Ev.bind (implB a0 a1 a2 a3 a4 rs hr) ?_
    by_cases h2 : vb a1 a2 a3 a4 rs = true
    · have hV := (vp_iff l).1 h
      have hB := (vb_iff _ _ _ _ _).1 h2
      simp only [if_pos h2, if_pos (prodOk_of hV hB), codeAt_eq hV a2 a3 a4 (VB_prod hB).1]
      exact ev_some _
    · simp only [if_neg h2]
      exact ev_some _
  · simp only [if_neg h]
    exact ev_some _
def atP (l : List Pr) (x : Int) : Int := match l.findIdx? (fun t => t.f0 == x) with
  | some i => i
  | none => -1
theorem atP_cases (l : List Pr) (x : Int) : (atP l x = -1 ∧ findP l x = none ∧ ∀ j, j < l.length → (rp l (j : Int)).f0 ≠ x) ∨ ∃ i : Nat, i < l.length ∧ atP l x = i ∧ findP l x = some (rp l (i : Int)) ∧ (rp l (i : Int)).f0 = x ∧ ∀ j, j < i → (rp l (j : Int)).f0 ≠ x := by
  unfold atP findP
  cases h : l.findIdx? (fun t => t.f0 == x) with
  | none =>
    rw [List.findIdx?_eq_none_iff] at h
    refine .inl ⟨rfl, List.find?_eq_none.2 (fun t ht => by have := h t ht; simpa using this), fun j hj => ?_⟩
    have := h l[j] (List.getElem_mem hj)
    rw [rp_nat l j hj]
    simpa using this
  | some i =>
    rw [List.findIdx?_eq_some_iff_getElem] at h
    obtain ⟨hi, h1, h2⟩ := h
    refine .inr ⟨i, hi, rfl, ?_, ?_, fun j hj => ?_⟩
    · rw [rp_nat l i hi, List.find?_eq_some_iff_getElem]
      exact ⟨h1, i, hi, rfl, fun j hj => by have := h2 j hj; simpa using this⟩
    · rw [rp_nat l i hi]; simpa using h1
    · rw [rp_nat l j (by omega)]
      have := h2 j hj
      simpa using this
theorem specAtP_loop (l : List Pr) (x : Int) (hl : l.length ≤ 1000000000000) : ∀ (d i : Nat), l.length - i = d → i ≤ l.length → (∀ j, j < i → (rp l (j : Int)).f0 ≠ x) → Ev (fun k => spec_l21At.l0 k l x (i : Int)) (atP l x) := by
  intro d
  induction d with
  | zero =>
    intro i hd hi hn
    refine ev_succ ?_
    simp only [spec_l21At.l0, if_neg (show ¬ (i : Int) < (l.length : Int) by omega)]
    rcases atP_cases l x with ⟨h, _⟩ | ⟨j, hj, h, _, h1, _⟩
    · rw [h]; exact ev_some _
    · exact absurd h1 (hn j (by omega))
  | succ d ih =>
    intro i hd hi hn
    have e1 : wrap64 ((i : Int) + 1) = ((i + 1 : Nat) : Int) := by rw [wrap_id (by omega) (by omega)]; omega
    refine ev_succ ?_
    by_cases h : (rp l (i : Int)).f0 = x
    · simp only [spec_l21At.l0, if_pos (show (i : Int) < (l.length : Int) by omega), if_pos (show (0 : Int) ≤ i by omega), if_pos h]
      rcases atP_cases l x with ⟨_, _, h2⟩ | ⟨j, hj, h2, _, h3, h4⟩
      · exact absurd h (h2 i (by omega))
      · have : j = i := by
          rcases Nat.lt_trichotomy j i with h5 | h5 | h5
          · exact absurd h3 (hn j h5)
          · exact h5
          · exact absurd h (h4 i h5)
        rw [h2, this]
        exact ev_some _
    · simp only [spec_l21At.l0, if_pos (show (i : Int) < (l.length : Int) by omega), if_pos (show (0 : Int) ≤ i by omega), if_neg h, e1]
      refine ih (i + 1) (by omega) (by omega) (fun j hj => ?_)
      by_cases e : j = i
      · subst e; exact h
      · exact hn j (by omega)
theorem specAtP (l : List Pr) (x : Int) (hl : l.length ≤ 1000000000000) : Ev (fun k => spec_l21At.f k l x) (atP l x) := by
  unfold spec_l21At.f
  exact specAtP_loop l x hl l.length 0 (by omega) (by omega) (fun j hj => by omega)
theorem spec_seq (n : Int) (a0 a1 : Bool) (a2 a3 a4 : Int) (rs : List Rc) : Ev (fun k => spec_l21Check.j0 k n a0 a1 a2 a3 a4 rs) (seqCode a4 n) := by
  refine ev_succ ?_
  unfold seqCode
  simp only [spec_l21Check.j0]
  by_cases h : a4 < n
  · simp only [if_pos h]; exact ev_some _
  · simp only [if_neg h]
    by_cases h2 : a4 > n
    · simp only [if_pos h2]; exact ev_some _
    · simp only [if_neg h2]; exact ev_some _
theorem specCode (l : List Pr) (hl : l.length ≤ 1000000000000) (a0 a1 : Bool) (a2 a3 a4 : Int) (rs : List Rc) : Ev (fun k => spec_l21Check.f k l a0 a1 a2 a3 a4 rs) (codeP l a2 a3 a4) := by
  unfold spec_l21Check.f codeP
  by_cases hp : a2 = 255
  · simp only [if_pos hp]; exact ev_some _
  · simp only [if_neg hp]
    refine Ev.bind (specAtP l a2 hl) ?_
    rcases atP_cases l a2 with ⟨h, hf, _⟩ | ⟨i, hi, h, hf, h1, _⟩
    · rw [h, hf]
      simp only [if_neg (show ¬ ((-1 : Int) ≥ 0) by omega)]
      exact spec_seq _ _ _ _ _ _ _
    · rw [h, hf]
      simp only [if_pos (show (i : Int) ≥ 0 by omega), if_pos (show (0 : Int) ≤ i by omega), if_pos (show (i : Int) < (l.length : Int) by omega)]
      by_cases h2 : a3 < (rp l (i : Int)).f1
      · simp only [if_pos h2, if_pos (show (rp l (i : Int)).f1 > a3 from h2)]; exact ev_some _
      · simp only [if_neg h2, if_neg (show ¬ (rp l (i : Int)).f1 > a3 from h2)]
        by_cases h3 : a3 = (rp l (i : Int)).f1
        · simp only [if_pos h3, if_pos h3.symm]
          exact spec_seq _ _ _ _ _ _ _
        · simp only [if_neg h3, if_neg (fun h4 => h3 (Eq.symm h4))]
          exact spec_seq _ _ _ _ _ _ _
theorem specCheck (l : List Pr) (hl : l.length ≤ 1000000000000) (a0 a1 : Bool) (a2 a3 a4 : Int) (rs : List Rc) (hr : smallRs rs) : Ev (fun k => spec_ProducersCheck.f k l a0 a1 a2 a3 a4 rs) (pcode l a1 a2 a3 a4 rs) := by
  unfold spec_ProducersCheck.f pcode
  refine Ev.bind (specPValid l hl) ?_
  by_cases h : vp l = true
  · simp only [if_pos h]
    refine Ev.bind (specB a0 a1 a2 a3 a4 rs hr) ?_
    by_cases h2 : vb a1 a2 a3 a4 rs = true
    · simp only [if_pos h2]
      exact Ev.bind (specCode l hl a0 a1 a2 a3 a4 rs) (ev_some _)
    · simp only [if_neg h2]
      exact ev_some _
  · simp only [if_neg h]
    exact ev_some _
theorem pcode_cases (l : List Pr) (a1 : Bool) (a2 a3 a4 : Int) (rs : List Rc) (h : pcode l a1 a2 a3 a4 rs ≠ 5) : VP l ∧ VB a1 a2 a3 a4 rs ∧ pcode l a1 a2 a3 a4 rs = codeP l a2 a3 a4 := by
  unfold pcode at h ⊢
  by_cases h1 : vp l = true
  · by_cases h2 : vb a1 a2 a3 a4 rs = true
    · rw [if_pos h1, if_pos h2]
      exact ⟨(vp_iff l).1 h1, (vb_iff _ _ _ _ _).1 h2, rfl⟩
    · rw [if_pos h1, if_neg h2] at h
      exact absurd rfl h
  · rw [if_neg h1] at h
    exact absurd rfl h
end Go.Proofs.Ytkhmopmfbocokaa.Q
namespace Go.Proofs.Ytkhmopmfbocokaa.Pure
open Go.RowKit Go.Proofs.Ytkhmopmfbocokaa.T Go.Proofs.YtkhmopmfbocokaaW.PrintWords Go.Proofs.YtkhmopmfbocokaaW.PrintLast Go.Proofs.Ytkhmopmfbocokaa.Q
set_option linter.unusedVariables false
set_option linter.unusedSimpArgs false
theorem free_iff (l : List Pr) (a2 a3 a4 : Int) : codeP l a2 a3 a4 = 4 ↔ a2 = 255 := by
  unfold codeP seqCode
  constructor
  · intro h
    by_cases h2 : a2 = 255
    · exact h2
    · rw [if_neg h2] at h
      split at h
      · split at h
        · omega
        · split at h
          · split at h
            · omega
            · split at h <;> omega
          · split at h
            · omega
            · split at h <;> omega
      · split at h
        · omega
        · split at h <;> omega
  · intro h
    rw [if_pos h]
theorem FnCheckFree : laws_FnCheckFree.Pure := by
  intro l0 _ _ hb0
  refine Ev.rounds ?_
  have hb := bytes_of hb0
  unfold laws_FnCheckFree.f
  by_cases h : (l0.length : Int) > 1048576
  · simp only [if_pos h]
    exact ev_some _
  · simp only [if_neg h]
    obtain ⟨⟨l, a0, a1, a2, a3, a4, rs⟩, hd, h4, hrs⟩ := drawCheck hb
    dsimp only at h4 hrs
    refine Ev.bind hd ?_
    refine Ev.bind (implCheck l (by omega) a0 a1 a2 a3 a4 rs hrs) ?_
    refine Ev.bind (specCheck l (by omega) a0 a1 a2 a3 a4 rs hrs) ?_
    simp only [if_true]
    refine ev_succ ?_
    by_cases hz : pcode l a1 a2 a3 a4 rs = 5
    · simp only [laws_FnCheckFree.j0, show (pcode l a1 a2 a3 a4 rs == 5) = true by simpa using hz, if_true, beq_self_eq_true]
      exact ev_some _
    · obtain ⟨hV, hB, hc⟩ := pcode_cases l a1 a2 a3 a4 rs hz
      have he : ((pcode l a1 a2 a3 a4 rs == 4) == (a2 == 255)) = true := by
        rw [hc]
        have := free_iff l a2 a3 a4
        by_cases h2 : a2 = 255
        · rw [this.2 h2, h2]; rfl
        · have h3 : codeP l a2 a3 a4 ≠ 4 := fun h => h2 (this.1 h)
          rw [show (codeP l a2 a3 a4 == 4) = false by simpa using h3, show (a2 == 255) = false by simpa using h2]
          rfl
      simp only [laws_FnCheckFree.j0, show (pcode l a1 a2 a3 a4 rs == 5) = false by simpa using hz, Bool.false_eq_true, if_false, he, if_true]
      have h1 := implPValid l (by omega)
      rw [(vp_iff l).2 hV] at h1
      refine Ev.bind h1 ?_
      simp only [if_true]
      have h2 := implB a0 a1 a2 a3 a4 rs hrs
      rw [(vb_iff _ _ _ _ _).2 hB] at h2
      exact Ev.bind h2 (ev_some _)
end Go.Proofs.Ytkhmopmfbocokaa.Pure
namespace Go.Proofs.Ytkhmopmfbocokaa.fnCheckFree
open Go.ChangeShapes Go.WideShapes Go.ChangeAt Go.RowKit
open Go.ChangeMaps (open_string shut_string)
set_option linter.unusedVariables false
theorem own : ownKnob Try.prog.godebug = none := by kernel_rfl
theorem laidOut : laidOutB Try.prog = true := by kernel_rfl
def IsRow (k : IntKind) (w : World) (a : Option Addr) (len cap : Nat) (zs : List Int) : Prop :=
  (a = none ∧ len = 0 ∧ cap = 0 ∧ zs = []) ∨
  ∃ x, a = some x ∧ len ≤ cap ∧ cap ≤ maxLen ∧ zs.length = cap ∧ (∀ i, i < zs.length → w.cell? (x.add i) = some (.int k (zs.getD i 0))) ∧ ∀ n ∈ zs, (Lit.int k n).wf = true
set_option maxRecDepth 100000 in
theorem lifted (os : Os) (started : os.Started) (H : Type) (enc : TypeId × Value → H) :
    ReturnsInHanded {} Try.checked os 6 .any (Rows.fnCheckFreeSpec.pre6 enc Try.prog Try.f6 Rows.fnCheckFreeRow.domain false) (Rows.fnCheckFreeSpec.post enc Try.prog Try.f6 false true false false) := by
  refine returnsInHanded_of_change_sized (C := Try.checked) own started (by kernel_rfl) Try.func6
    (ChangeSpec.witness6 (enc := enc) (C := Try.checked) false ⟨#[], #[.slice none 0 0], []⟩ 8 (by kernel_rfl) (by kernel_rfl) (by kernel_rfl) (by kernel_rfl)) ?_
  intro W base args ds gs before hval0 hW hcnd hsz0 _
  have hsz : (DataW.weightsEach Try.prog (Try.f6.params.toList ++ Rows.fnCheckFreeSpec.plain.varTypes Try.prog) (ds ++ gs)).all (· ≤ reachBytes) = true := hsz0
  have hval : ∀ (j : Nat) t v, Try.f6.params[j]? = some t → args[j]? = some v → Value.okWide Try.prog W .any base t v := hval0
  have hW' := hW
  obtain ⟨p, q, hA0, hV, rfl, hfz, hnd⟩ := hW
  have hA : DataW.TrodAll enc Try.prog W 0 (fun _ => true) true Try.f6.params.toList args.toList ds p := hA0
  rw [Try.params6] at hA hval hsz
  obtain ⟨v0, vs0, d0, ds0, p0, q0, hargs, rfl, rfl, h0, r0⟩ := trodAll_cons hA
  obtain ⟨rfl, rfl, rfl⟩ := trodAll_nil r0
  obtain rfl : args = #[v0] := by cases args; simp_all
  obtain ⟨rfl, rfl⟩ := trodVars_none hV
  obtain ⟨a0, len0, cap0, rfl⟩ := okWide_slice Try.underlying22 (hval 0 22 v0 rfl rfl)
  have k0 := h0
  have lt0 : ∀ x ∈ p0, x.block < W.heap.size := by obtain ⟨m, hm⟩ := k0; exact DataW.trod_lt m _ _ _ hm
  obtain ⟨z0, w0⟩ : ∃ zs, IsRow .u8 W a0 len0 cap0 zs := by
    obtain ⟨fuel, hf⟩ := h0
    rcases open_ints Try.underlying22 Try.underlying5 (by kernel_rfl) hf with ⟨hcs, _⟩ | ⟨x, l, c, zs, hcs, _, hl, hm, hz, _, hcell, hwz⟩
    · simp [Value.cells] at hcs
      obtain ⟨rfl, rfl, rfl⟩ := hcs
      exact ⟨[], .inl ⟨rfl, rfl, rfl, rfl⟩⟩
    · simp [Value.cells] at hcs
      obtain ⟨rfl, rfl, rfl⟩ := hcs
      exact ⟨zs, .inr ⟨_, rfl, hl, hm, by simpa using hz, hcell, hwz⟩⟩
  have y0 : len0 * 1 ≤ 140737488351232 := Go.Proofs.YtkhmopmfbocokaaW.PrintWords.sized_ints hsz (j := 0) (t := 22) rfl rfl Try.underlying22 Try.underlying5 (by kernel_rfl) (by kernel_rfl) h0
  clear hA0 hval0 hsz0 hsz
  refine (T.laws_FnCheckFree.walk Pure.FnCheckFree a0 len0 cap0 z0 W w0 y0).mono fun e W' ⟨he, bel⟩ => ?_
  subst he
  exact ⟨_, rfl, _, _, _, [], _, [], hW', trodAll_mk1 (shut_bool Try.underlying4 _), (trodAll_cons_mk (Below.trod laidOut (by kernel_rfl) (of_decide_eq_true (by kernel_rfl)) k0 bel lt0) trodAll_mk0), rfl, bel.frame _, fun h => by cases h⟩
theorem closed : joinedFacts Try.prog 6 Try.f6 Rows.fnCheckFreeSpec Rows.fnCheckFreeRow = true :=
  Head.closed_of _ _ _ _ _ (by kernel_rfl) (by kernel_rfl) (by kernel_rfl) (by kernel_rfl) (by kernel_rfl) (by kernel_rfl) (by kernel_rfl) (by kernel_rfl) (by kernel_rfl) (by kernel_rfl) (by kernel_rfl) (by kernel_rfl) (by kernel_rfl) (by kernel_rfl) (by kernel_rfl) (by kernel_rfl) (by kernel_rfl) (by kernel_rfl) (by kernel_rfl) (by kernel_rfl) (by kernel_rfl) (by kernel_rfl) (by kernel_rfl) (by kernel_rfl) (by kernel_rfl) Head.may_enter (by rw [Head.lifts_final]; kernel_rfl) (by rw [Head.make_is]; kernel_rfl) (by kernel_rfl) (by kernel_rfl) (by kernel_rfl) (by kernel_rfl)
theorem over : Rows.fnCheckFreeRow.holds Try.pinned (OpenSpec.ofChange Rows.fnCheckFreeSpec) :=
  OpenClaim.holds_of_wide 6 Try.f6 rfl rfl rfl rfl rfl rfl rfl ⟨rfl, rfl, rfl, rfl, rfl⟩ rfl rfl rfl rfl rfl (by kernel_rfl) Try.func6 closed
    (of_decide_eq_true (by kernel_rfl)) (by unfold Func.isWrapper; first | (rw [if_pos (by decide +kernel)]; kernel_rfl) | (rw [if_neg (by decide +kernel)]; exact ⟨rfl, rfl⟩))
    (fun os started H enc _ => lifted os started H enc)
theorem proved : Rows.FnCheckFreeSaid := over
end Go.Proofs.Ytkhmopmfbocokaa.fnCheckFree
namespace Go.Proofs.Ytkhmopmfbocokaa
theorem fnCheckFree_holds : Rows.FnCheckFreeSaid := fnCheckFree.proved
end Go.Proofs.Ytkhmopmfbocokaa
