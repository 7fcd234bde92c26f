/- FnExactProducersCheck, part 5 of 5: merged by wip/tools/pack2.py out of the texts that the row reaches; the pure statement is the session's own. -/
import Derived.RowKit
import Derived.RegionTactic
import Derived.Test.YtkhmopmfbocokaaRows
import Derived.WalkKit
import Derived.ProofKit
import Derived.OpenShut
import Derived.ShutString
import Derived.ChangeOld
import Derived.Below
import Derived.SizedLaws
import Derived.Test.YtkhmopmfbocokaaFnExactProducersCheckK3
namespace Go.Proofs.Ytkhmopmfbocokaa.T
open Go.RowKit Go.Proofs.YtkhmopmfbocokaaW.PrintWords
set_option linter.unusedVariables false
def WF72 (x : S72) : Prop := (Lit.int .i64 x.f0).wf = true ∧ (Lit.int .i64 x.f1).wf = true ∧ (Lit.int .i64 x.f2).wf = true
theorem opens72 : Q.Opens Try.prog k72 72 WF72 :=
  Q.Opens.iso (Q.Opens.struct Try.underlying72 (by kernel_rfl) (Q.OpensFs.cons rfl (by kernel_rfl) (Q.Opens.int Try.underlying3) (Q.OpensFs.cons rfl (by kernel_rfl) (Q.Opens.int Try.underlying3) (Q.OpensFs.one rfl (by kernel_rfl) (Q.Opens.int Try.underlying3))))) (fun p => ⟨p.1, p.2.1, p.2.2⟩) (fun _ => rfl)
def WF99 (x : S99) : Prop := (Lit.int .i64 x.f0).wf = true ∧ (Lit.int .i64 x.f1).wf = true ∧ True ∧ (x.f3.length ≤ maxLen ∧ ∀ v ∈ x.f3, (Lit.int .i64 v).wf = true) ∧ True ∧ (x.f5.length ≤ maxLen ∧ ∀ v ∈ x.f5, (Lit.int .i64 v).wf = true)
theorem opens99 : Q.Opens Try.prog k99 99 WF99 :=
  Q.Opens.iso (Q.Opens.struct Try.underlying99 (by kernel_rfl) (Q.OpensFs.cons rfl (by kernel_rfl) (Q.Opens.int Try.underlying3) (Q.OpensFs.cons rfl (by kernel_rfl) (Q.Opens.int Try.underlying3) (Q.OpensFs.cons rfl (by kernel_rfl) (Q.Opens.bool Try.underlying4) (Q.OpensFs.cons rfl (by kernel_rfl) (Q.Opens.slice Try.underlying53 (Q.Opens.int Try.underlying3) (by kernel_rfl)) (Q.OpensFs.cons rfl (by kernel_rfl) (Q.Opens.bool Try.underlying4) (Q.OpensFs.one rfl (by kernel_rfl) (Q.Opens.slice Try.underlying53 (Q.Opens.int Try.underlying3) (by kernel_rfl))))))))) (fun p => ⟨p.1, p.2.1, p.2.2.1, p.2.2.2.1, p.2.2.2.2.1, p.2.2.2.2.2⟩) (fun _ => rfl)
def WF46 (x : S46) : Prop := True ∧ True ∧ (Lit.int .i64 x.f2).wf = true ∧ (Lit.int .i64 x.f3).wf = true ∧ (Lit.int .i64 x.f4).wf = true ∧ (x.f5.length ≤ maxLen ∧ ∀ v ∈ x.f5, WF99 v)
theorem opens46 : Q.Opens Try.prog k46 46 WF46 :=
  Q.Opens.iso (Q.Opens.struct Try.underlying46 (by kernel_rfl) (Q.OpensFs.cons rfl (by kernel_rfl) (Q.Opens.bool Try.underlying4) (Q.OpensFs.cons rfl (by kernel_rfl) (Q.Opens.bool Try.underlying4) (Q.OpensFs.cons rfl (by kernel_rfl) (Q.Opens.int Try.underlying3) (Q.OpensFs.cons rfl (by kernel_rfl) (Q.Opens.int Try.underlying3) (Q.OpensFs.cons rfl (by kernel_rfl) (Q.Opens.int Try.underlying3) (Q.OpensFs.one rfl (by kernel_rfl) (Q.Opens.slice Try.underlying44 opens99 (by kernel_rfl))))))))) (fun p => ⟨p.1, p.2.1, p.2.2.1, p.2.2.2.1, p.2.2.2.2.1, p.2.2.2.2.2⟩) (fun _ => rfl)
end Go.Proofs.Ytkhmopmfbocokaa.T
namespace Go.Proofs.Ytkhmopmfbocokaa.Q
open Go.RowKit Go.Proofs.YtkhmopmfbocokaaW.PrintWords
set_option linter.unusedVariables false
set_option linter.unusedSimpArgs false
theorem ev_succ {α : Type} {g : Nat → Option α} {r : α} (h : Ev (fun k => g (k + 1)) r) : Ev g r := Ev.step (f := fun k => g (k + 1)) (fun _ => rfl) h
theorem ev_of_all {α : Type} {g : Nat → Option α} {r : α} (h : ∀ k, g k = some r) : Ev g r := ⟨0, fun k _ => h k⟩
theorem ev_some {α : Type} (r : α) : Ev (fun _ => some r) r := ev_of_all fun _ => rfl
def Evs {α : Type} (g : Nat → Option α) (Q : α → Prop) : Prop := ∃ r, Ev g r ∧ Q r
theorem Evs.of {α : Type} {g : Nat → Option α} {Q : α → Prop} {r : α} (h : Ev g r) (hq : Q r) : Evs g Q := ⟨r, h, hq⟩
theorem Evs.done {α : Type} {Q : α → Prop} {r : α} (hq : Q r) : Evs (fun _ => some r) Q := ⟨r, ev_some r, hq⟩
theorem Evs.mono {α : Type} {g : Nat → Option α} {Q Q' : α → Prop} (h : Evs g Q) (hq : ∀ r, Q r → Q' r) : Evs g Q' := by
  obtain ⟨r, h1, h2⟩ := h
  exact ⟨r, h1, hq r h2⟩
theorem Evs.succ {α : Type} {g : Nat → Option α} {Q : α → Prop} (h : Evs (fun k => g (k + 1)) Q) : Evs g Q := by
  obtain ⟨r, h1, h2⟩ := h
  exact ⟨r, ev_succ h1, h2⟩
theorem Evs.bind {α β : Type} {g : Nat → Option α} {f : Nat → α → Option β} {Q : α → Prop} {R : β → Prop} (h : Evs g Q) (k : ∀ a, Q a → Evs (fun n => f n a) R) : Evs (fun n => (g n).bind (f n)) R := by
  obtain ⟨a, h1, h2⟩ := h
  obtain ⟨r, k1, k2⟩ := k a h2
  exact ⟨r, Ev.bind h1 k1, k2⟩
theorem bsome {α β : Type} (a : α) (f : α → Option β) : (some a).bind f = f a := Eq.trans (Option.bind_some a f) (Eq.refl _)
end Go.Proofs.Ytkhmopmfbocokaa.Q
namespace Go.Proofs.Ytkhmopmfbocokaa.Q
open Go.RowKit Go.Proofs.Ytkhmopmfbocokaa.T Go.Proofs.YtkhmopmfbocokaaW.PrintWords Go.Proofs.YtkhmopmfbocokaaW.PrintLast
set_option linter.unusedVariables false
set_option linter.unusedSimpArgs false
theorem wrap_id {x : Int} (h0 : -9223372036854775808 ≤ x) (h1 : x < 9223372036854775808) : wrap64 x = x := by unfold wrap64; omega
end Go.Proofs.Ytkhmopmfbocokaa.Q
namespace Go.Proofs.Ytkhmopmfbocokaa.Q
open Go.RowKit Go.Proofs.Ytkhmopmfbocokaa.T Go.Proofs.YtkhmopmfbocokaaW.PrintWords Go.Proofs.YtkhmopmfbocokaaW.PrintLast
set_option linter.unusedVariables false
set_option linter.unusedSimpArgs false
theorem impl_within_eq (a b c : Int) : impl_within.f a b c = some (decide (b ≤ a ∧ a ≤ c)) := by
  unfold impl_within.f
  by_cases h : a ≥ b
  · rw [if_pos h]
    have : (b ≤ a ∧ a ≤ c) ↔ a ≤ c := ⟨fun h => h.2, fun h' => ⟨h, h'⟩⟩
    simp [this]
  · rw [if_neg h]
    have : ¬ (b ≤ a ∧ a ≤ c) := fun h' => h h'.1
    simp [this]
theorem spec_l6In_eq (a b c : Int) : spec_l6In.f a b c = some (decide (b ≤ a ∧ a ≤ c)) := by
  unfold spec_l6In.f
  by_cases h : a ≥ b
  · rw [if_pos h]
    have : (b ≤ a ∧ a ≤ c) ↔ a ≤ c := ⟨fun h => h.2, fun h' => ⟨h, h'⟩⟩
    simp [this]
  · rw [if_neg h]
    have : ¬ (b ≤ a ∧ a ≤ c) := fun h' => h h'.1
    simp [this]
end Go.Proofs.Ytkhmopmfbocokaa.Q
namespace Go.Proofs.Ytkhmopmfbocokaa.Q
set_option linter.unusedVariables false
set_option linter.unusedSimpArgs false
theorem pairwise_of_next {α : Type} {R : α → α → Prop} (tr : ∀ a b c, R a b → R b c → R a c) {l : List α} (h : ∀ j (h : j + 1 < l.length), R (l[j]'(by omega)) l[j + 1]) : l.Pairwise R := by
  rw [List.pairwise_iff_getElem]
  intro i j hi hj hij
  obtain ⟨d, rfl⟩ : ∃ d, j = i + 1 + d := ⟨j - i - 1, by omega⟩
  clear hij
  induction d with
  | zero => exact h i (by omega)
  | succ d ih => exact tr _ _ _ (ih (by omega)) (h (i + 1 + d) (by omega))
theorem next_of_pairwise {α : Type} {R : α → α → Prop} {l : List α} (h : l.Pairwise R) (j : Nat) (hj : j + 1 < l.length) : R (l[j]'(by omega)) l[j + 1] :=
  List.pairwise_iff_getElem.1 h j (j + 1) (by omega) hj (by omega)
end Go.Proofs.Ytkhmopmfbocokaa.Q
namespace Go.Proofs.Ytkhmopmfbocokaa.Q
open Go.RowKit Go.Proofs.Ytkhmopmfbocokaa.T Go.Proofs.YtkhmopmfbocokaaW.PrintWords Go.Proofs.YtkhmopmfbocokaaW.PrintLast
set_option linter.unusedVariables false
set_option linter.unusedSimpArgs false
abbrev Pr := S39
abbrev rp (l : List Pr) (i : Int) : Pr := rd_T39 l i
theorem rp_nat (l : List Pr) (j : Nat) (h : j < l.length) : rp l (j : Int) = l[j] := by
  unfold rp rd_T39
  rw [Int.toNat_natCast, List.getD_eq_getElem?_getD, List.getElem?_eq_getElem h]
  rfl
theorem Pr_ext {a b : Pr} (h0 : a.f0 = b.f0) (h1 : a.f1 = b.f1) (h2 : a.f2 = b.f2) : a = b := by
  cases a
  cases b
  simp at h0 h1 h2
  rw [h0, h1, h2]
instance : DecidableEq Pr := fun a b => decidable_of_iff (a.f0 = b.f0 ∧ a.f1 = b.f1 ∧ a.f2 = b.f2) ⟨fun h => Pr_ext h.1 h.2.1 h.2.2, fun h => by rw [h]; exact ⟨rfl, rfl, rfl⟩⟩
theorem drop_atP {l : List Pr} {i : Nat} (h : i < l.length) : l.drop i = rp l i :: l.drop (i + 1) := by
  rw [List.drop_eq_getElem_cons h, rp_nat l i h]
def okP (t : Pr) : Prop := (0 ≤ t.f0 ∧ t.f0 ≤ 254) ∧ (0 ≤ t.f1 ∧ t.f1 ≤ 99) ∧ (0 ≤ t.f2 ∧ t.f2 ≤ 99999)
def ltP (a b : Pr) : Prop := a.f0 < b.f0
def PF (l : List Pr) (i : Nat) : Prop := ∀ j, i ≤ j → j < l.length → okP (rp l j) ∧ (0 < j → ltP (rp l ((j : Int) - 1)) (rp l j))
def VP (l : List Pr) : Prop := l.length ≤ 20 ∧ PF l 0
open Classical in
noncomputable def vp (l : List Pr) : Bool := decide (VP l)
theorem vp_iff (l : List Pr) : vp l = true ↔ VP l := by unfold vp; simp
theorem prodsAll_vp (l : List Pr) : prodsAll l = vp l := by
  rw [Bool.eq_iff_iff, vp_iff]
  unfold prodsAll VP PF
  rw [Bool.and_eq_true, decide_eq_true_eq, decide_eq_true_eq]
  refine ⟨fun h => ⟨h.1, fun j _ hj => ?_⟩, fun h => ⟨h.1, fun j hj => ?_⟩⟩
  · have := h.2 j hj
    unfold prodAt at this
    rw [decide_eq_true_eq] at this
    exact this
  · unfold prodAt
    rw [decide_eq_true_eq]
    exact h.2 j (Nat.zero_le _) hj
theorem implPValid (l : List Pr) (hl : l.length ≤ 1000000000000) : Ev (fun k => impl_ProducersValid.f k l) (vp l) := by
  unfold impl_ProducersValid.f
  rw [prodsAll_vp]
  exact ev_some _
theorem specPValid (l : List Pr) (hl : l.length ≤ 1000000000000) : Ev (fun k => spec_ProducersValid.f k l) (vp l) := by
  unfold spec_ProducersValid.f
  rw [prodsAll_vp]
  exact ev_some _
theorem ltP_trans {a b c : Pr} (h : ltP a b) (h' : ltP b c) : ltP a c := Int.lt_trans h h'
theorem VP_iff (l : List Pr) : VP l ↔ l.length ≤ 20 ∧ (∀ t ∈ l, okP t) ∧ l.Pairwise ltP := by
  constructor
  · rintro ⟨h8, hv⟩
    refine ⟨h8, ?_, pairwise_of_next (R := ltP) (fun _ _ _ => ltP_trans) ?_⟩
    · intro t ht
      obtain ⟨j, hj, rfl⟩ := List.getElem_of_mem ht
      have := (hv j (Nat.zero_le _) hj).1
      rwa [rp_nat l j hj] at this
    · intro j hj
      have := (hv (j + 1) (Nat.zero_le _) hj).2 (by omega)
      rw [rp_nat l (j + 1) hj] at this
      rw [show ((j + 1 : Nat) : Int) - 1 = (j : Int) by omega, rp_nat l j (by omega)] at this
      exact this
  · rintro ⟨h8, hok, hp⟩
    refine ⟨h8, fun j _ hj => ⟨?_, fun h0 => ?_⟩⟩
    · rw [rp_nat l j hj]
      exact hok _ (List.getElem_mem hj)
    · obtain ⟨i, rfl⟩ : ∃ i, j = i + 1 := ⟨j - 1, by omega⟩
      rw [rp_nat l (i + 1) hj, show ((i + 1 : Nat) : Int) - 1 = (i : Int) by omega, rp_nat l i (by omega)]
      exact next_of_pairwise hp i hj
end Go.Proofs.Ytkhmopmfbocokaa.Q
namespace Go.Proofs.Ytkhmopmfbocokaa.Q
open Go.RowKit Go.Proofs.Ytkhmopmfbocokaa.T Go.Proofs.YtkhmopmfbocokaaW.PrintWords Go.Proofs.YtkhmopmfbocokaaW.PrintLast
set_option linter.unusedVariables false
set_option linter.unusedSimpArgs false
abbrev Lp := S72
def toP (x : Lp) : Pr := ⟨x.f0, x.f1, x.f2⟩
theorem rdLp (l : List Lp) (j : Nat) (h : j < l.length) : rd_T72 l (j : Int) = l[j] := by
  unfold rd_T72
  rw [Int.toNat_natCast, List.getD_eq_getElem?_getD, List.getElem?_eq_getElem h]
  rfl
theorem szProds (l : List Lp) (h : l.length ≤ maxLen) : (l.length ≤ 1048576 ∧ laws_szProducerS.f l 1048576 = some (1048576 - (l.length : Int))) ∨ (1048576 < l.length ∧ laws_szProducerS.f l 1048576 = some (-1)) := by
  unfold maxLen at h
  have e : wrap64 (1048576 - (l.length : Int)) = 1048576 - (l.length : Int) := wrap_id (by omega) (by omega)
  unfold laws_szProducerS.f
  rw [e]
  by_cases hc : 1048576 - (l.length : Int) < 0
  · rw [if_pos hc]; exact .inr ⟨by omega, rfl⟩
  · rw [if_neg hc]; exact .inl ⟨by omega, rfl⟩
theorem set_mid {α : Type} (a : List α) (x y : α) (b : List α) (i : Nat) (h : i = a.length) : (a ++ x :: b).set i y = a ++ y :: b := by
  subst h
  simp
theorem toProds_loop (l : List Lp) (hl : l.length ≤ 1048576) : ∀ (d i : Nat), l.length - i = d → i ≤ l.length → Ev (fun k => laws_toProducerS.l0 k l ((l.map toP).take i ++ List.replicate (l.length - i) z39) (i : Int)) (l.map toP) := by
  intro d
  induction d with
  | zero =>
    intro i hd hi
    refine ev_succ ?_
    simp only [laws_toProducerS.l0, if_neg (show ¬ (i : Int) < (l.length : Int) by omega)]
    rw [show l.length - i = 0 by omega, List.replicate_zero, List.append_nil, List.take_of_length_le (by simp; omega)]
    exact ev_some _
  | succ d ih =>
    intro i hd hi
    have hlt : (i : Int) < (l.length : Int) := by omega
    have e1 : wrap64 ((i : Int) + 1) = ((i + 1 : Nat) : Int) := by rw [wrap_id (by omega) (by omega)]; omega
    obtain ⟨m, hm⟩ : ∃ m, l.length - i = m + 1 := ⟨l.length - i - 1, by omega⟩
    have hlen : ((l.map toP).take i).length = i := by simp; omega
    have hset : ((l.map toP).take i ++ List.replicate (l.length - i) z39).set i (toP l[i]) = (l.map toP).take (i + 1) ++ List.replicate (l.length - (i + 1)) z39 := by
      rw [hm, List.replicate_succ, set_mid _ _ _ _ _ hlen.symm, show l.length - (i + 1) = m by omega, List.take_succ_eq_append_getElem (by simp; omega), List.append_assoc]
      simp
    refine ev_succ ?_
    simp only [laws_toProducerS.l0, if_pos hlt, if_pos (show (0 : Int) ≤ i by omega), laws_toProducer.f, bsome, if_pos (show (i : Int) < ((((l.map toP).take i ++ List.replicate (l.length - i) z39).length : Nat) : Int) by simp; omega), e1, Int.toNat_natCast, rdLp l i (by omega)]
    have := ih (i + 1) (by omega) (by omega)
    rw [← hset] at this
    exact this
theorem toProds (l : List Lp) (hl : l.length ≤ 1048576) : Ev (fun k => laws_toProducerS.f k l) (l.map toP) := by
  unfold laws_toProducerS.f
  simp only [if_pos (show 0 ≤ (l.length : Int) by omega), Int.toNat_natCast, if_pos (show l.length ≤ 11728124029610 by omega)]
  have := toProds_loop l hl l.length 0 (by omega) (by omega)
  simpa using this
theorem eqProds_loop (a b : List Pr) (hl : a.length = b.length) (hs : a.length ≤ 1048576) : ∀ (d i : Nat), a.length - i = d → i ≤ a.length → Ev (fun k => laws_eqProducerS.l0 k a b (i : Int)) (decide (a.drop i = b.drop i)) := by
  intro d
  induction d with
  | zero =>
    intro i hd hi
    rw [show a.drop i = [] from List.drop_eq_nil_of_le (by omega), show b.drop i = [] from List.drop_eq_nil_of_le (by omega)]
    refine ev_succ ?_
    simp only [laws_eqProducerS.l0, if_neg (show ¬ (i : Int) < (a.length : Int) by omega), decide_true]
    exact ev_some _
  | succ d ih =>
    intro i hd hi
    have hlt : (i : Int) < (a.length : Int) := by omega
    have e1 : wrap64 ((i : Int) + 1) = ((i + 1 : Nat) : Int) := by rw [wrap_id (by omega) (by omega)]; omega
    rw [drop_atP (show i < a.length by omega), drop_atP (show i < b.length by omega)]
    refine ev_succ ?_
    simp only [laws_eqProducerS.l0, if_pos hlt, if_pos (show (0 : Int) ≤ i by omega), if_pos (show (i : Int) < (b.length : Int) by omega), laws_eqProducer.f, e1]
    by_cases h0 : (rp a i).f0 = (rp b i).f0
    · by_cases h1 : (rp a i).f1 = (rp b i).f1
      · by_cases h2 : (rp a i).f2 = (rp b i).f2
        · simp only [if_pos h0, if_pos h1, if_pos h2, bsome, if_true]
          have := ih (i + 1) (by omega) (by omega)
          simpa [Pr_ext h0 h1 h2] using this
        · have hne : ¬ rp a i = rp b i := fun h => h2 (by rw [h])
          simp only [if_pos h0, if_pos h1, if_neg h2, bsome, Bool.false_eq_true, if_false]
          rw [decide_eq_false (by simp [hne])]
          exact ev_some _
      · have hne : ¬ rp a i = rp b i := fun h => h1 (by rw [h])
        simp only [if_pos h0, if_neg h1, bsome, Bool.false_eq_true, if_false]
        rw [decide_eq_false (by simp [hne])]
        exact ev_some _
    · have hne : ¬ rp a i = rp b i := fun h => h0 (by rw [h])
      simp only [if_neg h0, bsome, Bool.false_eq_true, if_false]
      rw [decide_eq_false (by simp [hne])]
      exact ev_some _
theorem eqProds (a b : List Pr) (hs : a.length ≤ 1048576) : Ev (fun k => laws_eqProducerS.f k a b) (decide (a = b)) := by
  unfold laws_eqProducerS.f
  by_cases h : (a.length : Int) = (b.length : Int)
  · simp only [if_pos h]
    have := eqProds_loop a b (by omega) hs a.length 0 (by omega) (by omega)
    simpa using this
  · simp only [if_neg h]
    rw [decide_eq_false (fun e => h (by rw [e]))]
    exact ev_some _
theorem eqProds_self (a : List Pr) (hs : a.length ≤ 1048576) : Ev (fun k => laws_eqProducerS.f k a a) true := by
  have := eqProds a a hs
  rwa [decide_eq_true rfl] at this
end Go.Proofs.Ytkhmopmfbocokaa.Q
namespace Go.Proofs.Ytkhmopmfbocokaa.Q
open Go.RowKit Go.Proofs.Ytkhmopmfbocokaa.T Go.Proofs.YtkhmopmfbocokaaW.PrintWords Go.Proofs.YtkhmopmfbocokaaW.PrintLast
set_option linter.unusedVariables false
set_option linter.unusedSimpArgs false
theorem rd_nat (l : List Int) (j : Nat) (h : j < l.length) : rd l (j : Int) = l[j] := by
  unfold rd
  rw [Int.toNat_natCast, List.getD_eq_getElem?_getD, List.getElem?_eq_getElem h]
  rfl
theorem drop_int {l : List Int} {i : Nat} (h : i < l.length) : l.drop i = rd l i :: l.drop (i + 1) := by
  rw [List.drop_eq_getElem_cons h, rd_nat l i h]
def ab (l : List Int) : Bool := decide (∀ x ∈ l, 0 ≤ x ∧ x ≤ 255)
theorem ab_cons (x : Int) (l : List Int) : ab (x :: l) = (decide (0 ≤ x ∧ x ≤ 255) && ab l) := by
  rw [Bool.eq_iff_iff]
  simp [ab, List.forall_mem_cons]
theorem ab_nil : ab [] = true := by simp [ab]
theorem isByte_eq (a : Int) : impl_isByte.f a = some (decide (0 ≤ a ∧ a ≤ 255)) := by
  unfold impl_isByte.f
  by_cases h : a ≥ 0
  · rw [if_pos h]
    have : (0 ≤ a ∧ a ≤ 255) ↔ a ≤ 255 := ⟨fun h => h.2, fun h' => ⟨h, h'⟩⟩
    simp [this]
  · rw [if_neg h]
    have : ¬ (0 ≤ a ∧ a ≤ 255) := fun h' => h h'.1
    simp [this]
theorem baseValid_eq (a b : Int) : impl_baseValid.f a b = some (decide ((0 ≤ a ∧ a ≤ 99999) ∧ (0 ≤ b ∧ b ≤ 99999))) := by
  unfold impl_baseValid.f
  rw [impl_within_eq, impl_within_eq]
  by_cases h : 0 ≤ a ∧ a ≤ 99999 <;> simp [h]
theorem idValid_eqB (a : Int) : impl_idValid.f a = some (decide (0 ≤ a ∧ a ≤ 254)) := by
  unfold impl_idValid.f
  rw [impl_within_eq]
  rfl
theorem implAll_loop (l : List Int) (hl : l.length ≤ 1000000000000000) : ∀ (d i : Nat), l.length - i = d → i ≤ l.length → Ev (fun k => impl_allBytes.l0 k l (l.length : Int) (i : Int)) (ab (l.drop i)) := by
  intro d
  induction d with
  | zero =>
    intro i hd hi
    rw [show l.drop i = [] from List.drop_eq_nil_of_le (by omega), ab_nil]
    refine ev_succ ?_
    simp only [impl_allBytes.l0, if_neg (show ¬ (i : Int) < (l.length : Int) by omega)]
    exact ev_some _
  | succ d ih =>
    intro i hd hi
    have e1 : wrap64 ((i : Int) + 1) = ((i + 1 : Nat) : Int) := by rw [wrap_id (by omega) (by omega)]; omega
    rw [drop_int (show i < l.length by omega), ab_cons]
    refine ev_succ ?_
    simp only [impl_allBytes.l0, if_pos (show (i : Int) < (l.length : Int) by omega), if_pos (show (0 : Int) ≤ i by omega), isByte_eq, bsome, decide_eq_true_eq, e1]
    by_cases h : 0 ≤ rd l (i : Int) ∧ rd l (i : Int) ≤ 255
    · simp only [if_pos h, decide_eq_true h, Bool.true_and]
      exact ih (i + 1) (by omega) (by omega)
    · simp only [if_neg h, decide_eq_false h, Bool.false_and]
      exact ev_some _
theorem implAll (l : List Int) (hl : l.length ≤ 1000000000000000) : Ev (fun k => impl_allBytes.f k l) (ab l) := by
  unfold impl_allBytes.f
  have := implAll_loop l hl l.length 0 (by omega) (by omega)
  simpa using this
theorem specAll_loop (l : List Int) (hl : l.length ≤ 1000000000000000) : ∀ (d i : Nat), l.length - i = d → i ≤ l.length → Ev (fun k => spec_l1Ok.l0 k l (i : Int)) (ab (l.drop i)) := by
  intro d
  induction d with
  | zero =>
    intro i hd hi
    rw [show l.drop i = [] from List.drop_eq_nil_of_le (by omega), ab_nil]
    refine ev_succ ?_
    simp only [spec_l1Ok.l0, if_neg (show ¬ (i : Int) < (l.length : Int) by omega)]
    exact ev_some _
  | succ d ih =>
    intro i hd hi
    have e1 : wrap64 ((i : Int) + 1) = ((i + 1 : Nat) : Int) := by rw [wrap_id (by omega) (by omega)]; omega
    rw [drop_int (show i < l.length by omega), ab_cons]
    refine ev_succ ?_
    simp only [spec_l1Ok.l0, if_pos (show (i : Int) < (l.length : Int) by omega), if_pos (show (0 : Int) ≤ i by omega), spec_l6In_eq, bsome, decide_eq_true_eq, e1]
    by_cases h : 0 ≤ rd l (i : Int) ∧ rd l (i : Int) ≤ 255
    · simp only [if_pos h, decide_eq_true h, Bool.true_and]
      exact ih (i + 1) (by omega) (by omega)
    · simp only [if_neg h, decide_eq_false h, Bool.false_and]
      exact ev_some _
theorem specAll (l : List Int) (hl : l.length ≤ 1000000000000000) : Ev (fun k => spec_l1Ok.f k l) (ab l) := by
  unfold spec_l1Ok.f
  have := specAll_loop l hl l.length 0 (by omega) (by omega)
  simpa using this
def pv (has : Bool) (l : List Int) : Bool := if has = true then decide (l.length ≤ 12) && ab l else decide (l.length = 0)
theorem implPart (has : Bool) (l : List Int) (hl : l.length ≤ 1000000000000000) : Ev (fun k => impl_partValid.f k has l) (pv has l) := by
  unfold impl_partValid.f pv
  cases has with
  | true =>
    simp only [if_true]
    by_cases h : (l.length : Int) ≤ 12
    · simp only [if_pos h, decide_eq_true (show l.length ≤ 12 by omega), Bool.true_and]
      exact Ev.bind (implAll l hl) (ev_some _)
    · simp only [if_neg h, decide_eq_false (show ¬ l.length ≤ 12 by omega), Bool.false_and]
      exact ev_some _
  | false =>
    simp only [Bool.false_eq_true, if_false]
    rw [show ((l.length : Int) == 0) = decide (l.length = 0) by rw [Bool.eq_iff_iff]; simp]
    exact ev_some _
theorem specPart (has : Bool) (l : List Int) (hl : l.length ≤ 1000000000000000) : Ev (fun k => spec_l3Part.f k has l) (pv has l) := by
  unfold spec_l3Part.f pv
  cases has with
  | true =>
    simp only [if_true]
    refine Ev.bind (specAll l hl) ?_
    by_cases h : ab l = true
    · simp only [if_pos h, h, Bool.and_true]
      rw [show decide ((l.length : Int) ≤ 12) = decide (l.length ≤ 12) by rw [decide_eq_decide]; omega]
      exact ev_some _
    · simp only [if_neg h, show ab l = false by simpa using h, Bool.and_false]
      exact ev_some _
  | false =>
    simp only [Bool.false_eq_true, if_false]
    by_cases h : l.length = 0
    · simp only [if_pos (show (l.length : Int) = 0 by omega), decide_eq_true h]
      refine Ev.bind (specAll l hl) ?_
      have hn : l = [] := List.length_eq_zero_iff.1 h
      subst hn
      simp only [ab_nil, if_true]
      exact ev_some _
    · simp only [if_neg (show ¬ (l.length : Int) = 0 by omega), decide_eq_false h]
      exact ev_some _
abbrev Rc := S79
abbrev rr (l : List Rc) (i : Int) : Rc := rd_T79 l i
theorem rr_nat (l : List Rc) (j : Nat) (h : j < l.length) : rr l (j : Int) = l[j] := by
  unfold rr rd_T79
  rw [Int.toNat_natCast, List.getD_eq_getElem?_getD, List.getElem?_eq_getElem h]
  rfl
def smallR (r : Rc) : Prop := r.f3.length ≤ 1000000000000000 ∧ r.f5.length ≤ 1000000000000000
def smallRs (l : List Rc) : Prop := l.length ≤ 1000000000000000 ∧ ∀ r ∈ l, smallR r
theorem smallRs_at {l : List Rc} (h : smallRs l) (j : Nat) (hj : j < l.length) : smallR (rr l (j : Int)) := by
  rw [rr_nat l j hj]
  exact h.2 _ (List.getElem_mem hj)
def rv (r : Rc) : Bool := decide ((0 ≤ r.f0 ∧ r.f0 ≤ 99999) ∧ (0 ≤ r.f1 ∧ r.f1 ≤ 99999)) && (pv r.f2 r.f3 && pv r.f4 r.f5)
theorem implRec (r : Rc) (h : smallR r) : Ev (fun k => impl_RecordValid.f k r.f0 r.f1 r.f2 r.f3 r.f4 r.f5) (rv r) := by
  unfold impl_RecordValid.f rv
  simp only [baseValid_eq, bsome, decide_eq_true_eq]
  by_cases h0 : (0 ≤ r.f0 ∧ r.f0 ≤ 99999) ∧ (0 ≤ r.f1 ∧ r.f1 ≤ 99999)
  · simp only [if_pos h0, decide_eq_true h0, Bool.true_and]
    refine Ev.bind (implPart _ _ h.1) ?_
    by_cases h1 : pv r.f2 r.f3 = true
    · simp only [if_pos h1, h1, Bool.true_and]
      exact Ev.bind (implPart _ _ h.2) (ev_some _)
    · simp only [if_neg h1, show pv r.f2 r.f3 = false by simpa using h1, Bool.false_and]
      exact ev_some _
  · simp only [if_neg h0, decide_eq_false h0, Bool.false_and]
    exact ev_some _
theorem specRec (r : Rc) (h : smallR r) : Ev (fun k => spec_RecordValid.f k r.f0 r.f1 r.f2 r.f3 r.f4 r.f5) (rv r) := by
  unfold spec_RecordValid.f rv
  simp only [spec_l6In_eq, bsome, decide_eq_true_eq]
  by_cases h0 : 0 ≤ r.f0 ∧ r.f0 ≤ 99999
  · by_cases h1 : 0 ≤ r.f1 ∧ r.f1 ≤ 99999
    · simp only [if_pos h0, if_pos h1, decide_eq_true (show (0 ≤ r.f0 ∧ r.f0 ≤ 99999) ∧ (0 ≤ r.f1 ∧ r.f1 ≤ 99999) from ⟨h0, h1⟩), Bool.true_and]
      refine Ev.bind (specPart _ _ h.1) ?_
      by_cases h2 : pv r.f2 r.f3 = true
      · simp only [if_pos h2, h2, Bool.true_and]
        exact Ev.bind (specPart _ _ h.2) (ev_some _)
      · simp only [if_neg h2, show pv r.f2 r.f3 = false by simpa using h2, Bool.false_and]
        exact ev_some _
    · simp only [if_pos h0, if_neg h1, decide_eq_false (show ¬ ((0 ≤ r.f0 ∧ r.f0 ≤ 99999) ∧ (0 ≤ r.f1 ∧ r.f1 ≤ 99999)) from fun h => h1 h.2), Bool.false_and]
      exact ev_some _
  · simp only [if_neg h0, decide_eq_false (show ¬ ((0 ≤ r.f0 ∧ r.f0 ≤ 99999) ∧ (0 ≤ r.f1 ∧ r.f1 ≤ 99999)) from fun h => h0 h.1), Bool.false_and]
    exact ev_some _
def RF (l : List Rc) (i : Nat) : Prop := ∀ j, i ≤ j → j < l.length → rv (rr l j) = true ∧ (0 < j → (rr l ((j : Int) - 1)).f0 < (rr l j).f0)
theorem RF_end {l : List Rc} {i : Nat} (h : l.length ≤ i) : RF l i := fun j h1 h2 => by omega
theorem RF_step {l : List Rc} {i : Nat} (h : i < l.length) : RF l i ↔ (rv (rr l i) = true ∧ (0 < i → (rr l ((i : Int) - 1)).f0 < (rr l i).f0)) ∧ RF l (i + 1) := by
  constructor
  · intro hv
    exact ⟨hv i (Nat.le_refl _) h, fun j h1 h2 => hv j (by omega) h2⟩
  · rintro ⟨h1, h2⟩ j h3 h4
    by_cases e : j = i
    · subst e; exact h1
    · exact h2 j (by omega) h4
theorem implRecs_loop (l : List Rc) (hl : smallRs l) (a0 a1 : Bool) (a2 a3 a4 : Int) : ∀ (d i : Nat), l.length - i = d → i ≤ l.length → Evs (fun k => impl_BatchValid.l0 k l (l.length : Int) (i : Int) a0 a1 a2 a3 a4 l) (fun b => b = true ↔ RF l i) := by
  intro d
  induction d with
  | zero =>
    intro i hd hi
    refine Evs.succ ?_
    simp only [impl_BatchValid.l0, if_neg (show ¬ (i : Int) < (l.length : Int) by omega)]
    exact Evs.done (by simp; exact RF_end (by omega))
  | succ d ih =>
    intro i hd hi
    have hll := hl.1
    have hn := ih (i + 1) (by omega) (by omega)
    have e1 : wrap64 ((i : Int) + 1) = ((i + 1 : Nat) : Int) := by rw [wrap_id (by omega) (by omega)]; omega
    have e2 : wrap64 ((i : Int) - 1) = (i : Int) - 1 := wrap_id (by omega) (by omega)
    rw [RF_step (show i < l.length by omega)]
    refine Evs.succ ?_
    simp only [impl_BatchValid.l0, if_pos (show (i : Int) < (l.length : Int) by omega), if_pos (show (0 : Int) ≤ i by omega), e1, e2]
    refine Evs.bind (Evs.of (implRec (rr l (i : Int)) (smallRs_at hl i (by omega))) rfl : Evs _ (fun x => x = rv (rr l (i : Int)))) ?_
    rintro _ rfl
    by_cases h1 : rv (rr l (i : Int)) = true
    · simp only [if_pos h1]
      by_cases h0 : (i : Int) > 0
      · simp only [if_pos h0, if_pos (show 0 ≤ (i : Int) - 1 by omega), if_pos (show (i : Int) - 1 < (l.length : Int) by omega)]
        by_cases h2 : (rr l ((i : Int) - 1)).f0 ≥ (rr l (i : Int)).f0
        · simp only [if_pos h2]
          refine Evs.done ?_
          simp only [Bool.false_eq_true, false_iff]
          rintro ⟨⟨_, h3⟩, _⟩
          have := h3 (by omega)
          omega
        · simp only [if_neg h2]
          refine hn.mono fun b hb => ?_
          rw [hb]
          exact ⟨fun h => ⟨⟨h1, fun _ => by omega⟩, h⟩, fun h => h.2⟩
      · simp only [if_neg h0]
        refine hn.mono fun b hb => ?_
        rw [hb]
        exact ⟨fun h => ⟨⟨h1, fun h' => absurd h' (by omega)⟩, h⟩, fun h => h.2⟩
    · simp only [if_neg h1]
      exact Evs.done (by simp only [Bool.false_eq_true, false_iff]; exact fun h => h1 h.1.1)
theorem specRecs_loop (l : List Rc) (hl : smallRs l) : ∀ (d i : Nat), l.length - i = d → i ≤ l.length → Evs (fun k => spec_l5Records.l0 k l (i : Int)) (fun b => b = true ↔ RF l i ∧ 1 ≤ l.length ∧ l.length ≤ 6) := by
  intro d
  induction d with
  | zero =>
    intro i hd hi
    refine Evs.succ ?_
    simp only [spec_l5Records.l0, if_neg (show ¬ (i : Int) < (l.length : Int) by omega), spec_l6In_eq, bsome]
    exact Evs.done (by simp only [decide_eq_true_eq]; exact ⟨fun h => ⟨RF_end (by omega), by omega, by omega⟩, fun h => by have := h.2; omega⟩)
  | succ d ih =>
    intro i hd hi
    have hll := hl.1
    have hn := ih (i + 1) (by omega) (by omega)
    have e1 : wrap64 ((i : Int) + 1) = ((i + 1 : Nat) : Int) := by rw [wrap_id (by omega) (by omega)]; omega
    have e2 : wrap64 ((i : Int) - 1) = (i : Int) - 1 := wrap_id (by omega) (by omega)
    rw [RF_step (show i < l.length by omega)]
    refine Evs.succ ?_
    simp only [spec_l5Records.l0, if_pos (show (i : Int) < (l.length : Int) by omega), if_pos (show (0 : Int) ≤ i by omega), e1, e2]
    refine Evs.bind (Evs.of (specRec (rr l (i : Int)) (smallRs_at hl i (by omega))) rfl : Evs _ (fun x => x = rv (rr l (i : Int)))) ?_
    rintro _ rfl
    by_cases h1 : rv (rr l (i : Int)) = true
    · simp only [if_pos h1]
      by_cases h0 : (i : Int) > 0
      · simp only [if_pos h0, if_pos (show 0 ≤ (i : Int) - 1 by omega), if_pos (show (i : Int) - 1 < (l.length : Int) by omega)]
        by_cases h2 : (rr l ((i : Int) - 1)).f0 ≥ (rr l (i : Int)).f0
        · simp only [if_pos h2]
          refine Evs.done ?_
          simp only [Bool.false_eq_true, false_iff]
          rintro ⟨⟨⟨_, h3⟩, _⟩, _⟩
          have := h3 (by omega)
          omega
        · simp only [if_neg h2]
          refine hn.mono fun b hb => ?_
          rw [hb]
          exact ⟨fun h => ⟨⟨⟨h1, fun _ => by omega⟩, h.1⟩, h.2⟩, fun h => ⟨h.1.2, h.2⟩⟩
      · simp only [if_neg h0]
        refine hn.mono fun b hb => ?_
        rw [hb]
        exact ⟨fun h => ⟨⟨⟨h1, fun h' => absurd h' (by omega)⟩, h.1⟩, h.2⟩, fun h => ⟨h.1.2, h.2⟩⟩
    · simp only [if_neg h1]
      exact Evs.done (by simp only [Bool.false_eq_true, false_iff]; exact fun h => h1 h.1.1.1)
def VB (a1 : Bool) (a2 a3 a4 : Int) (l : List Rc) : Prop :=
  (if a2 = 255 then a3 = 0 ∧ a4 = 0 ∧ a1 = false else (0 ≤ a2 ∧ a2 ≤ 254) ∧ (0 ≤ a3 ∧ a3 ≤ 99) ∧ (0 ≤ a4 ∧ a4 ≤ 9999)) ∧ (1 ≤ l.length ∧ l.length ≤ 6) ∧ (a1 = true → l.length = 1) ∧ RF l 0
theorem implB_j0 (a0 a1 : Bool) (a2 a3 a4 : Int) (l : List Rc) (hl : smallRs l) : Evs (fun k => impl_BatchValid.j0 k a0 a1 a2 a3 a4 l) (fun b => b = true ↔ (1 ≤ l.length ∧ l.length ≤ 6) ∧ (a1 = true → l.length = 1) ∧ RF l 0) := by
  have hr := implRecs_loop l hl a0 a1 a2 a3 a4 l.length 0 (by omega) (by omega)
  refine Evs.succ ?_
  simp only [impl_BatchValid.j0, impl_within_eq, bsome, decide_eq_true_eq]
  by_cases h : 1 ≤ (l.length : Int) ∧ (l.length : Int) ≤ 6
  · simp only [if_pos h]
    cases a1 with
    | true =>
      simp only [if_true]
      refine Evs.succ ?_
      by_cases h1 : l.length = 1
      · simp only [impl_BatchValid.j1, show ((l.length : Int) != 1) = false by rw [h1]; rfl, Bool.false_eq_true, if_false]
        refine hr.mono fun b hb => ?_
        rw [hb]
        exact ⟨fun h2 => ⟨by omega, fun _ => h1, h2⟩, fun h2 => h2.2.2⟩
      · simp only [impl_BatchValid.j1, show ((l.length : Int) != 1) = true by simp; omega, if_true]
        exact Evs.done (by simp only [Bool.false_eq_true, false_iff]; exact fun h2 => h1 (h2.2.1 trivial))
    | false =>
      simp only [Bool.false_eq_true, if_false]
      refine Evs.succ ?_
      simp only [impl_BatchValid.j1, Bool.false_eq_true, if_false]
      refine hr.mono fun b hb => ?_
      rw [hb]
      exact ⟨fun h2 => ⟨by omega, (fun h3 => h3.elim), h2⟩, fun h2 => h2.2.2⟩
  · simp only [if_neg h]
    refine Evs.succ ?_
    simp only [impl_BatchValid.j1, if_true]
    exact Evs.done (by simp only [Bool.false_eq_true, false_iff]; exact fun h2 => h ⟨by have := h2.1.1; omega, by have := h2.1.2; omega⟩)
theorem implB_evs (a0 a1 : Bool) (a2 a3 a4 : Int) (l : List Rc) (hl : smallRs l) : Evs (fun k => impl_BatchValid.f k a0 a1 a2 a3 a4 l) (fun b => b = true ↔ VB a1 a2 a3 a4 l) := by
  have hj := implB_j0 a0 a1 a2 a3 a4 l hl
  unfold impl_BatchValid.f VB
  by_cases h : a2 = 255
  · simp only [if_pos h]
    by_cases h3 : a3 = 0
    · simp only [if_pos h3]
      by_cases h4 : a4 = 0
      · simp only [if_pos h4]
        cases a1 with
        | true =>
          simp only [if_true]
          exact Evs.done (by simp)
        | false =>
          simp only [Bool.false_eq_true, if_false]
          refine hj.mono fun b hb => ?_
          rw [hb]
          exact ⟨fun h2 => ⟨⟨h3, h4, trivial⟩, h2.1, (fun h5 => h5.elim), h2.2.2⟩, fun h2 => ⟨h2.2.1, (fun h5 => by cases h5), h2.2.2.2⟩⟩
      · simp only [if_neg h4]
        exact Evs.done (by simp only [Bool.false_eq_true, false_iff]; exact fun h2 => h4 h2.1.2.1)
    · simp only [if_neg h3]
      exact Evs.done (by simp only [Bool.false_eq_true, false_iff]; exact fun h2 => h3 h2.1.1)
  · simp only [if_neg h, idValid_eqB, impl_within_eq, bsome, decide_eq_true_eq]
    by_cases h2 : 0 ≤ a2 ∧ a2 ≤ 254
    · simp only [if_pos h2]
      by_cases h3 : 0 ≤ a3 ∧ a3 ≤ 99
      · simp only [if_pos h3]
        by_cases h4 : 0 ≤ a4 ∧ a4 ≤ 9999
        · simp only [if_pos h4]
          refine hj.mono fun b hb => ?_
          rw [hb]
          exact ⟨fun h5 => ⟨⟨h2, h3, h4⟩, h5⟩, fun h5 => h5.2⟩
        · simp only [if_neg h4]
          exact Evs.done (by simp only [Bool.false_eq_true, false_iff]; exact fun h5 => h4 h5.1.2.2)
      · simp only [if_neg h3]
        exact Evs.done (by simp only [Bool.false_eq_true, false_iff]; exact fun h5 => h3 h5.1.2.1)
    · simp only [if_neg h2]
      exact Evs.done (by simp only [Bool.false_eq_true, false_iff]; exact fun h5 => h2 h5.1.1)
theorem specB_j0_true (a0 a1 : Bool) (a2 a3 a4 : Int) (l : List Rc) : Evs (fun k => spec_BatchValid.j0 k true a0 a1 a2 a3 a4 l) (fun b => b = false) := by
  refine Evs.succ ?_
  simp only [spec_BatchValid.j0, if_true]
  exact Evs.done rfl
theorem specB_evs (a0 a1 : Bool) (a2 a3 a4 : Int) (l : List Rc) (hl : smallRs l) : Evs (fun k => spec_BatchValid.f k a0 a1 a2 a3 a4 l) (fun b => b = true ↔ VB a1 a2 a3 a4 l) := by
  have hr := specRecs_loop l hl l.length 0 (by omega) (by omega)
  have no : ∀ {P : Prop}, ¬ P → ∀ b : Bool, b = false → (b = true ↔ P) := fun hP b hb => by rw [hb]; simp only [Bool.false_eq_true, false_iff]; exact hP
  unfold spec_BatchValid.f
  unfold spec_l5Records.f
  refine Evs.bind hr ?_
  intro t ht
  by_cases h : t = true
  · obtain ⟨hRF, hl1⟩ := ht.1 h
    simp only [if_pos h, spec_l6In_eq, bsome, decide_eq_true_eq]
    by_cases h2 : 0 ≤ a2 ∧ a2 ≤ 255
    · simp only [if_pos h2]
      by_cases h3 : 0 ≤ a3 ∧ a3 ≤ 99
      · simp only [if_pos h3]
        by_cases h4 : 0 ≤ a4 ∧ a4 ≤ 9999
        · simp only [decide_eq_true h4, Bool.not_true]
          refine Evs.succ ?_
          simp only [spec_BatchValid.j0, Bool.false_eq_true, if_false]
          unfold VB
          by_cases h5 : a2 = 255
          · simp only [if_pos h5]
            by_cases h6 : a3 = 0
            · simp only [if_pos h6]
              by_cases h7 : a4 = 0
              · simp only [if_pos h7]
                refine Evs.done ?_
                cases a1
                · simp; exact ⟨⟨h6, h7⟩, hl1, hRF⟩
                · simp
              · simp only [if_neg h7]
                exact Evs.done (no (fun h8 => h7 h8.1.2.1) _ rfl)
            · simp only [if_neg h6]
              exact Evs.done (no (fun h8 => h6 h8.1.1) _ rfl)
          · simp only [if_neg h5]
            cases a1 with
            | true =>
              simp only [if_true]
              refine Evs.done ?_
              simp only [beq_iff_eq]
              exact ⟨fun h8 => ⟨⟨by omega, h3, h4⟩, hl1, fun _ => by omega, hRF⟩, fun h8 => by have := h8.2.2.1 trivial; omega⟩
            | false =>
              simp only [Bool.false_eq_true, if_false]
              refine Evs.done ?_
              simp only [true_iff]
              exact ⟨⟨by omega, h3, h4⟩, hl1, (fun h8 => h8.elim), hRF⟩
        · simp only [decide_eq_false h4, Bool.not_false]
          refine (specB_j0_true a0 a1 a2 a3 a4 l).mono (no ?_)
          unfold VB
          split
          · rintro ⟨⟨_, h8, _⟩, _⟩
            exact h4 (by omega)
          · exact fun h8 => h4 h8.1.2.2
      · simp only [if_neg h3]
        refine (specB_j0_true a0 a1 a2 a3 a4 l).mono (no ?_)
        unfold VB
        split
        · rintro ⟨⟨h8, _, _⟩, _⟩
          exact h3 (by omega)
        · exact fun h8 => h3 h8.1.2.1
    · simp only [if_neg h2]
      refine (specB_j0_true a0 a1 a2 a3 a4 l).mono (no ?_)
      unfold VB
      split
      · rename_i h8
        exact fun _ => h2 (by omega)
      · exact fun h8 => h2 (by have := h8.1.1; omega)
  · simp only [if_neg h]
    refine (specB_j0_true a0 a1 a2 a3 a4 l).mono (no ?_)
    exact fun h8 => h (ht.2 ⟨h8.2.2.2, h8.2.1⟩)
open Classical in
noncomputable def vb (a1 : Bool) (a2 a3 a4 : Int) (l : List Rc) : Bool := decide (VB a1 a2 a3 a4 l)
theorem vb_iff (a1 : Bool) (a2 a3 a4 : Int) (l : List Rc) : vb a1 a2 a3 a4 l = true ↔ VB a1 a2 a3 a4 l := by unfold vb; simp
theorem implB (a0 a1 : Bool) (a2 a3 a4 : Int) (l : List Rc) (hl : smallRs l) : Ev (fun k => impl_BatchValid.f k a0 a1 a2 a3 a4 l) (vb a1 a2 a3 a4 l) := by
  obtain ⟨b, hb, h⟩ := implB_evs a0 a1 a2 a3 a4 l hl
  rw [show vb a1 a2 a3 a4 l = b by rw [Bool.eq_iff_iff, vb_iff, h]]
  exact hb
theorem specB (a0 a1 : Bool) (a2 a3 a4 : Int) (l : List Rc) (hl : smallRs l) : Ev (fun k => spec_BatchValid.f k a0 a1 a2 a3 a4 l) (vb a1 a2 a3 a4 l) := by
  obtain ⟨b, hb, h⟩ := specB_evs a0 a1 a2 a3 a4 l hl
  rw [show vb a1 a2 a3 a4 l = b by rw [Bool.eq_iff_iff, vb_iff, h]]
  exact hb
end Go.Proofs.Ytkhmopmfbocokaa.Q
namespace Go.Proofs.Ytkhmopmfbocokaa.Q
open Go.RowKit Go.Proofs.Ytkhmopmfbocokaa.T Go.Proofs.YtkhmopmfbocokaaW.PrintWords Go.Proofs.YtkhmopmfbocokaaW.PrintLast
set_option linter.unusedVariables false
set_option linter.unusedSimpArgs false
abbrev Lr := S99
def toR (x : Lr) : Rc := ⟨x.f0, x.f1, x.f2, x.f3, x.f4, x.f5⟩
theorem rdLr (l : List Lr) (j : Nat) (h : j < l.length) : rd_T99 l (j : Int) = l[j] := by
  unfold rd_T99
  rw [Int.toNat_natCast, List.getD_eq_getElem?_getD, List.getElem?_eq_getElem h]
  rfl
def sz (a : Int) (P : Prop) (r : Int) : Prop := r = -1 ∨ (0 ≤ r ∧ r ≤ a ∧ P)
theorem szInts (l : List Int) (hl : l.length ≤ 9223372036854775807) (a : Int) (h0 : 0 ≤ a) (h1 : a ≤ 1048576) : ∃ r, laws_szIntS.f l a = some r ∧ sz a (l.length ≤ 1048576) r := by
  have e : wrap64 (a - (l.length : Int)) = a - (l.length : Int) := wrap_id (by omega) (by omega)
  unfold laws_szIntS.f
  rw [e]
  by_cases h : a - (l.length : Int) < 0
  · rw [if_pos h]; exact ⟨_, rfl, Or.inl rfl⟩
  · rw [if_neg h]; exact ⟨_, rfl, Or.inr ⟨by omega, by omega, by omega⟩⟩
def okR (x : Lr) : Prop := x.f3.length ≤ 1048576 ∧ x.f5.length ≤ 1048576
def bigR (x : Lr) : Prop := x.f3.length ≤ 9223372036854775807 ∧ x.f5.length ≤ 9223372036854775807
theorem szRec (x : Lr) (hx : bigR x) (a : Int) (h0 : 0 ≤ a) (h1 : a ≤ 1048576) : ∃ r, laws_szRecord.f x.f0 x.f1 x.f2 x.f3 x.f4 x.f5 a = some r ∧ sz a (okR x) r := by
  obtain ⟨r1, e1, p1⟩ := szInts x.f3 hx.1 a h0 h1
  unfold laws_szRecord.f
  rw [e1]
  rw [bsome]
  rcases p1 with rfl | ⟨q0, q1, q2⟩
  · rw [if_pos (by omega)]; exact ⟨_, rfl, Or.inl rfl⟩
  · rw [if_neg (by omega)]
    obtain ⟨r2, e2, p2⟩ := szInts x.f5 hx.2 r1 q0 (by omega)
    rw [e2]
    rw [bsome]
    rcases p2 with rfl | ⟨s0, s1, s2⟩
    · rw [if_pos (by omega)]; exact ⟨_, rfl, Or.inl rfl⟩
    · rw [if_neg (by omega)]; exact ⟨_, rfl, Or.inr ⟨s0, by omega, q2, s2⟩⟩
theorem szRecs_loop (l : List Lr) (hl : l.length ≤ 1048576) (hx : ∀ x ∈ l, bigR x) : ∀ (d i : Nat) (a : Int), l.length - i = d → i ≤ l.length → 0 ≤ a → a ≤ 1048576 → Evs (fun k => laws_szRecordS.l0 k l a (i : Int)) (sz a (∀ j, i ≤ j → (h : j < l.length) → okR l[j])) := by
  intro d
  induction d with
  | zero =>
    intro i a hd hi h0 h1
    refine Evs.succ ?_
    simp only [laws_szRecordS.l0, if_neg (show ¬ (i : Int) < (l.length : Int) by omega)]
    exact Evs.done (Or.inr ⟨h0, Int.le_refl _, fun j hj h => by omega⟩)
  | succ d ih =>
    intro i a hd hi h0 h1
    have hlt : i < l.length := by omega
    have e1 : wrap64 ((i : Int) + 1) = ((i + 1 : Nat) : Int) := by rw [wrap_id (by omega) (by omega)]; omega
    refine Evs.succ ?_
    obtain ⟨r, er, pr⟩ := szRec l[i] (hx _ (List.getElem_mem hlt)) a h0 h1
    simp only [laws_szRecordS.l0, if_pos (show (i : Int) < (l.length : Int) by omega), if_pos (show (0 : Int) ≤ (i : Int) by omega), rdLr l i hlt, er, bsome, e1]
    rcases pr with rfl | ⟨q0, q1, q2⟩
    · simp only [if_pos (show (-1 : Int) < 0 by omega)]
      exact Evs.done (Or.inl rfl)
    · simp only [if_neg (show ¬ r < 0 by omega)]
      refine (ih (i + 1) r (by omega) (by omega) q0 (by omega)).mono fun r2 h2 => ?_
      rcases h2 with h2 | ⟨s0, s1, s2⟩
      · exact Or.inl h2
      · refine Or.inr ⟨s0, by omega, fun j hj h => ?_⟩
        by_cases he : j = i
        · subst he; exact q2
        · exact s2 j (by omega) h
theorem szRecs (l : List Lr) (hl : l.length ≤ 9223372036854775807) (hx : ∀ x ∈ l, bigR x) (a : Int) (h0 : 0 ≤ a) (h1 : a ≤ 1048576) : Evs (fun k => laws_szRecordS.f k l a) (sz a (l.length ≤ 1048576 ∧ ∀ x ∈ l, okR x)) := by
  have e : wrap64 (a - (l.length : Int)) = a - (l.length : Int) := wrap_id (by omega) (by omega)
  unfold laws_szRecordS.f
  simp only [e]
  by_cases h : a - (l.length : Int) < 0
  · simp only [if_pos h]; exact Evs.done (Or.inl rfl)
  · simp only [if_neg h]
    refine (szRecs_loop l (by omega) hx l.length 0 _ rfl (by omega) (by omega) (by omega)).mono fun r hr => ?_
    rcases hr with hr | ⟨s0, s1, s2⟩
    · exact Or.inl hr
    · refine Or.inr ⟨s0, by omega, by omega, fun x hx2 => ?_⟩
      obtain ⟨j, hj, rfl⟩ := List.getElem_of_mem hx2
      exact s2 j (Nat.zero_le _) hj
theorem set_midR {α : Type} (a : List α) (x y : α) (b : List α) (i : Nat) (h : i = a.length) : (a ++ x :: b).set i y = a ++ y :: b := by
  subst h
  simp
theorem fill_step {α : Type} (l : List α) (z : α) (i : Nat) (h : i < l.length) : (l.take i ++ List.replicate (l.length - i) z).set i l[i] = l.take (i + 1) ++ List.replicate (l.length - (i + 1)) z := by
  have e : l.length - i = (l.length - (i + 1)) + 1 := by omega
  rw [e, List.replicate_succ, set_midR _ _ _ _ _ (by rw [List.length_take]; omega)]
  have h2 : l.take (i + 1) = l.take i ++ [l[i]] := by simp
  rw [h2, List.append_assoc]
  rfl
theorem fill_len {α : Type} (l : List α) (z : α) (i : Nat) (h : i ≤ l.length) : (l.take i ++ List.replicate (l.length - i) z).length = l.length := by
  rw [List.length_append, List.length_take, List.length_replicate]
  omega
theorem toInts (l : List Int) (hl : l.length ≤ 1048576) : Ev (fun k => laws_toIntS.f k l) l := by
  have loop : ∀ (d i : Nat), l.length - i = d → i ≤ l.length → Ev (fun k => laws_toIntS.l0 k l (l.take i ++ List.replicate (l.length - i) 0) (i : Int)) l := by
    intro d
    induction d with
    | zero =>
      intro i hd hi
      refine ev_succ ?_
      simp only [laws_toIntS.l0, if_neg (show ¬ (i : Int) < (l.length : Int) by omega)]
      have : l.take i ++ List.replicate (l.length - i) 0 = l := by rw [List.take_of_length_le (by omega), hd]; simp
      rw [this]
      exact ev_some _
    | succ d ih =>
      intro i hd hi
      have hlt : i < l.length := by omega
      have e1 : wrap64 ((i : Int) + 1) = ((i + 1 : Nat) : Int) := by rw [wrap_id (by omega) (by omega)]; omega
      refine ev_succ ?_
      simp only [laws_toIntS.l0, if_pos (show (i : Int) < (l.length : Int) by omega), if_pos (show (0 : Int) ≤ (i : Int) by omega), fill_len l 0 i hi, e1, Int.toNat_natCast, rd_nat l i hlt, fill_step l 0 i hlt]
      exact ih (i + 1) (by omega) (by omega)
  unfold laws_toIntS.f
  simp only [if_pos (show 0 ≤ (l.length : Int) by omega), Int.toNat_natCast, if_pos (show l.length ≤ 35184372088832 by omega)]
  exact loop l.length 0 rfl (by omega)
theorem toRec (x : Lr) (hx : okR x) : Ev (fun k => laws_toRecord.f k x.f0 x.f1 x.f2 x.f3 x.f4 x.f5) (x.f0, x.f1, x.f2, x.f3, x.f4, x.f5) := by
  unfold laws_toRecord.f
  refine Ev.bind (toInts x.f3 hx.1) ?_
  exact Ev.bind (toInts x.f5 hx.2) (ev_some _)
theorem toRecs (l : List Lr) (hl : l.length ≤ 1048576) (hx : ∀ x ∈ l, okR x) : Ev (fun k => laws_toRecordS.f k l) (l.map toR) := by
  have hml : (l.map toR).length = l.length := List.length_map ..
  have loop : ∀ (d i : Nat), l.length - i = d → i ≤ l.length → Ev (fun k => laws_toRecordS.l0 k l ((l.map toR).take i ++ List.replicate ((l.map toR).length - i) z79) (i : Int)) (l.map toR) := by
    intro d
    induction d with
    | zero =>
      intro i hd hi
      refine ev_succ ?_
      simp only [laws_toRecordS.l0, if_neg (show ¬ (i : Int) < (l.length : Int) by omega)]
      have : (l.map toR).take i ++ List.replicate ((l.map toR).length - i) z79 = l.map toR := by rw [List.take_of_length_le (by omega), hml, hd]; simp
      rw [this]
      exact ev_some _
    | succ d ih =>
      intro i hd hi
      have hlt : i < l.length := by omega
      have e1 : wrap64 ((i : Int) + 1) = ((i + 1 : Nat) : Int) := by rw [wrap_id (by omega) (by omega)]; omega
      have hfs := fill_step (l.map toR) z79 i (by omega)
      have hfl := fill_len (l.map toR) z79 i (by omega)
      refine ev_succ ?_
      simp only [laws_toRecordS.l0, if_pos (show (i : Int) < (l.length : Int) by omega), if_pos (show (0 : Int) ≤ (i : Int) by omega), rdLr l i hlt, e1, hfl, Int.toNat_natCast]
      refine Ev.bind (toRec l[i] (hx _ (List.getElem_mem hlt))) ?_
      simp only [if_pos (show (i : Int) < ((l.map toR).length : Int) by omega)]
      have hg : (l.map toR)[i] = toR l[i] := by simp
      rw [hg] at hfs
      rw [show (⟨l[i].f0, l[i].f1, l[i].f2, l[i].f3, l[i].f4, l[i].f5⟩ : Rc) = toR l[i] from rfl, hfs]
      exact ih (i + 1) (by omega) (by omega)
  unfold laws_toRecordS.f
  simp only [if_pos (show 0 ≤ (l.length : Int) by omega), Int.toNat_natCast, if_pos (show l.length ≤ 3518437208883 by omega)]
  have := loop l.length 0 rfl (by omega)
  rw [hml] at this
  exact this
theorem eqInts_self (a : List Int) (hs : a.length ≤ 1048576) : Ev (fun k => laws_eqIntS.f k a a) true := by
  have loop : ∀ (d i : Nat), a.length - i = d → i ≤ a.length → Ev (fun k => laws_eqIntS.l0 k a a (i : Int)) true := by
    intro d
    induction d with
    | zero =>
      intro i hd hi
      refine ev_succ ?_
      simp only [laws_eqIntS.l0, if_neg (show ¬ (i : Int) < (a.length : Int) by omega)]
      exact ev_some _
    | succ d ih =>
      intro i hd hi
      have e1 : wrap64 ((i : Int) + 1) = ((i + 1 : Nat) : Int) := by rw [wrap_id (by omega) (by omega)]; omega
      refine ev_succ ?_
      simp only [laws_eqIntS.l0, if_pos (show (i : Int) < (a.length : Int) by omega), if_pos (show (0 : Int) ≤ (i : Int) by omega), if_true, e1]
      exact ih (i + 1) (by omega) (by omega)
  unfold laws_eqIntS.f
  simp only [if_true]
  exact loop a.length 0 rfl (by omega)
def okRc (x : Rc) : Prop := x.f3.length ≤ 1048576 ∧ x.f5.length ≤ 1048576
theorem eqRec_self (x : Rc) (hx : okRc x) : Ev (fun k => laws_eqRecord.f k x.f0 x.f1 x.f2 x.f3 x.f4 x.f5 x.f0 x.f1 x.f2 x.f3 x.f4 x.f5) true := by
  unfold laws_eqRecord.f
  simp only [if_true, bne_self_eq_false, Bool.false_eq_true, if_false]
  refine Ev.bind (eqInts_self x.f3 hx.1) ?_
  simp only [if_true]
  refine Ev.bind (eqInts_self x.f5 hx.2) ?_
  simp only [if_true]
  exact ev_some _
theorem eqRecs_self (a : List Rc) (hs : a.length ≤ 1048576) (hx : ∀ x ∈ a, okRc x) : Ev (fun k => laws_eqRecordS.f k a a) true := by
  have loop : ∀ (d i : Nat), a.length - i = d → i ≤ a.length → Ev (fun k => laws_eqRecordS.l0 k a a (i : Int)) true := by
    intro d
    induction d with
    | zero =>
      intro i hd hi
      refine ev_succ ?_
      simp only [laws_eqRecordS.l0, if_neg (show ¬ (i : Int) < (a.length : Int) by omega)]
      exact ev_some _
    | succ d ih =>
      intro i hd hi
      have hlt : i < a.length := by omega
      have e1 : wrap64 ((i : Int) + 1) = ((i + 1 : Nat) : Int) := by rw [wrap_id (by omega) (by omega)]; omega
      refine ev_succ ?_
      simp only [laws_eqRecordS.l0, if_pos (show (i : Int) < (a.length : Int) by omega), if_pos (show (0 : Int) ≤ (i : Int) by omega), e1]
      refine Ev.bind (eqRec_self (rr a (i : Int)) (by rw [rr_nat a i hlt]; exact hx _ (List.getElem_mem hlt))) ?_
      simp only [if_true]
      exact ih (i + 1) (by omega) (by omega)
  unfold laws_eqRecordS.f
  simp only [if_true]
  exact loop a.length 0 rfl (by omega)
theorem szBatC (a0 a1 : Bool) (a2 a3 a4 : Int) (rs : List Lr) (hl : rs.length ≤ 9223372036854775807) (hx : ∀ y ∈ rs, bigR y) (a : Int) (h0 : 0 ≤ a) (h1 : a ≤ 1048576) : Evs (fun k => laws_szBatch.f k a0 a1 a2 a3 a4 rs a) (sz a (rs.length ≤ 1048576 ∧ ∀ y ∈ rs, okR y)) := by
  unfold laws_szBatch.f
  refine Evs.bind (szRecs rs hl hx a h0 h1) ?_
  intro r hr
  rcases hr with rfl | ⟨s0, s1, s2⟩
  · simp only [if_pos (show (-1 : Int) < 0 by omega)]; exact Evs.done (Or.inl rfl)
  · simp only [if_neg (show ¬ r < 0 by omega)]; exact Evs.done (Or.inr ⟨s0, s1, s2⟩)
theorem toBatC (a0 a1 : Bool) (a2 a3 a4 : Int) (rs : List Lr) (hl : rs.length ≤ 1048576) (hx : ∀ y ∈ rs, okR y) : Ev (fun k => laws_toBatch.f k a0 a1 a2 a3 a4 rs) (a0, a1, a2, a3, a4, rs.map toR) := by
  unfold laws_toBatch.f
  exact Ev.bind (toRecs rs hl hx) (ev_some _)
theorem eqBatC (a0 a1 : Bool) (a2 a3 a4 : Int) (rs : List Rc) (hl : rs.length ≤ 1048576) (hx : ∀ y ∈ rs, okRc y) : Ev (fun k => laws_eqBatch.f k a0 a1 a2 a3 a4 rs a0 a1 a2 a3 a4 rs) true := by
  unfold laws_eqBatch.f
  simp only [if_true, bne_self_eq_false, Bool.false_eq_true, if_false]
  refine Ev.bind (eqRecs_self rs hl hx) ?_
  simp only [if_true]
  exact ev_some _
theorem okRc_of {rs : List Lr} (hx : ∀ y ∈ rs, okR y) : ∀ y ∈ rs.map toR, okRc y := fun y hy => by
  obtain ⟨z, hz, rfl⟩ := List.mem_map.1 hy
  exact hx z hz
theorem smallRs_map {rs : List Lr} (hl : rs.length ≤ 1048576) (hx : ∀ y ∈ rs, okR y) : smallRs (rs.map toR) := by
  refine ⟨by rw [List.length_map]; omega, fun y hy => ?_⟩
  have := okRc_of hx y hy
  exact ⟨by have := this.1; omega, by have := this.2; omega⟩
theorem maxLen_le : maxLen ≤ 9223372036854775807 := by unfold maxLen; omega
theorem bigR_of {y : Lr} (h6 : WF99 y) : bigR y := by
  have hm := maxLen_le
  unfold WF99 at h6
  exact ⟨Nat.le_trans h6.2.2.2.1.1 hm, Nat.le_trans h6.2.2.2.2.2.1 hm⟩
end Go.Proofs.Ytkhmopmfbocokaa.Q
namespace Go.Proofs.Ytkhmopmfbocokaa.T
open Go.RowKit Go.Proofs.YtkhmopmfbocokaaW.PrintWords Go.Proofs.YtkhmopmfbocokaaW.PrintLast Go.Proofs.YtkhmopmfbocokaaW.PrintMore

set_option linter.unusedVariables false
set_option linter.unusedSimpArgs false
end Go.Proofs.Ytkhmopmfbocokaa.T
namespace Go.Proofs.Ytkhmopmfbocokaa.T
open Go.RowKit Go.Proofs.YtkhmopmfbocokaaW.PrintWords Go.Proofs.YtkhmopmfbocokaaW.PrintLast Go.Proofs.YtkhmopmfbocokaaW.PrintMore

set_option linter.unusedVariables false
set_option linter.unusedSimpArgs false
end Go.Proofs.Ytkhmopmfbocokaa.T
namespace Go.Proofs.Ytkhmopmfbocokaa.T
open Go.RowKit Go.Proofs.YtkhmopmfbocokaaW.PrintWords Go.Proofs.YtkhmopmfbocokaaW.PrintLast Go.Proofs.YtkhmopmfbocokaaW.PrintMore

set_option linter.unusedVariables false
set_option linter.unusedSimpArgs false
end Go.Proofs.Ytkhmopmfbocokaa.T
namespace Go.Proofs.Ytkhmopmfbocokaa.T
open Go.RowKit Go.Proofs.YtkhmopmfbocokaaW.PrintWords Go.Proofs.YtkhmopmfbocokaaW.PrintLast Go.Proofs.YtkhmopmfbocokaaW.PrintMore

set_option linter.unusedVariables false
set_option linter.unusedSimpArgs false
theorem eqA39 (d : Nat) (w : World) (x0 y0 : Int) (x1 y1 : Int) (x2 y2 : Int) :
  (Op.equalIn (d + 2) 39 (.agg #[.int .i64 x0, .int .i64 x1, .int .i64 x2]) (.agg #[.int .i64 y0, .int .i64 y1, .int .i64 y2])).run Try.prog w = .ok (x0 == y0 && (x1 == y1 && (x2 == y2))) w := by
 refine eqA_of Try.underlying39 (by kernel_rfl) ?_; refine eqf_cons (by rfl) (by go_simp; rfl) (by go_simp; rfl) (by go_simp) ?_; refine eqf_cons (by rfl) (by go_simp; rfl) (by go_simp; rfl) (by go_simp) ?_; exact eqf_last (by rfl) (by go_simp; rfl) (by go_simp; rfl) (by go_simp)
end Go.Proofs.Ytkhmopmfbocokaa.T
namespace Go.Proofs.Ytkhmopmfbocokaa.T
open Go.RowKit Go.Proofs.YtkhmopmfbocokaaW.PrintWords Go.Proofs.YtkhmopmfbocokaaW.PrintLast Go.Proofs.YtkhmopmfbocokaaW.PrintMore

set_option linter.unusedVariables false
set_option linter.unusedSimpArgs false
attribute [local go_sem high] eqA39
end Go.Proofs.Ytkhmopmfbocokaa.T
namespace Go.Proofs.Ytkhmopmfbocokaa.Q
open Go.RowKit Go.Proofs.Ytkhmopmfbocokaa.T Go.Proofs.YtkhmopmfbocokaaW.PrintWords Go.Proofs.YtkhmopmfbocokaaW.PrintLast
set_option linter.unusedVariables false
set_option linter.unusedSimpArgs false
theorem VP_mem {l : List Pr} (h : VP l) : ∀ t ∈ l, okP t := ((VP_iff l).1 h).2.1
theorem VP_sorted {l : List Pr} (h : VP l) : l.Pairwise ltP := ((VP_iff l).1 h).2.2
theorem VP_ids {l : List Pr} (h : VP l) : idsOk l = true := by
  unfold idsOk
  rw [List.all_eq_true]
  intro t ht
  have := (VP_mem h t ht).1
  simp
  omega
theorem VB_prod {a1 : Bool} {a2 a3 a4 : Int} {rs : List Rc} (h : VB a1 a2 a3 a4 rs) : 0 ≤ a2 ∧ a2 ≤ 255 := by
  have := h.1
  split at this
  · omega
  · omega
theorem prodOk_of {l : List Pr} (h : VP l) {a1 : Bool} {a2 a3 a4 : Int} {rs : List Rc} (hb : VB a1 a2 a3 a4 rs) : prodOk l a2 = true := by
  have := VB_prod hb
  unfold prodOk
  rw [VP_ids h]
  simp
  omega
def slotOf (t : Pr) : SlotV := ⟨true, t.f0, t.f1, t.f2⟩
theorem fold_not : ∀ (l : List Pr) (f : Nat → SlotV) (i : Nat), (∀ t ∈ l, t.f0.toNat ≠ i) → l.foldl slotPut f i = f i
  | [], f, i, h => rfl
  | a :: l, f, i, h => by
    rw [List.foldl_cons, fold_not l (slotPut f a) i (fun t ht => h t (List.mem_cons_of_mem _ ht))]
    unfold slotPut
    rw [if_neg (fun e => h a List.mem_cons_self e.symm)]
theorem fold_mem : ∀ (l : List Pr) (f : Nat → SlotV), l.Pairwise ltP → (∀ t ∈ l, 0 ≤ t.f0) → ∀ t ∈ l, l.foldl slotPut f t.f0.toNat = slotOf t
  | [], f, hs, h0, t, ht => by cases ht
  | a :: l, f, hs, h0, t, ht => by
    rw [List.foldl_cons]
    rw [List.pairwise_cons] at hs
    rcases List.mem_cons.1 ht with rfl | ht
    · rw [fold_not l _ _ (fun s hs' => by
        have h1 := hs.1 s hs'
        have h2 := h0 s (List.mem_cons_of_mem _ hs')
        have h3 := h0 t List.mem_cons_self
        unfold ltP at h1
        omega)]
      unfold slotPut slotOf
      rw [if_pos rfl]
    · exact fold_mem l _ hs.2 (fun s hs' => h0 s (List.mem_cons_of_mem _ hs')) t ht
theorem slotFn_mem {l : List Pr} (h : VP l) (t : Pr) (ht : t ∈ l) : slotFn l t.f0.toNat = slotOf t := fold_mem l _ (VP_sorted h) (fun s hs => (VP_mem h s hs).1.1) t ht
theorem slotFn_not {l : List Pr} (h : VP l) (i : Nat) (hi : ∀ t ∈ l, t.f0 ≠ (i : Int)) : slotFn l i = slot0 := by
  unfold slotFn
  rw [fold_not l _ i (fun t ht e => hi t ht (by have := (VP_mem h t ht).1.1; omega))]
def findP (l : List Pr) (p : Int) : Option Pr := l.find? (fun t => t.f0 == p)
theorem findP_some {l : List Pr} {p : Int} {t : Pr} (h : findP l p = some t) : t ∈ l ∧ t.f0 = p := by
  unfold findP at h
  exact ⟨List.mem_of_find?_eq_some h, by have := List.find?_some h; simpa using this⟩
theorem findP_none {l : List Pr} {p : Int} (h : findP l p = none) : ∀ t ∈ l, t.f0 ≠ p := by
  intro t ht
  have := List.find?_eq_none.1 h t ht
  simpa using this
def codeP (l : List Pr) (p e s : Int) : Int :=
  if p = 255 then 4 else match findP l p with
    | some t => if t.f1 > e then 3 else if t.f1 = e then seqCode s t.f2 else seqCode s 0
    | none => seqCode s 0
theorem codeAt_eq {l : List Pr} (h : VP l) (p e s : Int) (h0 : 0 ≤ p) : codeAt (slotFn l) p e s = codeP l p e s := by
  unfold codeAt codeP
  by_cases hp : p = 255
  · rw [if_pos hp, if_pos hp]
  · rw [if_neg hp, if_neg hp]
    cases hf : findP l p with
    | none =>
      rw [slotFn_not h p.toNat (fun t ht => by have := findP_none hf t ht; omega)]
      rfl
    | some t =>
      obtain ⟨h1, h2⟩ := findP_some hf
      subst h2
      rw [slotFn_mem h t h1]
      rfl
noncomputable def pcode (l : List Pr) (a1 : Bool) (a2 a3 a4 : Int) (rs : List Rc) : Int := if vp l = true then (if vb a1 a2 a3 a4 rs = true then codeP l a2 a3 a4 else 5) else 5
theorem implCheck (l : List Pr) (hl : l.length ≤ 1000000000000) (a0 a1 : Bool) (a2 a3 a4 : Int) (rs : List Rc) (hr : smallRs rs) : Ev (fun k => impl_ProducersCheck.f k l a0 a1 a2 a3 a4 rs) (pcode l a1 a2 a3 a4 rs) := by
  unfold impl_ProducersCheck.f pcode
  refine Ev.bind (implPValid l hl) ?_
  by_cases h : vp l = true
  · simp only [if_pos h]
    refine Ev.bind (implB a0 a1 a2 a3 a4 rs hr) ?_
    by_cases h2 : vb a1 a2 a3 a4 rs = true
    · have hV := (vp_iff l).1 h
      have hB := (vb_iff _ _ _ _ _).1 h2
      simp only [if_pos h2, if_pos (prodOk_of hV hB), codeAt_eq hV a2 a3 a4 (VB_prod hB).1]
      exact ev_some _
    · simp only [if_neg h2]
      exact ev_some _
  · simp only [if_neg h]
    exact ev_some _
def atP (l : List Pr) (x : Int) : Int := match l.findIdx? (fun t => t.f0 == x) with
  | some i => i
  | none => -1
theorem atP_cases (l : List Pr) (x : Int) : (atP l x = -1 ∧ findP l x = none ∧ ∀ j, j < l.length → (rp l (j : Int)).f0 ≠ x) ∨ ∃ i : Nat, i < l.length ∧ atP l x = i ∧ findP l x = some (rp l (i : Int)) ∧ (rp l (i : Int)).f0 = x ∧ ∀ j, j < i → (rp l (j : Int)).f0 ≠ x := by
  unfold atP findP
  cases h : l.findIdx? (fun t => t.f0 == x) with
  | none =>
    rw [List.findIdx?_eq_none_iff] at h
    refine .inl ⟨rfl, List.find?_eq_none.2 (fun t ht => by have := h t ht; simpa using this), fun j hj => ?_⟩
    have := h l[j] (List.getElem_mem hj)
    rw [rp_nat l j hj]
    simpa using this
  | some i =>
    rw [List.findIdx?_eq_some_iff_getElem] at h
    obtain ⟨hi, h1, h2⟩ := h
    refine .inr ⟨i, hi, rfl, ?_, ?_, fun j hj => ?_⟩
    · rw [rp_nat l i hi, List.find?_eq_some_iff_getElem]
      exact ⟨h1, i, hi, rfl, fun j hj => by have := h2 j hj; simpa using this⟩
    · rw [rp_nat l i hi]; simpa using h1
    · rw [rp_nat l j (by omega)]
      have := h2 j hj
      simpa using this
theorem specAtP_loop (l : List Pr) (x : Int) (hl : l.length ≤ 1000000000000) : ∀ (d i : Nat), l.length - i = d → i ≤ l.length → (∀ j, j < i → (rp l (j : Int)).f0 ≠ x) → Ev (fun k => spec_l21At.l0 k l x (i : Int)) (atP l x) := by
  intro d
  induction d with
  | zero =>
    intro i hd hi hn
    refine ev_succ ?_
    simp only [spec_l21At.l0, if_neg (show ¬ (i : Int) < (l.length : Int) by omega)]
    rcases atP_cases l x with ⟨h, _⟩ | ⟨j, hj, h, _, h1, _⟩
    · rw [h]; exact ev_some _
    · exact absurd h1 (hn j (by omega))
  | succ d ih =>
    intro i hd hi hn
    have e1 : wrap64 ((i : Int) + 1) = ((i + 1 : Nat) : Int) := by rw [wrap_id (by omega) (by omega)]; omega
    refine ev_succ ?_
    by_cases h : (rp l (i : Int)).f0 = x
    · simp only [spec_l21At.l0, if_pos (show (i : Int) < (l.length : Int) by omega), if_pos (show (0 : Int) ≤ i by omega), if_pos h]
      rcases atP_cases l x with ⟨_, _, h2⟩ | ⟨j, hj, h2, _, h3, h4⟩
      · exact absurd h (h2 i (by omega))
      · have : j = i := by
          rcases Nat.lt_trichotomy j i with h5 | h5 | h5
          · exact absurd h3 (hn j h5)
          · exact h5
          · exact absurd h (h4 i h5)
        rw [h2, this]
        exact ev_some _
    · simp only [spec_l21At.l0, if_pos (show (i : Int) < (l.length : Int) by omega), if_pos (show (0 : Int) ≤ i by omega), if_neg h, e1]
      refine ih (i + 1) (by omega) (by omega) (fun j hj => ?_)
      by_cases e : j = i
      · subst e; exact h
      · exact hn j (by omega)
theorem specAtP (l : List Pr) (x : Int) (hl : l.length ≤ 1000000000000) : Ev (fun k => spec_l21At.f k l x) (atP l x) := by
  unfold spec_l21At.f
  exact specAtP_loop l x hl l.length 0 (by omega) (by omega) (fun j hj => by omega)
theorem spec_seq (n : Int) (a0 a1 : Bool) (a2 a3 a4 : Int) (rs : List Rc) : Ev (fun k => spec_l21Check.j0 k n a0 a1 a2 a3 a4 rs) (seqCode a4 n) := by
  refine ev_succ ?_
  unfold seqCode
  simp only [spec_l21Check.j0]
  by_cases h : a4 < n
  · simp only [if_pos h]; exact ev_some _
  · simp only [if_neg h]
    by_cases h2 : a4 > n
    · simp only [if_pos h2]; exact ev_some _
    · simp only [if_neg h2]; exact ev_some _
theorem specCode (l : List Pr) (hl : l.length ≤ 1000000000000) (a0 a1 : Bool) (a2 a3 a4 : Int) (rs : List Rc) : Ev (fun k => spec_l21Check.f k l a0 a1 a2 a3 a4 rs) (codeP l a2 a3 a4) := by
  unfold spec_l21Check.f codeP
  by_cases hp : a2 = 255
  · simp only [if_pos hp]; exact ev_some _
  · simp only [if_neg hp]
    refine Ev.bind (specAtP l a2 hl) ?_
    rcases atP_cases l a2 with ⟨h, hf, _⟩ | ⟨i, hi, h, hf, h1, _⟩
    · rw [h, hf]
      simp only [if_neg (show ¬ ((-1 : Int) ≥ 0) by omega)]
      exact spec_seq _ _ _ _ _ _ _
    · rw [h, hf]
      simp only [if_pos (show (i : Int) ≥ 0 by omega), if_pos (show (0 : Int) ≤ i by omega), if_pos (show (i : Int) < (l.length : Int) by omega)]
      by_cases h2 : a3 < (rp l (i : Int)).f1
      · simp only [if_pos h2, if_pos (show (rp l (i : Int)).f1 > a3 from h2)]; exact ev_some _
      · simp only [if_neg h2, if_neg (show ¬ (rp l (i : Int)).f1 > a3 from h2)]
        by_cases h3 : a3 = (rp l (i : Int)).f1
        · simp only [if_pos h3, if_pos h3.symm]
          exact spec_seq _ _ _ _ _ _ _
        · simp only [if_neg h3, if_neg (fun h4 => h3 (Eq.symm h4))]
          exact spec_seq _ _ _ _ _ _ _
theorem specCheck (l : List Pr) (hl : l.length ≤ 1000000000000) (a0 a1 : Bool) (a2 a3 a4 : Int) (rs : List Rc) (hr : smallRs rs) : Ev (fun k => spec_ProducersCheck.f k l a0 a1 a2 a3 a4 rs) (pcode l a1 a2 a3 a4 rs) := by
  unfold spec_ProducersCheck.f pcode
  refine Ev.bind (specPValid l hl) ?_
  by_cases h : vp l = true
  · simp only [if_pos h]
    refine Ev.bind (specB a0 a1 a2 a3 a4 rs hr) ?_
    by_cases h2 : vb a1 a2 a3 a4 rs = true
    · simp only [if_pos h2]
      exact Ev.bind (specCode l hl a0 a1 a2 a3 a4 rs) (ev_some _)
    · simp only [if_neg h2]
      exact ev_some _
  · simp only [if_neg h]
    exact ev_some _
end Go.Proofs.Ytkhmopmfbocokaa.Q
namespace Go.Proofs.Ytkhmopmfbocokaa.Pure
open Go.RowKit Go.Proofs.Ytkhmopmfbocokaa.T Go.Proofs.YtkhmopmfbocokaaW.PrintWords Go.Proofs.YtkhmopmfbocokaaW.PrintLast Go.Proofs.Ytkhmopmfbocokaa.Q
set_option linter.unusedVariables false
set_option linter.unusedSimpArgs false
theorem FnExactProducersCheck (l0 : List Lp) (a0 a1 : Bool) (a2 a3 a4 : Int) (rs : List Lr) (hm : l0.length ≤ maxLen) (_hw : ∀ v ∈ l0, WF72 v) (_h2 : (Lit.int .i64 a2).wf = true) (_h3 : (Lit.int .i64 a3).wf = true) (_h4 : (Lit.int .i64 a4).wf = true) (hm2 : rs.length ≤ maxLen) (hw2 : ∀ v ∈ rs, WF99 v) : ∃ k, laws_FnExactProducersCheck.f k l0 a0 a1 a2 a3 a4 rs = some true := by
  refine Ev.rounds ?_
  unfold laws_FnExactProducersCheck.f
  rcases szProds l0 hm with ⟨hl, hs⟩ | ⟨hl, hs⟩
  · simp only [hs, bsome, if_neg (show ¬ (1048576 : Int) - (l0.length : Int) < 0 by omega)]
    have ht := toProds l0 hl
    have hlen : (l0.map toP).length ≤ 1048576 := by simpa using hl
    obtain ⟨r, h1, p1⟩ := szBatC a0 a1 a2 a3 a4 rs (Nat.le_trans hm2 maxLen_le) (fun x hx => bigR_of (hw2 x hx)) ((1048576 : Int) - (l0.length : Int)) (by omega) (by omega)
    refine Ev.bind h1 ?_
    rcases p1 with rfl | ⟨s0, s1, s2, s3⟩
    · simp only [if_pos (show (-1 : Int) < 0 by omega)]
      exact ev_some _
    · simp only [if_neg (show ¬ r < 0 by omega)]
      have hb := toBatC a0 a1 a2 a3 a4 rs s2 s3
      have hsm := smallRs_map s2 s3
      have hi := implCheck (l0.map toP) (by omega) a0 a1 a2 a3 a4 (rs.map toR) hsm
      have hsp := specCheck (l0.map toP) (by omega) a0 a1 a2 a3 a4 (rs.map toR) hsm
      refine Ev.bind ht ?_
      refine Ev.bind hb ?_
      refine Ev.bind hsp ?_
      refine Ev.bind ht ?_
      refine Ev.bind hb ?_
      refine Ev.bind hi ?_
      simp only [if_true]
      refine Ev.bind ht ?_
      refine Ev.bind (eqProds_self _ hlen) ?_
      simp only [if_true]
      refine Ev.bind hb ?_
      refine Ev.bind (eqBatC a0 a1 a2 a3 a4 (rs.map toR) (by rw [List.length_map]; exact s2) (okRc_of s3)) ?_
      simp only [if_true]
      exact ev_some _
  · simp only [hs, bsome, if_pos (show (-1 : Int) < 0 by omega)]
    exact ev_some _
end Go.Proofs.Ytkhmopmfbocokaa.Pure
namespace Go.Proofs.Ytkhmopmfbocokaa.fnExactProducersCheck
open Go.ChangeShapes Go.WideShapes Go.ChangeAt Go.RowKit
open Go.ChangeMaps (open_string shut_string)
open Go.Proofs.YtkhmopmfbocokaaW.PrintWords
set_option linter.unusedVariables false
theorem own : ownKnob Try.prog.godebug = none := by kernel_rfl
theorem laidOut : laidOutB Try.prog = true := by kernel_rfl
set_option maxRecDepth 100000 in
theorem lifted (os : Os) (started : os.Started) (H : Type) (enc : TypeId × Value → H) :
    ReturnsInHanded {} Try.checked os 13 .any (Rows.fnExactProducersCheckSpec.pre6 enc Try.prog Try.f13 Rows.fnExactProducersCheckRow.domain false) (Rows.fnExactProducersCheckSpec.post enc Try.prog Try.f13 false true false false) := by
  refine returnsInHanded_of_change_sized (C := Try.checked) own started (by kernel_rfl) Try.func13
    (ChangeSpec.witness6 (enc := enc) (C := Try.checked) false ⟨#[], #[.slice none 0 0, .agg #[.bool false, .bool false, .int .i64 0, .int .i64 0, .int .i64 0, .slice none 0 0]], []⟩ 8 (by kernel_rfl) (by kernel_rfl) (by kernel_rfl) (by kernel_rfl)) ?_
  intro W base args ds gs before hval0 hW hcnd hsz0 _
  have hval : ∀ (j : Nat) t v, Try.f13.params[j]? = some t → args[j]? = some v → Value.okWide Try.prog W .any base t v := hval0
  have hW' := hW
  obtain ⟨p, q, hA0, hV, rfl, hfz, hnd⟩ := hW
  have hA : DataW.TrodAll enc Try.prog W 0 (fun _ => true) true Try.f13.params.toList args.toList ds p := hA0
  rw [Try.params13] at hA hval
  obtain ⟨v0, vs0, d0, ds0, p0, q0, hargs, rfl, rfl, h0, r0⟩ := trodAll_cons hA
  obtain ⟨v1, vs1, d1, ds1, p1, q1, rfl, rfl, rfl, h1, r1⟩ := trodAll_cons r0
  obtain ⟨rfl, rfl, rfl⟩ := trodAll_nil r1
  obtain rfl : args = #[v0, v1] := by cases args; simp_all
  obtain ⟨rfl, rfl⟩ := trodVars_none hV
  obtain ⟨a0, len0, cap0, rfl⟩ := okWide_slice Try.underlying27 (hval 0 27 v0 rfl rfl)
  have k0 := h0
  have lt0 : ∀ x ∈ p0, x.block < W.heap.size := by obtain ⟨m, hm⟩ := k0; exact DataW.trod_lt m _ _ _ hm
  obtain ⟨fu0, hf0⟩ := h0
  obtain ⟨l0, ⟨A0, c0, hE0, hc0, hC0⟩, hm0, hw0⟩ := (Q.Opens.slice Try.underlying27 T.opens72 (by kernel_rfl)) _ enc W _ _ _ _ _ _ hf0
  replace hE0 : ([.slice a0 len0 cap0] : List Value) = [.slice A0 l0.length c0] := hE0
  simp only [List.cons.injEq, Value.slice.injEq, and_true] at hE0
  obtain ⟨rfl, rfl, rfl⟩ := hE0
  obtain ⟨cs1, rfl, hz1⟩ := okWide_struct Try.underlying46 (hval 1 46 v1 rfl rfl)
  have k1 := h1
  have lt1 : ∀ x ∈ p1, x.block < W.heap.size := by obtain ⟨m, hm⟩ := k1; exact DataW.trod_lt m _ _ _ hm
  obtain ⟨fu1, hf1⟩ := h1
  obtain ⟨x1, hK1, hw1⟩ := T.opens46 _ enc W _ _ _ _ _ _ hf1
  have hO1 := T.k46_open hK1
  obtain ⟨A1_5, c1_5, hO1, hc1_5, hC1_5⟩ := hO1
  obtain rfl : cs1 = #[.bool x1.f0, .bool x1.f1, .int .i64 x1.f2, .int .i64 x1.f3, .int .i64 x1.f4, .slice A1_5 x1.f5.length c1_5] := Array.ext' (by simpa [Value.cells] using hO1)
  have hw1' := hw1
  unfold T.WF46 at hw1'
  obtain ⟨hw1_0, hw1_1, hw1_2, hw1_3, hw1_4, hw1_5⟩ := hw1'
  clear hA0 hval0 hsz0
  obtain ⟨k, h⟩ := Pure.FnExactProducersCheck l0 x1.f0 x1.f1 x1.f2 x1.f3 x1.f4 x1.f5 hm0 hw0 hw1_2 hw1_3 hw1_4 hw1_5.1 hw1_5.2
  refine (T.laws_FnExactProducersCheck.calls k _ _ l0 x1.f0 x1.f1 x1.f2 x1.f3 x1.f4 _ _ x1.f5 true W hC0 hc0 hC1_5 hc1_5 h).mono ?_
  rintro e W' ⟨rfl, bel⟩
  exact ⟨_, rfl, _, _, _, [], _, [], hW', trodAll_mk1 (shut_bool Try.underlying4 _), (trodAll_cons_mk (Below.trod laidOut (by kernel_rfl) (of_decide_eq_true (by kernel_rfl)) k0 bel lt0) (trodAll_cons_mk (Below.trod laidOut (by kernel_rfl) (of_decide_eq_true (by kernel_rfl)) k1 bel lt1) trodAll_mk0)), rfl, bel.frame _, fun h => by cases h⟩
theorem closed : joinedFacts Try.prog 13 Try.f13 Rows.fnExactProducersCheckSpec Rows.fnExactProducersCheckRow = true :=
  Head.closed_of _ _ _ _ _ (by kernel_rfl) (by kernel_rfl) (by kernel_rfl) (by kernel_rfl) (by kernel_rfl) (by kernel_rfl) (by kernel_rfl) (by kernel_rfl) (by kernel_rfl) (by kernel_rfl) (by kernel_rfl) (by kernel_rfl) (by kernel_rfl) (by kernel_rfl) (by kernel_rfl) (by kernel_rfl) (by kernel_rfl) (by kernel_rfl) (by kernel_rfl) (by kernel_rfl) (by kernel_rfl) (by kernel_rfl) (by kernel_rfl) (by kernel_rfl) (by kernel_rfl) Head.may_enter (by rw [Head.lifts_final]; kernel_rfl) (by rw [Head.make_is]; kernel_rfl) (by kernel_rfl) (by kernel_rfl) (by kernel_rfl) (by kernel_rfl)
theorem over : Rows.fnExactProducersCheckRow.holds Try.pinned (OpenSpec.ofChange Rows.fnExactProducersCheckSpec) :=
  OpenClaim.holds_of_wide 13 Try.f13 rfl rfl rfl rfl rfl rfl rfl ⟨rfl, rfl, rfl, rfl, rfl⟩ rfl rfl rfl rfl rfl (by kernel_rfl) Try.func13 closed
    (of_decide_eq_true (by kernel_rfl)) (by unfold Func.isWrapper; first | (rw [if_pos (by decide +kernel)]; kernel_rfl) | (rw [if_neg (by decide +kernel)]; exact ⟨rfl, rfl⟩))
    (fun os started H enc _ => lifted os started H enc)
theorem proved : Rows.FnExactProducersCheckSaid := over
end Go.Proofs.Ytkhmopmfbocokaa.fnExactProducersCheck
namespace Go.Proofs.Ytkhmopmfbocokaa
theorem fnExactProducersCheck_holds : Rows.FnExactProducersCheckSaid := fnExactProducersCheck.proved
end Go.Proofs.Ytkhmopmfbocokaa
