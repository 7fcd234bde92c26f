/- FnMarkBatchTwo, part 6 of 6: merged by wip/tools/pack2.py out of the texts that the row reaches; the pure statement is the session's own. -/
import Derived.Test.YticpnjhkdfdkkaaRows
import Derived.WalkKit
import Derived.ProofKit
import Derived.OpenShut
import Derived.ShutString
import Derived.ChangeOld
import Derived.Below
import Derived.SizedLaws
import Derived.Test.YticpnjhkdfdkkaaFnMarkBatchTwoK4
namespace Go.Proofs.Yticpnjhkdfdkkaa.Q
open Go.RowKit Go.Proofs.Yticpnjhkdfdkkaa.T Go.Proofs.YticpnjhkdfdkkaaW.PrintWords Go.Proofs.YticpnjhkdfdkkaaW.PrintLast
set_option linter.unusedVariables false
set_option linter.unusedSimpArgs false
theorem sameInts_loop (a b : List Int) (hl : a.length = b.length) (hs : a.length ≤ 1000000000000000) : ∀ (d i : Nat), a.length - i = d → i ≤ a.length → Ev (fun k => laws_sameInts.l0 k a b (i : Int)) (decide (a.drop i = b.drop i)) := by
  intro d
  induction d with
  | zero =>
    intro i hd hi
    rw [show a.drop i = [] from List.drop_eq_nil_of_le (by omega), show b.drop i = [] from List.drop_eq_nil_of_le (by omega)]
    refine ev_succ ?_
    simp only [laws_sameInts.l0, if_neg (show ¬ (i : Int) < (a.length : Int) by omega), decide_true]
    exact ev_some _
  | succ d ih =>
    intro i hd hi
    have hlt : (i : Int) < (a.length : Int) := by omega
    have e1 : wrap64 ((i : Int) + 1) = ((i + 1 : Nat) : Int) := by rw [wrap_id (by omega) (by omega)]; omega
    rw [drop_int (show i < a.length by omega), drop_int (show i < b.length by omega)]
    refine ev_succ ?_
    simp only [laws_sameInts.l0, if_pos hlt, if_pos (show (0 : Int) ≤ i by omega), if_pos (show (i : Int) < (b.length : Int) by omega), e1]
    by_cases h0 : rd a i = rd b i
    · simp only [if_pos h0]
      have := ih (i + 1) (by omega) (by omega)
      simpa [h0] using this
    · simp only [if_neg h0]
      rw [decide_eq_false (by simp [h0])]
      exact ev_some _
theorem sameInts (a b : List Int) (hs : a.length ≤ 1000000000000000) : Ev (fun k => laws_sameInts.f k a b) (decide (a = b)) := by
  unfold laws_sameInts.f
  by_cases h : (a.length : Int) = (b.length : Int)
  · simp only [if_pos h]
    have := sameInts_loop a b (by omega) hs a.length 0 (by omega) (by omega)
    simpa using this
  · simp only [if_neg h]
    rw [decide_eq_false (fun e => h (by rw [e]))]
    exact ev_some _
theorem Rc_ext {a b : Rc} (h0 : a.f0 = b.f0) (h1 : a.f1 = b.f1) (h2 : a.f2 = b.f2) (h3 : a.f3 = b.f3) (h4 : a.f4 = b.f4) (h5 : a.f5 = b.f5) : a = b := by
  cases a
  cases b
  simp_all
instance : DecidableEq Rc := fun a b => decidable_of_iff (a.f0 = b.f0 ∧ a.f1 = b.f1 ∧ a.f2 = b.f2 ∧ a.f3 = b.f3 ∧ a.f4 = b.f4 ∧ a.f5 = b.f5) ⟨fun h => Rc_ext h.1 h.2.1 h.2.2.1 h.2.2.2.1 h.2.2.2.2.1 h.2.2.2.2.2, fun h => by rw [h]; simp⟩
theorem sameRec (a b : Rc) (hs : smallR a) : Ev (fun k => laws_sameRecord.f k a.f0 a.f1 a.f2 a.f3 a.f4 a.f5 b.f0 b.f1 b.f2 b.f3 b.f4 b.f5) (decide (a = b)) := by
  unfold laws_sameRecord.f
  by_cases h0 : a.f0 = b.f0
  · by_cases h1 : a.f1 = b.f1
    · by_cases h2 : a.f2 = b.f2
      · by_cases h4 : a.f4 = b.f4
        · simp only [if_pos h0, if_pos h1, if_pos (show (a.f2 == b.f2) = true by simpa using h2), if_pos (show (a.f4 == b.f4) = true by simpa using h4)]
          refine Ev.bind (sameInts a.f3 b.f3 hs.1) ?_
          by_cases h3 : a.f3 = b.f3
          · simp only [if_pos (decide_eq_true h3)]
            refine Ev.bind (sameInts a.f5 b.f5 hs.2) ?_
            by_cases h5 : a.f5 = b.f5
            · rw [decide_eq_true h5, decide_eq_true (Rc_ext h0 h1 h2 h3 h4 h5)]
              exact ev_some _
            · rw [decide_eq_false h5, decide_eq_false (fun e => h5 (by rw [e]))]
              exact ev_some _
          · simp only [decide_eq_false h3, Bool.false_eq_true, if_false]
            rw [decide_eq_false (fun e => h3 (by rw [e]))]
            exact ev_some _
        · simp only [if_pos h0, if_pos h1, if_pos (show (a.f2 == b.f2) = true by simpa using h2), if_neg (show ¬ (a.f4 == b.f4) = true by simpa using h4)]
          rw [decide_eq_false (fun e => h4 (by rw [e]))]
          exact ev_some _
      · simp only [if_pos h0, if_pos h1, if_neg (show ¬ (a.f2 == b.f2) = true by simpa using h2)]
        rw [decide_eq_false (fun e => h2 (by rw [e]))]
        exact ev_some _
    · simp only [if_pos h0, if_neg h1]
      rw [decide_eq_false (fun e => h1 (by rw [e]))]
      exact ev_some _
  · simp only [if_neg h0]
    rw [decide_eq_false (fun e => h0 (by rw [e]))]
    exact ev_some _
theorem drop_rec {l : List Rc} {i : Nat} (h : i < l.length) : l.drop i = rr l i :: l.drop (i + 1) := by
  rw [List.drop_eq_getElem_cons h, rr_nat l i h]
theorem sameRecs_loop (a b : List Rc) (hl : a.length = b.length) (hs : smallRs a) : ∀ (d i : Nat), a.length - i = d → i ≤ a.length → Ev (fun k => laws_sameRecords.l0 k a b (i : Int)) (decide (a.drop i = b.drop i)) := by
  have hlen := hs.1
  intro d
  induction d with
  | zero =>
    intro i hd hi
    rw [show a.drop i = [] from List.drop_eq_nil_of_le (by omega), show b.drop i = [] from List.drop_eq_nil_of_le (by omega)]
    refine ev_succ ?_
    simp only [laws_sameRecords.l0, if_neg (show ¬ (i : Int) < (a.length : Int) by omega), decide_true]
    exact ev_some _
  | succ d ih =>
    intro i hd hi
    have hlt : (i : Int) < (a.length : Int) := by omega
    have e1 : wrap64 ((i : Int) + 1) = ((i + 1 : Nat) : Int) := by rw [wrap_id (by omega) (by omega)]; omega
    rw [drop_rec (show i < a.length by omega), drop_rec (show i < b.length by omega)]
    refine ev_succ ?_
    simp only [laws_sameRecords.l0, if_pos hlt, if_pos (show (0 : Int) ≤ i by omega), if_pos (show (i : Int) < (b.length : Int) by omega), e1]
    refine Ev.bind (sameRec (rr a i) (rr b i) (smallRs_at hs i (by omega))) ?_
    by_cases h0 : rr a i = rr b i
    · simp only [if_pos (decide_eq_true h0)]
      have := ih (i + 1) (by omega) (by omega)
      simpa [h0] using this
    · simp only [decide_eq_false h0, Bool.false_eq_true, if_false]
      rw [decide_eq_false (by simp [h0])]
      exact ev_some _
theorem sameRecs (a b : List Rc) (hs : smallRs a) : Ev (fun k => laws_sameRecords.f k a b) (decide (a = b)) := by
  unfold laws_sameRecords.f
  by_cases h : (a.length : Int) = (b.length : Int)
  · simp only [if_pos h]
    have := sameRecs_loop a b (by omega) hs a.length 0 (by omega) (by omega)
    simpa using this
  · simp only [if_neg h]
    rw [decide_eq_false (fun e => h (by rw [e]))]
    exact ev_some _
theorem sameBt (a0 a1 : Bool) (a2 a3 a4 : Int) (a b : List Rc) (hs : smallRs a) : Ev (fun k => laws_sameBatch.f k a0 a1 a2 a3 a4 a a0 a1 a2 a3 a4 b) (decide (a = b)) := by
  unfold laws_sameBatch.f
  simp only [beq_self_eq_true, if_true]
  exact Ev.bind (sameRecs a b hs) (ev_some _)
end Go.Proofs.Yticpnjhkdfdkkaa.Q
namespace Go.Proofs.Yticpnjhkdfdkkaa.Q
open Go.RowKit Go.Proofs.Yticpnjhkdfdkkaa.T Go.Proofs.YticpnjhkdfdkkaaW.PrintWords Go.Proofs.YticpnjhkdfdkkaaW.PrintLast
set_option linter.unusedVariables false
set_option linter.unusedSimpArgs false
theorem bytes_of {l : List Int} (h : ∀ x ∈ l, (Lit.int .u8 x).wf = true) : Bytes l := by
  intro x hx
  have := h x hx
  simp [Lit.wf, IntKind.min, IntKind.max, IntKind.signed, IntKind.bits] at this
  omega
theorem open_ev (l : List Int) (h : Bytes l) : ∃ b, spec_l6Open.f l = some (b, 0) ∧ Bytes b ∧ b.length ≤ 2000 := by
  unfold spec_l6Open.f
  by_cases hc : (l.length : Int) > 2000
  · rw [if_pos hc, if_pos (by omega)]
    exact ⟨_, rfl, fun x hx => h x (List.mem_of_mem_take hx), by rw [List.length_take]; omega⟩
  · rw [if_neg hc]
    exact ⟨_, rfl, h, by omega⟩
end Go.Proofs.Yticpnjhkdfdkkaa.Q
namespace Go.Proofs.Yticpnjhkdfdkkaa.Q
open Go.RowKit Go.Proofs.Yticpnjhkdfdkkaa.T Go.Proofs.YticpnjhkdfdkkaaW.PrintWords Go.Proofs.YticpnjhkdfdkkaaW.PrintLast
set_option linter.unusedVariables false
set_option linter.unusedSimpArgs false
theorem markRow_small (o t : Int) (g : Bool) : smallRs (markRow o t g) := by
  refine ⟨by simp [markRow], fun r hr => ?_⟩
  rw [List.mem_singleton.1 hr]
  exact ⟨by simp, by simp⟩
noncomputable def markB (p e o t : Int) (g : Bool) : Bool × Bool × Int × Int × Int × List Rc × Bool := if vb true p e 0 (markRow o t g) = true then (false, true, p, e, 0, markRow o t g, true) else (false, false, 0, 0, 0, [], false)
theorem implMark (p e o t : Int) (g : Bool) : Ev (fun k => impl_MarkBatch.f k p e o t g) (markB p e o t g) := by
  have h := implB false true p e 0 (markRow o t g) (markRow_small o t g)
  unfold impl_MarkBatch.f markB
  cases g with
  | true =>
    simp only [if_true, bsome]
    refine Ev.bind h ?_
    by_cases hv : vb true p e 0 (markRow o t true) = true
    · simp only [if_pos hv]; exact ev_some _
    · simp only [if_neg hv]; exact ev_some _
  | false =>
    simp only [Bool.false_eq_true, if_false, bsome]
    refine Ev.bind h ?_
    by_cases hv : vb true p e 0 (markRow o t false) = true
    · simp only [if_pos hv]; exact ev_some _
    · simp only [if_neg hv]; exact ev_some _
theorem specMark (p e o t : Int) (g : Bool) : Ev (fun k => spec_MarkBatch.f k p e o t g) (markB p e o t g) := by
  have h := specB false true p e 0 (markRow o t g) (markRow_small o t g)
  unfold spec_MarkBatch.f markB
  refine Ev.bind h ?_
  by_cases hv : vb true p e 0 (markRow o t g) = true
  · simp only [if_pos hv]; exact ev_some _
  · simp only [if_neg hv]; exact ev_some _
theorem drawMark {l0 : List Int} (hb : Bytes l0) : Evs (fun k => spec_DrawMarkBatch.f k l0) (fun _ => True) := by
  obtain ⟨b, ho, hb2, hbl⟩ := open_ev l0 hb
  unfold spec_DrawMarkBatch.f
  simp only [ho, bsome]
  refine Evs.bind (pick_evs b 0 10 hb2 hbl (by omega) (by omega) (by omega)) ?_
  rintro ⟨u, _⟩ ⟨u0, u1, rfl⟩
  by_cases hu : u = 0
  · simp only [if_pos hu]
    refine Evs.bind (pick_evs b (0 + 1) 3 hb2 hbl (by omega) (by omega) (by omega)) ?_
    rintro ⟨v, _⟩ ⟨v0, v1, rfl⟩
    simp only [if_pos v0, if_pos (show v < (([(-1), 254, 255] : List Int).length : Int) from v1)]
    refine Evs.bind (pick_evs b (0 + 1 + 1) 3 hb2 hbl (by omega) (by omega) (by omega)) ?_
    rintro ⟨x, _⟩ ⟨x0, x1, rfl⟩
    refine Evs.bind (pick_evs b (0 + 1 + 1 + 1) 3 hb2 hbl (by omega) (by omega) (by omega)) ?_
    rintro ⟨y, _⟩ ⟨y0, y1, rfl⟩
    simp only [if_pos y0, if_pos (show y < (([(-1), 5, 100000] : List Int).length : Int) from y1)]
    exact Evs.done trivial
  · simp only [if_neg hu]
    refine Evs.bind (pick_evs b (0 + 1) 5 hb2 hbl (by omega) (by omega) (by omega)) ?_
    rintro ⟨v, _⟩ ⟨v0, v1, rfl⟩
    refine Evs.bind (pick_evs b (0 + 1 + 1) 5 hb2 hbl (by omega) (by omega) (by omega)) ?_
    rintro ⟨x, _⟩ ⟨x0, x1, rfl⟩
    refine Evs.bind (pick_evs b (0 + 1 + 1 + 1) 60 hb2 hbl (by omega) (by omega) (by omega)) ?_
    rintro ⟨y, _⟩ ⟨y0, y1, rfl⟩
    refine Evs.bind (pick_evs b (0 + 1 + 1 + 1 + 1) 250 hb2 hbl (by omega) (by omega) (by omega)) ?_
    rintro ⟨z, _⟩ ⟨z0, z1, rfl⟩
    refine Evs.bind (pick_evs b (0 + 1 + 1 + 1 + 1 + 1) 2 hb2 hbl (by omega) (by omega) (by omega)) ?_
    rintro ⟨s, _⟩ ⟨s0, s1, rfl⟩
    exact Evs.done trivial
theorem vb_flip (p e o t : Int) (g : Bool) : vb true p e 0 (markRow o t (!g)) = vb true p e 0 (markRow o t g) := by
  have h : ∀ g : Bool, (vb true p e 0 (markRow o t g) = true ↔ vb true p e 0 (markRow o t true) = true) := by
    intro g
    rw [vb_iff, vb_iff]
    have hr : ∀ g i, RF (markRow o t g) i ↔ (i = 0 → (0 ≤ o ∧ o ≤ 99999) ∧ (0 ≤ t ∧ t ≤ 99999)) := by
      intro g i
      unfold RF
      constructor
      · intro h hi
        subst hi
        have := (h 0 (Nat.le_refl _) (by simp [markRow])).1
        cases g <;> simp [rr, rd_T34, markRow, rv, pv, ab] at this <;> omega
      · intro h j h1 h2
        have hj : j = 0 := by simp [markRow] at h2; omega
        subst hj
        have hi : i = 0 := by omega
        have h3 := h hi
        refine ⟨?_, fun h => absurd h (by omega)⟩
        cases g <;> simp [rr, rd_T34, markRow, rv, pv, ab] <;> omega
    unfold VB
    have hl : ∀ g, (markRow o t g).length = 1 := fun g => by simp [markRow]
    rw [hl, hl, hr, hr]
  have h1 := h g
  have h2 := h (!g)
  rw [Bool.eq_iff_iff, h1, h2]
end Go.Proofs.Yticpnjhkdfdkkaa.Q
namespace Go.Proofs.Yticpnjhkdfdkkaa.Pure
open Go.RowKit Go.Proofs.Yticpnjhkdfdkkaa.T Go.Proofs.YticpnjhkdfdkkaaW.PrintWords Go.Proofs.YticpnjhkdfdkkaaW.PrintLast Go.Proofs.Yticpnjhkdfdkkaa.Q
set_option linter.unusedVariables false
set_option linter.unusedSimpArgs false
theorem markRow_ne (o t : Int) (g : Bool) : markRow o t (!g) ≠ markRow o t g := by
  cases g <;> simp [markRow]
theorem markRow_at (o t : Int) (g : Bool) : rd_T34 (markRow o t g) 0 = ⟨o, t, false, [], true, [if g = true then 1 else 0]⟩ := by
  simp [markRow, rd_T34]
theorem FnMarkBatchTwo : laws_FnMarkBatchTwo.Pure := by
  intro l0 _ _ hb0
  refine Ev.rounds ?_
  have hb := bytes_of hb0
  unfold laws_FnMarkBatchTwo.f
  by_cases h : (l0.length : Int) > 1048576
  · simp only [if_pos h]
    exact ev_some _
  · simp only [if_neg h]
    obtain ⟨⟨p, e, o, t, g⟩, hd, -⟩ := drawMark hb
    refine Ev.bind hd ?_
    refine Ev.bind (implMark p e o t g) ?_
    refine Ev.bind (specMark p e o t g) ?_
    by_cases hv : vb true p e 0 (markRow o t g) = true
    · have hm : markB p e o t g = (false, true, p, e, 0, markRow o t g, true) := if_pos hv
      have hv2 : vb true p e 0 (markRow o t (!g)) = true := (vb_flip p e o t g).trans hv
      have hm2 : markB p e o t (!g) = (false, true, p, e, 0, markRow o t (!g), true) := if_pos hv2
      simp only [hm, bne_self_eq_false, Bool.false_eq_true, if_false]
      have hs := sameBt false true p e 0 (markRow o t g) (markRow o t g) (markRow_small o t g)
      rw [decide_eq_true rfl] at hs
      refine Ev.bind hs ?_
      simp only [if_true, Bool.not_true]
      refine ev_succ ?_
      simp only [laws_FnMarkBatchTwo.j0, Bool.false_eq_true, if_false]
      refine Ev.bind (implMark p e o t (!g)) ?_
      have l1 : 0 < ((markRow o t (!g)).length : Int) := by simp [markRow]
      have l2 : 0 < ((markRow o t g).length : Int) := by simp [markRow]
      simp only [hm2, if_pos l1, if_pos l2, if_true]
      have hs2 := sameBt false true p e 0 (markRow o t (!g)) (markRow o t g) (markRow_small o t (!g))
      rw [decide_eq_false (markRow_ne o t g)] at hs2
      refine Ev.bind hs2 ?_
      simp only [Bool.false_eq_true, if_false, markRow_at]
      have hs3 := sameRec ⟨o, t, false, [], true, [if g = true then 1 else 0]⟩ ⟨o, t, false, [], true, [if g = true then 1 else 0]⟩ ⟨by simp, by simp⟩
      rw [decide_eq_true rfl] at hs3
      exact Ev.bind hs3 (ev_some _)
    · have hm : markB p e o t g = (false, false, 0, 0, 0, [], false) := if_neg hv
      simp only [hm, bne_self_eq_false, Bool.false_eq_true, if_false]
      have hs := sameBt false false 0 0 0 [] [] ⟨by simp, fun r hr => by cases hr⟩
      rw [decide_eq_true rfl] at hs
      refine Ev.bind hs ?_
      simp only [if_true, Bool.not_false]
      refine ev_succ ?_
      simp only [laws_FnMarkBatchTwo.j0, if_true, beq_self_eq_true]
      exact Ev.bind hs (ev_some _)
end Go.Proofs.Yticpnjhkdfdkkaa.Pure
namespace Go.Proofs.Yticpnjhkdfdkkaa.fnMarkBatchTwo
open Go.ChangeShapes Go.WideShapes Go.ChangeAt Go.RowKit
open Go.ChangeMaps (open_string shut_string)
set_option linter.unusedVariables false
theorem own : ownKnob Try.prog.godebug = none := by kernel_rfl
theorem laidOut : laidOutB Try.prog = true := by kernel_rfl
def IsRow (k : IntKind) (w : World) (a : Option Addr) (len cap : Nat) (zs : List Int) : Prop :=
  (a = none ∧ len = 0 ∧ cap = 0 ∧ zs = []) ∨
  ∃ x, a = some x ∧ len ≤ cap ∧ cap ≤ maxLen ∧ zs.length = cap ∧ (∀ i, i < zs.length → w.cell? (x.add i) = some (.int k (zs.getD i 0))) ∧ ∀ n ∈ zs, (Lit.int k n).wf = true
set_option maxRecDepth 100000 in
theorem lifted (os : Os) (started : os.Started) (H : Type) (enc : TypeId × Value → H) :
    ReturnsInHanded {} Try.checked os 4 .any (Rows.fnMarkBatchTwoSpec.pre6 enc Try.prog Try.f4 Rows.fnMarkBatchTwoRow.domain false) (Rows.fnMarkBatchTwoSpec.post enc Try.prog Try.f4 false true false false) := by
  refine returnsInHanded_of_change_sized (C := Try.checked) own started (by kernel_rfl) Try.func4
    (ChangeSpec.witness6 (enc := enc) (C := Try.checked) false ⟨#[], #[.slice none 0 0], []⟩ 8 (by kernel_rfl) (by kernel_rfl) (by kernel_rfl) (by kernel_rfl)) ?_
  intro W base args ds gs before hval0 hW hcnd hsz0 _
  have hsz : (DataW.weightsEach Try.prog (Try.f4.params.toList ++ Rows.fnMarkBatchTwoSpec.plain.varTypes Try.prog) (ds ++ gs)).all (· ≤ reachBytes) = true := hsz0
  have hval : ∀ (j : Nat) t v, Try.f4.params[j]? = some t → args[j]? = some v → Value.okWide Try.prog W .any base t v := hval0
  have hW' := hW
  obtain ⟨p, q, hA0, hV, rfl, hfz, hnd⟩ := hW
  have hA : DataW.TrodAll enc Try.prog W 0 (fun _ => true) true Try.f4.params.toList args.toList ds p := hA0
  rw [Try.params4] at hA hval hsz
  obtain ⟨v0, vs0, d0, ds0, p0, q0, hargs, rfl, rfl, h0, r0⟩ := trodAll_cons hA
  obtain ⟨rfl, rfl, rfl⟩ := trodAll_nil r0
  obtain rfl : args = #[v0] := by cases args; simp_all
  obtain ⟨rfl, rfl⟩ := trodVars_none hV
  obtain ⟨a0, len0, cap0, rfl⟩ := okWide_slice Try.underlying22 (hval 0 22 v0 rfl rfl)
  have k0 := h0
  have lt0 : ∀ x ∈ p0, x.block < W.heap.size := by obtain ⟨m, hm⟩ := k0; exact DataW.trod_lt m _ _ _ hm
  obtain ⟨z0, w0⟩ : ∃ zs, IsRow .u8 W a0 len0 cap0 zs := by
    obtain ⟨fuel, hf⟩ := h0
    rcases open_ints Try.underlying22 Try.underlying5 (by kernel_rfl) hf with ⟨hcs, _⟩ | ⟨x, l, c, zs, hcs, _, hl, hm, hz, _, hcell, hwz⟩
    · simp [Value.cells] at hcs
      obtain ⟨rfl, rfl, rfl⟩ := hcs
      exact ⟨[], .inl ⟨rfl, rfl, rfl, rfl⟩⟩
    · simp [Value.cells] at hcs
      obtain ⟨rfl, rfl, rfl⟩ := hcs
      exact ⟨zs, .inr ⟨_, rfl, hl, hm, by simpa using hz, hcell, hwz⟩⟩
  have y0 : len0 * 1 ≤ 140737488351232 := Go.Proofs.YticpnjhkdfdkkaaW.PrintWords.sized_ints hsz (j := 0) (t := 22) rfl rfl Try.underlying22 Try.underlying5 (by kernel_rfl) (by kernel_rfl) h0
  clear hA0 hval0 hsz0 hsz
  refine (T.laws_FnMarkBatchTwo.walk Pure.FnMarkBatchTwo a0 len0 cap0 z0 W w0 y0).mono fun e W' ⟨he, bel⟩ => ?_
  subst he
  exact ⟨_, rfl, _, _, _, [], _, [], hW', trodAll_mk1 (shut_bool Try.underlying4 _), (trodAll_cons_mk (Below.trod laidOut (by kernel_rfl) (of_decide_eq_true (by kernel_rfl)) k0 bel lt0) trodAll_mk0), rfl, bel.frame _, fun h => by cases h⟩
theorem closed : joinedFacts Try.prog 4 Try.f4 Rows.fnMarkBatchTwoSpec Rows.fnMarkBatchTwoRow = true :=
  Head.closed_of _ _ _ _ _ (by kernel_rfl) (by kernel_rfl) (by kernel_rfl) (by kernel_rfl) (by kernel_rfl) (by kernel_rfl) (by kernel_rfl) (by kernel_rfl) (by kernel_rfl) (by kernel_rfl) (by kernel_rfl) (by kernel_rfl) (by kernel_rfl) (by kernel_rfl) (by kernel_rfl) (by kernel_rfl) (by kernel_rfl) (by kernel_rfl) (by kernel_rfl) (by kernel_rfl) (by kernel_rfl) (by kernel_rfl) (by kernel_rfl) (by kernel_rfl) (by kernel_rfl) Head.may_enter (by rw [Head.lifts_final]; kernel_rfl) (by rw [Head.make_is]; kernel_rfl) (by kernel_rfl) (by kernel_rfl) (by kernel_rfl) (by kernel_rfl)
theorem over : Rows.fnMarkBatchTwoRow.holds Try.pinned (OpenSpec.ofChange Rows.fnMarkBatchTwoSpec) :=
  OpenClaim.holds_of_wide 4 Try.f4 rfl rfl rfl rfl rfl rfl rfl ⟨rfl, rfl, rfl, rfl, rfl⟩ rfl rfl rfl rfl rfl (by kernel_rfl) Try.func4 closed
    (of_decide_eq_true (by kernel_rfl)) (by unfold Func.isWrapper; first | (rw [if_pos (by decide +kernel)]; kernel_rfl) | (rw [if_neg (by decide +kernel)]; exact ⟨rfl, rfl⟩))
    (fun os started H enc _ => lifted os started H enc)
theorem proved : Rows.FnMarkBatchTwoSaid := over
end Go.Proofs.Yticpnjhkdfdkkaa.fnMarkBatchTwo
namespace Go.Proofs.Yticpnjhkdfdkkaa
theorem fnMarkBatchTwo_holds : Rows.FnMarkBatchTwoSaid := fnMarkBatchTwo.proved
end Go.Proofs.Yticpnjhkdfdkkaa
