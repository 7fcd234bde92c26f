/- FnExactTermsMeet, part 4 of 4: merged by wip/tools/pack.py out of the texts that the row reaches; the pure statement is the session's own. -/
import Derived.Test.YtamncgpajkoiaaaRows
import Derived.WalkKit
import Derived.ProofKit
import Derived.OpenShut
import Derived.ShutString
import Derived.ChangeOld
import Derived.Below
import Derived.SizedLaws
import Derived.Test.YtamncgpajkoiaaaFnExactTermsMeetK2
namespace Go.Proofs.Ytamncgpajkoiaaa.Q
open Go.RowKit Go.Proofs.Ytamncgpajkoiaaa.T Go.Proofs.YtamncgpajkoiaaaW.PrintWords Go.Proofs.YtamncgpajkoiaaaW.PrintLast
set_option linter.unusedVariables false
set_option linter.unusedSimpArgs false
def mv (a : List Tm) (e : Int) (b : List Tm) (f : Int) (i : Nat) : Option Int := (impl_meetFind b (rt a (i : Int))).map fun j => impl_meetMin (impl_meetEnd a i e) (impl_meetEnd b j f)
def upTo (g : Nat → Option Int) : Nat → Int
  | 0 => 0
  | n + 1 => match g n with
    | some v => v
    | none => upTo g n
theorem upTo_eq (g : Nat → Option Int) : ∀ n, ((List.range n).reverse.findSome? g).getD 0 = upTo g n
  | 0 => rfl
  | n + 1 => by
    rw [List.range_succ, List.reverse_append]
    simp only [List.reverse_cons, List.reverse_nil, List.nil_append, List.singleton_append, List.findSome?_cons, upTo]
    cases h : g n with
    | some v => rfl
    | none => exact upTo_eq g n
theorem bw_eq (n : Nat) : (bw_l n).map (fun i => i.1) = (List.range n).reverse := by
  unfold bw_l
  rw [List.map_reverse]
  congr 1
  apply List.ext_getElem
  · simp
  · intro i h1 h2
    simp
open Classical in
noncomputable def mt (a : List Tm) (e : Int) (b : List Tm) (f : Int) : Int := if ve a e = true then (if ve b f = true then upTo (mv a e b f) a.length else -1) else -1
theorem implMeet (a b : List Tm) (e f : Int) (ha : a.length ≤ 1000000000000) (hb : b.length ≤ 1000000000000) : Ev (fun k => impl_TermsMeet.f k a e b f) (mt a e b f) := by
  unfold impl_TermsMeet.f mt
  refine Ev.bind (implEndValid a e ha) ?_
  by_cases hv : ve a e = true
  · simp only [if_pos hv]
    refine Ev.bind (implEndValid b f hb) ?_
    by_cases hw : ve b f = true
    · simp only [if_pos hw]
      have : ((bw_l a.length).findSome? (impl_meetAt a e b f)).getD 0 = upTo (mv a e b f) a.length := by
        rw [← upTo_eq, ← bw_eq, List.findSome?_map]
        rfl
      rw [this]
      exact ev_some _
    · simp only [if_neg hw]
      exact ev_some _
  · simp only [if_neg hv]
    exact ev_some _
theorem meetEnd_endT (l : List Tm) (i : Nat) (e : Int) : impl_meetEnd l i e = endT l (i : Int) e := by
  unfold impl_meetEnd endT
  by_cases h : i + 1 < l.length
  · rw [if_pos h, if_pos (by omega)]
  · rw [if_neg h, if_neg (by omega)]
theorem rt_inj {l : List Tm} (hp : l.Pairwise ltT) {i j : Nat} (hi : i < l.length) (hj : j < l.length) (h : (rt l (i : Int)).f0 = (rt l (j : Int)).f0) : i = j := by
  rw [rt_nat l i hi, rt_nat l j hj] at h
  rcases Nat.lt_trichotomy i j with h1 | h1 | h1
  · have := (List.pairwise_iff_getElem.1 hp i j hi hj h1).1; omega
  · exact h1
  · have := (List.pairwise_iff_getElem.1 hp j i hj hi h1).1; omega
theorem find_some {l : List Tm} {x : Tm} {j : Nat} (h : impl_meetFind l x = some j) : j < l.length ∧ rt l (j : Int) = x := by
  unfold impl_meetFind at h
  rw [List.findIdx?_eq_some_iff_getElem] at h
  obtain ⟨hj, h1, _⟩ := h
  refine ⟨hj, ?_⟩
  rw [rt_nat l j hj]
  simp only [Bool.and_eq_true, beq_iff_eq] at h1
  exact Tm_ext h1.1.symm h1.2.symm
theorem find_none {l : List Tm} {x : Tm} (h : impl_meetFind l x = none) (j : Nat) (hj : j < l.length) : rt l (j : Int) ≠ x := by
  unfold impl_meetFind at h
  rw [List.findIdx?_eq_none_iff] at h
  have := h l[j] (List.getElem_mem hj)
  rw [rt_nat l j hj]
  intro hx
  rw [hx] at this
  simp at this
theorem find_of {l : List Tm} (hp : l.Pairwise ltT) {x : Tm} {j : Nat} (hj : j < l.length) (h : rt l (j : Int) = x) : impl_meetFind l x = some j := by
  cases hf : impl_meetFind l x with
  | none => exact absurd h (find_none hf j hj)
  | some i =>
    obtain ⟨hi, h2⟩ := find_some hf
    rw [rt_inj hp hi hj (by rw [h2, h])]
theorem specMeet_loop (a b : List Tm) (e f : Int) (ha : a.length ≤ 1000000000000) (hb : b.length ≤ 1000000000000) (hp : b.Pairwise ltT) : ∀ (d i : Nat), a.length - i = d → i ≤ a.length →
    Ev (fun k => spec_TermsMeet.l0 k a e b f (upTo (mv a e b f) i) (i : Int)) (upTo (mv a e b f) a.length) := by
  intro d
  induction d with
  | zero =>
    intro i hd hi
    obtain rfl : i = a.length := by omega
    refine ev_succ ?_
    simp only [spec_TermsMeet.l0, if_neg (show ¬ (a.length : Int) < (a.length : Int) by omega)]
    exact ev_some _
  | succ d ih =>
    intro i hd hi
    have e1 : wrap64 ((i : Int) + 1) = ((i + 1 : Nat) : Int) := by rw [wrap_id (by omega) (by omega)]; omega
    refine ev_succ ?_
    simp only [spec_TermsMeet.l0, if_pos (show (i : Int) < (a.length : Int) by omega), if_pos (show (0 : Int) ≤ i by omega)]
    refine Ev.bind (specAt b _ hb) ?_
    rcases atT_cases b (rt a (i : Int)).f0 with ⟨h, h1⟩ | ⟨j, hj, h, h1, h2⟩
    · simp only [h, if_neg (show ¬ ((-1 : Int) ≥ 0) by omega)]
      have hm : mv a e b f i = none := by
        unfold mv
        cases hf : impl_meetFind b (rt a (i : Int)) with
        | none => rfl
        | some j => obtain ⟨hj, h3⟩ := find_some hf; exact absurd (by rw [h3]) (h1 j hj)
      have hu : upTo (mv a e b f) (i + 1) = upTo (mv a e b f) i := by simp only [upTo, hm]
      refine ev_succ ?_
      simp only [spec_TermsMeet.j2, Bool.false_eq_true, if_false, e1]
      rw [← hu]
      exact ih (i + 1) (by omega) (by omega)
    · simp only [h, if_pos (show (j : Int) ≥ 0 by omega), if_pos (show (0 : Int) ≤ j by omega), if_pos (show (j : Int) < (b.length : Int) by omega)]
      refine ev_succ ?_
      by_cases hx : (rt b (j : Int)).f1 = (rt a (i : Int)).f1
      · have hm : mv a e b f i = some (impl_meetMin (impl_meetEnd a i e) (impl_meetEnd b j f)) := by
          unfold mv
          rw [find_of hp hj (Tm_ext h1 hx)]
          rfl
        have hu : upTo (mv a e b f) (i + 1) = impl_meetMin (endT a i e) (endT b j f) := by simp only [upTo, hm, meetEnd_endT]
        have hmn : mn (endT a i e) (endT b j f) = impl_meetMin (endT a i e) (endT b j f) := rfl
        simp only [spec_TermsMeet.j2, beq_iff_eq.mpr hx, if_true, specEnd a i e (by omega) (by omega), specEnd b j f (by omega) (by omega), bsome, e1, hmn]
        rw [← hu]
        exact ih (i + 1) (by omega) (by omega)
      · have hm : mv a e b f i = none := by
          unfold mv
          cases hf : impl_meetFind b (rt a (i : Int)) with
          | none => rfl
          | some j' =>
            obtain ⟨hj', h3⟩ := find_some hf
            have : j = j' := rt_inj hp hj hj' (by rw [h3, h1])
            subst this
            exact absurd (by rw [h3]) hx
        have hu : upTo (mv a e b f) (i + 1) = upTo (mv a e b f) i := by simp only [upTo, hm]
        have hx' : ((rt b (j : Int)).f1 == (rt a (i : Int)).f1) = false := by simpa using hx
        simp only [spec_TermsMeet.j2, hx', Bool.false_eq_true, if_false, e1]
        rw [← hu]
        exact ih (i + 1) (by omega) (by omega)
theorem specMeet (a b : List Tm) (e f : Int) (ha : a.length ≤ 1000000000000) (hb : b.length ≤ 1000000000000) : Ev (fun k => spec_TermsMeet.f k a e b f) (mt a e b f) := by
  unfold spec_TermsMeet.f mt
  refine Ev.bind (specOk a e ha) ?_
  by_cases hv : ve a e = true
  · simp only [if_pos hv]
    refine Ev.bind (specOk b f hb) ?_
    refine ev_succ ?_
    by_cases hw : ve b f = true
    · simp only [if_pos hw, hw, Bool.not_true, spec_TermsMeet.j0, Bool.false_eq_true, if_false]
      exact specMeet_loop a b e f ha hb ((VT_iff b).1 (ve_vt hw).1).2.2 a.length 0 (by omega) (by omega)
    · have hw' : ve b f = false := by simpa using hw
      simp only [hw', Bool.not_false, spec_TermsMeet.j0, if_true, Bool.false_eq_true, if_false]
      exact ev_some _
  · simp only [if_neg hv]
    refine ev_succ ?_
    simp only [spec_TermsMeet.j0, if_true]
    exact ev_some _
end Go.Proofs.Ytamncgpajkoiaaa.Q
namespace Go.Proofs.Ytamncgpajkoiaaa.Pure
open Go.RowKit Go.Proofs.Ytamncgpajkoiaaa.T Go.Proofs.YtamncgpajkoiaaaW.PrintWords Go.Proofs.YtamncgpajkoiaaaW.PrintLast Go.Proofs.Ytamncgpajkoiaaa.Q
set_option linter.unusedVariables false
set_option linter.unusedSimpArgs false
theorem szTerms2 (l : List Lm) (h : l.length ≤ maxLen) (n : Int) (h0 : 0 ≤ n) (h1 : n ≤ 1048576) : (laws_szTermS.f l n = some (-1)) ∨ (∃ m, laws_szTermS.f l n = some m ∧ 0 ≤ m ∧ (l.length : Int) ≤ n) := by
  unfold maxLen at h
  have e : wrap64 (n - (l.length : Int)) = n - (l.length : Int) := wrap_id (by omega) (by omega)
  unfold laws_szTermS.f
  rw [e]
  by_cases hc : n - (l.length : Int) < 0
  · rw [if_pos hc]; exact .inl rfl
  · rw [if_neg hc]; exact .inr ⟨_, rfl, by omega, by omega⟩
theorem FnExactTermsMeet (l0 : List Lm) (a1 : Int) (l2 : List Lm) (a3 : Int) (hm : l0.length ≤ maxLen) (_hw : ∀ v ∈ l0, WF44 v) (_h1 : (Lit.int .i64 a1).wf = true) (hm2 : l2.length ≤ maxLen) (_hw2 : ∀ v ∈ l2, WF44 v) (_h2 : (Lit.int .i64 a3).wf = true) : ∃ k, laws_FnExactTermsMeet.f k l0 a1 l2 a3 = some true := by
  refine Ev.rounds ?_
  unfold laws_FnExactTermsMeet.f
  rcases szTerms l0 hm with ⟨hl, hs⟩ | ⟨hl, hs⟩
  · simp only [hs, bsome, if_neg (show ¬ (1048576 : Int) - (l0.length : Int) < 0 by omega)]
    rcases szTerms2 l2 hm2 (1048576 - (l0.length : Int)) (by omega) (by omega) with hs2 | ⟨m, hs2, hm0, hl2⟩
    · simp only [hs2, bsome, if_pos (show (-1 : Int) < 0 by omega)]
      exact ev_some _
    simp only [hs2, bsome, if_neg (show ¬ m < 0 by omega)]
    have ht := toTerms l0 hl
    have ht2 := toTerms l2 (by omega)
    have hlen : (l0.map toT).length ≤ 1048576 := by simpa using hl
    have hlen2 : (l2.map toT).length ≤ 1048576 := by rw [List.length_map]; omega
    refine Ev.bind ht ?_
    refine Ev.bind ht2 ?_
    refine Ev.bind (specMeet _ _ _ _ (by omega) (by omega)) ?_
    refine Ev.bind ht ?_
    refine Ev.bind ht2 ?_
    refine Ev.bind (implMeet _ _ _ _ (by omega) (by omega)) ?_
    simp only [if_true]
    refine Ev.bind ht ?_
    refine Ev.bind (eqTerms_self _ hlen) ?_
    simp only [if_true]
    refine Ev.bind ht2 ?_
    refine Ev.bind (eqTerms_self _ hlen2) ?_
    simp only [if_true]
    exact ev_some _
  · simp only [hs, bsome, if_pos (show (-1 : Int) < 0 by omega)]
    exact ev_some _
end Go.Proofs.Ytamncgpajkoiaaa.Pure
namespace Go.Proofs.Ytamncgpajkoiaaa.fnExactTermsMeet
open Go.ChangeShapes Go.WideShapes Go.ChangeAt Go.RowKit
open Go.ChangeMaps (open_string shut_string)
open Go.Proofs.YtamncgpajkoiaaaW.PrintWords
set_option linter.unusedVariables false
theorem own : ownKnob Try.prog.godebug = none := by kernel_rfl
theorem laidOut : laidOutB Try.prog = true := by kernel_rfl
set_option maxRecDepth 100000 in
theorem lifted (os : Os) (started : os.Started) (H : Type) (enc : TypeId × Value → H) :
    ReturnsInHanded {} Try.checked os 13 .any (Rows.fnExactTermsMeetSpec.pre6 enc Try.prog Try.f13 Rows.fnExactTermsMeetRow.domain false) (Rows.fnExactTermsMeetSpec.post enc Try.prog Try.f13 false true false false) := by
  refine returnsInHanded_of_change_sized (C := Try.checked) own started (by kernel_rfl) Try.func13
    (ChangeSpec.witness6 (enc := enc) (C := Try.checked) false ⟨#[], #[.slice none 0 0, .int .i64 0, .slice none 0 0, .int .i64 0], []⟩ 8 (by kernel_rfl) (by kernel_rfl) (by kernel_rfl) (by kernel_rfl)) ?_
  intro W base args ds gs before hval0 hW hcnd hsz0 _
  have hval : ∀ (j : Nat) t v, Try.f13.params[j]? = some t → args[j]? = some v → Value.okWide Try.prog W .any base t v := hval0
  have hW' := hW
  obtain ⟨p, q, hA0, hV, rfl, hfz, hnd⟩ := hW
  have hA : DataW.TrodAll enc Try.prog W 0 (fun _ => true) true Try.f13.params.toList args.toList ds p := hA0
  rw [Try.params13] at hA hval
  obtain ⟨v0, vs0, d0, ds0, p0, q0, hargs, rfl, rfl, h0, r0⟩ := trodAll_cons hA
  obtain ⟨v1, vs1, d1, ds1, p1, q1, rfl, rfl, rfl, h1, r1⟩ := trodAll_cons r0
  obtain ⟨v2, vs2, d2, ds2, p2, q2, rfl, rfl, rfl, h2, r2⟩ := trodAll_cons r1
  obtain ⟨v3, vs3, d3, ds3, p3, q3, rfl, rfl, rfl, h3, r3⟩ := trodAll_cons r2
  obtain ⟨rfl, rfl, rfl⟩ := trodAll_nil r3
  obtain rfl : args = #[v0, v1, v2, v3] := by cases args; simp_all
  obtain ⟨rfl, rfl⟩ := trodVars_none hV
  obtain ⟨a0, len0, cap0, rfl⟩ := okWide_slice Try.underlying27 (hval 0 27 v0 rfl rfl)
  have k0 := h0
  have lt0 : ∀ x ∈ p0, x.block < W.heap.size := by obtain ⟨m, hm⟩ := k0; exact DataW.trod_lt m _ _ _ hm
  obtain ⟨fu0, hf0⟩ := h0
  obtain ⟨l0, ⟨A0, c0, hE0, hc0, hC0⟩, hm0, hw0⟩ := (Q.Opens.slice Try.underlying27 T.opens44 (by kernel_rfl)) _ enc W _ _ _ _ _ _ hf0
  replace hE0 : ([.slice a0 len0 cap0] : List Value) = [.slice A0 l0.length c0] := hE0
  simp only [List.cons.injEq, Value.slice.injEq, and_true] at hE0
  obtain ⟨rfl, rfl, rfl⟩ := hE0
  obtain ⟨a1, rfl, rfl, rfl, w1⟩ := open_int Try.underlying3 (hval 1 3 v1 rfl rfl) h1
  obtain ⟨a2, len2, cap2, rfl⟩ := okWide_slice Try.underlying27 (hval 2 27 v2 rfl rfl)
  have k2 := h2
  have lt2 : ∀ x ∈ p2, x.block < W.heap.size := by obtain ⟨m, hm⟩ := k2; exact DataW.trod_lt m _ _ _ hm
  obtain ⟨fu2, hf2⟩ := h2
  obtain ⟨l2, ⟨A2, c2, hE2, hc2, hC2⟩, hm2, hw2⟩ := (Q.Opens.slice Try.underlying27 T.opens44 (by kernel_rfl)) _ enc W _ _ _ _ _ _ hf2
  replace hE2 : ([.slice a2 len2 cap2] : List Value) = [.slice A2 l2.length c2] := hE2
  simp only [List.cons.injEq, Value.slice.injEq, and_true] at hE2
  obtain ⟨rfl, rfl, rfl⟩ := hE2
  obtain ⟨a3, rfl, rfl, rfl, w3⟩ := open_int Try.underlying3 (hval 3 3 v3 rfl rfl) h3
  clear hA0 hval0 hsz0
  obtain ⟨k, h⟩ := Pure.FnExactTermsMeet l0 a1 l2 a3 hm0 hw0 w1 hm2 hw2 w3
  refine (T.laws_FnExactTermsMeet.calls k _ _ l0 a1 _ _ l2 a3 true W hC0 hc0 hC2 hc2 h).mono ?_
  rintro e W' ⟨rfl, bel⟩
  exact ⟨_, rfl, _, _, _, [], _, [], hW', trodAll_mk1 (shut_bool Try.underlying4 _), (trodAll_cons_mk (Below.trod laidOut (by kernel_rfl) (of_decide_eq_true (by kernel_rfl)) k0 bel lt0) (trodAll_cons_mk (shut_int Try.underlying3 w1) (trodAll_cons_mk (Below.trod laidOut (by kernel_rfl) (of_decide_eq_true (by kernel_rfl)) k2 bel lt2) (trodAll_cons_mk (shut_int Try.underlying3 w3) trodAll_mk0)))), rfl, bel.frame _, fun h => by cases h⟩
theorem closed : joinedFacts Try.prog 13 Try.f13 Rows.fnExactTermsMeetSpec Rows.fnExactTermsMeetRow = true :=
  Head.closed_of _ _ _ _ _ (by kernel_rfl) (by kernel_rfl) (by kernel_rfl) (by kernel_rfl) (by kernel_rfl) (by kernel_rfl) (by kernel_rfl) (by kernel_rfl) (by kernel_rfl) (by kernel_rfl) (by kernel_rfl) (by kernel_rfl) (by kernel_rfl) (by kernel_rfl) (by kernel_rfl) (by kernel_rfl) (by kernel_rfl) (by kernel_rfl) (by kernel_rfl) (by kernel_rfl) (by kernel_rfl) (by kernel_rfl) (by kernel_rfl) (by kernel_rfl) (by kernel_rfl) Head.may_enter (by rw [Head.lifts_final]; kernel_rfl) (by rw [Head.make_is]; kernel_rfl) (by kernel_rfl) (by kernel_rfl) (by kernel_rfl) (by kernel_rfl)
theorem over : Rows.fnExactTermsMeetRow.holds Try.pinned (OpenSpec.ofChange Rows.fnExactTermsMeetSpec) :=
  OpenClaim.holds_of_wide 13 Try.f13 rfl rfl rfl rfl rfl rfl rfl ⟨rfl, rfl, rfl, rfl, rfl⟩ rfl rfl rfl rfl rfl (by kernel_rfl) Try.func13 closed
    (of_decide_eq_true (by kernel_rfl)) (by unfold Func.isWrapper; first | (rw [if_pos (by decide +kernel)]; kernel_rfl) | (rw [if_neg (by decide +kernel)]; exact ⟨rfl, rfl⟩))
    (fun os started H enc _ => lifted os started H enc)
theorem proved : Rows.FnExactTermsMeetSaid := over
end Go.Proofs.Ytamncgpajkoiaaa.fnExactTermsMeet
namespace Go.Proofs.Ytamncgpajkoiaaa
theorem fnExactTermsMeet_holds : Rows.FnExactTermsMeetSaid := fnExactTermsMeet.proved
end Go.Proofs.Ytamncgpajkoiaaa
