/- FnMeetCut, part 5 of 5: merged by wip/tools/pack.py out of the texts that the row reaches; the pure statement is the session's own. -/
import Derived.RangeFuncNested
import Derived.RangeFuncBound
import Derived.RangeFuncCalls
import Derived.RangeFuncLeaves
import Derived.Shelf.Abstract
import Derived.Shelf.RegionOpen
import Derived.WalkKit
import Derived.OwnWalkIn
import Derived.TacticsInMore
import Derived.LoopNIn
import Derived.LoopIn
import Derived.Test.YtamncgpajkoiaaaRows
import Derived.ProofKit
import Derived.OpenShut
import Derived.ShutString
import Derived.ChangeOld
import Derived.Below
import Derived.SizedLaws
import Derived.Test.YtamncgpajkoiaaaFnMeetCutK3
namespace Go.Proofs.Ytamncgpajkoiaaa.T
open Go.RowKit Go.Proofs.YtamncgpajkoiaaaW.PrintWords Go.Proofs.YtamncgpajkoiaaaW.PrintLast Go.Proofs.YtamncgpajkoiaaaW.PrintMore

set_option linter.unusedVariables false
set_option linter.unusedSimpArgs false
section
open Go.Shelf
attribute [local go_sem] Oper.semAt_some
section
variable {F : Fence} {n : Nat} {P : Program} {ops : Array Oper} {Q : Exit → Act → World → Prop} {md : Region.Mode}
theorem wpAnyIn_inv (Inv : Array Bool → Act → World → Prop) (todo : Array Bool → Nat)
    (h : ∀ listed a w, Inv listed a w → (Region.ready md ops listed = [] → Q .normal a w) ∧ ∀ i ∈ Region.ready md ops listed, wpOpIn F n P ops Q i (fun a' w' => Inv (listed.setIfInBounds i true) a' w') a w)
    (h0 : ∀ listed a w, Inv listed a w → todo listed = 0 → Region.ready md ops listed = [])
    (hdec : ∀ listed i a w, Inv listed a w → i ∈ Region.ready md ops listed → todo (listed.setIfInBounds i true) < todo listed) :
    ∀ (fuel : Nat) (listed : Array Bool) (a : Act) (w : World), Inv listed a w → todo listed ≤ fuel → wpAnyIn F n P md ops Q fuel listed a w
  | 0, listed, a, w, hi, ht => by
    have hr := h0 listed a w hi (by omega)
    exact ⟨hr, (h listed a w hi).1 hr⟩
  | fuel + 1, listed, a, w, hi, ht => by
    refine ⟨(h listed a w hi).1, fun i hm => ?_⟩
    have hd := hdec listed i a w hi hm
    refine wpOpIn_mono ?_ ((h listed a w hi).2 i hm)
    intro a' w' hi'
    exact wpAnyIn_inv Inv todo h h0 hdec fuel _ a' w' hi' (by omega)
def tmReg : Nat → Bool → Bool → Bool → Bool → Bool → Bool → Bool → Bool → Bool → Bool → Bool
  | 0, b0, _, _, _, _, _, _, _, _, _ => !b0
  | 1, _, b1, _, _, _, _, _, _, _, _ => !b1
  | 2, _, _, b2, _, _, _, _, _, _, _ => !b2
  | 3, b0, b1, b2, b3, _, _, _, _, _, _ => b0 && b1 && b2 && !b3
  | 4, _, _, _, _, b4, _, _, _, _, _ => !b4
  | 5, _, _, _, _, _, b5, _, _, _, _ => !b5
  | 6, _, _, _, _, _, _, b6, _, _, _ => !b6
  | 7, _, _, _, b3, b4, b5, b6, b7, _, _ => b3 && b4 && b5 && b6 && !b7
  | 8, _, _, _, b3, _, _, _, b7, b8, _ => b3 && b7 && !b8
  | 9, b0, b1, b2, b3, b4, b5, b6, b7, b8, b9 => b0 && b1 && b2 && b3 && b4 && b5 && b6 && b7 && b8 && !b9
  | _, _, _, _, _, _, _, _, _, _, _ => false
def tmTab (ops : Array Oper) : Bool := [true, false].all fun b0 => [true, false].all fun b1 => [true, false].all fun b2 => [true, false].all fun b3 => [true, false].all fun b4 => [true, false].all fun b5 => [true, false].all fun b6 => [true, false].all fun b7 => [true, false].all fun b8 => [true, false].all fun b9 =>
  let r := Region.ready .any ops #[b0, b1, b2, b3, b4, b5, b6, b7, b8, b9]
  r.all (fun i => tmReg i b0 b1 b2 b3 b4 b5 b6 b7 b8 b9) && (r.isEmpty == (b0 && b1 && b2 && b3 && b4 && b5 && b6 && b7 && b8 && b9))
theorem tmTab_at {ops : Array Oper} (h : tmTab ops = true) (b0 b1 b2 b3 b4 b5 b6 b7 b8 b9 : Bool) :
    (∀ i ∈ Region.ready .any ops #[b0, b1, b2, b3, b4, b5, b6, b7, b8, b9], tmReg i b0 b1 b2 b3 b4 b5 b6 b7 b8 b9 = true) ∧ (Region.ready .any ops #[b0, b1, b2, b3, b4, b5, b6, b7, b8, b9] = [] ↔ (b0 && b1 && b2 && b3 && b4 && b5 && b6 && b7 && b8 && b9) = true) := by
  have hb : ∀ b : Bool, b ∈ [true, false] := by decide
  unfold tmTab at h
  have := List.all_eq_true.mp (List.all_eq_true.mp (List.all_eq_true.mp (List.all_eq_true.mp (List.all_eq_true.mp (List.all_eq_true.mp (List.all_eq_true.mp (List.all_eq_true.mp (List.all_eq_true.mp (List.all_eq_true.mp h b0 (hb _)) b1 (hb _)) b2 (hb _)) b3 (hb _)) b4 (hb _)) b5 (hb _)) b6 (hb _)) b7 (hb _)) b8 (hb _)) b9 (hb _)
  rw [Bool.and_eq_true] at this
  refine ⟨fun i hi => List.all_eq_true.mp this.1 i hi, ?_⟩
  have h2 := eq_of_beq this.2
  rw [← h2, List.isEmpty_iff]
theorem wpAnyIn_inv10 (htab : tmTab ops = true) (Inv : Bool → Bool → Bool → Bool → Bool → Bool → Bool → Bool → Bool → Bool → Act → World → Prop)
    (hdone : ∀ a w, Inv true true true true true true true true true true a w → Q .normal a w)
    (s0 : ∀ (b1 b2 b3 b4 b5 b6 b7 b8 b9 : Bool) a w, Inv false b1 b2 b3 b4 b5 b6 b7 b8 b9 a w → wpOpIn F n P ops Q 0 (fun a' w' => Inv true b1 b2 b3 b4 b5 b6 b7 b8 b9 a' w') a w)
    (s1 : ∀ (b0 b2 b3 b4 b5 b6 b7 b8 b9 : Bool) a w, Inv b0 false b2 b3 b4 b5 b6 b7 b8 b9 a w → wpOpIn F n P ops Q 1 (fun a' w' => Inv b0 true b2 b3 b4 b5 b6 b7 b8 b9 a' w') a w)
    (s2 : ∀ (b0 b1 b3 b4 b5 b6 b7 b8 b9 : Bool) a w, Inv b0 b1 false b3 b4 b5 b6 b7 b8 b9 a w → wpOpIn F n P ops Q 2 (fun a' w' => Inv b0 b1 true b3 b4 b5 b6 b7 b8 b9 a' w') a w)
    (s3 : ∀ (b4 b5 b6 b7 b8 b9 : Bool) a w, Inv true true true false b4 b5 b6 b7 b8 b9 a w → wpOpIn F n P ops Q 3 (fun a' w' => Inv true true true true b4 b5 b6 b7 b8 b9 a' w') a w)
    (s4 : ∀ (b0 b1 b2 b3 b5 b6 b7 b8 b9 : Bool) a w, Inv b0 b1 b2 b3 false b5 b6 b7 b8 b9 a w → wpOpIn F n P ops Q 4 (fun a' w' => Inv b0 b1 b2 b3 true b5 b6 b7 b8 b9 a' w') a w)
    (s5 : ∀ (b0 b1 b2 b3 b4 b6 b7 b8 b9 : Bool) a w, Inv b0 b1 b2 b3 b4 false b6 b7 b8 b9 a w → wpOpIn F n P ops Q 5 (fun a' w' => Inv b0 b1 b2 b3 b4 true b6 b7 b8 b9 a' w') a w)
    (s6 : ∀ (b0 b1 b2 b3 b4 b5 b7 b8 b9 : Bool) a w, Inv b0 b1 b2 b3 b4 b5 false b7 b8 b9 a w → wpOpIn F n P ops Q 6 (fun a' w' => Inv b0 b1 b2 b3 b4 b5 true b7 b8 b9 a' w') a w)
    (s7 : ∀ (b0 b1 b2 b8 b9 : Bool) a w, Inv b0 b1 b2 true true true true false b8 b9 a w → wpOpIn F n P ops Q 7 (fun a' w' => Inv b0 b1 b2 true true true true true b8 b9 a' w') a w)
    (s8 : ∀ (b0 b1 b2 b4 b5 b6 b9 : Bool) a w, Inv b0 b1 b2 true b4 b5 b6 true false b9 a w → wpOpIn F n P ops Q 8 (fun a' w' => Inv b0 b1 b2 true b4 b5 b6 true true b9 a' w') a w)
    (s9 : ∀ a w, Inv true true true true true true true true true false a w → wpOpIn F n P ops Q 9 (fun a' w' => Inv true true true true true true true true true true a' w') a w)
    {a : Act} {w : World} (hi : Inv false false false false false false false false false false a w) : wpAnyIn F n P .any ops Q 10 #[false, false, false, false, false, false, false, false, false, false] a w := by
  refine wpAnyIn_inv (fun l a w => ∃ b0 b1 b2 b3 b4 b5 b6 b7 b8 b9 : Bool, l = #[b0, b1, b2, b3, b4, b5, b6, b7, b8, b9] ∧ Inv b0 b1 b2 b3 b4 b5 b6 b7 b8 b9 a w) (fun l => l.toList.count false) ?_ ?_ ?_ _ _ _ _ ⟨_, _, _, _, _, _, _, _, _, _, rfl, hi⟩ (by decide)
  · rintro listed a w ⟨b0, b1, b2, b3, b4, b5, b6, b7, b8, b9, rfl, hinv⟩
    obtain ⟨hT, hE⟩ := tmTab_at htab b0 b1 b2 b3 b4 b5 b6 b7 b8 b9
    refine ⟨fun hr => ?_, fun i hm => ?_⟩
    · have := hE.mp hr
      simp only [Bool.and_eq_true] at this
      obtain ⟨⟨⟨⟨⟨⟨⟨⟨⟨rfl, rfl⟩, rfl⟩, rfl⟩, rfl⟩, rfl⟩, rfl⟩, rfl⟩, rfl⟩, rfl⟩ := this
      exact hdone _ _ hinv
    have hreg := hT i hm
    clear hT hE hm
    match i, hreg with
    | 0, hreg => simp only [tmReg, Bool.and_eq_true, Bool.not_eq_true'] at hreg; obtain rfl := hreg; exact wpOpIn_mono (fun a' w' hi' => ⟨true, b1, b2, b3, b4, b5, b6, b7, b8, b9, rfl, hi'⟩) (s0 b1 b2 b3 b4 b5 b6 b7 b8 b9 a w hinv)
    | 1, hreg => simp only [tmReg, Bool.and_eq_true, Bool.not_eq_true'] at hreg; obtain rfl := hreg; exact wpOpIn_mono (fun a' w' hi' => ⟨b0, true, b2, b3, b4, b5, b6, b7, b8, b9, rfl, hi'⟩) (s1 b0 b2 b3 b4 b5 b6 b7 b8 b9 a w hinv)
    | 2, hreg => simp only [tmReg, Bool.and_eq_true, Bool.not_eq_true'] at hreg; obtain rfl := hreg; exact wpOpIn_mono (fun a' w' hi' => ⟨b0, b1, true, b3, b4, b5, b6, b7, b8, b9, rfl, hi'⟩) (s2 b0 b1 b3 b4 b5 b6 b7 b8 b9 a w hinv)
    | 3, hreg => simp only [tmReg, Bool.and_eq_true, Bool.not_eq_true'] at hreg; obtain ⟨⟨⟨rfl, rfl⟩, rfl⟩, rfl⟩ := hreg; exact wpOpIn_mono (fun a' w' hi' => ⟨true, true, true, true, b4, b5, b6, b7, b8, b9, rfl, hi'⟩) (s3 b4 b5 b6 b7 b8 b9 a w hinv)
    | 4, hreg => simp only [tmReg, Bool.and_eq_true, Bool.not_eq_true'] at hreg; obtain rfl := hreg; exact wpOpIn_mono (fun a' w' hi' => ⟨b0, b1, b2, b3, true, b5, b6, b7, b8, b9, rfl, hi'⟩) (s4 b0 b1 b2 b3 b5 b6 b7 b8 b9 a w hinv)
    | 5, hreg => simp only [tmReg, Bool.and_eq_true, Bool.not_eq_true'] at hreg; obtain rfl := hreg; exact wpOpIn_mono (fun a' w' hi' => ⟨b0, b1, b2, b3, b4, true, b6, b7, b8, b9, rfl, hi'⟩) (s5 b0 b1 b2 b3 b4 b6 b7 b8 b9 a w hinv)
    | 6, hreg => simp only [tmReg, Bool.and_eq_true, Bool.not_eq_true'] at hreg; obtain rfl := hreg; exact wpOpIn_mono (fun a' w' hi' => ⟨b0, b1, b2, b3, b4, b5, true, b7, b8, b9, rfl, hi'⟩) (s6 b0 b1 b2 b3 b4 b5 b7 b8 b9 a w hinv)
    | 7, hreg => simp only [tmReg, Bool.and_eq_true, Bool.not_eq_true'] at hreg; obtain ⟨⟨⟨⟨rfl, rfl⟩, rfl⟩, rfl⟩, rfl⟩ := hreg; exact wpOpIn_mono (fun a' w' hi' => ⟨b0, b1, b2, true, true, true, true, true, b8, b9, rfl, hi'⟩) (s7 b0 b1 b2 b8 b9 a w hinv)
    | 8, hreg => simp only [tmReg, Bool.and_eq_true, Bool.not_eq_true'] at hreg; obtain ⟨⟨rfl, rfl⟩, rfl⟩ := hreg; exact wpOpIn_mono (fun a' w' hi' => ⟨b0, b1, b2, true, b4, b5, b6, true, true, b9, rfl, hi'⟩) (s8 b0 b1 b2 b4 b5 b6 b9 a w hinv)
    | 9, hreg => simp only [tmReg, Bool.and_eq_true, Bool.not_eq_true'] at hreg; obtain ⟨⟨⟨⟨⟨⟨⟨⟨⟨rfl, rfl⟩, rfl⟩, rfl⟩, rfl⟩, rfl⟩, rfl⟩, rfl⟩, rfl⟩, rfl⟩ := hreg; exact wpOpIn_mono (fun a' w' hi' => ⟨true, true, true, true, true, true, true, true, true, true, rfl, hi'⟩) (s9  a w hinv)
    | i + 10, hreg => simp [tmReg] at hreg
  · rintro listed a w ⟨b0, b1, b2, b3, b4, b5, b6, b7, b8, b9, rfl, hinv⟩ h0
    obtain ⟨hT, hE⟩ := tmTab_at htab b0 b1 b2 b3 b4 b5 b6 b7 b8 b9
    refine hE.mpr ?_
    simp only [List.count_eq_zero] at h0
    simp at h0
    simp [h0]
  · rintro listed i a w ⟨b0, b1, b2, b3, b4, b5, b6, b7, b8, b9, rfl, hinv⟩ hm
    obtain ⟨hT, hE⟩ := tmTab_at htab b0 b1 b2 b3 b4 b5 b6 b7 b8 b9
    have hreg := hT i hm
    clear hT hE hm
    match i, hreg with
    | 0, hreg => simp only [tmReg, Bool.and_eq_true, Bool.not_eq_true'] at hreg; obtain rfl := hreg; simp [List.count_cons]
    | 1, hreg => simp only [tmReg, Bool.and_eq_true, Bool.not_eq_true'] at hreg; obtain rfl := hreg; simp [List.count_cons]
    | 2, hreg => simp only [tmReg, Bool.and_eq_true, Bool.not_eq_true'] at hreg; obtain rfl := hreg; simp [List.count_cons]
    | 3, hreg => simp only [tmReg, Bool.and_eq_true, Bool.not_eq_true'] at hreg; obtain ⟨⟨⟨rfl, rfl⟩, rfl⟩, rfl⟩ := hreg; simp [List.count_cons]
    | 4, hreg => simp only [tmReg, Bool.and_eq_true, Bool.not_eq_true'] at hreg; obtain rfl := hreg; simp [List.count_cons]
    | 5, hreg => simp only [tmReg, Bool.and_eq_true, Bool.not_eq_true'] at hreg; obtain rfl := hreg; simp [List.count_cons]
    | 6, hreg => simp only [tmReg, Bool.and_eq_true, Bool.not_eq_true'] at hreg; obtain rfl := hreg; simp [List.count_cons]
    | 7, hreg => simp only [tmReg, Bool.and_eq_true, Bool.not_eq_true'] at hreg; obtain ⟨⟨⟨⟨rfl, rfl⟩, rfl⟩, rfl⟩, rfl⟩ := hreg; simp [List.count_cons]
    | 8, hreg => simp only [tmReg, Bool.and_eq_true, Bool.not_eq_true'] at hreg; obtain ⟨⟨rfl, rfl⟩, rfl⟩ := hreg; simp [List.count_cons]
    | 9, hreg => simp only [tmReg, Bool.and_eq_true, Bool.not_eq_true'] at hreg; obtain ⟨⟨⟨⟨⟨⟨⟨⟨⟨rfl, rfl⟩, rfl⟩, rfl⟩, rfl⟩, rfl⟩, rfl⟩, rfl⟩, rfl⟩, rfl⟩ := hreg; simp [List.count_cons]
    | i + 10, hreg => simp [tmReg] at hreg
end
def bw_l (n : Nat) : List (Fin n) := (List.finRange n).reverse
theorem bw_take_succ (n m : Nat) (h : m < n) : (bw_l n).take (m + 1) = (bw_l n).take m ++ [⟨n - 1 - m, by omega⟩] := by
  have hl : m < (bw_l n).length := by simp [bw_l]; exact h
  rw [List.take_add_one, List.getElem?_eq_getElem hl]
  simp [bw_l, List.getElem_reverse]
theorem bw_take_length (n m : Nat) (h : m ≤ n) : ((bw_l n).take m).length = m := by simp [bw_l]; omega
set_option maxRecDepth 100000 in
set_option maxHeartbeats 2000000 in
theorem bw1_in (F : Fence) (n : Nat) (h8 : F.fn 60) (hro : F.round = none) (hn : 1 ≤ n) (l Bs n₀ : Nat) (A0 : Option Addr) (c0 : Nat) (l0 : List S37) (J Jx : List (Fin l0.length) → World → Prop)
    (hY : ∀ pre (x : Fin l0.length) W, J pre W → pre.length < l0.length → YieldAt F (n - 1) Try.prog l #[.int .i64 (x.1 : Int), .agg #[.int .i64 (rd_T37 l0 (x.1 : Int)).f0, .int .i64 (rd_T37 l0 (x.1 : Int)).f1]] W fun e W' =>
      (e = .returned (.bool true) ∧ J (pre ++ [x]) W' ∧ Below n₀ W W') ∨ (e = .returned (.bool false) ∧ Jx (pre ++ [x]) W'))
    (w W : World) (hn₀ : n₀ = w.heap.size) (hBs0 : w.cell? ⟨Bs, 0, none⟩ = some (.slice A0 l0.length c0)) (hC : Kd.C k37 w A0 l0.length l0) (hWB : Below n₀ w W) (h0 : J [] W) :
    CallsIn F n Try.prog 60 #[.func (.yield l) #[] #[], .pointer (some ⟨Bs, 0, none⟩)] W fun e W' => (∃ v, e = .returned v) ∧
      ((∃ ys, ys = bw_l l0.length ∧ J ys W') ∨ (∃ pre, pre <+: bw_l l0.length ∧ Jx pre W')) := by
  have hmax : l0.length ≤ 9223372036854775807 := hC.2.1
  have HC := Aside0.mk hC
  clear hC
  have hBs := (hWB.cell (by rw [hn₀]; exact World.block_lt_of_cell? w _ hBs0)).trans hBs0
  refine callsIn_of_wp Try.func60 rfl h8 ?_ hro
  simp only [Try.ntmps60, List.size_toArray, List.length_cons, List.length_nil, Nat.reduceAdd, Nat.reduceSub, Array.replicate_succ, Array.replicate_zero, List.push_toArray, List.append_toArray, List.nil_append, List.cons_append]
  gi_wp2
  gi_loopw [3] (fun i wr => ∃ m : Nat, m ≤ l0.length ∧ i = .int .i64 ((l0.length : Int) - 1 - m) ∧ J ((bw_l l0.length).take m) wr ∧ Below n₀ W wr)
    (fun i _ => (intOf i + 1).toNat)
  case atStart => exact ⟨0, Nat.zero_le _, by go_num, by simpa using h0, Below.refl _ _⟩
  case round =>
    obtain ⟨m, hm, rfl, hJs, hnx⟩ := hrel
    have hbs := ((hWB.trans hnx).cell (by rw [hn₀]; exact World.block_lt_of_cell? w _ hBs0)).trans hBs0
    by_cases hlt : m < l0.length
    · have hidx : ((l0.length : Int) - 1 - m) = ((l0.length - 1 - m : Nat) : Int) := by omega
      obtain ⟨ad, he, hx0, hx1⟩ := at_T37 HC.out ((l0.length - 1 - m : Nat) : Int) (by omega) (by omega)
      subst he
      have hc0 := ((hWB.trans hnx).cell (by rw [hn₀]; exact World.block_lt_of_cell? w _ hx0)).trans hx0
      have hc1 := ((hWB.trans hnx).cell (by rw [hn₀]; exact World.block_lt_of_cell? w _ hx1)).trans hx1
      clear hx0 hx1
      simp only [Int.toNat_natCast] at hc0 hc1
      obtain ⟨fn, tmps, assign, body, hy, hR⟩ := hY _ ⟨l0.length - 1 - m, by omega⟩ wr hJs (by rw [bw_take_length _ _ hm]; exact hlt)
      dsimp only at hy
      rw [hidx]
      have hk0 : ((l0.length - 1 - m : Nat) : Int) < l0.length := by omega
      gi_wp2
      refine hR.mono ?_
      rintro e W3 (⟨rfl, hJ3, hk3⟩ | ⟨rfl, hJx3⟩)
      · gi_wp2
        go_roundw
        case rel => exact ⟨m + 1, by omega, by go_num, by rw [bw_take_succ _ _ hlt]; exact hJ3, hnx.trans hk3⟩
        case measure => simp [intOf] <;> omega
      · gi_wp2
        refine bodyPost_ret (results_none rfl _ _ _) rfl ?_
        exact ⟨⟨_, rfl⟩, .inr ⟨_, (bw_take_succ _ _ hlt) ▸ List.take_prefix _ _, hJx3⟩⟩
    · obtain rfl : m = l0.length := by omega
      gi_wp2
      go_end0
      exact ⟨⟨_, rfl⟩, .inl ⟨_, rfl, by rwa [List.take_of_length_le (by simp [bw_l])] at hJs⟩⟩
theorem bw_stops (F : Fence) (n : Nat) (h8 : F.fn 60) (hro : F.round = none) (hn : 1 ≤ n) (Bs : Nat) (A0 : Option Addr) (c0 : Nat) (l0 : List S37) (w : World)
    (hc : w.cell? ⟨Bs, 0, none⟩ = some (.slice A0 l0.length c0)) (hC : Kd.C k37 w A0 l0.length l0) :
    SeqStopsK F n Try.prog 60 #[.pointer (some ⟨Bs, 0, none⟩)] (fun x : Fin l0.length => #[Value.int .i64 (x.1 : Int), .agg #[.int .i64 (rd_T37 l0 (x.1 : Int)).f0, .int .i64 (rd_T37 l0 (x.1 : Int)).f1]]) (Below w.heap.size) (fun ys => ys = bw_l l0.length)
      (fun pre => pre <+: bw_l l0.length) l0.length w := fun l J Jx W hW _ _ hY h0 =>
  bw1_in F n h8 hro hn l Bs w.heap.size A0 c0 l0 J Jx hY w W rfl hc hC hW h0
set_option maxHeartbeats 1000000 in
theorem bw_in (F : Fence) (n : Nat) (h6 : F.fn 57) (hro : F.round = none) (A0 : Option Addr) (len cap : Nat) (w : World) :
    CallsIn F n Try.prog 57 #[.slice A0 len cap] w fun e w' => e = .returned (.func (.func 60) #[] #[.pointer (some ⟨w.heap.size, 0, none⟩)]) ∧ w' = w.alloc (.cells #[.slice A0 len cap] 23) := by
  refine callsIn_of_wp Try.func57 rfl h6 ?_ hro
  simp only [Try.ntmps57, List.size_toArray, List.length_cons, List.length_nil, Nat.reduceAdd, Nat.reduceSub, Array.replicate_succ, Array.replicate_zero, List.push_toArray, List.append_toArray, List.nil_append, List.cons_append]
  gi_wp2
  go_ret
  exact ⟨rfl, rfl⟩
def impl_meetEnd (l : List S37) (i : Nat) (e : Int) : Int := if i + 1 < l.length then (rd_T37 l ((i : Int) + 1)).f1 else e
theorem impl_meetEnd_eq {l : List S37} {i : Nat} (e : Int) (h : i < l.length) (hm : l.length ≤ 9223372036854775807) : impl_endAt.f l (i : Int) e = some (impl_meetEnd l i e) := by
  have hw : wrap64 ((i : Int) + 1) = (i : Int) + 1 := by unfold wrap64; omega
  unfold impl_endAt.f impl_meetEnd
  rw [hw]
  by_cases hi : i + 1 < l.length
  · rw [if_pos (by omega), if_pos (by omega), if_pos hi]
  · rw [if_neg (by omega), if_neg hi]
def impl_meetFind (l : List S37) (x : S37) : Option Nat := l.findIdx? (fun t => x.f0 == t.f0 && x.f1 == t.f1)
theorem impl_meetFind_ev (l : List S37) (x : S37) (hm : l.length ≤ 9223372036854775807) :
    ∀ (n i : Nat), l.length - i = n → i ≤ l.length → (∀ j, j < i → (x.f0 == (rd_T37 l (j : Int)).f0 && x.f1 == (rd_T37 l (j : Int)).f1) = false) →
      impl_Term_58.l0 (n + 1) l (l.length : Int) (i : Int) x.f0 x.f1 = some (match impl_meetFind l x with | some j => (j : Int) | none => -1)
  | 0, i, hn, hi, hno => by
    have hil : i = l.length := by omega
    have hf : impl_meetFind l x = none := by
      unfold impl_meetFind
      rw [List.findIdx?_eq_none_iff]
      intro y hy
      obtain ⟨j, hj, rfl⟩ := List.getElem_of_mem hy
      have := hno j (by omega)
      simpa [rd_T37, List.getD_eq_getElem?_getD, List.getElem?_eq_getElem hj] using this
    unfold impl_Term_58.l0
    rw [if_neg (by omega), hf]
  | n + 1, i, hn, hi, hno => by
    have hil : i < l.length := by omega
    unfold impl_Term_58.l0
    rw [if_pos (by omega), if_pos (by omega), if_pos (by omega)]
    by_cases hx : (x.f0 == (rd_T37 l (i : Int)).f0 && x.f1 == (rd_T37 l (i : Int)).f1) = true
    · have hf : impl_meetFind l x = some i := by
        unfold impl_meetFind
        rw [List.findIdx?_eq_some_iff_getElem]
        refine ⟨hil, ?_, ?_⟩
        · simpa [rd_T37, List.getD_eq_getElem?_getD, List.getElem?_eq_getElem hil] using hx
        · intro j hj
          have := hno j hj
          have hj' : j < l.length := by omega
          simpa [rd_T37, List.getD_eq_getElem?_getD, List.getElem?_eq_getElem hj'] using this
      rw [if_pos hx, hf]
    · rw [if_neg hx]
      have hw : wrap64 ((i : Int) + 1) = ((i + 1 : Nat) : Int) := by unfold wrap64; omega
      rw [hw]
      refine impl_meetFind_ev l x hm n (i + 1) (by omega) (by omega) (fun j hj => ?_)
      by_cases hji : j = i
      · subst hji; simpa using hx
      · exact hno j (by omega)
theorem impl_meetFind_lt {l : List S37} {x : S37} {j : Nat} (h : impl_meetFind l x = some j) : j < l.length := by
  unfold impl_meetFind at h
  rw [List.findIdx?_eq_some_iff_getElem] at h
  exact h.1
theorem impl_meetFind_f (l : List S37) (x : S37) (hm : l.length ≤ 9223372036854775807) : impl_Term_58.f (l.length + 1) l x.f0 x.f1 = some (match impl_meetFind l x with | some j => (j : Int) | none => -1) :=
  impl_meetFind_ev l x hm l.length 0 (by omega) (by omega) (fun j hj => by omega)
def impl_meetMin (a b : Int) : Int := if b < a then b else a
def impl_meetAt (l0 : List S37) (a1 : Int) (l2 : List S37) (a3 : Int) (i : Fin l0.length) : Option Int := (impl_meetFind l2 (rd_T37 l0 (i.1 : Int))).map fun j => impl_meetMin (impl_meetEnd l0 i.1 a1) (impl_meetEnd l2 j a3)
def impl_TermsMeet.f (k : Nat) (l0 : List S37) (a1 : Int) (l2 : List S37) (a3 : Int) : Option Int := (impl_endValid.f k l0 a1).bind fun t => if t = true then ((impl_endValid.f k l2 a3).bind fun t => if t = true then some (((bw_l l0.length).findSome? (impl_meetAt l0 a1 l2 a3)).getD 0) else some (-1)) else some (-1)
theorem impl_TermsMeet.mono : ∀ a0 a1 a2 a3 k, LeO (impl_TermsMeet.f k a0 a1 a2 a3) (impl_TermsMeet.f (k + 1) a0 a1 a2 a3) := by
  intro a0 a1 a2 a3 k
  unfold impl_TermsMeet.f
  refine LeO.bind (impl_endValid.mono _ _ _) (fun _ => LeO.ite (LeO.bind (impl_endValid.mono _ _ _) (fun _ => LeO.refl _)) (LeO.refl _))
theorem keepsFrom_below {B : Nat} {W W' : World} (h : Below W.heap.size W W') : KeepsFrom B W W' := ⟨h.size, fun k _ _ hk _ => (h.block k (Array.getElem?_eq_some_iff.1 hk).1).trans hk⟩
attribute [local go_sem] Oper.semAt_some
set_option maxHeartbeats 4000000 in
set_option maxRecDepth 100000 in
theorem impl_TermsMeet.calls (k : Nat) (A0 : Option Addr) (c0 : Nat) (l0 : List (S37)) (a1 : Int) (A2 : Option Addr) (c2 : Nat) (l2 : List (S37)) (a3 : Int) (r : Int) (w : World) (hr0 : Kd.C k37 w A0 l0.length l0) (hc0 : l0.length ≤ c0) (hr2 : Kd.C k37 w A2 l2.length l2) (hc2 : l2.length ≤ c2) (h : impl_TermsMeet.f k l0 a1 l2 a3 = some r) :
    Calls Try.prog 39 #[.slice A0 l0.length c0, .int .i64 a1, .slice A2 l2.length c2, .int .i64 a3] w fun e w' => e = .returned (.int .i64 r) ∧ Below w.heap.size w w' := by
  have hm0 : l0.length ≤ 9223372036854775807 := hr0.2.1
  have hm2 : l2.length ≤ 9223372036854775807 := hr2.2.1
  unfold impl_TermsMeet.f at h
  replace h := Option.bind_eq_some_iff.mp h
  obtain ⟨t0, hv0, h⟩ := h
  have HV0 := Aside0.mk hv0
  have HR0 := Aside0.mk hr0
  have HR2 := Aside0.mk hr2
  have HC0 := Aside0.mk hc0
  have HC2 := Aside0.mk hc2
  have H := Aside0.mk h
  clear hr0 hr2 hc0 hc2 h hv0
  refine callsIn_wide (n := 8).1 ?_
  have hro : (Fence.wide).round = none := rfl
  refine callsIn_of_wp_marks Try.func39 rfl trivial ?_ hro
  simp only [Try.ntmps39, List.size_toArray, List.length_cons, List.length_nil, Nat.reduceAdd, Nat.reduceSub, Array.replicate_succ, Array.replicate_zero, List.push_toArray, List.append_toArray, List.nil_append, List.cons_append]
  have hB5 : Below w.heap.size w (((((w.alloc (.cells #[.slice A0 l0.length c0] 23)).alloc (.cells #[.int .i64 a1] 3)).alloc (.cells #[.slice A2 l2.length c2] 23)).alloc (.cells #[.int .i64 a3] 3)).alloc (.cells #[.int .i64 0] 3)) :=
    (((((Below.refl _ w).alloc (Nat.le_refl _) _).alloc (by simp) _).alloc (by simp; omega) _).alloc (by simp; omega) _).alloc (by simp; omega) _
  have HR05 := Aside0.mk (Kd.C_below HR0.out hB5)
  have HR25 := Aside0.mk (Kd.C_below HR2.out hB5)
  cases t0 with
  | false =>
    have hr : r = -1 := by have := H.out; simpa using this.symm
    have HRr := Aside0.mk hr
    clear hr H
    gi_wp2_with (refine ⟨trivial, ?_⟩; gi_at_call 52; refine (callsIn_wide.2 (impl_endValid.calls k _ _ l0 a1 false _ HR05.out HC0.out HV0.out)).mono ?_; rintro e w1 ⟨rfl, hb⟩)
    refine ⟨trivial, ?_⟩
    have hBR := Boxed.new ((((w.alloc (.cells #[.slice A0 l0.length c0] 23)).alloc (.cells #[.int .i64 a1] 3)).alloc (.cells #[.slice A2 l2.length c2] 23)).alloc (.cells #[.int .i64 a3] 3)) 3 (.int .i64 0)
    simp only [World.size_alloc] at hBR
    have hBR1 : Boxed w1 (w.heap.size + 1 + 1 + 1 + 1) 3 (.int .i64 0) := (hb.block _ (by simp)).trans hBR
    have cR := hBR1.cell
    have fR := hBR1.frozen
    gi_wp2
    have hc5 := (hBR1.set (.int .i64 (-1))).cell
    refine ⟨.int .i64 (-1), ?_, by rw [HRr.out], (below_step hB5 hb).setCell (p := ⟨w.heap.size + 1 + 1 + 1 + 1, 0, none⟩) (by simp; omega) _⟩
    simp [results, Try.f39, go_sem, hc5]
  | true =>
    have h2 := H.out
    rw [if_pos rfl] at h2
    replace h2 := Option.bind_eq_some_iff.mp h2
    obtain ⟨t1, hv2, h2⟩ := h2
    have HV2 := Aside0.mk hv2
    have H2 := Aside0.mk h2
    clear H hv2 h2
    have hBR := Boxed.new ((((w.alloc (.cells #[.slice A0 l0.length c0] 23)).alloc (.cells #[.int .i64 a1] 3)).alloc (.cells #[.slice A2 l2.length c2] 23)).alloc (.cells #[.int .i64 a3] 3)) 3 (.int .i64 0)
    simp only [World.size_alloc] at hBR
    have hB3 := (Boxed.new (((w.alloc (.cells #[.slice A0 l0.length c0] 23)).alloc (.cells #[.int .i64 a1] 3)).alloc (.cells #[.slice A2 l2.length c2] 23)) 3 (.int .i64 a3)).alloc (.cells #[.int .i64 0] 3)
    have hB2 := ((Boxed.new ((w.alloc (.cells #[.slice A0 l0.length c0] 23)).alloc (.cells #[.int .i64 a1] 3)) 23 (.slice A2 l2.length c2)).alloc (.cells #[.int .i64 a3] 3)).alloc (.cells #[.int .i64 0] 3)
    have hB1 := (((Boxed.new (w.alloc (.cells #[.slice A0 l0.length c0] 23)) 3 (.int .i64 a1)).alloc (.cells #[.slice A2 l2.length c2] 23)).alloc (.cells #[.int .i64 a3] 3)).alloc (.cells #[.int .i64 0] 3)
    have hB0 := ((((Boxed.new w 23 (.slice A0 l0.length c0)).alloc (.cells #[.int .i64 a1] 3)).alloc (.cells #[.slice A2 l2.length c2] 23)).alloc (.cells #[.int .i64 a3] 3)).alloc (.cells #[.int .i64 0] 3)
    simp only [World.size_alloc] at hB3 hB2 hB1 hB0
    have key : ∀ w1 : World, Below (((((w.alloc (.cells #[.slice A0 l0.length c0] 23)).alloc (.cells #[.int .i64 a1] 3)).alloc (.cells #[.slice A2 l2.length c2] 23)).alloc (.cells #[.int .i64 a3] 3)).alloc (.cells #[.int .i64 0] 3)).heap.size (((((w.alloc (.cells #[.slice A0 l0.length c0] 23)).alloc (.cells #[.int .i64 a1] 3)).alloc (.cells #[.slice A2 l2.length c2] 23)).alloc (.cells #[.int .i64 a3] 3)).alloc (.cells #[.int .i64 0] 3)) w1 →
        (Boxed w1 w.heap.size 23 (.slice A0 l0.length c0) ∧ Boxed w1 (w.heap.size + 1) 3 (.int .i64 a1) ∧ Boxed w1 (w.heap.size + 1 + 1) 23 (.slice A2 l2.length c2) ∧ Boxed w1 (w.heap.size + 1 + 1 + 1) 3 (.int .i64 a3) ∧ Boxed w1 (w.heap.size + 1 + 1 + 1 + 1) 3 (.int .i64 0)) ∧ Below w.heap.size w w1 ∧ w.heap.size + 5 ≤ w1.heap.size := by
      intro w1 hb
      refine ⟨⟨(hb.block _ hB0.lt).trans hB0, (hb.block _ hB1.lt).trans hB1, (hb.block _ hB2.lt).trans hB2, (hb.block _ hB3.lt).trans hB3, (hb.block _ hBR.lt).trans hBR⟩, below_step hB5 hb, ?_⟩
      have := hb.size; simp at this; omega
    have KEY := Aside0.mk key
    clear key hB0 hB1 hB2 hB3 hBR
    cases t1 with
    | false =>
      have hr : r = -1 := by have := H2.out; simpa using this.symm
      have HRr := Aside0.mk hr
      clear hr H2
      gi_wp2_with (first | (refine ⟨trivial, ?_⟩; gi_at_call 52; refine (callsIn_wide.2 (impl_endValid.calls k _ _ l0 a1 true _ HR05.out HC0.out HV0.out)).mono ?_; clear HV0; rintro e w1 ⟨rfl, hb1⟩; have HK1 := Aside0.mk (KEY.out w1 hb1); have d2 := HK1.out.1.2.2.1.cell; have d3 := HK1.out.1.2.2.2.1.cell; have HR21 := Aside0.mk (Kd.C_below HR2.out HK1.out.2.1)) | (refine ⟨trivial, ?_⟩; gi_at_call 52; refine (callsIn_wide.2 (impl_endValid.calls k _ _ l2 a3 _ _ HR21.out HC2.out HV2.out)).mono ?_; clear HV2 d2 d3 HR21; rintro e w2 ⟨rfl, hb2⟩; have hb12 := below_step hb1 hb2; have HK2 := Aside0.mk (KEY.out w2 hb12); clear hb2 hb12 hb1 HK1; have d0 := HK2.out.1.1.cell; have d4 := HK2.out.1.2.2.2.2.cell; have f4 := HK2.out.1.2.2.2.2.frozen))
      obtain ⟨⟨-, -, -, -, b4⟩, hBw2, hsz2⟩ := HK2.out
      have hc5 := (b4.set (.int .i64 (-1))).cell
      refine ⟨.int .i64 (-1), ?_, by rw [HRr.out], hBw2.setCell (p := ⟨w.heap.size + 1 + 1 + 1 + 1, 0, none⟩) (by simp; omega) _⟩
      simp [results, Try.f39, go_sem, hc5]
    | true =>
      have hr : some (((bw_l l0.length).findSome? (impl_meetAt l0 a1 l2 a3)).getD 0) = some r := by have := H2.out; rwa [if_pos rfl] at this
      replace hr := Option.some.inj hr
      clear H2
      gi_wp2_with (first | (refine ⟨trivial, ?_⟩; gi_at_call 52; refine (callsIn_wide.2 (impl_endValid.calls k _ _ l0 a1 true _ HR05.out HC0.out HV0.out)).mono ?_; clear HV0; rintro e w1 ⟨rfl, hb1⟩; have HK1 := Aside0.mk (KEY.out w1 hb1); have d2 := HK1.out.1.2.2.1.cell; have d3 := HK1.out.1.2.2.2.1.cell; have HR21 := Aside0.mk (Kd.C_below HR2.out HK1.out.2.1)) | (refine ⟨trivial, ?_⟩; gi_at_call 52; refine (callsIn_wide.2 (impl_endValid.calls k _ _ l2 a3 _ _ HR21.out HC2.out HV2.out)).mono ?_; clear HV2 d2 d3 HR21; rintro e w2 ⟨rfl, hb2⟩; have hb12 := below_step hb1 hb2; have HK2 := Aside0.mk (KEY.out w2 hb12); clear hb2 hb12 hb1 HK1; have d0 := HK2.out.1.1.cell; have d4 := HK2.out.1.2.2.2.2.cell; have f4 := HK2.out.1.2.2.2.2.frozen) | (refine ⟨trivial, ?_⟩; gi_at_call 57; refine (bw_in Fence.wide _ trivial rfl _ _ _ _).mono ?_; rintro e w3 ⟨rfl, rfl⟩))
      obtain ⟨⟨b0, b1, b2, b3, b4⟩, hBw2, hsz2⟩ := HK2.out
      have bB := Boxed.new w2 23 (.slice A0 l0.length c0)
      have b0' := b0.alloc (.cells #[.slice A0 l0.length c0] 23)
      have b1' := b1.alloc (.cells #[.slice A0 l0.length c0] 23)
      have b2' := b2.alloc (.cells #[.slice A0 l0.length c0] 23)
      have b3' := b3.alloc (.cells #[.slice A0 l0.length c0] 23)
      have b4' := b4.alloc (.cells #[.slice A0 l0.length c0] 23)
      have hBw3 := hBw2.alloc (by omega) (.cells #[.slice A0 l0.length c0] 23)
      have HR03 := Aside0.mk (Kd.C_below HR0.out hBw3)
      have HR23 := Aside0.mk (Kd.C_below HR2.out hBw3)
      have hsz3 : w.heap.size + 5 ≤ (w2.alloc (.cells #[.slice A0 l0.length c0] 23)).heap.size := by simp; omega
      clear b0 b1 b2 b3 b4 d0 d4 f4 hBw2
      generalize hg : w2.heap.size = g2 at bB ⊢
      obtain ⟨W0, hW0⟩ : ∃ W0, w2.alloc (.cells #[.slice A0 l0.length c0] 23) = W0 := ⟨_, rfl⟩
      rw [hW0] at bB b0' b1' b2' b3' b4' hBw3 HR03 HR23 hsz3 ⊢
      have hlt4 : w.heap.size + 1 + 1 + 1 + 1 < W0.heap.size := b4'.lt
      clear hW0
      refine wpIn_rangeFunc_ownH rfl (by omega) (gf := 60) (lb := #[.pointer (some ⟨g2, 0, none⟩)]) rfl trivial (enters_of Try.func60 (by kernel_rfl) rfl)
        (bw_stops Fence.wide _ trivial rfl (by omega) g2 A0 c0 l0 W0 bB.cell HR03.out) belowK_t (belowK_b (Nat.le_refl _)) (Below.refl _ _) (fun _ => rfl)
        (fun pre W => (∀ i ∈ pre, impl_meetFind l2 (rd_T37 l0 (i.1 : Int)) = none) ∧ Below W0.heap.size W0 W)
        (fun c pre W => (c = .ret ∧ ∃ ini last, pre = ini ++ [last] ∧ (∀ i ∈ ini, impl_meetFind l2 (rd_T37 l0 (i.1 : Int)) = none) ∧ ∃ v, impl_meetAt l0 a1 l2 a3 last = some v ∧ W.cell? ⟨w.heap.size + 1 + 1 + 1 + 1, 0, none⟩ = some (.int .i64 v)) ∧ Below w.heap.size w W)
        (OwnFrom.and (ownFrom_pure _ _) (ownFrom_below (Nat.le_refl _) (Nat.le_refl _)))
        (fun c => OwnFrom.and (Own.from (fun s A B row hs hg hr => by obtain ⟨hc, ini, last, e1, e2, v, e3, e4⟩ := hs; exact ⟨hc, ini, last, e1, e2, v, e3, Go.cell_kept e4 hg hr⟩) _) (ownFrom_below (Nat.le_refl _) (by omega)))
        ⟨by simp, Below.refl _ _⟩
        (fun x a' W => ∃ Bx, W0.heap.size ≤ Bx ∧ W.cell? ⟨Bx, 0, none⟩ = some (.int .i64 (rd_T37 l0 (x.1 : Int)).f0) ∧ W.cell? ⟨Bx, 1, none⟩ = some (.int .i64 (rd_T37 l0 (x.1 : Int)).f1) ∧ a' = { tmps := #[.slice A0 l0.length c0, .int .i64 a1, .slice A2 l2.length c2, .int .i64 a3, .pointer (some ⟨w.heap.size, 0, none⟩), .pointer (some ⟨w.heap.size + 1, 0, none⟩), .pointer (some ⟨w.heap.size + 1 + 1, 0, none⟩), .pointer (some ⟨w.heap.size + 1 + 1 + 1, 0, none⟩), .pointer (some ⟨w.heap.size + 1 + 1 + 1 + 1, 0, none⟩), .int .i64 (x.1 : Int), .pointer (some ⟨Bx, 0, none⟩), undef, .slice A0 l0.length c0, .int .i64 a1, .bool true, .bool false, .bool false, .slice A2 l2.length c2, .int .i64 a3, .bool true, .bool false, .bool false, .slice A0 l0.length c0, .func (.func 60) #[] #[.pointer (some ⟨g2, 0, none⟩)], .int .i64 (x.1 : Int), .agg #[.int .i64 (rd_T37 l0 (x.1 : Int)).f0, .int .i64 (rd_T37 l0 (x.1 : Int)).f1], undef, undef, undef, undef, undef, undef, undef, undef, undef, undef, undef, undef, undef, undef], defers := [] })
        (fun x a' _ X Y row hs hg hr => by obtain ⟨Bx, e0, e1, e2, e3⟩ := hs; exact ⟨Bx, e0, Go.cell_kept e1 hg (fun r e => (hr r e).2), Go.cell_kept e2 hg (fun r e => (hr r e).2), e3⟩)
        ?assign ?body ?done ?stop
      case assign =>
        rintro l pre x W K ⟨hp, hB⟩ hK
        gi_wp2
        exact hK _ _ ((KeepsOthers.alloc _ _).from _) ((Below.refl _ W).alloc hB.size _) ⟨hp, hB.alloc hB.size _⟩ ⟨W.heap.size, hB.size, by simp, by simp, rfl⟩
      case body =>
        rintro l pre x a' W hl ⟨lr, hlr⟩ ⟨hp, hB⟩ ⟨Bx, hBx, cx0, cx1, rfl⟩ hlt
        have KEY2 : ∀ W', Below W0.heap.size W0 W' → (W'.cell? ⟨w.heap.size, 0, none⟩ = some (.slice A0 l0.length c0) ∧ W'.cell? ⟨w.heap.size + 1, 0, none⟩ = some (.int .i64 a1) ∧ W'.cell? ⟨w.heap.size + 1 + 1, 0, none⟩ = some (.slice A2 l2.length c2) ∧ W'.cell? ⟨w.heap.size + 1 + 1 + 1, 0, none⟩ = some (.int .i64 a3)) ∧ Boxed W' (w.heap.size + 1 + 1 + 1 + 1) 3 (.int .i64 0) ∧ Kd.C k37 W' A0 l0.length l0 ∧ Kd.C k37 W' A2 l2.length l2 := by
          intro W' hb
          refine ⟨⟨(hb.cell b0'.lt).trans b0'.cell, (hb.cell b1'.lt).trans b1'.cell, (hb.cell b2'.lt).trans b2'.cell, (hb.cell b3'.lt).trans b3'.cell⟩, (hb.block _ b4'.lt).trans b4', Kd.C_below HR03.out hb, Kd.C_below HR23.out hb⟩
        obtain ⟨⟨-, -, d2, -⟩, -, -, hR2W⟩ := KEY2 W hB
        have HRW := Aside0.mk hR2W
        clear hR2W
        have K2 := Aside0.mk KEY2
        clear KEY2
        cases hf : impl_meetFind l2 (rd_T37 l0 (x.1 : Int)) with
        | none =>
          have hF := impl_meetFind_f l2 (rd_T37 l0 (x.1 : Int)) hm2
          rw [hf] at hF
          have HF := Aside0.mk hF
          clear hF
          gi_wp2_with (refine ⟨trivial, ?_⟩; gi_at_call 58; refine (CallsIn.inRound l (callsIn_wide.2 (impl_Term_58.calls (l2.length + 1) _ _ l2 _ _ _ _ HRW.out HC2.out HF.out))).mono ?_; rintro e w6 ⟨rfl, hb6⟩; dsimp only)
          exact ⟨keepsFrom_below hb6, hb6.mono hB.size, ⟨fun i hi => (List.mem_append.1 hi).elim (hp i) (fun e => by simp at e; subst e; exact hf), hB.trans (hb6.mono hB.size)⟩⟩
        | some j =>
          have hF := impl_meetFind_f l2 (rd_T37 l0 (x.1 : Int)) hm2
          rw [hf] at hF
          have HF := Aside0.mk hF
          clear hF
          have hjl := impl_meetFind_lt hf
          have E0 := Aside0.mk (impl_meetEnd_eq (l := l0) a1 x.2 hm0)
          have E2 := Aside0.mk (impl_meetEnd_eq (l := l2) a3 hjl hm2)
          gi_wp2_with (refine ⟨trivial, ?_⟩; gi_at_call 58; refine (CallsIn.inRound l (callsIn_wide.2 (impl_Term_58.calls (l2.length + 1) _ _ l2 _ _ _ _ HRW.out HC2.out HF.out))).mono ?_; rintro e w6 ⟨rfl, hb6⟩; dsimp only)
          have hB6 := hB.trans (hb6.mono hB.size)
          have HB6 := Aside0.mk hB6
          obtain ⟨⟨c0', c1', c2', c3'⟩, b4w, -, -⟩ := K2.out w6 hB6
          have c4' := b4w.cell
          have f4' := b4w.frozen
          have E0_ := E0
          have E2_ := E2
          have hmx : Try.prog.follows .mixedOrders = true := by kernel_rfl
          have HBW6 := Aside0.mk hb6
          clear hb6 hB6 d2 cx0 cx1
          obtain ⟨mk, hmk⟩ : ∃ mk : Value → Value → Value → Value → Value → Value → Value → Value → Value → Act, mk = fun u0 u1 u2 u3 u4 u5 u6 u7 u8 => { tmps := #[.slice A0 l0.length c0, .int .i64 a1, .slice A2 l2.length c2, .int .i64 a3, .pointer (some ⟨w.heap.size, 0, none⟩), .pointer (some ⟨w.heap.size + 1, 0, none⟩), .pointer (some ⟨w.heap.size + 1 + 1, 0, none⟩), .pointer (some ⟨w.heap.size + 1 + 1 + 1, 0, none⟩), .pointer (some ⟨w.heap.size + 1 + 1 + 1 + 1, 0, none⟩), .int .i64 (x.1 : Int), .pointer (some ⟨Bx, 0, none⟩), .int .i64 (j : Int), .slice A0 l0.length c0, .int .i64 a1, .bool true, .bool false, .bool false, .slice A2 l2.length c2, .int .i64 a3, .bool true, .bool false, .bool false, .slice A0 l0.length c0, .func (.func 60) #[] #[.pointer (some ⟨g2, 0, none⟩)], .int .i64 (x.1 : Int), .agg #[.int .i64 (rd_T37 l0 (x.1 : Int)).f0, .int .i64 (rd_T37 l0 (x.1 : Int)).f1], .slice A2 l2.length c2, .agg #[.int .i64 (rd_T37 l0 (x.1 : Int)).f0, .int .i64 (rd_T37 l0 (x.1 : Int)).f1], .int .i64 (j : Int), .int .i64 (j : Int), .bool true, u0, u1, u2, u3, u4, u5, u6, u7, u8], defers := [] } := ⟨_, rfl⟩
          obtain ⟨vv, hvv⟩ : ∃ vv, vv = impl_meetMin (impl_meetEnd l0 x.1 a1) (impl_meetEnd l2 j a3) := ⟨_, rfl⟩
          have HVV := Aside0.mk hvv
          clear hvv
          refine wpIn_region_any hmx (wpAnyIn_inv10 (by kernel_rfl) (fun b0 b1 b2 b3 b4 b5 b6 b7 b8 b9 a' W' => ∃ u0 u1 u2 u3 u4 u5 u6 u7 u8, a' = mk u0 u1 u2 u3 u4 u5 u6 u7 u8 ∧
              (b0 = true → u0 = .slice A0 l0.length c0) ∧ (b1 = true → u1 = .int .i64 (x.1 : Int)) ∧ (b2 = true → u2 = .int .i64 a1) ∧ (b3 = true → u3 = .int .i64 (impl_meetEnd l0 x.1 a1)) ∧ (b4 = true → u4 = .slice A2 l2.length c2) ∧ (b5 = true → u5 = .int .i64 (j : Int)) ∧ (b6 = true → u6 = .int .i64 a3) ∧ (b7 = true → u7 = .int .i64 (impl_meetEnd l2 j a3)) ∧ (b8 = true → u8 = .int .i64 vv) ∧
              (b9 = false → ∃ m, W' = w6.drewN m) ∧ (b9 = true → ∃ m, W' = (w6.drewN m).setCell ⟨w.heap.size + 1 + 1 + 1 + 1, 0, none⟩ (.int .i64 vv)) ∧ (b9 = true → (b0 && b1 && b2 && b3 && b4 && b5 && b6 && b7 && b8) = true)) ?hdone ?s0 ?s1 ?s2 ?s3 ?s4 ?s5 ?s6 ?s7 ?s8 ?s9 ⟨_, _, _, _, _, _, _, _, _, by rw [hmk], by simp, by simp, by simp, by simp, by simp, by simp, by simp, by simp, by simp, fun _ => ⟨1, rfl⟩, by simp, by simp⟩)
          case hdone =>
            rintro a' W' ⟨u0, u1, u2, u3, u4, u5, u6, u7, u8, rfl, -, -, -, -, -, -, -, -, -, -, hW, -⟩
            obtain ⟨m, rfl⟩ := hW rfl
            rw [hmk]
            gi_wp2
            have hBW : Below w.heap.size w W := hBw3.trans (hB.mono (by omega))
            have hkf : KeepsFrom W0.heap.size W w6 := keepsFrom_below HBW6.out
            refine ⟨?_, ⟨rfl, pre, x, rfl, hp, vv, by simp only [impl_meetAt, hf, Option.map_some, HVV.out], ?_⟩, ?_⟩
            · exact (hkf.trans ⟨Nat.le_refl _, fun k o _ h _ => h⟩ : KeepsFrom W0.heap.size W (w6.drewN m)).trans ((KeepsOthers.setCell _ _ _).from _)
            · exact World.cell?_setCell_same' _ _ _ (by rw [show (w6.drewN m).cell? _ = _ from c4']; rfl)
            · exact (pw_below_drewN (hBW.trans (HBW6.out.mono hBW.size)) m).setCell (p := ⟨w.heap.size + 1 + 1 + 1 + 1, 0, none⟩) (by simp; omega) _
          case s0 =>
            rintro z0 z1 z2 z3 z4 z5 z6 z7 z8 a' W' ⟨u0, u1, u2, u3, u4, u5, u6, u7, u8, rfl, h0, h1, h2, h3, h4, h5, h6, h7, h8, h9, h10, h11⟩
            have hz : z8 = false := by cases z8 <;> simp at h11 ⊢
            subst hz
            obtain ⟨m, rfl⟩ := h9 rfl
            rw [hmk]
            refine wpOpIn_step rfl (fun K hK => ?_)
            have HK := Aside0.mk hK
            clear hK
            go_simp
            exact HK.out _ _ ⟨_, u1, u2, u3, u4, u5, u6, u7, u8, rfl, fun _ => rfl, h1, h2, h3, h4, h5, h6, h7, h8, fun _ => ⟨_, rfl⟩, by simp, by simp⟩
          case s1 =>
            rintro z0 z1 z2 z3 z4 z5 z6 z7 z8 a' W' ⟨u0, u1, u2, u3, u4, u5, u6, u7, u8, rfl, h0, h1, h2, h3, h4, h5, h6, h7, h8, h9, h10, h11⟩
            have hz : z8 = false := by cases z8 <;> simp at h11 ⊢
            subst hz
            obtain ⟨m, rfl⟩ := h9 rfl
            rw [hmk]
            refine wpOpIn_step rfl (fun K hK => ?_)
            have HK := Aside0.mk hK
            clear hK
            go_simp
            exact HK.out _ _ ⟨u0, _, u2, u3, u4, u5, u6, u7, u8, rfl, h0, fun _ => rfl, h2, h3, h4, h5, h6, h7, h8, fun _ => ⟨_, rfl⟩, by simp, by simp⟩
          case s2 =>
            rintro z0 z1 z2 z3 z4 z5 z6 z7 z8 a' W' ⟨u0, u1, u2, u3, u4, u5, u6, u7, u8, rfl, h0, h1, h2, h3, h4, h5, h6, h7, h8, h9, h10, h11⟩
            have hz : z8 = false := by cases z8 <;> simp at h11 ⊢
            subst hz
            obtain ⟨m, rfl⟩ := h9 rfl
            rw [hmk]
            refine wpOpIn_step rfl (fun K hK => ?_)
            have HK := Aside0.mk hK
            clear hK
            go_simp
            exact HK.out _ _ ⟨u0, u1, _, u3, u4, u5, u6, u7, u8, rfl, h0, h1, fun _ => rfl, h3, h4, h5, h6, h7, h8, fun _ => ⟨_, rfl⟩, by simp, by simp⟩
          case s3 =>
            rintro z0 z1 z2 z3 z4 z5 a' W' ⟨u0, u1, u2, u3, u4, u5, u6, u7, u8, rfl, h0, h1, h2, h3, h4, h5, h6, h7, h8, h9, h10, h11⟩
            have hz : z5 = false := by cases z5 <;> simp at h11 ⊢
            subst hz
            obtain ⟨m, rfl⟩ := h9 rfl
            obtain rfl := h0 rfl
            obtain rfl := h1 rfl
            obtain rfl := h2 rfl
            rw [hmk]
            refine wpOpIn_step rfl (fun K hK => ?_)
            have HK := Aside0.mk hK
            clear hK
            go_simp
            gi_wp2_with (refine ⟨trivial, ?_⟩; gi_at_call 55; refine (CallsIn.inRound l (callsIn_wide.2 (impl_endAt.calls A0 c0 l0 (x.1 : Int) a1 _ _ (K2.out _ (pw_below_drewN HB6.out m)).2.2.1 HC0.out E0.out))).mono ?_; rintro e w7 ⟨rfl, ⟨n7, rfl⟩⟩; dsimp only)
            exact HK.out _ _ ⟨_, _, _, _, u4, u5, u6, u7, u8, rfl, fun _ => rfl, fun _ => rfl, fun _ => rfl, fun _ => rfl, h4, h5, h6, h7, h8, fun _ => ⟨_, rfl⟩, by simp, by simp⟩
          case s4 =>
            rintro z0 z1 z2 z3 z4 z5 z6 z7 z8 a' W' ⟨u0, u1, u2, u3, u4, u5, u6, u7, u8, rfl, h0, h1, h2, h3, h4, h5, h6, h7, h8, h9, h10, h11⟩
            have hz : z8 = false := by cases z8 <;> simp at h11 ⊢
            subst hz
            obtain ⟨m, rfl⟩ := h9 rfl
            rw [hmk]
            refine wpOpIn_step rfl (fun K hK => ?_)
            have HK := Aside0.mk hK
            clear hK
            go_simp
            exact HK.out _ _ ⟨u0, u1, u2, u3, _, u5, u6, u7, u8, rfl, h0, h1, h2, h3, fun _ => rfl, h5, h6, h7, h8, fun _ => ⟨_, rfl⟩, by simp, by simp⟩
          case s5 =>
            rintro z0 z1 z2 z3 z4 z5 z6 z7 z8 a' W' ⟨u0, u1, u2, u3, u4, u5, u6, u7, u8, rfl, h0, h1, h2, h3, h4, h5, h6, h7, h8, h9, h10, h11⟩
            have hz : z8 = false := by cases z8 <;> simp at h11 ⊢
            subst hz
            obtain ⟨m, rfl⟩ := h9 rfl
            rw [hmk]
            refine wpOpIn_step rfl (fun K hK => ?_)
            have HK := Aside0.mk hK
            clear hK
            go_simp
            exact HK.out _ _ ⟨u0, u1, u2, u3, u4, _, u6, u7, u8, rfl, h0, h1, h2, h3, h4, fun _ => rfl, h6, h7, h8, fun _ => ⟨_, rfl⟩, by simp, by simp⟩
          case s6 =>
            rintro z0 z1 z2 z3 z4 z5 z6 z7 z8 a' W' ⟨u0, u1, u2, u3, u4, u5, u6, u7, u8, rfl, h0, h1, h2, h3, h4, h5, h6, h7, h8, h9, h10, h11⟩
            have hz : z8 = false := by cases z8 <;> simp at h11 ⊢
            subst hz
            obtain ⟨m, rfl⟩ := h9 rfl
            rw [hmk]
            refine wpOpIn_step rfl (fun K hK => ?_)
            have HK := Aside0.mk hK
            clear hK
            go_simp
            exact HK.out _ _ ⟨u0, u1, u2, u3, u4, u5, _, u7, u8, rfl, h0, h1, h2, h3, h4, h5, fun _ => rfl, h7, h8, fun _ => ⟨_, rfl⟩, by simp, by simp⟩
          case s7 =>
            rintro z0 z1 z2 z3 z4 a' W' ⟨u0, u1, u2, u3, u4, u5, u6, u7, u8, rfl, h0, h1, h2, h3, h4, h5, h6, h7, h8, h9, h10, h11⟩
            have hz : z4 = false := by cases z4 <;> simp at h11 ⊢
            subst hz
            obtain ⟨m, rfl⟩ := h9 rfl
            obtain rfl := h3 rfl
            obtain rfl := h4 rfl
            obtain rfl := h5 rfl
            obtain rfl := h6 rfl
            rw [hmk]
            refine wpOpIn_step rfl (fun K hK => ?_)
            have HK := Aside0.mk hK
            clear hK
            go_simp
            gi_wp2_with (refine ⟨trivial, ?_⟩; gi_at_call 55; refine (CallsIn.inRound l (callsIn_wide.2 (impl_endAt.calls A2 c2 l2 (j : Int) a3 _ _ (K2.out _ (pw_below_drewN HB6.out m)).2.2.2 HC2.out E2.out))).mono ?_; rintro e w7 ⟨rfl, ⟨n7, rfl⟩⟩; dsimp only)
            exact HK.out _ _ ⟨u0, u1, u2, _, _, _, _, _, u8, rfl, h0, h1, h2, fun _ => rfl, fun _ => rfl, fun _ => rfl, fun _ => rfl, fun _ => rfl, h8, fun _ => ⟨_, rfl⟩, by simp, by simp⟩
          case s8 =>
            rintro z0 z1 z2 z3 z4 z5 z6 a' W' ⟨u0, u1, u2, u3, u4, u5, u6, u7, u8, rfl, h0, h1, h2, h3, h4, h5, h6, h7, h8, h9, h10, h11⟩
            have hz : z6 = false := by cases z6 <;> simp at h11 ⊢
            subst hz
            obtain ⟨m, rfl⟩ := h9 rfl
            obtain rfl := h3 rfl
            obtain rfl := h7 rfl
            rw [hmk]
            refine wpOpIn_step rfl (fun K hK => ?_)
            have HK := Aside0.mk hK
            clear hK
            go_simp
            gi_wp2_with (refine ⟨trivial, ?_⟩; gi_at_call 59; refine (CallsIn.inRound l (callsIn_wide.2 (impl_lesser_int.calls _ _ vv _ (by rw [HVV.out]; unfold impl_lesser_int.f impl_meetMin; split <;> rfl)))).mono ?_; rintro e w7 ⟨rfl, ⟨n7, rfl⟩⟩; dsimp only)
            exact HK.out _ _ ⟨u0, u1, u2, _, u4, u5, u6, _, _, rfl, h0, h1, h2, fun _ => rfl, h4, h5, h6, fun _ => rfl, fun _ => rfl, fun _ => ⟨_, rfl⟩, by simp, by simp⟩
          case s9 =>
            rintro a' W' ⟨u0, u1, u2, u3, u4, u5, u6, u7, u8, rfl, h0, h1, h2, h3, h4, h5, h6, h7, h8, h9, h10, h11⟩
            obtain ⟨m, rfl⟩ := h9 rfl
            obtain rfl := h0 rfl
            obtain rfl := h1 rfl
            obtain rfl := h2 rfl
            obtain rfl := h3 rfl
            obtain rfl := h4 rfl
            obtain rfl := h5 rfl
            obtain rfl := h6 rfl
            obtain rfl := h7 rfl
            obtain rfl := h8 rfl
            rw [hmk]
            refine wpOpIn_step rfl (fun K hK => ?_)
            have HK := Aside0.mk hK
            clear hK
            go_simp
            exact HK.out _ _ ⟨_, _, _, _, _, _, _, _, _, rfl, fun _ => rfl, fun _ => rfl, fun _ => rfl, fun _ => rfl, fun _ => rfl, fun _ => rfl, fun _ => rfl, fun _ => rfl, fun _ => rfl, by simp, fun _ => ⟨_, rfl⟩, by simp⟩
      case done =>
        rintro D ys W hD rfl ⟨hp, hB⟩ hK
        have d4 := (hB.block _ b4'.lt).trans b4'
        have b4 : Boxed W _ _ _ := d4
        have c4 := b4.cell
        have f4 := b4.frozen
        gi_wp2
        have hK' := (KeepsOthers.setCell W ⟨w.heap.size + 1 + 1 + 1 + 1, 0, none⟩ (.int .i64 0)).same D _ hK rfl
        refine ⟨by simp, .inl ⟨_, _, rfl, run_takeDeferred hK', ?_⟩⟩
        have hc5 := Go.cell_kept (b4.set (.int .i64 0)).cell (grownBy_putObj' _ D (.deferred none)) (fun r e => by cases e; exact ⟨_, hK', rfl⟩)
        have hno : (bw_l l0.length).findSome? (impl_meetAt l0 a1 l2 a3) = none := List.findSome?_eq_none_iff.mpr (fun i hi => by simp only [impl_meetAt, hp i hi, Option.map_none])
        refine ⟨.int .i64 0, ?_, by rw [← hr, hno]; rfl, ((hBw3.trans (hB.mono (by omega))).setCell (p := ⟨w.heap.size + 1 + 1 + 1 + 1, 0, none⟩) (by simp; omega) _).trans (belowK_b (w := w) (Nat.le_refl _) _ D _ _ (by omega) hK' rfl rfl)⟩
        simp [results, Try.f39, go_sem, hc5]
      case stop =>
        rintro D c pre W hD hpre ⟨⟨rfl, ini, last, e1, e2, v, e3, e4⟩, hB⟩ hK
        gi_wp2
        refine ⟨by simp, .inl ⟨_, _, rfl, run_takeDeferred hK, ?_⟩⟩
        have hc5 := Go.cell_kept e4 (grownBy_putObj' _ D (.deferred none)) (fun r e => by cases e; exact ⟨_, hK, rfl⟩)
        have hyes : (bw_l l0.length).findSome? (impl_meetAt l0 a1 l2 a3) = some v := by
          obtain ⟨suf, hs⟩ := hpre
          rw [← hs, e1, List.findSome?_append, List.findSome?_append, List.findSome?_eq_none_iff.mpr (fun i hi => by simp only [impl_meetAt, e2 i hi, Option.map_none])]
          simp [e3]
        refine ⟨.int .i64 v, ?_, by rw [← hr, hyes]; rfl, hB.trans (belowK_b (w := w) (Nat.le_refl _) W D _ _ (by omega) hK rfl rfl)⟩
        simp [results, Try.f39, go_sem, hc5]
end
end Go.Proofs.Ytamncgpajkoiaaa.T
namespace Go.Proofs.Ytamncgpajkoiaaa.T
open Go.RowKit Go.Proofs.YtamncgpajkoiaaaW.PrintWords Go.Proofs.YtamncgpajkoiaaaW.PrintLast Go.Proofs.YtamncgpajkoiaaaW.PrintMore

set_option linter.unusedVariables false
set_option linter.unusedSimpArgs false
attribute [local go_sem high] eqA37
mutual
def laws_FnMeetCut.j0 : Nat → List (S37) → List (S37) → Int → Int → Bool → Option (Bool)
  | 0, _, _, _, _, _ => none
  | k + 1, x3, x5, x7, x8, x40 => if x40 = true then (some (x7 == x8)) else ((impl_TermsCut.f k x3 x7).bind fun bt534 => ((impl_TermsCut.f k x5 x7).bind fun bt538 => (laws_FnMeetCut.l0 k bt534.1 bt534.2 bt538.1 bt538.2 0)))
def laws_FnMeetCut.l0 : Nat → List (S37) → Bool → List (S37) → Bool → Int → Option (Bool)
  | 0, _, _, _, _, _ => none
  | k + 1, x9, x10, x11, x12, x13 => if x13 < (x9.length : Int) then (laws_FnMeetCut.j2 k x9 x10 x11 x12 x13 (decide (x13 < (x11.length : Int)))) else (laws_FnMeetCut.j2 k x9 x10 x11 x12 x13 false)
def laws_FnMeetCut.j2 : Nat → List (S37) → Bool → List (S37) → Bool → Int → Bool → Option (Bool)
  | 0, _, _, _, _, _, _ => none
  | k + 1, x9, x10, x11, x12, x13, x65 => if x65 = true then (if 0 ≤ x13 then (if x13 < (x9.length : Int) then (if x13 < (x11.length : Int) then (if (!(((rd_T37 x9 x13).f0) == ((rd_T37 x11 x13).f0)) || (!(((rd_T37 x9 x13).f1) == ((rd_T37 x11 x13).f1)))) = true then (if x10 = true then (some x12) else (some false)) else (laws_FnMeetCut.l0 k x9 x10 x11 x12 (wrap64 (x13 + 1)))) else (none)) else (none)) else (none)) else (if x10 = true then (if x12 = true then (if (x9.length : Int) > 0 then (some ((x9.length : Int) == (x11.length : Int))) else (some false)) else (some false)) else (some false))
end
def laws_FnMeetCut.f (k : Nat) (l0 : List Int) : Option (Bool) := if (l0.length : Int) > 1048576 then (some true) else ((spec_DrawTermsMeet.f k l0).bind fun bt524 => ((impl_TermsMeet.f k bt524.1 bt524.2.1 bt524.2.2.1 bt524.2.2.2).bind fun t532 => ((spec_TermsMeet.f k bt524.1 bt524.2.1 bt524.2.2.1 bt524.2.2.2).bind fun t533 => (if t532 = t533 then (laws_FnMeetCut.j0 k bt524.1 bt524.2.2.1 t532 t533 (decide (t533 < 1))) else (laws_FnMeetCut.j0 k bt524.1 bt524.2.2.1 t532 t533 true)))))
theorem laws_FnMeetCut.mono_l : ∀ k, (∀ y0 y1 y2 y3 y4, LeO (laws_FnMeetCut.j0 k y0 y1 y2 y3 y4) (laws_FnMeetCut.j0 (k + 1) y0 y1 y2 y3 y4)) ∧ (∀ y0 y1 y2 y3 y4, LeO (laws_FnMeetCut.l0 k y0 y1 y2 y3 y4) (laws_FnMeetCut.l0 (k + 1) y0 y1 y2 y3 y4)) ∧ (∀ y0 y1 y2 y3 y4 y5, LeO (laws_FnMeetCut.j2 k y0 y1 y2 y3 y4 y5) (laws_FnMeetCut.j2 (k + 1) y0 y1 y2 y3 y4 y5))
  | 0 => ⟨fun _ _ _ _ _ r h => by simp [laws_FnMeetCut.j0] at h, fun _ _ _ _ _ r h => by simp [laws_FnMeetCut.l0] at h, fun _ _ _ _ _ _ r h => by simp [laws_FnMeetCut.j2] at h⟩
  | k + 1 => by
    obtain ⟨ih0, ih1, ih2⟩ := laws_FnMeetCut.mono_l k
    refine ⟨?_, ?_, ?_⟩
    · intro y0 y1 y2 y3 y4
      unfold laws_FnMeetCut.j0
      repeat' first
      | (with_reducible exact ih0 _ _ _ _ _)
      | (with_reducible exact ih1 _ _ _ _ _)
      | (with_reducible exact ih2 _ _ _ _ _ _)
      | (with_reducible exact impl_TermsCut.mono _ _ _)
      | (with_reducible exact impl_TermsMeet.mono _ _ _ _ _)
      | (with_reducible exact spec_DrawTermsMeet.mono _ _)
      | (with_reducible exact spec_TermsMeet.mono _ _ _ _ _)
      | (with_reducible exact LeO.refl _)
      | (with_reducible exact LeO.none _)
      | (with_reducible refine LeO.ite ?_ ?_)
      | (with_reducible refine LeO.bind ?_ (fun _ => ?_))
      | exact ih0 _ _ _ _ _
      | exact ih1 _ _ _ _ _
      | exact ih2 _ _ _ _ _ _
      | exact impl_TermsCut.mono _ _ _
      | exact impl_TermsMeet.mono _ _ _ _ _
      | exact spec_DrawTermsMeet.mono _ _
      | exact spec_TermsMeet.mono _ _ _ _ _
      | exact LeO.none _
      | refine LeO.ite ?_ ?_
      | refine LeO.bind ?_ (fun _ => ?_)
    · intro y0 y1 y2 y3 y4
      unfold laws_FnMeetCut.l0
      repeat' first
      | (with_reducible exact ih0 _ _ _ _ _)
      | (with_reducible exact ih1 _ _ _ _ _)
      | (with_reducible exact ih2 _ _ _ _ _ _)
      | (with_reducible exact impl_TermsCut.mono _ _ _)
      | (with_reducible exact impl_TermsMeet.mono _ _ _ _ _)
      | (with_reducible exact spec_DrawTermsMeet.mono _ _)
      | (with_reducible exact spec_TermsMeet.mono _ _ _ _ _)
      | (with_reducible exact LeO.refl _)
      | (with_reducible exact LeO.none _)
      | (with_reducible refine LeO.ite ?_ ?_)
      | (with_reducible refine LeO.bind ?_ (fun _ => ?_))
      | exact ih0 _ _ _ _ _
      | exact ih1 _ _ _ _ _
      | exact ih2 _ _ _ _ _ _
      | exact impl_TermsCut.mono _ _ _
      | exact impl_TermsMeet.mono _ _ _ _ _
      | exact spec_DrawTermsMeet.mono _ _
      | exact spec_TermsMeet.mono _ _ _ _ _
      | exact LeO.none _
      | refine LeO.ite ?_ ?_
      | refine LeO.bind ?_ (fun _ => ?_)
    · intro y0 y1 y2 y3 y4 y5
      unfold laws_FnMeetCut.j2
      repeat' first
      | (with_reducible exact ih0 _ _ _ _ _)
      | (with_reducible exact ih1 _ _ _ _ _)
      | (with_reducible exact ih2 _ _ _ _ _ _)
      | (with_reducible exact impl_TermsCut.mono _ _ _)
      | (with_reducible exact impl_TermsMeet.mono _ _ _ _ _)
      | (with_reducible exact spec_DrawTermsMeet.mono _ _)
      | (with_reducible exact spec_TermsMeet.mono _ _ _ _ _)
      | (with_reducible exact LeO.refl _)
      | (with_reducible exact LeO.none _)
      | (with_reducible refine LeO.ite ?_ ?_)
      | (with_reducible refine LeO.bind ?_ (fun _ => ?_))
      | exact ih0 _ _ _ _ _
      | exact ih1 _ _ _ _ _
      | exact ih2 _ _ _ _ _ _
      | exact impl_TermsCut.mono _ _ _
      | exact impl_TermsMeet.mono _ _ _ _ _
      | exact spec_DrawTermsMeet.mono _ _
      | exact spec_TermsMeet.mono _ _ _ _ _
      | exact LeO.none _
      | refine LeO.ite ?_ ?_
      | refine LeO.bind ?_ (fun _ => ?_)
theorem laws_FnMeetCut.mono : ∀ a0 k, LeO (laws_FnMeetCut.f k a0) (laws_FnMeetCut.f (k + 1) a0) := by
  intro a0 k
  obtain ⟨ih0, ih1, ih2⟩ := laws_FnMeetCut.mono_l k
  unfold laws_FnMeetCut.f
  repeat' first
      | (with_reducible exact ih0 _ _ _ _ _)
      | (with_reducible exact ih1 _ _ _ _ _)
      | (with_reducible exact ih2 _ _ _ _ _ _)
      | (with_reducible exact impl_TermsCut.mono _ _ _)
      | (with_reducible exact impl_TermsMeet.mono _ _ _ _ _)
      | (with_reducible exact spec_DrawTermsMeet.mono _ _)
      | (with_reducible exact spec_TermsMeet.mono _ _ _ _ _)
      | (with_reducible exact LeO.refl _)
      | (with_reducible exact LeO.none _)
      | (with_reducible refine LeO.ite ?_ ?_)
      | (with_reducible refine LeO.bind ?_ (fun _ => ?_))
      | exact ih0 _ _ _ _ _
      | exact ih1 _ _ _ _ _
      | exact ih2 _ _ _ _ _ _
      | exact impl_TermsCut.mono _ _ _
      | exact impl_TermsMeet.mono _ _ _ _ _
      | exact spec_DrawTermsMeet.mono _ _
      | exact spec_TermsMeet.mono _ _ _ _ _
      | exact LeO.none _
      | refine LeO.ite ?_ ?_
      | refine LeO.bind ?_ (fun _ => ?_)
set_option maxHeartbeats 8000000 in
set_option maxRecDepth 100000 in
theorem laws_FnMeetCut.calls (k : Nat) (A0 : Option Addr) (c0 : Nat) (l0 : List Int) (r : Bool) (w : World) (hr0 : Kd.C (Kd.int .u8) w A0 l0.length l0) (hc0 : l0.length ≤ c0) (h : laws_FnMeetCut.f k l0 = some r) :
    Calls Try.prog 18 #[.slice A0 l0.length c0] w fun e w' => e = .returned (.bool r) ∧ Below w.heap.size w w' := by
  have hu37 := Try.underlying37
  have HR0 := Aside0.mk hr0
  have HC0 := Aside0.mk hc0
  clear hr0 hc0
  have HB := Aside0.mk (Below.refl w.heap.size w)
  have H : (if (l0.length : Int) > 1048576 then (some true) else ((spec_DrawTermsMeet.f k l0).bind fun bt524 => ((impl_TermsMeet.f k bt524.1 bt524.2.1 bt524.2.2.1 bt524.2.2.2).bind fun t532 => ((spec_TermsMeet.f k bt524.1 bt524.2.1 bt524.2.2.1 bt524.2.2.2).bind fun t533 => (if t532 = t533 then (laws_FnMeetCut.j0 k bt524.1 bt524.2.2.1 t532 t533 (decide (t533 < 1))) else (laws_FnMeetCut.j0 k bt524.1 bt524.2.2.1 t532 t533 true)))))) = some r := h
  clear h
  by_cases c2 : (l0.length : Int) > 1048576
  · rw [if_pos c2] at H
    have c2b0 : decide (1048576 < (l0.length : Int)) = true := decide_eq_true c2
    have c2b1 : decide (1048576 < l0.length) = true := decide_eq_true (by omega)
    clear c2
    obtain rfl := Option.some.inj H
    go_enter Try.func18, Try.ntmps18
    go_wp2
    repeat (go_quiet (fail); try go_wp2)
    go_ret
    exact ⟨by first | rfl | (simp [errW_none, errW_some] <;> rfl) | (simp [*, errW_none, errW_some] <;> rfl), by repeat (first | (with_reducible first | exact HB.out | apply below_alloc | apply pw_below_drewN | apply below_drew1) | exact HB.out)⟩
  · rw [if_neg c2] at H
    have c2b0 : decide (1048576 < (l0.length : Int)) = false := decide_eq_false c2
    have c2b1 : decide (1048576 < l0.length) = false := decide_eq_false (by omega)
    clear c2
    replace H := Option.bind_eq_some_iff.mp H
    obtain ⟨⟨t524, t525, t526, t527⟩, A30, H⟩ := H
    replace H : ((impl_TermsMeet.f k t524 t525 t526 t527).bind fun t532 => ((spec_TermsMeet.f k t524 t525 t526 t527).bind fun t533 => (if t532 = t533 then (laws_FnMeetCut.j0 k t524 t526 t532 t533 (decide (t533 < 1))) else (laws_FnMeetCut.j0 k t524 t526 t532 t533 true)))) = some r := H
    have A3 := Aside0.mk A30
    clear A30
    replace H := Option.bind_eq_some_iff.mp H
    obtain ⟨t532, A40, H⟩ := H
    replace H : ((spec_TermsMeet.f k t524 t525 t526 t527).bind fun t533 => (if t532 = t533 then (laws_FnMeetCut.j0 k t524 t526 t532 t533 (decide (t533 < 1))) else (laws_FnMeetCut.j0 k t524 t526 t532 t533 true))) = some r := H
    have A4 := Aside0.mk A40
    clear A40
    replace H := Option.bind_eq_some_iff.mp H
    obtain ⟨t533, A50, H⟩ := H
    replace H : (if t532 = t533 then (laws_FnMeetCut.j0 k t524 t526 t532 t533 (decide (t533 < 1))) else (laws_FnMeetCut.j0 k t524 t526 t532 t533 true)) = some r := H
    have A5 := Aside0.mk A50
    clear A50
    have HC6 := Aside0.mk H
    clear H
    go_enter Try.func18, Try.ntmps18
    go_upto_region 6 with (first | (go_at_call 40; (with_reducible refine (spec_DrawTermsMeet.calls k _ _ l0 t524 t525 t526 t527 _ ?side1 ?side2 A3.out).mono ?_); (case side1 => repeat (first | exact HR0.out | (with_reducible refine Kd.C_alloc ?_ _) | (with_reducible refine Kd.C_drewN ?_ _) | (with_reducible refine Kd.C_drew ?_))); (case side2 => exact HC0.out); rintro e w7 ⟨v528, v530, rfl, ho0, ho1, hb⟩; have n0_ := Aside0.mk (Kd.R_lower ho0 (below_size (by repeat (first | (with_reducible first | exact HB.out | apply below_alloc | apply pw_below_drewN | apply below_drew1) | exact HB.out)))); have n1_ := Aside0.mk (Kd.R_lower ho1 (below_size (by repeat (first | (with_reducible first | exact HB.out | apply below_alloc | apply pw_below_drewN | apply below_drew1) | exact HB.out)))); have n2_ := Aside0.mk (below_step (by repeat (first | (with_reducible first | exact HB.out | apply below_alloc | apply pw_below_drewN | apply below_drew1) | exact HB.out)) hb); clear HB; have HO529 := n0_; have HO531 := n1_; have HB := n2_; clear n0_ n1_ n2_; (try clear hb); (try clear hb2); (try clear hk); (try clear hi); (try clear ho0); (try clear ho1); obtain ⟨Ao8, co8, eo8⟩ := Kd.R_slice HO529.out; subst eo8; obtain ⟨Ao9, co9, eo9⟩ := Kd.R_slice HO531.out; subst eo9) | (go_at_call 39; (with_reducible refine (impl_TermsMeet.calls k _ _ t524 t525 _ _ t526 t527 t532 _ ?side1 ?side2 ?side3 ?side4 A4.out).mono ?_); (case side1 => repeat (first | exact (Kd.R_reads' HO529.out).2.2 | (with_reducible refine Kd.C_alloc ?_ _) | (with_reducible refine Kd.C_drewN ?_ _) | (with_reducible refine Kd.C_drew ?_))); (case side2 => exact (Kd.R_reads' HO529.out).2.1); (case side3 => repeat (first | exact (Kd.R_reads' HO531.out).2.2 | (with_reducible refine Kd.C_alloc ?_ _) | (with_reducible refine Kd.C_drewN ?_ _) | (with_reducible refine Kd.C_drew ?_))); (case side4 => exact (Kd.R_reads' HO531.out).2.1); rintro e w10 ⟨rfl, hb⟩; have n0_ := Aside0.mk (Kd.R_below (by (with_reducible repeat (first | apply Kd.R_alloc | apply Kd.R_drewN | apply Kd.R_drew)); exact HO529.out) hb); have n1_ := Aside0.mk (Kd.R_below (by (with_reducible repeat (first | apply Kd.R_alloc | apply Kd.R_drewN | apply Kd.R_drew)); exact HO531.out) hb); have n2_ := Aside0.mk (below_step (by repeat (first | (with_reducible first | exact HB.out | apply below_alloc | apply pw_below_drewN | apply below_drew1) | exact HB.out)) hb); clear HO529; clear HO531; clear HB; have HO529 := n0_; have HO531 := n1_; have HB := n2_; clear n0_ n1_ n2_; (try clear hb); (try clear hb2); (try clear hk); (try clear hi)) | (go_at_call 38; (with_reducible refine (spec_TermsMeet.calls k _ _ t524 t525 _ _ t526 t527 t533 _ ?side1 ?side2 ?side3 ?side4 A5.out).mono ?_); (case side1 => repeat (first | exact (Kd.R_reads' HO529.out).2.2 | (with_reducible refine Kd.C_alloc ?_ _) | (with_reducible refine Kd.C_drewN ?_ _) | (with_reducible refine Kd.C_drew ?_))); (case side2 => exact (Kd.R_reads' HO529.out).2.1); (case side3 => repeat (first | exact (Kd.R_reads' HO531.out).2.2 | (with_reducible refine Kd.C_alloc ?_ _) | (with_reducible refine Kd.C_drewN ?_ _) | (with_reducible refine Kd.C_drew ?_))); (case side4 => exact (Kd.R_reads' HO531.out).2.1); rintro e w11 ⟨rfl, hb⟩; have n0_ := Aside0.mk (Kd.R_below (by (with_reducible repeat (first | apply Kd.R_alloc | apply Kd.R_drewN | apply Kd.R_drew)); exact HO529.out) hb); have n1_ := Aside0.mk (Kd.R_below (by (with_reducible repeat (first | apply Kd.R_alloc | apply Kd.R_drewN | apply Kd.R_drew)); exact HO531.out) hb); have n2_ := Aside0.mk (below_step (by repeat (first | (with_reducible first | exact HB.out | apply below_alloc | apply pw_below_drewN | apply below_drew1) | exact HB.out)) hb); clear HO529; clear HO531; clear HB; have HO529 := n0_; have HO531 := n1_; have HB := n2_; clear n0_ n1_ n2_; (try clear hb); (try clear hb2); (try clear hk); (try clear hi)))
    repeat (go_quiet (first | (go_at_call 40; (with_reducible refine (spec_DrawTermsMeet.calls k _ _ l0 t524 t525 t526 t527 _ ?side1 ?side2 A3.out).mono ?_); (case side1 => repeat (first | exact HR0.out | (with_reducible refine Kd.C_alloc ?_ _) | (with_reducible refine Kd.C_drewN ?_ _) | (with_reducible refine Kd.C_drew ?_))); (case side2 => exact HC0.out); rintro e w7 ⟨v528, v530, rfl, ho0, ho1, hb⟩; have n0_ := Aside0.mk (Kd.R_lower ho0 (below_size (by repeat (first | (with_reducible first | exact HB.out | apply below_alloc | apply pw_below_drewN | apply below_drew1) | exact HB.out)))); have n1_ := Aside0.mk (Kd.R_lower ho1 (below_size (by repeat (first | (with_reducible first | exact HB.out | apply below_alloc | apply pw_below_drewN | apply below_drew1) | exact HB.out)))); have n2_ := Aside0.mk (below_step (by repeat (first | (with_reducible first | exact HB.out | apply below_alloc | apply pw_below_drewN | apply below_drew1) | exact HB.out)) hb); clear HB; have HO529 := n0_; have HO531 := n1_; have HB := n2_; clear n0_ n1_ n2_; (try clear hb); (try clear hb2); (try clear hk); (try clear hi); (try clear ho0); (try clear ho1); obtain ⟨Ao8, co8, eo8⟩ := Kd.R_slice HO529.out; subst eo8; obtain ⟨Ao9, co9, eo9⟩ := Kd.R_slice HO531.out; subst eo9) | (go_at_call 39; (with_reducible refine (impl_TermsMeet.calls k _ _ t524 t525 _ _ t526 t527 t532 _ ?side1 ?side2 ?side3 ?side4 A4.out).mono ?_); (case side1 => repeat (first | exact (Kd.R_reads' HO529.out).2.2 | (with_reducible refine Kd.C_alloc ?_ _) | (with_reducible refine Kd.C_drewN ?_ _) | (with_reducible refine Kd.C_drew ?_))); (case side2 => exact (Kd.R_reads' HO529.out).2.1); (case side3 => repeat (first | exact (Kd.R_reads' HO531.out).2.2 | (with_reducible refine Kd.C_alloc ?_ _) | (with_reducible refine Kd.C_drewN ?_ _) | (with_reducible refine Kd.C_drew ?_))); (case side4 => exact (Kd.R_reads' HO531.out).2.1); rintro e w10 ⟨rfl, hb⟩; have n0_ := Aside0.mk (Kd.R_below (by (with_reducible repeat (first | apply Kd.R_alloc | apply Kd.R_drewN | apply Kd.R_drew)); exact HO529.out) hb); have n1_ := Aside0.mk (Kd.R_below (by (with_reducible repeat (first | apply Kd.R_alloc | apply Kd.R_drewN | apply Kd.R_drew)); exact HO531.out) hb); have n2_ := Aside0.mk (below_step (by repeat (first | (with_reducible first | exact HB.out | apply below_alloc | apply pw_below_drewN | apply below_drew1) | exact HB.out)) hb); clear HO529; clear HO531; clear HB; have HO529 := n0_; have HO531 := n1_; have HB := n2_; clear n0_ n1_ n2_; (try clear hb); (try clear hb2); (try clear hk); (try clear hi)) | (go_at_call 38; (with_reducible refine (spec_TermsMeet.calls k _ _ t524 t525 _ _ t526 t527 t533 _ ?side1 ?side2 ?side3 ?side4 A5.out).mono ?_); (case side1 => repeat (first | exact (Kd.R_reads' HO529.out).2.2 | (with_reducible refine Kd.C_alloc ?_ _) | (with_reducible refine Kd.C_drewN ?_ _) | (with_reducible refine Kd.C_drew ?_))); (case side2 => exact (Kd.R_reads' HO529.out).2.1); (case side3 => repeat (first | exact (Kd.R_reads' HO531.out).2.2 | (with_reducible refine Kd.C_alloc ?_ _) | (with_reducible refine Kd.C_drewN ?_ _) | (with_reducible refine Kd.C_drew ?_))); (case side4 => exact (Kd.R_reads' HO531.out).2.1); rintro e w11 ⟨rfl, hb⟩; have n0_ := Aside0.mk (Kd.R_below (by (with_reducible repeat (first | apply Kd.R_alloc | apply Kd.R_drewN | apply Kd.R_drew)); exact HO529.out) hb); have n1_ := Aside0.mk (Kd.R_below (by (with_reducible repeat (first | apply Kd.R_alloc | apply Kd.R_drewN | apply Kd.R_drew)); exact HO531.out) hb); have n2_ := Aside0.mk (below_step (by repeat (first | (with_reducible first | exact HB.out | apply below_alloc | apply pw_below_drewN | apply below_drew1) | exact HB.out)) hb); clear HO529; clear HO531; clear HB; have HO529 := n0_; have HO531 := n1_; have HB := n2_; clear n0_ n1_ n2_; (try clear hb); (try clear hb2); (try clear hk); (try clear hi))); go_upto_region 6 with (first | (go_at_call 40; (with_reducible refine (spec_DrawTermsMeet.calls k _ _ l0 t524 t525 t526 t527 _ ?side1 ?side2 A3.out).mono ?_); (case side1 => repeat (first | exact HR0.out | (with_reducible refine Kd.C_alloc ?_ _) | (with_reducible refine Kd.C_drewN ?_ _) | (with_reducible refine Kd.C_drew ?_))); (case side2 => exact HC0.out); rintro e w7 ⟨v528, v530, rfl, ho0, ho1, hb⟩; have n0_ := Aside0.mk (Kd.R_lower ho0 (below_size (by repeat (first | (with_reducible first | exact HB.out | apply below_alloc | apply pw_below_drewN | apply below_drew1) | exact HB.out)))); have n1_ := Aside0.mk (Kd.R_lower ho1 (below_size (by repeat (first | (with_reducible first | exact HB.out | apply below_alloc | apply pw_below_drewN | apply below_drew1) | exact HB.out)))); have n2_ := Aside0.mk (below_step (by repeat (first | (with_reducible first | exact HB.out | apply below_alloc | apply pw_below_drewN | apply below_drew1) | exact HB.out)) hb); clear HB; have HO529 := n0_; have HO531 := n1_; have HB := n2_; clear n0_ n1_ n2_; (try clear hb); (try clear hb2); (try clear hk); (try clear hi); (try clear ho0); (try clear ho1); obtain ⟨Ao8, co8, eo8⟩ := Kd.R_slice HO529.out; subst eo8; obtain ⟨Ao9, co9, eo9⟩ := Kd.R_slice HO531.out; subst eo9) | (go_at_call 39; (with_reducible refine (impl_TermsMeet.calls k _ _ t524 t525 _ _ t526 t527 t532 _ ?side1 ?side2 ?side3 ?side4 A4.out).mono ?_); (case side1 => repeat (first | exact (Kd.R_reads' HO529.out).2.2 | (with_reducible refine Kd.C_alloc ?_ _) | (with_reducible refine Kd.C_drewN ?_ _) | (with_reducible refine Kd.C_drew ?_))); (case side2 => exact (Kd.R_reads' HO529.out).2.1); (case side3 => repeat (first | exact (Kd.R_reads' HO531.out).2.2 | (with_reducible refine Kd.C_alloc ?_ _) | (with_reducible refine Kd.C_drewN ?_ _) | (with_reducible refine Kd.C_drew ?_))); (case side4 => exact (Kd.R_reads' HO531.out).2.1); rintro e w10 ⟨rfl, hb⟩; have n0_ := Aside0.mk (Kd.R_below (by (with_reducible repeat (first | apply Kd.R_alloc | apply Kd.R_drewN | apply Kd.R_drew)); exact HO529.out) hb); have n1_ := Aside0.mk (Kd.R_below (by (with_reducible repeat (first | apply Kd.R_alloc | apply Kd.R_drewN | apply Kd.R_drew)); exact HO531.out) hb); have n2_ := Aside0.mk (below_step (by repeat (first | (with_reducible first | exact HB.out | apply below_alloc | apply pw_below_drewN | apply below_drew1) | exact HB.out)) hb); clear HO529; clear HO531; clear HB; have HO529 := n0_; have HO531 := n1_; have HB := n2_; clear n0_ n1_ n2_; (try clear hb); (try clear hb2); (try clear hk); (try clear hi)) | (go_at_call 38; (with_reducible refine (spec_TermsMeet.calls k _ _ t524 t525 _ _ t526 t527 t533 _ ?side1 ?side2 ?side3 ?side4 A5.out).mono ?_); (case side1 => repeat (first | exact (Kd.R_reads' HO529.out).2.2 | (with_reducible refine Kd.C_alloc ?_ _) | (with_reducible refine Kd.C_drewN ?_ _) | (with_reducible refine Kd.C_drew ?_))); (case side2 => exact (Kd.R_reads' HO529.out).2.1); (case side3 => repeat (first | exact (Kd.R_reads' HO531.out).2.2 | (with_reducible refine Kd.C_alloc ?_ _) | (with_reducible refine Kd.C_drewN ?_ _) | (with_reducible refine Kd.C_drew ?_))); (case side4 => exact (Kd.R_reads' HO531.out).2.1); rintro e w11 ⟨rfl, hb⟩; have n0_ := Aside0.mk (Kd.R_below (by (with_reducible repeat (first | apply Kd.R_alloc | apply Kd.R_drewN | apply Kd.R_drew)); exact HO529.out) hb); have n1_ := Aside0.mk (Kd.R_below (by (with_reducible repeat (first | apply Kd.R_alloc | apply Kd.R_drewN | apply Kd.R_drew)); exact HO531.out) hb); have n2_ := Aside0.mk (below_step (by repeat (first | (with_reducible first | exact HB.out | apply below_alloc | apply pw_below_drewN | apply below_drew1) | exact HB.out)) hb); clear HO529; clear HO531; clear HB; have HO529 := n0_; have HO531 := n1_; have HB := n2_; clear n0_ n1_ n2_; (try clear hb); (try clear hb2); (try clear hk); (try clear hi))))
    (try simp only [Act.put, List.setIfInBounds_toArray, List.set_cons_zero, List.set_cons_succ])
    go_cut [40] (fun v40 wc => ∃ (kq : Nat) (x40_5 : Bool), v40 = .bool x40_5 ∧ Aside0 (laws_FnMeetCut.j0 kq t524 t526 t532 t533 x40_5 = some r) ∧ Aside0 (kq ≤ k) ∧ Aside0 (Kd.R k37 37 wc w.heap.size (fun k_ => some k_ ≠ ((.slice Ao9 t526.length co9) : Value).ownBlock) (.slice Ao8 t524.length co8) t524) ∧ Aside0 (Kd.R k37 37 wc w.heap.size (fun k_ => some k_ ≠ ((.slice Ao8 t524.length co8) : Value).ownBlock) (.slice Ao9 t526.length co9) t526) ∧ Aside0 (Below w.heap.size w wc))
    case first =>
      have H := HC6.out
      clear HC6
      by_cases c12 : t532 = t533
      · rw [if_pos c12] at H
        have c12b0 : (t532 == t533) = true := beq_iff_eq.mpr c12
        have c12b1 : (t532 != t533) = false := bne_eq_false_iff_eq.mpr c12
        clear c12
        (first | rw [c12b0] | (simp only [i64_w, i32_w]; rw [c12b0]) | skip)
        have H' := Aside0.mk H
        clear H
        go_wp2
        repeat (go_quiet (fail); try go_wp2)
        go_meet
        case rel => exact ⟨_, (decide (t533 < 1)), (by first | rfl | (simp; done) | (simp [*]; done)), H', ⟨by first | omega | exact Nat.le_refl _⟩, ⟨by (with_reducible repeat (first | apply Kd.R_alloc | apply Kd.R_drewN | apply Kd.R_drew)); exact HO529.out⟩, ⟨by (with_reducible repeat (first | apply Kd.R_alloc | apply Kd.R_drewN | apply Kd.R_drew)); exact HO531.out⟩, ⟨by repeat (first | (with_reducible first | exact HB.out | apply below_alloc | apply pw_below_drewN | apply below_drew1) | exact HB.out)⟩⟩
      · rw [if_neg c12] at H
        have c12b0 : (t532 == t533) = false := beq_eq_false_iff_ne.mpr c12
        have c12b1 : (t532 != t533) = true := bne_iff_ne.mpr c12
        (first | rw [c12b0] | (simp only [i64_w, i32_w]; rw [c12b0]) | skip)
        have H' := Aside0.mk H
        clear H
        go_wp2
        repeat (go_quiet (fail); try go_wp2)
        go_meet
        case rel => exact ⟨_, (true), (by first | rfl | (simp; done) | (simp [*]; done)), H', ⟨by first | omega | exact Nat.le_refl _⟩, ⟨by (with_reducible repeat (first | apply Kd.R_alloc | apply Kd.R_drewN | apply Kd.R_drew)); exact HO529.out⟩, ⟨by (with_reducible repeat (first | apply Kd.R_alloc | apply Kd.R_drewN | apply Kd.R_drew)); exact HO531.out⟩, ⟨by repeat (first | (with_reducible first | exact HB.out | apply below_alloc | apply pw_below_drewN | apply below_drew1) | exact HB.out)⟩⟩
    case rest =>
      clear HC6
      try clear c1
      try clear c2
      try clear c2b0
      try clear c2b1
      try clear p2
      try clear c12
      try clear c12b0
      try clear c12b1
      obtain ⟨kq, x40_5, rfl, HA, HJ5, HO_3, HO_5, HB⟩ := hcut
      cases kq with
      | zero => exact absurd HA.out (by simp [laws_FnMeetCut.j0])
      | succ kj5 =>
        have H := HA.out
        clear HA
        simp only [laws_FnMeetCut.j0] at H
        by_cases c13 : x40_5 = true
        · subst c13
          have H1 : (some (t532 == t533)) = some r := by rw [if_pos rfl] at H; exact H
          clear H
          have H := H1
          clear H1
          obtain rfl := Option.some.inj H
          go_wp2
          repeat (go_quiet (fail); try go_wp2)
          go_ret
          exact ⟨by first | rfl | (simp [errW_none, errW_some] <;> rfl) | (simp [*, errW_none, errW_some] <;> rfl), by repeat (first | (with_reducible first | exact HB.out | apply below_alloc | apply pw_below_drewN | apply below_drew1) | exact HB.out)⟩
        · replace c13 := Bool.eq_false_iff.mpr c13
          subst c13
          have H1 : ((impl_TermsCut.f kj5 t524 t532).bind fun bt534 => ((impl_TermsCut.f kj5 t526 t532).bind fun bt538 => (laws_FnMeetCut.l0 kj5 bt534.1 bt534.2 bt538.1 bt538.2 0))) = some r := by rw [if_neg (show ¬ (false = true) by decide)] at H; exact H
          clear H
          have H := H1
          clear H1
          replace H := Option.bind_eq_some_iff.mp H
          obtain ⟨⟨t534, t535⟩, A140, H⟩ := H
          replace H : ((impl_TermsCut.f kj5 t526 t532).bind fun bt538 => (laws_FnMeetCut.l0 kj5 t534 t535 bt538.1 bt538.2 0)) = some r := H
          have A14 := Aside0.mk A140
          clear A140
          replace H := Option.bind_eq_some_iff.mp H
          obtain ⟨⟨t538, t539⟩, A150, H⟩ := H
          replace H : (laws_FnMeetCut.l0 kj5 t534 t535 t538 t539 0) = some r := H
          have A15 := Aside0.mk A150
          clear A150
          have H' := Aside0.mk H
          clear H
          go_wp2_with (first | (go_at_call 26; (with_reducible refine (impl_TermsCut.calls kj5 _ _ t524 t532 t534 t535 _ ?side1 ?side2 A14.out).mono ?_); (case side1 => repeat (first | exact (Kd.R_reads' HO_3.out).2.2 | (with_reducible refine Kd.C_alloc ?_ _) | (with_reducible refine Kd.C_drewN ?_ _) | (with_reducible refine Kd.C_drew ?_))); (case side2 => exact (Kd.R_reads' HO_3.out).2.1); rintro e w16 ⟨v536, rfl, ho0, hb⟩; have n0_ := Aside0.mk (Kd.R_elder' (by (with_reducible repeat (first | apply Kd.R_alloc | apply Kd.R_drewN | apply Kd.R_drew)); exact HO_3.out) (Kd.R_base ho0) hb); have n1_ := Aside0.mk (Kd.R_elder' (by (with_reducible repeat (first | apply Kd.R_alloc | apply Kd.R_drewN | apply Kd.R_drew)); exact HO_5.out) (Kd.R_base ho0) hb); have n2_ := Aside0.mk (Kd.R_lower (Kd.R_new' (Kd.R_new' ho0 (Kd.R_lt (by (with_reducible repeat (first | apply Kd.R_alloc | apply Kd.R_drewN | apply Kd.R_drew)); exact HO_3.out))) (Kd.R_lt (by (with_reducible repeat (first | apply Kd.R_alloc | apply Kd.R_drewN | apply Kd.R_drew)); exact HO_5.out))) (below_size (by repeat (first | (with_reducible first | exact HB.out | apply below_alloc | apply pw_below_drewN | apply below_drew1) | exact HB.out)))); have n3_ := Aside0.mk (below_step (by repeat (first | (with_reducible first | exact HB.out | apply below_alloc | apply pw_below_drewN | apply below_drew1) | exact HB.out)) hb); clear HO_3; clear HO_5; clear HB; have HO_3 := n0_; have HO_5 := n1_; have HO537 := n2_; have HB := n3_; clear n0_ n1_ n2_ n3_; (try clear hb); (try clear hb2); (try clear hk); (try clear hi); (try clear ho0)) | (go_at_call 26; (with_reducible refine (impl_TermsCut.calls kj5 _ _ t526 t532 t538 t539 _ ?side1 ?side2 A15.out).mono ?_); (case side1 => repeat (first | exact (Kd.R_reads' HO_5.out).2.2 | (with_reducible refine Kd.C_alloc ?_ _) | (with_reducible refine Kd.C_drewN ?_ _) | (with_reducible refine Kd.C_drew ?_))); (case side2 => exact (Kd.R_reads' HO_5.out).2.1); rintro e w17 ⟨v540, rfl, ho0, hb⟩; have n0_ := Aside0.mk (Kd.R_elder' (by (with_reducible repeat (first | apply Kd.R_alloc | apply Kd.R_drewN | apply Kd.R_drew)); exact HO_3.out) (Kd.R_base ho0) hb); have n1_ := Aside0.mk (Kd.R_elder' (by (with_reducible repeat (first | apply Kd.R_alloc | apply Kd.R_drewN | apply Kd.R_drew)); exact HO_5.out) (Kd.R_base ho0) hb); have n2_ := Aside0.mk (Kd.R_elder' (by (with_reducible repeat (first | apply Kd.R_alloc | apply Kd.R_drewN | apply Kd.R_drew)); exact HO537.out) (Kd.R_base ho0) hb); have n3_ := Aside0.mk (Kd.R_lower (Kd.R_new' (Kd.R_new' (Kd.R_new' ho0 (Kd.R_lt (by (with_reducible repeat (first | apply Kd.R_alloc | apply Kd.R_drewN | apply Kd.R_drew)); exact HO_3.out))) (Kd.R_lt (by (with_reducible repeat (first | apply Kd.R_alloc | apply Kd.R_drewN | apply Kd.R_drew)); exact HO_5.out))) (Kd.R_lt (by (with_reducible repeat (first | apply Kd.R_alloc | apply Kd.R_drewN | apply Kd.R_drew)); exact HO537.out))) (below_size (by repeat (first | (with_reducible first | exact HB.out | apply below_alloc | apply pw_below_drewN | apply below_drew1) | exact HB.out)))); have n4_ := Aside0.mk (below_step (by repeat (first | (with_reducible first | exact HB.out | apply below_alloc | apply pw_below_drewN | apply below_drew1) | exact HB.out)) hb); clear HO_3; clear HO_5; clear HO537; clear HB; have HO_3 := n0_; have HO_5 := n1_; have HO537 := n2_; have HO541 := n3_; have HB := n4_; clear n0_ n1_ n2_ n3_ n4_; (try clear hb); (try clear hb2); (try clear hk); (try clear hi); (try clear ho0)))
          repeat (go_quiet (first | (go_at_call 26; (with_reducible refine (impl_TermsCut.calls kj5 _ _ t524 t532 t534 t535 _ ?side1 ?side2 A14.out).mono ?_); (case side1 => repeat (first | exact (Kd.R_reads' HO_3.out).2.2 | (with_reducible refine Kd.C_alloc ?_ _) | (with_reducible refine Kd.C_drewN ?_ _) | (with_reducible refine Kd.C_drew ?_))); (case side2 => exact (Kd.R_reads' HO_3.out).2.1); rintro e w16 ⟨v536, rfl, ho0, hb⟩; have n0_ := Aside0.mk (Kd.R_elder' (by (with_reducible repeat (first | apply Kd.R_alloc | apply Kd.R_drewN | apply Kd.R_drew)); exact HO_3.out) (Kd.R_base ho0) hb); have n1_ := Aside0.mk (Kd.R_elder' (by (with_reducible repeat (first | apply Kd.R_alloc | apply Kd.R_drewN | apply Kd.R_drew)); exact HO_5.out) (Kd.R_base ho0) hb); have n2_ := Aside0.mk (Kd.R_lower (Kd.R_new' (Kd.R_new' ho0 (Kd.R_lt (by (with_reducible repeat (first | apply Kd.R_alloc | apply Kd.R_drewN | apply Kd.R_drew)); exact HO_3.out))) (Kd.R_lt (by (with_reducible repeat (first | apply Kd.R_alloc | apply Kd.R_drewN | apply Kd.R_drew)); exact HO_5.out))) (below_size (by repeat (first | (with_reducible first | exact HB.out | apply below_alloc | apply pw_below_drewN | apply below_drew1) | exact HB.out)))); have n3_ := Aside0.mk (below_step (by repeat (first | (with_reducible first | exact HB.out | apply below_alloc | apply pw_below_drewN | apply below_drew1) | exact HB.out)) hb); clear HO_3; clear HO_5; clear HB; have HO_3 := n0_; have HO_5 := n1_; have HO537 := n2_; have HB := n3_; clear n0_ n1_ n2_ n3_; (try clear hb); (try clear hb2); (try clear hk); (try clear hi); (try clear ho0)) | (go_at_call 26; (with_reducible refine (impl_TermsCut.calls kj5 _ _ t526 t532 t538 t539 _ ?side1 ?side2 A15.out).mono ?_); (case side1 => repeat (first | exact (Kd.R_reads' HO_5.out).2.2 | (with_reducible refine Kd.C_alloc ?_ _) | (with_reducible refine Kd.C_drewN ?_ _) | (with_reducible refine Kd.C_drew ?_))); (case side2 => exact (Kd.R_reads' HO_5.out).2.1); rintro e w17 ⟨v540, rfl, ho0, hb⟩; have n0_ := Aside0.mk (Kd.R_elder' (by (with_reducible repeat (first | apply Kd.R_alloc | apply Kd.R_drewN | apply Kd.R_drew)); exact HO_3.out) (Kd.R_base ho0) hb); have n1_ := Aside0.mk (Kd.R_elder' (by (with_reducible repeat (first | apply Kd.R_alloc | apply Kd.R_drewN | apply Kd.R_drew)); exact HO_5.out) (Kd.R_base ho0) hb); have n2_ := Aside0.mk (Kd.R_elder' (by (with_reducible repeat (first | apply Kd.R_alloc | apply Kd.R_drewN | apply Kd.R_drew)); exact HO537.out) (Kd.R_base ho0) hb); have n3_ := Aside0.mk (Kd.R_lower (Kd.R_new' (Kd.R_new' (Kd.R_new' ho0 (Kd.R_lt (by (with_reducible repeat (first | apply Kd.R_alloc | apply Kd.R_drewN | apply Kd.R_drew)); exact HO_3.out))) (Kd.R_lt (by (with_reducible repeat (first | apply Kd.R_alloc | apply Kd.R_drewN | apply Kd.R_drew)); exact HO_5.out))) (Kd.R_lt (by (with_reducible repeat (first | apply Kd.R_alloc | apply Kd.R_drewN | apply Kd.R_drew)); exact HO537.out))) (below_size (by repeat (first | (with_reducible first | exact HB.out | apply below_alloc | apply pw_below_drewN | apply below_drew1) | exact HB.out)))); have n4_ := Aside0.mk (below_step (by repeat (first | (with_reducible first | exact HB.out | apply below_alloc | apply pw_below_drewN | apply below_drew1) | exact HB.out)) hb); clear HO_3; clear HO_5; clear HO537; clear HB; have HO_3 := n0_; have HO_5 := n1_; have HO537 := n2_; have HO541 := n3_; have HB := n4_; clear n0_ n1_ n2_ n3_ n4_; (try clear hb); (try clear hb2); (try clear hk); (try clear hi); (try clear ho0))); try go_wp2_with (first | (go_at_call 26; (with_reducible refine (impl_TermsCut.calls kj5 _ _ t524 t532 t534 t535 _ ?side1 ?side2 A14.out).mono ?_); (case side1 => repeat (first | exact (Kd.R_reads' HO_3.out).2.2 | (with_reducible refine Kd.C_alloc ?_ _) | (with_reducible refine Kd.C_drewN ?_ _) | (with_reducible refine Kd.C_drew ?_))); (case side2 => exact (Kd.R_reads' HO_3.out).2.1); rintro e w16 ⟨v536, rfl, ho0, hb⟩; have n0_ := Aside0.mk (Kd.R_elder' (by (with_reducible repeat (first | apply Kd.R_alloc | apply Kd.R_drewN | apply Kd.R_drew)); exact HO_3.out) (Kd.R_base ho0) hb); have n1_ := Aside0.mk (Kd.R_elder' (by (with_reducible repeat (first | apply Kd.R_alloc | apply Kd.R_drewN | apply Kd.R_drew)); exact HO_5.out) (Kd.R_base ho0) hb); have n2_ := Aside0.mk (Kd.R_lower (Kd.R_new' (Kd.R_new' ho0 (Kd.R_lt (by (with_reducible repeat (first | apply Kd.R_alloc | apply Kd.R_drewN | apply Kd.R_drew)); exact HO_3.out))) (Kd.R_lt (by (with_reducible repeat (first | apply Kd.R_alloc | apply Kd.R_drewN | apply Kd.R_drew)); exact HO_5.out))) (below_size (by repeat (first | (with_reducible first | exact HB.out | apply below_alloc | apply pw_below_drewN | apply below_drew1) | exact HB.out)))); have n3_ := Aside0.mk (below_step (by repeat (first | (with_reducible first | exact HB.out | apply below_alloc | apply pw_below_drewN | apply below_drew1) | exact HB.out)) hb); clear HO_3; clear HO_5; clear HB; have HO_3 := n0_; have HO_5 := n1_; have HO537 := n2_; have HB := n3_; clear n0_ n1_ n2_ n3_; (try clear hb); (try clear hb2); (try clear hk); (try clear hi); (try clear ho0)) | (go_at_call 26; (with_reducible refine (impl_TermsCut.calls kj5 _ _ t526 t532 t538 t539 _ ?side1 ?side2 A15.out).mono ?_); (case side1 => repeat (first | exact (Kd.R_reads' HO_5.out).2.2 | (with_reducible refine Kd.C_alloc ?_ _) | (with_reducible refine Kd.C_drewN ?_ _) | (with_reducible refine Kd.C_drew ?_))); (case side2 => exact (Kd.R_reads' HO_5.out).2.1); rintro e w17 ⟨v540, rfl, ho0, hb⟩; have n0_ := Aside0.mk (Kd.R_elder' (by (with_reducible repeat (first | apply Kd.R_alloc | apply Kd.R_drewN | apply Kd.R_drew)); exact HO_3.out) (Kd.R_base ho0) hb); have n1_ := Aside0.mk (Kd.R_elder' (by (with_reducible repeat (first | apply Kd.R_alloc | apply Kd.R_drewN | apply Kd.R_drew)); exact HO_5.out) (Kd.R_base ho0) hb); have n2_ := Aside0.mk (Kd.R_elder' (by (with_reducible repeat (first | apply Kd.R_alloc | apply Kd.R_drewN | apply Kd.R_drew)); exact HO537.out) (Kd.R_base ho0) hb); have n3_ := Aside0.mk (Kd.R_lower (Kd.R_new' (Kd.R_new' (Kd.R_new' ho0 (Kd.R_lt (by (with_reducible repeat (first | apply Kd.R_alloc | apply Kd.R_drewN | apply Kd.R_drew)); exact HO_3.out))) (Kd.R_lt (by (with_reducible repeat (first | apply Kd.R_alloc | apply Kd.R_drewN | apply Kd.R_drew)); exact HO_5.out))) (Kd.R_lt (by (with_reducible repeat (first | apply Kd.R_alloc | apply Kd.R_drewN | apply Kd.R_drew)); exact HO537.out))) (below_size (by repeat (first | (with_reducible first | exact HB.out | apply below_alloc | apply pw_below_drewN | apply below_drew1) | exact HB.out)))); have n4_ := Aside0.mk (below_step (by repeat (first | (with_reducible first | exact HB.out | apply below_alloc | apply pw_below_drewN | apply below_drew1) | exact HB.out)) hb); clear HO_3; clear HO_5; clear HO537; clear HB; have HO_3 := n0_; have HO_5 := n1_; have HO537 := n2_; have HO541 := n3_; have HB := n4_; clear n0_ n1_ n2_ n3_ n4_; (try clear hb); (try clear hb2); (try clear hk); (try clear hi); (try clear ho0))))
          go_loopg [13] kj5 (fun kq v13 w' => ∃ (x13_2 : Int), v13 = .int .i64 x13_2 ∧ Aside0 (laws_FnMeetCut.l0 kq t534 t535 t538 t539 x13_2 = some r) ∧ Aside0 (kq ≤ kj5) ∧ Aside0 (Kd.R k37 37 w' w.heap.size (fun k_ => some k_ ≠ (v540 : Value).ownBlock) v536 t534) ∧ Aside0 (Kd.R k37 37 w' w.heap.size (fun k_ => some k_ ≠ (v536 : Value).ownBlock) v540 t538) ∧ Aside0 (Below w.heap.size w w'))
          case atStart => exact ⟨(0), (by first | rfl | (simp; done) | (simp [*]; done)), H', ⟨Nat.le_refl _⟩, ⟨by (with_reducible repeat (first | apply Kd.R_alloc | apply Kd.R_drewN | apply Kd.R_drew)); exact Kd.R_mono HO537.out (fun _ hk => hk.2)⟩, ⟨by (with_reducible repeat (first | apply Kd.R_alloc | apply Kd.R_drewN | apply Kd.R_drew)); exact Kd.R_mono HO541.out (fun _ hk => hk.2)⟩, ⟨by repeat (first | (with_reducible first | exact HB.out | apply below_alloc | apply pw_below_drewN | apply below_drew1) | exact HB.out)⟩⟩
          case round =>
            clear H'
            try clear c1
            try clear c2
            try clear c2b0
            try clear c2b1
            try clear p2
            try clear c12
            try clear c12b0
            try clear c12b1
            try clear c13
            try clear p2
            obtain ⟨x13_2, rfl, HA, HK2, HO_9, HO_11, HB⟩ := hrel
            cases gk with
            | zero => exact absurd HA.out (by simp [laws_FnMeetCut.l0])
            | succ k2 =>
              have H := HA.out
              clear HA
              simp only [laws_FnMeetCut.l0] at H
              have HC18 := Aside0.mk H
              clear H
              go_upto_region 11 with (fail)
              repeat (go_quiet (fail); go_upto_region 11 with (fail))
              go_cut [65] (fun v65 wc => ∃ (kq : Nat) (x65_17 : Bool), v65 = .bool x65_17 ∧ Aside0 (laws_FnMeetCut.j2 kq t534 t535 t538 t539 x13_2 x65_17 = some r) ∧ Aside0 (kq ≤ k2) ∧ Aside0 (Kd.R k37 37 wc w.heap.size (fun k_ => some k_ ≠ (v540 : Value).ownBlock) v536 t534) ∧ Aside0 (Kd.R k37 37 wc w.heap.size (fun k_ => some k_ ≠ (v536 : Value).ownBlock) v540 t538) ∧ Aside0 (Below w.heap.size w wc))
              case first =>
                have H := HC18.out
                clear HC18
                by_cases c19 : x13_2 < (t534.length : Int)
                · rw [if_pos c19] at H
                  have c19b0 : decide (x13_2 < (t534.length : Int)) = true := decide_eq_true c19
                  clear c19
                  (first | rw [c19b0] | (simp only [i64_w, i32_w]; rw [c19b0]) | skip)
                  have H' := Aside0.mk H
                  clear H
                  obtain ⟨Ao20, co20, eo20⟩ := Kd.R_slice HO_9.out
                  subst eo20
                  obtain ⟨Ao21, co21, eo21⟩ := Kd.R_slice HO_11.out
                  subst eo21
                  go_wp2
                  repeat (go_quiet (fail); try go_wp2)
                  go_meet
                  case rel => exact ⟨_, (decide (x13_2 < (t538.length : Int))), (by first | rfl | (simp; done) | (simp [*]; done)), H', ⟨by have := HJ5.out; have := HK2.out; first | omega | exact Nat.le_refl _⟩, ⟨by (with_reducible repeat (first | apply Kd.R_alloc | apply Kd.R_drewN | apply Kd.R_drew)); exact HO_9.out⟩, ⟨by (with_reducible repeat (first | apply Kd.R_alloc | apply Kd.R_drewN | apply Kd.R_drew)); exact HO_11.out⟩, ⟨by repeat (first | (with_reducible first | exact HB.out | apply below_alloc | apply pw_below_drewN | apply below_drew1) | exact HB.out)⟩⟩
                · rw [if_neg c19] at H
                  have c19b0 : decide (x13_2 < (t534.length : Int)) = false := decide_eq_false c19
                  clear c19
                  (first | rw [c19b0] | (simp only [i64_w, i32_w]; rw [c19b0]) | skip)
                  have H' := Aside0.mk H
                  clear H
                  obtain ⟨Ao22, co22, eo22⟩ := Kd.R_slice HO_9.out
                  subst eo22
                  go_wp2
                  repeat (go_quiet (fail); try go_wp2)
                  go_meet
                  case rel => exact ⟨_, (false), (by first | rfl | (simp; done) | (simp [*]; done)), H', ⟨by have := HJ5.out; have := HK2.out; first | omega | exact Nat.le_refl _⟩, ⟨by (with_reducible repeat (first | apply Kd.R_alloc | apply Kd.R_drewN | apply Kd.R_drew)); exact HO_9.out⟩, ⟨by (with_reducible repeat (first | apply Kd.R_alloc | apply Kd.R_drewN | apply Kd.R_drew)); exact HO_11.out⟩, ⟨by repeat (first | (with_reducible first | exact HB.out | apply below_alloc | apply pw_below_drewN | apply below_drew1) | exact HB.out)⟩⟩
              case rest =>
                clear HC18
                try clear c1
                try clear c2
                try clear c2b0
                try clear c2b1
                try clear p2
                try clear c12
                try clear c12b0
                try clear c12b1
                try clear c13
                try clear c18
                try clear c19
                try clear c19b0
                try clear p2
                obtain ⟨kq, x65_17, rfl, HA, HJ17, HO_9, HO_11, HB⟩ := hcut
                cases kq with
                | zero => exact absurd HA.out (by simp [laws_FnMeetCut.j2])
                | succ kj17 =>
                  have H := HA.out
                  clear HA
                  simp only [laws_FnMeetCut.j2] at H
                  by_cases c23 : x65_17 = true
                  · subst c23
                    have H1 : (if 0 ≤ x13_2 then (if x13_2 < (t534.length : Int) then (if x13_2 < (t538.length : Int) then (if (!(((rd_T37 t534 x13_2).f0) == ((rd_T37 t538 x13_2).f0)) || (!(((rd_T37 t534 x13_2).f1) == ((rd_T37 t538 x13_2).f1)))) = true then (if t535 = true then (some t539) else (some false)) else (laws_FnMeetCut.l0 kj17 t534 t535 t538 t539 (wrap64 (x13_2 + 1)))) else (none)) else (none)) else (none)) = some r := by rw [if_pos rfl] at H; exact H
                    clear H
                    have H := H1
                    clear H1
                    by_cases c24 : 0 ≤ x13_2
                    · rw [if_pos c24] at H
                      have c24b0 : decide (0 ≤ x13_2) = true := decide_eq_true c24
                      clear c24
                      by_cases c25 : x13_2 < (t534.length : Int)
                      · rw [if_pos c25] at H
                        have c25b0 : decide (x13_2 < (t534.length : Int)) = true := decide_eq_true c25
                        clear c25
                        by_cases c26 : x13_2 < (t538.length : Int)
                        · rw [if_pos c26] at H
                          have c26b0 : decide (x13_2 < (t538.length : Int)) = true := decide_eq_true c26
                          clear c26
                          by_cases c27 : (!(((rd_T37 t534 x13_2).f0) == ((rd_T37 t538 x13_2).f0)) || (!(((rd_T37 t534 x13_2).f1) == ((rd_T37 t538 x13_2).f1)))) = true
                          · rw [if_pos c27] at H
                            have c27b0 : (!(((rd_T37 t534 x13_2).f0) == ((rd_T37 t538 x13_2).f0)) || (!(((rd_T37 t534 x13_2).f1) == ((rd_T37 t538 x13_2).f1)))) = true := c27
                            clear c27
                            by_cases c28 : t535 = true
                            · subst c28
                              have H1 : (some t539) = some r := by rw [if_pos rfl] at H; exact H
                              clear H
                              have H := H1
                              clear H1
                              obtain rfl := Option.some.inj H
                              obtain ⟨Ao29, co29, eo29⟩ := Kd.R_slice HO_9.out
                              subst eo29
                              have p542 : 0 ≤ (x13_2 : Int) := of_decide_eq_true (by first | (with_reducible assumption) | assumption)
                              have q542 : x13_2 < (t534.length : Int) := of_decide_eq_true (by first | (with_reducible assumption) | assumption)
                              obtain ⟨ad542, e542, hx542_0, hx542_1⟩ := at_T37 (Kd.R_reads' HO_9.out).2.2 x13_2 p542 q542
                              cases e542
                              replace p542 := eq_true p542
                              replace q542 := eq_true q542
                              obtain ⟨Ao30, co30, eo30⟩ := Kd.R_slice HO_11.out
                              subst eo30
                              have p543 : 0 ≤ (x13_2 : Int) := of_decide_eq_true (by first | (with_reducible assumption) | assumption)
                              have q543 : x13_2 < (t538.length : Int) := of_decide_eq_true (by first | (with_reducible assumption) | assumption)
                              obtain ⟨ad543, e543, hx543_0, hx543_1⟩ := at_T37 (Kd.R_reads' HO_11.out).2.2 x13_2 p543 q543
                              cases e543
                              replace p543 := eq_true p543
                              replace q543 := eq_true q543
                              go_wp2
                              repeat (go_quiet (fail); try go_wp2)
                              go_ret
                              exact ⟨by first | rfl | (simp [errW_none, errW_some] <;> rfl) | (simp [*, errW_none, errW_some] <;> rfl), by repeat (first | (with_reducible first | exact HB.out | apply below_alloc | apply pw_below_drewN | apply below_drew1) | exact HB.out)⟩
                            · replace c28 := Bool.eq_false_iff.mpr c28
                              subst c28
                              have H1 : (some false) = some r := by rw [if_neg (show ¬ (false = true) by decide)] at H; exact H
                              clear H
                              have H := H1
                              clear H1
                              obtain rfl := Option.some.inj H
                              obtain ⟨Ao31, co31, eo31⟩ := Kd.R_slice HO_9.out
                              subst eo31
                              have p542 : 0 ≤ (x13_2 : Int) := of_decide_eq_true (by first | (with_reducible assumption) | assumption)
                              have q542 : x13_2 < (t534.length : Int) := of_decide_eq_true (by first | (with_reducible assumption) | assumption)
                              obtain ⟨ad542, e542, hx542_0, hx542_1⟩ := at_T37 (Kd.R_reads' HO_9.out).2.2 x13_2 p542 q542
                              cases e542
                              replace p542 := eq_true p542
                              replace q542 := eq_true q542
                              obtain ⟨Ao32, co32, eo32⟩ := Kd.R_slice HO_11.out
                              subst eo32
                              have p543 : 0 ≤ (x13_2 : Int) := of_decide_eq_true (by first | (with_reducible assumption) | assumption)
                              have q543 : x13_2 < (t538.length : Int) := of_decide_eq_true (by first | (with_reducible assumption) | assumption)
                              obtain ⟨ad543, e543, hx543_0, hx543_1⟩ := at_T37 (Kd.R_reads' HO_11.out).2.2 x13_2 p543 q543
                              cases e543
                              replace p543 := eq_true p543
                              replace q543 := eq_true q543
                              go_wp2
                              repeat (go_quiet (fail); try go_wp2)
                              go_ret
                              exact ⟨by first | rfl | (simp [errW_none, errW_some] <;> rfl) | (simp [*, errW_none, errW_some] <;> rfl), by repeat (first | (with_reducible first | exact HB.out | apply below_alloc | apply pw_below_drewN | apply below_drew1) | exact HB.out)⟩
                          · rw [if_neg c27] at H
                            have c27b0 : (!(((rd_T37 t534 x13_2).f0) == ((rd_T37 t538 x13_2).f0)) || (!(((rd_T37 t534 x13_2).f1) == ((rd_T37 t538 x13_2).f1)))) = false := by simpa using c27
                            clear c27
                            have H' := Aside0.mk H
                            clear H
                            obtain ⟨Ao33, co33, eo33⟩ := Kd.R_slice HO_9.out
                            subst eo33
                            have p542 : 0 ≤ (x13_2 : Int) := of_decide_eq_true (by first | (with_reducible assumption) | assumption)
                            have q542 : x13_2 < (t534.length : Int) := of_decide_eq_true (by first | (with_reducible assumption) | assumption)
                            obtain ⟨ad542, e542, hx542_0, hx542_1⟩ := at_T37 (Kd.R_reads' HO_9.out).2.2 x13_2 p542 q542
                            cases e542
                            replace p542 := eq_true p542
                            replace q542 := eq_true q542
                            obtain ⟨Ao34, co34, eo34⟩ := Kd.R_slice HO_11.out
                            subst eo34
                            have p543 : 0 ≤ (x13_2 : Int) := of_decide_eq_true (by first | (with_reducible assumption) | assumption)
                            have q543 : x13_2 < (t538.length : Int) := of_decide_eq_true (by first | (with_reducible assumption) | assumption)
                            obtain ⟨ad543, e543, hx543_0, hx543_1⟩ := at_T37 (Kd.R_reads' HO_11.out).2.2 x13_2 p543 q543
                            cases e543
                            replace p543 := eq_true p543
                            replace q543 := eq_true q543
                            go_wp2
                            repeat (go_quiet (fail); try go_wp2)
                            go_roundg kj17
                            case measure => have := HJ5.out; have := HK2.out; have := HJ17.out; omega
                            case rel => exact ⟨(wrap64 (x13_2 + 1)), (by first | rfl | (simp; done) | (simp [*]; done)), H', ⟨by have := HJ5.out; have := HK2.out; have := HJ17.out; omega⟩, ⟨by (with_reducible repeat (first | apply Kd.R_alloc | apply Kd.R_drewN | apply Kd.R_drew)); exact HO_9.out⟩, ⟨by (with_reducible repeat (first | apply Kd.R_alloc | apply Kd.R_drewN | apply Kd.R_drew)); exact HO_11.out⟩, ⟨by repeat (first | (with_reducible first | exact HB.out | apply below_alloc | apply pw_below_drewN | apply below_drew1) | exact HB.out)⟩⟩
                        · rw [if_neg c26] at H
                          exact absurd H (by simp)
                      · rw [if_neg c25] at H
                        exact absurd H (by simp)
                    · rw [if_neg c24] at H
                      exact absurd H (by simp)
                  · replace c23 := Bool.eq_false_iff.mpr c23
                    subst c23
                    have H1 : (if t535 = true then (if t539 = true then (if (t534.length : Int) > 0 then (some ((t534.length : Int) == (t538.length : Int))) else (some false)) else (some false)) else (some false)) = some r := by rw [if_neg (show ¬ (false = true) by decide)] at H; exact H
                    clear H
                    have H := H1
                    clear H1
                    by_cases c35 : t535 = true
                    · subst c35
                      have H1 : (if t539 = true then (if (t534.length : Int) > 0 then (some ((t534.length : Int) == (t538.length : Int))) else (some false)) else (some false)) = some r := by rw [if_pos rfl] at H; exact H
                      clear H
                      have H := H1
                      clear H1
                      by_cases c36 : t539 = true
                      · subst c36
                        have H1 : (if (t534.length : Int) > 0 then (some ((t534.length : Int) == (t538.length : Int))) else (some false)) = some r := by rw [if_pos rfl] at H; exact H
                        clear H
                        have H := H1
                        clear H1
                        by_cases c37 : (t534.length : Int) > 0
                        · rw [if_pos c37] at H
                          have c37b0 : decide (0 < (t534.length : Int)) = true := decide_eq_true c37
                          have c37b1 : decide (0 < t534.length) = true := decide_eq_true (by omega)
                          clear c37
                          obtain rfl := Option.some.inj H
                          obtain ⟨Ao38, co38, eo38⟩ := Kd.R_slice HO_9.out
                          subst eo38
                          obtain ⟨Ao39, co39, eo39⟩ := Kd.R_slice HO_11.out
                          subst eo39
                          go_wp2
                          repeat (go_quiet (fail); try go_wp2)
                          go_ret
                          exact ⟨by first | rfl | (simp [errW_none, errW_some] <;> rfl) | (simp [*, errW_none, errW_some] <;> rfl), by repeat (first | (with_reducible first | exact HB.out | apply below_alloc | apply pw_below_drewN | apply below_drew1) | exact HB.out)⟩
                        · rw [if_neg c37] at H
                          have c37b0 : decide (0 < (t534.length : Int)) = false := decide_eq_false c37
                          have c37b1 : decide (0 < t534.length) = false := decide_eq_false (by omega)
                          clear c37
                          obtain rfl := Option.some.inj H
                          obtain ⟨Ao40, co40, eo40⟩ := Kd.R_slice HO_9.out
                          subst eo40
                          go_wp2
                          repeat (go_quiet (fail); try go_wp2)
                          go_ret
                          exact ⟨by first | rfl | (simp [errW_none, errW_some] <;> rfl) | (simp [*, errW_none, errW_some] <;> rfl), by repeat (first | (with_reducible first | exact HB.out | apply below_alloc | apply pw_below_drewN | apply below_drew1) | exact HB.out)⟩
                      · replace c36 := Bool.eq_false_iff.mpr c36
                        subst c36
                        have H1 : (some false) = some r := by rw [if_neg (show ¬ (false = true) by decide)] at H; exact H
                        clear H
                        have H := H1
                        clear H1
                        obtain rfl := Option.some.inj H
                        go_wp2
                        repeat (go_quiet (fail); try go_wp2)
                        go_ret
                        exact ⟨by first | rfl | (simp [errW_none, errW_some] <;> rfl) | (simp [*, errW_none, errW_some] <;> rfl), by repeat (first | (with_reducible first | exact HB.out | apply below_alloc | apply pw_below_drewN | apply below_drew1) | exact HB.out)⟩
                    · replace c35 := Bool.eq_false_iff.mpr c35
                      subst c35
                      have H1 : (some false) = some r := by rw [if_neg (show ¬ (false = true) by decide)] at H; exact H
                      clear H
                      have H := H1
                      clear H1
                      obtain rfl := Option.some.inj H
                      go_wp2
                      repeat (go_quiet (fail); try go_wp2)
                      go_ret
                      exact ⟨by first | rfl | (simp [errW_none, errW_some] <;> rfl) | (simp [*, errW_none, errW_some] <;> rfl), by repeat (first | (with_reducible first | exact HB.out | apply below_alloc | apply pw_below_drewN | apply below_drew1) | exact HB.out)⟩
def laws_FnMeetCut.Pure : Prop := ∀ (l0 : List Int), l0.length ≤ maxLen → l0.length * 1 ≤ 140737488351232 → (∀ x ∈ l0, (Lit.int .u8 x).wf = true) → ∃ k, laws_FnMeetCut.f k l0 = some true
theorem laws_FnMeetCut.walk (P : laws_FnMeetCut.Pure) (a0 : Option Addr) (len0 cap0 : Nat) (z0 : List Int) (w : World) (w0 : (a0 = none ∧ len0 = 0 ∧ cap0 = 0 ∧ z0 = []) ∨ ∃ x, a0 = some x ∧ len0 ≤ cap0 ∧ cap0 ≤ maxLen ∧ z0.length = cap0 ∧ (∀ i, i < z0.length → w.cell? (x.add i) = some (.int .u8 (z0.getD i 0))) ∧ ∀ n ∈ z0, (Lit.int .u8 n).wf = true) (y0 : len0 * 1 ≤ 140737488351232) :
    Calls Try.prog 18 #[.slice a0 len0 cap0] w fun e w' => e = .returned (.bool true) ∧ Below w.heap.size w w' := by
  obtain ⟨l0, rfl, hr0, hm0, hw0, hc0⟩ := ReadsInt.ofRowC w0
  obtain ⟨k, h⟩ := P l0 hm0 y0 hw0
  refine (laws_FnMeetCut.calls k _ _ l0 true w (Kd.C_of_reads (d := (0 : Int)) (h1 := fun _ => rfl) hr0) hc0 h).mono ?_
  rintro e w' ⟨rfl, hd⟩
  exact ⟨rfl, hd⟩
end Go.Proofs.Ytamncgpajkoiaaa.T
namespace Go.Proofs.Ytamncgpajkoiaaa.Q
open Go.RowKit Go.Proofs.Ytamncgpajkoiaaa.T Go.Proofs.YtamncgpajkoiaaaW.PrintWords Go.Proofs.YtamncgpajkoiaaaW.PrintLast
set_option linter.unusedVariables false
set_option linter.unusedSimpArgs false
def mv (a : List Tm) (e : Int) (b : List Tm) (f : Int) (i : Nat) : Option Int := (impl_meetFind b (rt a (i : Int))).map fun j => impl_meetMin (impl_meetEnd a i e) (impl_meetEnd b j f)
def upTo (g : Nat → Option Int) : Nat → Int
  | 0 => 0
  | n + 1 => match g n with
    | some v => v
    | none => upTo g n
theorem upTo_eq (g : Nat → Option Int) : ∀ n, ((List.range n).reverse.findSome? g).getD 0 = upTo g n
  | 0 => rfl
  | n + 1 => by
    rw [List.range_succ, List.reverse_append]
    simp only [List.reverse_cons, List.reverse_nil, List.nil_append, List.singleton_append, List.findSome?_cons, upTo]
    cases h : g n with
    | some v => rfl
    | none => exact upTo_eq g n
theorem bw_eq (n : Nat) : (bw_l n).map (fun i => i.1) = (List.range n).reverse := by
  unfold bw_l
  rw [List.map_reverse]
  congr 1
  apply List.ext_getElem
  · simp
  · intro i h1 h2
    simp
open Classical in
noncomputable def mt (a : List Tm) (e : Int) (b : List Tm) (f : Int) : Int := if ve a e = true then (if ve b f = true then upTo (mv a e b f) a.length else -1) else -1
theorem implMeet (a b : List Tm) (e f : Int) (ha : a.length ≤ 1000000000000) (hb : b.length ≤ 1000000000000) : Ev (fun k => impl_TermsMeet.f k a e b f) (mt a e b f) := by
  unfold impl_TermsMeet.f mt
  refine Ev.bind (implEndValid a e ha) ?_
  by_cases hv : ve a e = true
  · simp only [if_pos hv]
    refine Ev.bind (implEndValid b f hb) ?_
    by_cases hw : ve b f = true
    · simp only [if_pos hw]
      have : ((bw_l a.length).findSome? (impl_meetAt a e b f)).getD 0 = upTo (mv a e b f) a.length := by
        rw [← upTo_eq, ← bw_eq, List.findSome?_map]
        rfl
      rw [this]
      exact ev_some _
    · simp only [if_neg hw]
      exact ev_some _
  · simp only [if_neg hv]
    exact ev_some _
theorem meetEnd_endT (l : List Tm) (i : Nat) (e : Int) : impl_meetEnd l i e = endT l (i : Int) e := by
  unfold impl_meetEnd endT
  by_cases h : i + 1 < l.length
  · rw [if_pos h, if_pos (by omega)]
  · rw [if_neg h, if_neg (by omega)]
theorem rt_inj {l : List Tm} (hp : l.Pairwise ltT) {i j : Nat} (hi : i < l.length) (hj : j < l.length) (h : (rt l (i : Int)).f0 = (rt l (j : Int)).f0) : i = j := by
  rw [rt_nat l i hi, rt_nat l j hj] at h
  rcases Nat.lt_trichotomy i j with h1 | h1 | h1
  · have := (List.pairwise_iff_getElem.1 hp i j hi hj h1).1; omega
  · exact h1
  · have := (List.pairwise_iff_getElem.1 hp j i hj hi h1).1; omega
theorem find_some {l : List Tm} {x : Tm} {j : Nat} (h : impl_meetFind l x = some j) : j < l.length ∧ rt l (j : Int) = x := by
  unfold impl_meetFind at h
  rw [List.findIdx?_eq_some_iff_getElem] at h
  obtain ⟨hj, h1, _⟩ := h
  refine ⟨hj, ?_⟩
  rw [rt_nat l j hj]
  simp only [Bool.and_eq_true, beq_iff_eq] at h1
  exact Tm_ext h1.1.symm h1.2.symm
theorem find_none {l : List Tm} {x : Tm} (h : impl_meetFind l x = none) (j : Nat) (hj : j < l.length) : rt l (j : Int) ≠ x := by
  unfold impl_meetFind at h
  rw [List.findIdx?_eq_none_iff] at h
  have := h l[j] (List.getElem_mem hj)
  rw [rt_nat l j hj]
  intro hx
  rw [hx] at this
  simp at this
theorem find_of {l : List Tm} (hp : l.Pairwise ltT) {x : Tm} {j : Nat} (hj : j < l.length) (h : rt l (j : Int) = x) : impl_meetFind l x = some j := by
  cases hf : impl_meetFind l x with
  | none => exact absurd h (find_none hf j hj)
  | some i =>
    obtain ⟨hi, h2⟩ := find_some hf
    rw [rt_inj hp hi hj (by rw [h2, h])]
theorem specMeet_loop (a b : List Tm) (e f : Int) (ha : a.length ≤ 1000000000000) (hb : b.length ≤ 1000000000000) (hp : b.Pairwise ltT) : ∀ (d i : Nat), a.length - i = d → i ≤ a.length →
    Ev (fun k => spec_TermsMeet.l0 k a e b f (upTo (mv a e b f) i) (i : Int)) (upTo (mv a e b f) a.length) := by
  intro d
  induction d with
  | zero =>
    intro i hd hi
    obtain rfl : i = a.length := by omega
    refine ev_succ ?_
    simp only [spec_TermsMeet.l0, if_neg (show ¬ (a.length : Int) < (a.length : Int) by omega)]
    exact ev_some _
  | succ d ih =>
    intro i hd hi
    have e1 : wrap64 ((i : Int) + 1) = ((i + 1 : Nat) : Int) := by rw [wrap_id (by omega) (by omega)]; omega
    refine ev_succ ?_
    simp only [spec_TermsMeet.l0, if_pos (show (i : Int) < (a.length : Int) by omega), if_pos (show (0 : Int) ≤ i by omega)]
    refine Ev.bind (specAt b _ hb) ?_
    rcases atT_cases b (rt a (i : Int)).f0 with ⟨h, h1⟩ | ⟨j, hj, h, h1, h2⟩
    · simp only [h, if_neg (show ¬ ((-1 : Int) ≥ 0) by omega)]
      have hm : mv a e b f i = none := by
        unfold mv
        cases hf : impl_meetFind b (rt a (i : Int)) with
        | none => rfl
        | some j => obtain ⟨hj, h3⟩ := find_some hf; exact absurd (by rw [h3]) (h1 j hj)
      have hu : upTo (mv a e b f) (i + 1) = upTo (mv a e b f) i := by simp only [upTo, hm]
      refine ev_succ ?_
      simp only [spec_TermsMeet.j2, Bool.false_eq_true, if_false, e1]
      rw [← hu]
      exact ih (i + 1) (by omega) (by omega)
    · simp only [h, if_pos (show (j : Int) ≥ 0 by omega), if_pos (show (0 : Int) ≤ j by omega), if_pos (show (j : Int) < (b.length : Int) by omega)]
      refine ev_succ ?_
      by_cases hx : (rt b (j : Int)).f1 = (rt a (i : Int)).f1
      · have hm : mv a e b f i = some (impl_meetMin (impl_meetEnd a i e) (impl_meetEnd b j f)) := by
          unfold mv
          rw [find_of hp hj (Tm_ext h1 hx)]
          rfl
        have hu : upTo (mv a e b f) (i + 1) = impl_meetMin (endT a i e) (endT b j f) := by simp only [upTo, hm, meetEnd_endT]
        have hmn : mn (endT a i e) (endT b j f) = impl_meetMin (endT a i e) (endT b j f) := rfl
        simp only [spec_TermsMeet.j2, beq_iff_eq.mpr hx, if_true, specEnd a i e (by omega) (by omega), specEnd b j f (by omega) (by omega), bsome, e1, hmn]
        rw [← hu]
        exact ih (i + 1) (by omega) (by omega)
      · have hm : mv a e b f i = none := by
          unfold mv
          cases hf : impl_meetFind b (rt a (i : Int)) with
          | none => rfl
          | some j' =>
            obtain ⟨hj', h3⟩ := find_some hf
            have : j = j' := rt_inj hp hj hj' (by rw [h3, h1])
            subst this
            exact absurd (by rw [h3]) hx
        have hu : upTo (mv a e b f) (i + 1) = upTo (mv a e b f) i := by simp only [upTo, hm]
        have hx' : ((rt b (j : Int)).f1 == (rt a (i : Int)).f1) = false := by simpa using hx
        simp only [spec_TermsMeet.j2, hx', Bool.false_eq_true, if_false, e1]
        rw [← hu]
        exact ih (i + 1) (by omega) (by omega)
theorem specMeet (a b : List Tm) (e f : Int) (ha : a.length ≤ 1000000000000) (hb : b.length ≤ 1000000000000) : Ev (fun k => spec_TermsMeet.f k a e b f) (mt a e b f) := by
  unfold spec_TermsMeet.f mt
  refine Ev.bind (specOk a e ha) ?_
  by_cases hv : ve a e = true
  · simp only [if_pos hv]
    refine Ev.bind (specOk b f hb) ?_
    refine ev_succ ?_
    by_cases hw : ve b f = true
    · simp only [if_pos hw, hw, Bool.not_true, spec_TermsMeet.j0, Bool.false_eq_true, if_false]
      exact specMeet_loop a b e f ha hb ((VT_iff b).1 (ve_vt hw).1).2.2 a.length 0 (by omega) (by omega)
    · have hw' : ve b f = false := by simpa using hw
      simp only [hw', Bool.not_false, spec_TermsMeet.j0, if_true, Bool.false_eq_true, if_false]
      exact ev_some _
  · simp only [if_neg hv]
    refine ev_succ ?_
    simp only [spec_TermsMeet.j0, if_true]
    exact ev_some _
end Go.Proofs.Ytamncgpajkoiaaa.Q
namespace Go.Proofs.Ytamncgpajkoiaaa.Q
open Go.RowKit Go.Proofs.Ytamncgpajkoiaaa.T Go.Proofs.YtamncgpajkoiaaaW.PrintWords Go.Proofs.YtamncgpajkoiaaaW.PrintLast
set_option linter.unusedVariables false
set_option linter.unusedSimpArgs false
theorem upTo_cases (g : Nat → Option Int) : ∀ n, (upTo g n = 0 ∧ ∀ i, i < n → g i = none) ∨ ∃ i v, i < n ∧ g i = some v ∧ upTo g n = v ∧ ∀ j, i < j → j < n → g j = none
  | 0 => .inl ⟨rfl, fun i hi => by omega⟩
  | n + 1 => by
    cases h : g n with
    | some v => exact .inr ⟨n, v, by omega, h, by simp only [upTo, h], fun j h1 h2 => by omega⟩
    | none =>
      have hu : upTo g (n + 1) = upTo g n := by simp only [upTo, h]
      rw [hu]
      rcases upTo_cases g n with ⟨h1, h2⟩ | ⟨i, v, h1, h2, h3, h4⟩
      · refine .inl ⟨h1, fun i hi => ?_⟩
        by_cases e : i = n
        · subst e; exact h
        · exact h2 i (by omega)
      · refine .inr ⟨i, v, by omega, h2, h3, fun j hj1 hj2 => ?_⟩
        by_cases e : j = n
        · subst e; exact h
        · exact h4 j hj1 (by omega)
theorem mv_none {a b : List Tm} {e f : Int} {i : Nat} (h : mv a e b f i = none) (j : Nat) (hj : j < b.length) : rt a (i : Int) ≠ rt b (j : Int) := by
  unfold mv at h
  rw [Option.map_eq_none_iff] at h
  exact fun he => find_none h j hj he.symm
theorem mv_some {a b : List Tm} {e f : Int} {i : Nat} {v : Int} (h : mv a e b f i = some v) : ∃ j, j < b.length ∧ rt a (i : Int) = rt b (j : Int) ∧ v = impl_meetMin (endT a i e) (endT b j f) := by
  unfold mv at h
  rw [Option.map_eq_some_iff] at h
  obtain ⟨j, h1, h2⟩ := h
  obtain ⟨hj, h3⟩ := find_some h1
  exact ⟨j, hj, h3.symm, by rw [← h2, meetEnd_endT, meetEnd_endT]⟩
theorem mt_cases {a b : List Tm} {e f : Int} (hv : ve a e = true) (hw : ve b f = true) :
    (mt a e b f = 0 ∧ ∀ i, i < a.length → ∀ j, j < b.length → rt a (i : Int) ≠ rt b (j : Int)) ∨
    ∃ i j, i < a.length ∧ j < b.length ∧ rt a (i : Int) = rt b (j : Int) ∧ mt a e b f = impl_meetMin (endT a i e) (endT b j f) ∧ ∀ i', i < i' → i' < a.length → ∀ j', j' < b.length → rt a (i' : Int) ≠ rt b (j' : Int) := by
  unfold mt
  rw [if_pos hv, if_pos hw]
  rcases upTo_cases (mv a e b f) a.length with ⟨h1, h2⟩ | ⟨i, v, h1, h2, h3, h4⟩
  · exact .inl ⟨h1, fun i hi j hj => mv_none (h2 i hi) j hj⟩
  · obtain ⟨j, hj, h5, h6⟩ := mv_some h2
    exact .inr ⟨i, j, h1, hj, h5, by rw [h3, h6], fun i' hi1 hi2 j' hj' => mv_none (h4 i' hi1 hi2) j' hj'⟩
theorem mt_neg {a b : List Tm} {e f : Int} (h : ¬ mt a e b f < 0) : ve a e = true ∧ ve b f = true := by
  unfold mt at h
  by_cases hv : ve a e = true
  · rw [if_pos hv] at h
    by_cases hw : ve b f = true
    · exact ⟨hv, hw⟩
    · rw [if_neg hw] at h; omega
  · rw [if_neg hv] at h; omega
theorem endT_bounds {a : List Tm} {e : Int} (hv : ve a e = true) {i : Nat} (hi : i < a.length) : (rt a (i : Int)).f1 < endT a i e ∧ endT a i e ≤ e := by
  obtain ⟨hV, e0, e1, he⟩ := ve_vt hv
  have hp := ((VT_iff a).1 hV).2.2
  have hlast := he.resolve_left (by omega)
  unfold lastTm at hlast
  unfold endT
  by_cases h : (i : Int) + 1 < (a.length : Int)
  · rw [if_pos h, show (i : Int) + 1 = ((i + 1 : Nat) : Int) by omega, rt_nat a (i + 1) (by omega), rt_nat a i hi]
    rw [show (a.length : Int) - 1 = ((a.length - 1 : Nat) : Int) by omega, rt_nat a (a.length - 1) (by omega)] at hlast
    refine ⟨(next_of_pairwise hp i (by omega)).2, ?_⟩
    by_cases hl : i + 1 = a.length - 1
    · simp only [hl]; omega
    · have := (List.pairwise_iff_getElem.1 hp (i + 1) (a.length - 1) (by omega) (by omega) (by omega)).2
      omega
  · rw [if_neg h]
    rw [show (a.length : Int) - 1 = (i : Int) by omega] at hlast
    exact ⟨hlast, by omega⟩
theorem meetMin_le (x y : Int) : impl_meetMin x y ≤ x ∧ impl_meetMin x y ≤ y := by unfold impl_meetMin; split <;> omega
theorem meetMin_lt {x y z : Int} (h1 : z < x) (h2 : z < y) : z < impl_meetMin x y := by unfold impl_meetMin; split <;> omega
theorem drawEnd1 (bs : List Int) (hb : Bytes bs) (hl : bs.length ≤ 2000) (p : Int) (h0 : 0 ≤ p) (h1 : p ≤ 1000000) (l : List Tm) (h9 : l.length ≤ 10) : Evs (fun k => spec_l92End.f k bs p l) (fun r => 0 ≤ r.2 ∧ r.2 ≤ p + 2) := by
  unfold spec_l92End.f
  by_cases hz : (l.length : Int) = 0
  · simp only [if_pos hz]
    refine Evs.bind (pick_evs bs p 20 hb hl h0 (by omega) (by omega)) ?_
    rintro ⟨v, _⟩ ⟨v0, v1, rfl⟩
    exact Evs.done ⟨by dsimp only; omega, by dsimp only; omega⟩
  · have e2 : wrap64 ((l.length : Int) - 1) = (l.length : Int) - 1 := wrap_id (by omega) (by omega)
    simp only [if_neg hz, e2, if_pos (show 0 ≤ (l.length : Int) - 1 by omega), if_pos (show (l.length : Int) - 1 < (l.length : Int) by omega)]
    refine Evs.bind (pick_evs bs p 10 hb hl h0 (by omega) (by omega)) ?_
    rintro ⟨v, _⟩ ⟨v0, v1, rfl⟩
    refine Evs.bind (pick_evs bs (p + 1) 20 hb hl (by omega) (by omega) (by omega)) ?_
    rintro ⟨u, _⟩ ⟨u0, u1, rfl⟩
    exact Evs.done ⟨by dsimp only; omega, by dsimp only; omega⟩
theorem specPut (l : List Tm) (x y : Int) (hl : l.length ≤ 9) : Evs (fun k => spec_TermsPut.f k l x y) (fun r => r.1.length ≤ 10) := by
  unfold spec_TermsPut.f
  simp only [bsome, List.length_nil, if_pos (show 0 + l.length < 8796093022208 by omega), List.nil_append, List.length_singleton, if_pos (show l.length + 1 < 8796093022208 by omega)]
  refine Evs.bind (Evs.of (specValid (l ++ [⟨x, y⟩]) (by simp; omega)) rfl : Evs _ (fun t => t = vt (l ++ [⟨x, y⟩]))) ?_
  rintro _ rfl
  by_cases hv : vt (l ++ [⟨x, y⟩]) = true
  · simp only [if_pos hv]
    exact Evs.done (by simp; omega)
  · simp only [if_neg hv]
    exact Evs.done (by simp)
theorem drawMeet {l0 : List Int} (hb : Bytes l0) : Evs (fun k => spec_DrawTermsMeet.f k l0) (fun r => r.1.length ≤ 10 ∧ r.2.2.1.length ≤ 10) := by
  obtain ⟨b, ho, hb2, hbl⟩ := open_ev l0 hb
  obtain ⟨r, p', hr, h9, hp0, hp1⟩ := terms_ev b hb2 hbl 0 (by omega) (by omega)
  have main : ∀ (q : Int) (fl : Bool), 0 ≤ q → q ≤ 2000 → Evs (fun k => spec_DrawTermsMeet.j0 k r r fl b q) (fun r => r.1.length ≤ 10 ∧ r.2.2.1.length ≤ 10) := by
    intro q fl hq0 hq1
    refine Evs.succ ?_
    cases fl with
    | true =>
      have e1 : wrap64 ((r.length : Int) + 1) = (r.length : Int) + 1 := wrap_id (by omega) (by omega)
      simp only [spec_DrawTermsMeet.j0, if_true, e1]
      refine Evs.bind (pick_evs b q _ hb2 hbl hq0 (by omega) (by omega)) ?_
      rintro ⟨v, _⟩ ⟨v0, v1, rfl⟩
      dsimp only at v0 v1
      simp only [if_pos v0, if_pos (show v ≤ (r.length : Int) by omega), bsome]
      refine Evs.bind (pick_evs b (q + 1) 14 hb2 hbl (by omega) (by omega) (by omega)) ?_
      rintro ⟨u, _⟩ ⟨u0, u1, rfl⟩
      refine Evs.bind (pick_evs b (q + 1 + 1) 40 hb2 hbl (by omega) (by omega) (by omega)) ?_
      rintro ⟨s, _⟩ ⟨s0, s1, rfl⟩
      have ht : (r.take v.toNat).length ≤ 9 := by rw [List.length_take]; omega
      refine Evs.bind (specPut (r.take v.toNat) u s ht) ?_
      rintro ⟨y, fl⟩ hy
      dsimp only at hy ⊢
      cases fl with
      | true =>
        simp only [if_true]
        refine Evs.bind (drawEnd1 b hb2 hbl _ (by omega) (by omega) r (by omega)) ?_
        rintro ⟨e, z⟩ ⟨z0, z1⟩
        dsimp only at z0 z1 ⊢
        refine Evs.bind (drawEnd1 b hb2 hbl z z0 (by omega) y hy) ?_
        rintro ⟨e2, z2⟩ _
        exact Evs.done ⟨by dsimp only; omega, hy⟩
      | false =>
        simp only [Bool.false_eq_true, if_false]
        refine Evs.bind (drawEnd1 b hb2 hbl _ (by omega) (by omega) r (by omega)) ?_
        rintro ⟨e, z⟩ ⟨z0, z1⟩
        dsimp only at z0 z1 ⊢
        refine Evs.bind (drawEnd1 b hb2 hbl z z0 (by omega) _ (by omega)) ?_
        rintro ⟨e2, z2⟩ _
        exact Evs.done ⟨by dsimp only; omega, by dsimp only; omega⟩
    | false =>
      simp only [spec_DrawTermsMeet.j0, Bool.false_eq_true, if_false]
      refine Evs.bind (pick_evs b q 3 hb2 hbl hq0 (by omega) (by omega)) ?_
      rintro ⟨v, _⟩ ⟨v0, v1, rfl⟩
      dsimp only
      by_cases hv : v = 0
      · simp only [if_pos hv]
        obtain ⟨r2, p2, hr2, h92, hp20, hp21⟩ := terms_ev b hb2 hbl (q + 1) (by omega) (by omega)
        refine Evs.bind (Evs.of hr2 rfl : Evs _ (fun x => x = (r2, p2))) ?_
        rintro _ rfl
        refine Evs.bind (drawEnd1 b hb2 hbl p2 (by omega) (by omega) r (by omega)) ?_
        rintro ⟨e, z⟩ ⟨z0, z1⟩
        dsimp only at z0 z1 ⊢
        refine Evs.bind (drawEnd1 b hb2 hbl z z0 (by omega) r2 (by omega)) ?_
        rintro ⟨e2, z2⟩ _
        exact Evs.done ⟨by dsimp only; omega, by dsimp only; omega⟩
      · simp only [if_neg hv]
        refine Evs.bind (drawEnd1 b hb2 hbl (q + 1) (by omega) (by omega) r (by omega)) ?_
        rintro ⟨e, z⟩ ⟨z0, z1⟩
        dsimp only at z0 z1 ⊢
        refine Evs.bind (drawEnd1 b hb2 hbl z z0 (by omega) r (by omega)) ?_
        rintro ⟨e2, z2⟩ _
        exact Evs.done ⟨by dsimp only; omega, by dsimp only; omega⟩
  unfold spec_DrawTermsMeet.f
  simp only [ho, bsome]
  refine Evs.bind (Evs.of hr rfl : Evs _ (fun x => x = (r, p'))) ?_
  rintro _ rfl
  dsimp only
  simp only [List.length_nil, if_pos (show 0 + r.length < 8796093022208 by omega), List.nil_append]
  by_cases hz : (r.length : Int) > 0
  · simp only [if_pos hz]
    refine Evs.bind (pick_evs b p' 3 hb2 hbl hp0 (by omega) (by omega)) ?_
    rintro ⟨v, _⟩ ⟨v0, v1, rfl⟩
    exact main _ _ (by omega) (by omega)
  · simp only [if_neg hz]
    exact main _ _ hp0 (by omega)
end Go.Proofs.Ytamncgpajkoiaaa.Q
namespace Go.Proofs.Ytamncgpajkoiaaa.Pure
open Go.RowKit Go.Proofs.Ytamncgpajkoiaaa.T Go.Proofs.YtamncgpajkoiaaaW.PrintWords Go.Proofs.YtamncgpajkoiaaaW.PrintLast Go.Proofs.Ytamncgpajkoiaaa.Q
set_option linter.unusedVariables false
set_option linter.unusedSimpArgs false
theorem cut_take {a : List Tm} {e v : Int} (hv : ve a e = true) {i : Nat} (hi : i < a.length) (h1 : (rt a (i : Int)).f1 < v) (h2 : v ≤ endT a i e) : a.filter (aheadT v) = a.take (i + 1) := by
  have hp := ((VT_iff a).1 (ve_vt hv).1).2.2
  conv => lhs; rw [← List.take_append_drop (i + 1) a]
  rw [List.filter_append]
  have e1 : (a.take (i + 1)).filter (aheadT v) = a.take (i + 1) := by
    rw [List.filter_eq_self]
    intro t ht
    obtain ⟨j, hj, rfl⟩ := List.getElem_of_mem ht
    rw [List.length_take] at hj
    rw [List.getElem_take]
    unfold aheadT
    rw [decide_eq_true_eq]
    by_cases e : j = i
    · subst e; rw [rt_nat a j hi] at h1; exact h1
    · have := (List.pairwise_iff_getElem.1 hp j i (by omega) hi (by omega)).2
      rw [rt_nat a i hi] at h1
      omega
  have e2 : (a.drop (i + 1)).filter (aheadT v) = [] := by
    rw [List.filter_eq_nil_iff]
    intro t ht
    obtain ⟨j, hj, rfl⟩ := List.getElem_of_mem ht
    rw [List.length_drop] at hj
    rw [List.getElem_drop]
    unfold aheadT
    rw [decide_eq_true_eq]
    unfold endT at h2
    rw [if_pos (by omega), show (i : Int) + 1 = ((i + 1 : Nat) : Int) by omega, rt_nat a (i + 1) (by omega)] at h2
    by_cases e : j = 0
    · subst e; simp only [Nat.add_zero]; omega
    · have := (List.pairwise_iff_getElem.1 hp (i + 1) (i + 1 + j) (by omega) (by omega) (by omega)).2
      omega
  rw [e1, e2, List.append_nil]
theorem cut_l0 (x y : List Tm) (hx : x.length ≤ 10) (hy : y.length ≤ 10) (hlen : (∀ i, i < x.length → i < y.length → rt x (i : Int) = rt y (i : Int)) → 0 < x.length ∧ x.length = y.length) :
    ∀ (d i : Nat), x.length - i = d → i ≤ x.length → (∀ j, j < i → j < x.length ∧ j < y.length ∧ rt x (j : Int) = rt y (j : Int)) → Ev (fun k => laws_FnMeetCut.l0 k x true y true (i : Int)) true := by
  have fin : ∀ i : Nat, i ≤ x.length → ¬ (i < x.length ∧ i < y.length) → (∀ j, j < i → j < x.length ∧ j < y.length ∧ rt x (j : Int) = rt y (j : Int)) → Ev (fun k => laws_FnMeetCut.j2 k x true y true (i : Int) false) true := by
    intro i hi hn hj
    obtain ⟨h1, h2⟩ := hlen (fun j h1 h2 => (hj j (by omega)).2.2)
    refine ev_succ ?_
    have h3 : ((x.length : Int) == (y.length : Int)) = true := by rw [beq_iff_eq]; omega
    simp only [laws_FnMeetCut.j2, Bool.false_eq_true, if_false, if_true, if_pos (show (x.length : Int) > 0 by omega), h3]
    exact ev_some _
  intro d
  induction d with
  | zero =>
    intro i hd hi hj
    refine ev_succ ?_
    simp only [laws_FnMeetCut.l0, if_neg (show ¬ (i : Int) < (x.length : Int) by omega)]
    exact fin i hi (by omega) hj
  | succ d ih =>
    intro i hd hi hj
    have w1 : wrap64 ((i : Int) + 1) = ((i + 1 : Nat) : Int) := by rw [wrap_id (by omega) (by omega)]; omega
    refine ev_succ ?_
    simp only [laws_FnMeetCut.l0, if_pos (show (i : Int) < (x.length : Int) by omega)]
    by_cases hy2 : i < y.length
    · simp only [decide_eq_true (show (i : Int) < (y.length : Int) by omega)]
      refine ev_succ ?_
      simp only [laws_FnMeetCut.j2, if_true, if_pos (show (0 : Int) ≤ i by omega), if_pos (show (i : Int) < (x.length : Int) by omega), if_pos (show (i : Int) < (y.length : Int) by omega), w1]
      by_cases hq : rt x (i : Int) = rt y (i : Int)
      · have hq' : ¬ ((!((rt x (i : Int)).f0 == (rt y (i : Int)).f0) || !((rt x (i : Int)).f1 == (rt y (i : Int)).f1)) = true) := by rw [hq]; simp
        simp only [if_neg hq']
        refine ih (i + 1) (by omega) (by omega) (fun j hj2 => ?_)
        by_cases e : j = i
        · subst e; exact ⟨by omega, hy2, hq⟩
        · exact hj j (by omega)
      · have hq' : (!((rt x (i : Int)).f0 == (rt y (i : Int)).f0) || !((rt x (i : Int)).f1 == (rt y (i : Int)).f1)) = true := by
          by_cases h0 : (rt x (i : Int)).f0 = (rt y (i : Int)).f0
          · by_cases h1 : (rt x (i : Int)).f1 = (rt y (i : Int)).f1
            · exact absurd (Tm_ext h0 h1) hq
            · simp [h1]
          · simp [h0]
        simp only [if_pos hq']
        exact ev_some _
    · simp only [decide_eq_false (show ¬ (i : Int) < (y.length : Int) by omega)]
      exact fin i hi (by omega) hj
theorem FnMeetCut : laws_FnMeetCut.Pure := by
  intro l0 _ _ hb0
  refine Ev.rounds ?_
  have hb := bytes_of hb0
  unfold laws_FnMeetCut.f
  by_cases h : (l0.length : Int) > 1048576
  · simp only [if_pos h]
    exact ev_some _
  · simp only [if_neg h]
    obtain ⟨⟨a, e, b, f⟩, hd, ha, hb9⟩ := drawMeet hb
    dsimp only at ha hb9
    refine Ev.bind hd ?_
    refine Ev.bind (implMeet a b e f (by omega) (by omega)) ?_
    refine Ev.bind (specMeet a b e f (by omega) (by omega)) ?_
    simp only [if_true]
    refine ev_succ ?_
    by_cases hn : mt a e b f < 1
    · simp only [laws_FnMeetCut.j0, decide_eq_true hn, if_true, beq_self_eq_true]
      exact ev_some _
    · obtain ⟨hv, hw⟩ := mt_neg (show ¬ mt a e b f < 0 by omega)
      have hva := (ve_vt hv).1
      have hvb := (ve_vt hw).1
      have pa := ((VT_iff a).1 hva).2.2
      have pb := ((VT_iff b).1 hvb).2.2
      simp only [laws_FnMeetCut.j0, decide_eq_false hn, Bool.false_eq_true, if_false]
      refine Ev.bind (implCut a _ (by omega)) ?_
      refine Ev.bind (implCut b _ (by omega)) ?_
      rcases mt_cases hv hw with ⟨h1, _⟩ | ⟨i, j, hi, hj, h3, h4, _⟩
      · omega
      have b1 := endT_bounds hv hi
      have b2 := endT_bounds hw hj
      have b2' := b2.1
      rw [← h3] at b2'
      have hlt := meetMin_lt b1.1 b2'
      have hle := meetMin_le (endT a i e) (endT b j f)
      rw [← h4] at hlt hle
      have ca : cutT a (mt a e b f) = a.take (i + 1) := by
        unfold cutT
        rw [if_pos ((vt_iff a).2 hva)]
        exact cut_take hv hi hlt hle.1
      have cb : cutT b (mt a e b f) = b.take (j + 1) := by
        unfold cutT
        rw [if_pos ((vt_iff b).2 hvb)]
        exact cut_take hw hj (by rw [← h3]; exact hlt) hle.2
      simp only [ca, cb, (vt_iff a).2 hva, (vt_iff b).2 hvb]
      have la : (a.take (i + 1)).length = i + 1 := by rw [List.length_take]; omega
      have lb : (b.take (j + 1)).length = j + 1 := by rw [List.length_take]; omega
      have ra : ∀ m, m < i + 1 → rt (a.take (i + 1)) (m : Int) = rt a (m : Int) := by
        intro m hm
        rw [rt_nat _ m (by omega), rt_nat a m (by omega), List.getElem_take]
      have rb : ∀ m, m < j + 1 → rt (b.take (j + 1)) (m : Int) = rt b (m : Int) := by
        intro m hm
        rw [rt_nat _ m (by omega), rt_nat b m (by omega), List.getElem_take]
      refine cut_l0 _ _ (by omega) (by omega) (fun heq => ?_) _ 0 rfl (by omega) (fun j hj => by omega)
      rw [la, lb]
      refine ⟨by omega, ?_⟩
      rcases Nat.lt_trichotomy i j with hij | hij | hij
      · have := heq i (by omega) (by omega)
        rw [ra i (by omega), rb i (by omega), h3] at this
        have := rt_inj (i := j) (j := i) pb hj (by omega) (by rw [this])
        omega
      · omega
      · have := heq j (by omega) (by omega)
        rw [ra j (by omega), rb j (by omega), ← h3] at this
        have := rt_inj (i := j) (j := i) pa (by omega) hi (by rw [this])
        omega
end Go.Proofs.Ytamncgpajkoiaaa.Pure
namespace Go.Proofs.Ytamncgpajkoiaaa.fnMeetCut
open Go.ChangeShapes Go.WideShapes Go.ChangeAt Go.RowKit
open Go.ChangeMaps (open_string shut_string)
set_option linter.unusedVariables false
theorem own : ownKnob Try.prog.godebug = none := by kernel_rfl
theorem laidOut : laidOutB Try.prog = true := by kernel_rfl
def IsRow (k : IntKind) (w : World) (a : Option Addr) (len cap : Nat) (zs : List Int) : Prop :=
  (a = none ∧ len = 0 ∧ cap = 0 ∧ zs = []) ∨
  ∃ x, a = some x ∧ len ≤ cap ∧ cap ≤ maxLen ∧ zs.length = cap ∧ (∀ i, i < zs.length → w.cell? (x.add i) = some (.int k (zs.getD i 0))) ∧ ∀ n ∈ zs, (Lit.int k n).wf = true
set_option maxRecDepth 100000 in
theorem lifted (os : Os) (started : os.Started) (H : Type) (enc : TypeId × Value → H) :
    ReturnsInHanded {} Try.checked os 18 .any (Rows.fnMeetCutSpec.pre6 enc Try.prog Try.f18 Rows.fnMeetCutRow.domain false) (Rows.fnMeetCutSpec.post enc Try.prog Try.f18 false true false false) := by
  refine returnsInHanded_of_change_sized (C := Try.checked) own started (by kernel_rfl) Try.func18
    (ChangeSpec.witness6 (enc := enc) (C := Try.checked) false ⟨#[], #[.slice none 0 0], []⟩ 8 (by kernel_rfl) (by kernel_rfl) (by kernel_rfl) (by kernel_rfl)) ?_
  intro W base args ds gs before hval0 hW hcnd hsz0 _
  have hsz : (DataW.weightsEach Try.prog (Try.f18.params.toList ++ Rows.fnMeetCutSpec.plain.varTypes Try.prog) (ds ++ gs)).all (· ≤ reachBytes) = true := hsz0
  have hval : ∀ (j : Nat) t v, Try.f18.params[j]? = some t → args[j]? = some v → Value.okWide Try.prog W .any base t v := hval0
  have hW' := hW
  obtain ⟨p, q, hA0, hV, rfl, hfz, hnd⟩ := hW
  have hA : DataW.TrodAll enc Try.prog W 0 (fun _ => true) true Try.f18.params.toList args.toList ds p := hA0
  rw [Try.params18] at hA hval hsz
  obtain ⟨v0, vs0, d0, ds0, p0, q0, hargs, rfl, rfl, h0, r0⟩ := trodAll_cons hA
  obtain ⟨rfl, rfl, rfl⟩ := trodAll_nil r0
  obtain rfl : args = #[v0] := by cases args; simp_all
  obtain ⟨rfl, rfl⟩ := trodVars_none hV
  obtain ⟨a0, len0, cap0, rfl⟩ := okWide_slice Try.underlying22 (hval 0 22 v0 rfl rfl)
  have k0 := h0
  have lt0 : ∀ x ∈ p0, x.block < W.heap.size := by obtain ⟨m, hm⟩ := k0; exact DataW.trod_lt m _ _ _ hm
  obtain ⟨z0, w0⟩ : ∃ zs, IsRow .u8 W a0 len0 cap0 zs := by
    obtain ⟨fuel, hf⟩ := h0
    rcases open_ints Try.underlying22 Try.underlying5 (by kernel_rfl) hf with ⟨hcs, _⟩ | ⟨x, l, c, zs, hcs, _, hl, hm, hz, _, hcell, hwz⟩
    · simp [Value.cells] at hcs
      obtain ⟨rfl, rfl, rfl⟩ := hcs
      exact ⟨[], .inl ⟨rfl, rfl, rfl, rfl⟩⟩
    · simp [Value.cells] at hcs
      obtain ⟨rfl, rfl, rfl⟩ := hcs
      exact ⟨zs, .inr ⟨_, rfl, hl, hm, by simpa using hz, hcell, hwz⟩⟩
  have y0 : len0 * 1 ≤ 140737488351232 := Go.Proofs.YtamncgpajkoiaaaW.PrintWords.sized_ints hsz (j := 0) (t := 22) rfl rfl Try.underlying22 Try.underlying5 (by kernel_rfl) (by kernel_rfl) h0
  clear hA0 hval0 hsz0 hsz
  refine (T.laws_FnMeetCut.walk Pure.FnMeetCut a0 len0 cap0 z0 W w0 y0).mono fun e W' ⟨he, bel⟩ => ?_
  subst he
  exact ⟨_, rfl, _, _, _, [], _, [], hW', trodAll_mk1 (shut_bool Try.underlying4 _), (trodAll_cons_mk (Below.trod laidOut (by kernel_rfl) (of_decide_eq_true (by kernel_rfl)) k0 bel lt0) trodAll_mk0), rfl, bel.frame _, fun h => by cases h⟩
theorem closed : joinedFacts Try.prog 18 Try.f18 Rows.fnMeetCutSpec Rows.fnMeetCutRow = true :=
  Head.closed_of _ _ _ _ _ (by kernel_rfl) (by kernel_rfl) (by kernel_rfl) (by kernel_rfl) (by kernel_rfl) (by kernel_rfl) (by kernel_rfl) (by kernel_rfl) (by kernel_rfl) (by kernel_rfl) (by kernel_rfl) (by kernel_rfl) (by kernel_rfl) (by kernel_rfl) (by kernel_rfl) (by kernel_rfl) (by kernel_rfl) (by kernel_rfl) (by kernel_rfl) (by kernel_rfl) (by kernel_rfl) (by kernel_rfl) (by kernel_rfl) (by kernel_rfl) (by kernel_rfl) Head.may_enter (by rw [Head.lifts_final]; kernel_rfl) (by rw [Head.make_is]; kernel_rfl) (by kernel_rfl) (by kernel_rfl) (by kernel_rfl) (by kernel_rfl)
theorem over : Rows.fnMeetCutRow.holds Try.pinned (OpenSpec.ofChange Rows.fnMeetCutSpec) :=
  OpenClaim.holds_of_wide 18 Try.f18 rfl rfl rfl rfl rfl rfl rfl ⟨rfl, rfl, rfl, rfl, rfl⟩ rfl rfl rfl rfl rfl (by kernel_rfl) Try.func18 closed
    (of_decide_eq_true (by kernel_rfl)) (by unfold Func.isWrapper; first | (rw [if_pos (by decide +kernel)]; kernel_rfl) | (rw [if_neg (by decide +kernel)]; exact ⟨rfl, rfl⟩))
    (fun os started H enc _ => lifted os started H enc)
theorem proved : Rows.FnMeetCutSaid := over
end Go.Proofs.Ytamncgpajkoiaaa.fnMeetCut
namespace Go.Proofs.Ytamncgpajkoiaaa
theorem fnMeetCut_holds : Rows.FnMeetCutSaid := fnMeetCut.proved
end Go.Proofs.Ytamncgpajkoiaaa
