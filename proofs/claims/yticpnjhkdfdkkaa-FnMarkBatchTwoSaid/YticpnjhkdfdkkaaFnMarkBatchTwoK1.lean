/- FnMarkBatchTwo, part 2 of 6: merged by wip/tools/pack2.py out of the texts that the row reaches; the pure statement is the session's own. -/
import Derived.Test.YticpnjhkdfdkkaaRows
import Derived.JoinedOf
import Derived.KernelRfl
import Derived.Test.YticpnjhkdfdkkaaProg
import Derived.Below
import Derived.Deep.Draws
import Derived.Deep.AppendLies
import Derived.Maps.AppendAt
import Derived.OwnWalk
import Derived.Laws.BytesArg
import Derived.Laws.MakeOwn
import Derived.Laws.OwnMore
import Derived.Deep.OwnRows
import Derived.Tactics
import Derived.Lib.ConvBytes
import Derived.Laws.Slices
import Derived.WalkKit
import Derived.RowKit3
import Derived.Deep.LoopGhost
import Derived.Deep.QuietTactic
import Derived.BigQuiet
import Derived.WideLaws
import Derived.Deep.DeepCutAuto
import Derived.Deep.CutBlock
import Derived.Deep.RegionHeld3
import Derived.Laws.Rows
import Derived.Lib.AppendStr
import Derived.ArgAppend
import Derived.Laws.IdiomCopy
import Derived.OrdersHeld
import Derived.Laws.BitsLemmas
import Derived.RowKit
import Derived.Test.YticpnjhkdfdkkaaFnMarkBatchTwoK0
namespace Go.Proofs.Yticpnjhkdfdkkaa.Head
open Go
theorem make_of (P : Program) (w : List Char) (R : List (List Char)) (h : behindMainWord (wordsSigns P.initOrder.toList) = w :: R) (h1 : (w == "gc".toList || w == "spec".toList) = false) (h2 : (w == "cut".toList) = true) : P.make = some .cut := by
  unfold Program.make
  rw [h]
  simp only [h1, h2, Bool.true_or, if_true, Bool.false_eq_true, if_false]
theorem enter_of (P : Program) (w : List Char) (R : List (List Char)) (h : behindMainWord (wordsSigns P.initOrder.toList) = w :: R) (h2 : stripLifts liftWords (w :: R) = ([], w :: R)) (h3 : ((w :: R).head? == some "cut".toList) = true)
    (h4 : P.laysLater = false) (h5 : P.bearsReflect = false) (h6 : P.doorFits [] = true) : P.mayEnter = true := by
  unfold Program.mayEnter
  rw [h]
  simp only [h2, h3, h4, h5, h6, List.contains_nil, Bool.not_false, Bool.and_self, Bool.or_true]
theorem lifts_of (P : Program) (w : List Char) (R : List (List Char)) (h : behindMainWord (wordsSigns P.initOrder.toList) = w :: R) (h2 : stripLifts liftWords (w :: R) = ([], w :: R)) (h3 : ((w :: R).head? == some "carried".toList) = false) : P.liftsFinal = false := by
  unfold Program.liftsFinal Program.headLifts
  rw [h]
  simp only [h2, h3, Bool.false_and, Bool.false_or, List.contains_nil, ite_self]
def chs (l : List Nat) : List Char := l.map Char.ofNat
theorem wordsSigns_word : ∀ (w r : List Char), (∀ c ∈ w, c ≠ Char.ofNat 32) → wordsSigns (w ++ Char.ofNat 32 :: r) = w :: wordsSigns r
  | [], r, _ => rfl
  | c :: w, r, h => by
    have ih := wordsSigns_word w r (fun x hx => h x (List.mem_cons_of_mem _ hx))
    have hc : c ≠ Char.ofNat 32 := h c List.mem_cons_self
    rw [List.cons_append, wordsSigns, ih]
    exact hc
def word1 : List Nat := [104, 97, 114, 110, 101, 115, 115]
def word2 : List Nat := [100, 57, 50, 55, 99, 52, 97, 101, 102, 50, 49, 98, 49, 50, 102, 99, 100, 48, 100, 48, 56, 51, 53, 53, 99, 57, 50, 101, 52, 99, 49, 101, 51, 48, 100, 55, 54, 97, 53, 55, 100, 56, 57, 52, 97, 48, 57, 51, 48, 99, 99, 57, 98, 99, 52, 57, 101, 99, 101, 49, 49, 50, 51, 54]
def word3 : List Nat := [99, 117, 116]
def signs : List Nat := [97, 116, 32, 108, 111, 111, 112, 46, 101, 120, 97, 109, 112, 108, 101, 47, 114, 101, 99, 111, 114, 100, 98, 97, 116, 99, 104, 101, 115, 47, 108, 97, 119, 115, 46, 70, 110, 77, 97, 114, 107, 66, 97, 116, 99, 104, 32, 108, 111, 111, 112, 46, 101, 120, 97, 109, 112, 108, 101, 47, 114, 101, 99, 111, 114, 100, 98, 97, 116, 99, 104, 101, 115, 47, 108, 97, 119, 115, 46, 70, 110, 77, 97, 114, 107, 66, 97, 116, 99, 104, 84, 119, 111, 32, 108, 111, 111, 112, 46, 101, 120, 97, 109, 112, 108, 101, 47, 114, 101, 99, 111, 114, 100, 98, 97, 116, 99, 104, 101, 115, 47, 108, 97, 119, 115, 46, 70, 110, 69, 120, 97, 99, 116, 77, 97, 114, 107, 66, 97, 116, 99, 104, 32, 108, 111, 111, 112, 46, 101, 120, 97, 109, 112, 108, 101, 47, 114, 101, 99, 111, 114, 100, 98, 97, 116, 99, 104, 101, 115, 47, 108, 97, 119, 115, 46, 70, 110, 83, 116, 97, 98, 108, 101, 32, 108, 111, 111, 112, 46, 101, 120, 97, 109, 112, 108, 101, 47, 114, 101, 99, 111, 114, 100, 98, 97, 116, 99, 104, 101, 115, 47, 108, 97, 119, 115, 46, 70, 110, 85, 110, 100, 111, 110, 101, 32, 108, 111, 111, 112, 46, 101, 120, 97, 109, 112, 108, 101, 47, 114, 101, 99, 111, 114, 100, 98, 97, 116, 99, 104, 101, 115, 47, 108, 97, 119, 115, 46, 70, 110, 85, 110, 100, 111, 110, 101, 78, 111, 110, 101, 32, 108, 111, 111, 112, 46, 101, 120, 97, 109, 112, 108, 101, 47, 114, 101, 99, 111, 114, 100, 98, 97, 116, 99, 104, 101, 115, 47, 108, 97, 119, 115, 46, 70, 110, 85, 110, 100, 111, 110, 101, 79, 114, 100, 101, 114, 32, 108, 111, 111, 112, 46, 101, 120, 97, 109, 112, 108, 101, 47, 114, 101, 99, 111, 114, 100, 98, 97, 116, 99, 104, 101, 115, 47, 108, 97, 119, 115, 46, 70, 110, 83, 116, 97, 98, 108, 101, 77, 111, 114, 101, 32, 108, 111, 111, 112, 46, 101, 120, 97, 109, 112, 108, 101, 47, 114, 101, 99, 111, 114, 100, 98, 97, 116, 99, 104, 101, 115, 47, 108, 97, 119, 115, 46, 70, 110, 83, 116, 97, 98, 108, 101, 68, 101, 99, 105, 100, 101, 32, 108, 111, 111, 112, 46, 101, 120, 97, 109, 112, 108, 101, 47, 114, 101, 99, 111, 114, 100, 98, 97, 116, 99, 104, 101, 115, 47, 108, 97, 119, 115, 46, 70, 110, 83, 116, 97, 98, 108, 101, 65, 108, 108, 32, 108, 111, 111, 112, 46, 101, 120, 97, 109, 112, 108, 101, 47, 114, 101, 99, 111, 114, 100, 98, 97, 116, 99, 104, 101, 115, 47, 108, 97, 119, 115, 46, 70, 110, 69, 120, 97, 99, 116, 83, 116, 97, 98, 108, 101, 69, 110, 100, 32, 108, 111, 111, 112, 46, 101, 120, 97, 109, 112, 108, 101, 47, 114, 101, 99, 111, 114, 100, 98, 97, 116, 99, 104, 101, 115, 47, 108, 97, 119, 115, 46, 70, 110, 83, 116, 97, 98, 108, 101, 82, 101, 99, 111, 114, 100, 115, 82, 101, 97, 100, 32, 108, 111, 111, 112, 46, 101, 120, 97, 109, 112, 108, 101, 47, 114, 101, 99, 111, 114, 100, 98, 97, 116, 99, 104, 101, 115, 47, 108, 97, 119, 115, 46, 70, 110, 83, 116, 97, 98, 108, 101, 82, 101, 99, 111, 114, 100, 115, 32, 108, 111, 111, 112, 46, 101, 120, 97, 109, 112, 108, 101, 47, 114, 101, 99, 111, 114, 100, 98, 97, 116, 99, 104, 101, 115, 47, 108, 97, 119, 115, 46, 70, 110, 69, 120, 97, 99, 116, 85, 110, 100, 111, 110, 101, 79, 102, 32, 108, 111, 111, 112, 46, 101, 120, 97, 109, 112, 108, 101, 47, 114, 101, 99, 111, 114, 100, 98, 97, 116, 99, 104, 101, 115, 47, 108, 97, 119, 115, 46, 70, 110, 69, 120, 97, 99, 116, 83, 116, 97, 98, 108, 101, 82, 101, 99, 111, 114, 100, 115]
theorem init_is : Try.prog.initOrder = String.ofList (chs word1 ++ Char.ofNat 32 :: (chs word2 ++ Char.ofNat 32 :: (chs word3 ++ Char.ofNat 32 :: chs signs))) := by kernel_rfl
theorem init_words : wordsSigns Try.prog.initOrder.toList = chs word1 :: chs word2 :: chs word3 :: wordsSigns (chs signs) := by
  rw [init_is, String.toList_ofList, wordsSigns_word _ _ (by decide +kernel), wordsSigns_word _ _ (by decide +kernel), wordsSigns_word _ _ (by decide +kernel)]
theorem behind_is : ∃ R, behindMainWord (wordsSigns Try.prog.initOrder.toList) = chs word3 :: R := by
  rw [init_words]
  generalize wordsSigns (chs signs) = R
  exact ⟨R, by kernel_rfl⟩
theorem strip_is (R : List (List Char)) : stripLifts liftWords (chs word3 :: R) = ([], chs word3 :: R) := by kernel_rfl
theorem make_is : Try.prog.make = some .cut := by
  obtain ⟨R, h⟩ := behind_is
  exact make_of _ _ R h (by kernel_rfl) (by kernel_rfl)
theorem lays_later : Try.prog.laysLater = false := by kernel_rfl
theorem bears_reflect : Try.prog.bearsReflect = false := by kernel_rfl
theorem door_fits : Try.prog.doorFits [] = true := by kernel_rfl
theorem may_enter : Try.prog.mayEnter = true := by
  obtain ⟨R, h⟩ := behind_is
  exact enter_of _ _ R h (strip_is R) (by kernel_rfl) lays_later bears_reflect door_fits
theorem lifts_final : Try.prog.liftsFinal = false := by
  obtain ⟨R, h⟩ := behind_is
  exact lifts_of _ _ R h (strip_is R) (by kernel_rfl)
theorem and2 {a b : Bool} (h : a = true) (h2 : b = true) : (a && b) = true := by rw [h, h2]; rfl
theorem closed_of (P : Program) (f : FuncId) (fn : Func) (s : ChangeSpec) (c : OpenClaim) (k0 : (c.wf (OpenSpec.ofChange s)) = true) (k1 : (laidOutB P) = true) (k2 : (mapsRowed P) = true) (k3 : (fn.params.all (P.readableRec ·)) = true) (k4 : (namedTie P c.named s.vars) = true) (k5 : ((c.stops == [])) = true) (k6 : ((P.stops == [])) = true) (k7 : ((c.knobs == [])) = true) (k8 : ((P.stopKnobs == [])) = true) (k9 : ((c.inPlace == P.inPlace f)) = true) (k10 : ((c.unfollowed == P.unfollowed f)) = true) (k11 : ((c.recurses == P.recurses f)) = true) (k12 : ((c.named == P.varsNamed f)) = true) (k13 : ((c.maps == (fn.params.toList ++ s.plain.varTypes P).any (P.mapsRec ·))) = true) (k14 : ((c.ifaces == (fn.params.toList ++ s.plain.varTypes P).any (P.ifacesRec ·))) = true) (k15 : ((c.mapsOut == P.mapsAmong fn.resultTypes.toList)) = true) (k16 : ((c.loops == (fn.params.toList ++ s.plain.varTypes P).any (P.loopsFrom ·))) = true) (k17 : ((c.wideKeys == (fn.params.toList ++ s.plain.varTypes P ++ fn.resultTypes.toList).any (P.wideKeysFrom ·))) = true) (k18 : (s.vars.all (P.varReadable ·)) = true) (k19 : (fn.resultTypes.all (fun t => P.readableRec t && decide (t < P.types.size))) = true) (k20 : ((c.ifacesOut == fn.resultTypes.toList.any (P.ifacesRec ·))) = true) (k21 : ((c.loopsOut == fn.resultTypes.toList.any (P.loopsFrom ·))) = true) (k22 : ((c.plainKeys == P.plainKeys)) = true) (k23 : (c.shortTexts.isNone) = true) (k24 : (P.stopsHeard) = true) (k25 : (P.mayEnter) = true) (k26 : ((c.lifted == P.liftsFinal)) = true) (k27 : ((P.make == some c.make)) = true) (k28 : ((c.kinds == (if c.domain.isEmpty then [] else fn.params.toList.map fun t => match P.underlying t with | some (.int k) => some k | _ => none))) = true) (k29 : ((c.pinned == c.pinnedBy)) = true) (k30 : ((c.veiled == (fn.params.toList ++ s.plain.varTypes P ++ fn.resultTypes.toList).any (P.veiledRec ·))) = true) (k31 : (c.veiledFits P fn.params.toList (fn.params.toList ++ s.plain.varTypes P ++ fn.resultTypes.toList)) = true) : joinedFacts P f fn s c = true := by
  unfold joinedFacts
  exact (and2 (and2 (and2 (and2 (and2 (and2 (and2 (and2 (and2 (and2 (and2 (and2 (and2 (and2 (and2 (and2 (and2 (and2 (and2 (and2 (and2 (and2 (and2 (and2 (and2 (and2 (and2 (and2 (and2 (and2 (and2 k0 k1) k2) k3) k4) k5) k6) k7) k8) k9) k10) k11) k12) k13) k14) k15) k16) k17) k18) k19) k20) k21) k22) k23) k24) k25) k26) k27) k28) k29) k30) k31)
end Go.Proofs.Yticpnjhkdfdkkaa.Head
namespace Go.Proofs.Yticpnjhkdfdkkaa.T
open Go.RowKit Go.Proofs.YticpnjhkdfdkkaaW.PrintWords Go.Proofs.YticpnjhkdfdkkaaW.PrintLast Go.Proofs.YticpnjhkdfdkkaaW.PrintMore

set_option linter.unusedVariables false
set_option linter.unusedSimpArgs false
def errW : Option Int → Value
 | none => .nilIface
 | some c => .iface 0 (.int .i64 c)
theorem errW_none : errW none = .nilIface := rfl
theorem errW_some (c : Int) : errW (some c) = .iface 0 (.int .i64 c) := rfl
theorem info5 : (Try.prog.info? 5).map (fun i => (i.zero, i.size, i.bytes)) = some (some (.int .u8 0), 1, 1) := by kernel_rfl
structure S34 where
 f0 : Int
 f1 : Int
 f2 : Bool
 f3 : (List Int)
 f4 : Bool
 f5 : (List Int)
def z34 : S34 := ⟨(0 : Int), (0 : Int), false, ([] : List Int), false, ([] : List Int)⟩
def k34 : Kd S34 := Kd.iso (Kd.pair (Kd.int .i64) (Kd.pair (Kd.int .i64) (Kd.pair Kd.bool (Kd.pair (Kd.slice 3 (Kd.int .i64)) (Kd.pair Kd.bool (Kd.slice 3 (Kd.int .i64))))))) (fun x : S34 => (x.f0, x.f1, x.f2, x.f3, x.f4, x.f5))
theorem k34_open {w : World} {x : S34} {cs : List Value} (h : k34.K w x cs) : ∃ A3 c3 A5 c5, cs = [.int .i64 x.f0, .int .i64 x.f1, .bool x.f2, .slice A3 x.f3.length c3, .bool x.f4, .slice A5 x.f5.length c5] ∧ x.f3.length ≤ c3 ∧ (Kd.int .i64).C w A3 x.f3.length x.f3 ∧ x.f5.length ≤ c5 ∧ (Kd.int .i64).C w A5 x.f5.length x.f5 := by
 obtain ⟨_, _, rfl, rfl, ⟨_, _, rfl, rfl, ⟨_, _, rfl, rfl, ⟨_, _, rfl, ⟨A3, c3, rfl, l3, g3⟩, ⟨_, _, rfl, rfl, ⟨A5, c5, rfl, l5, g5⟩⟩⟩⟩⟩⟩ := h
 exact ⟨A3, c3, A5, c5, rfl, l3, g3, l5, g5⟩
theorem k34_mk (w : World) (x : S34) {A3 : Option Addr} {c3 : Nat} (l3 : x.f3.length ≤ c3) (g3 : (Kd.int .i64).C w A3 x.f3.length x.f3) {A5 : Option Addr} {c5 : Nat} (l5 : x.f5.length ≤ c5) (g5 : (Kd.int .i64).C w A5 x.f5.length x.f5) : k34.K w x [.int .i64 x.f0, .int .i64 x.f1, .bool x.f2, .slice A3 x.f3.length c3, .bool x.f4, .slice A5 x.f5.length c5] := ⟨[.int .i64 x.f0], [.int .i64 x.f1, .bool x.f2, .slice A3 x.f3.length c3, .bool x.f4, .slice A5 x.f5.length c5], rfl, rfl, ⟨[.int .i64 x.f1], [.bool x.f2, .slice A3 x.f3.length c3, .bool x.f4, .slice A5 x.f5.length c5], rfl, rfl, ⟨[.bool x.f2], [.slice A3 x.f3.length c3, .bool x.f4, .slice A5 x.f5.length c5], rfl, rfl, ⟨[.slice A3 x.f3.length c3], [.bool x.f4, .slice A5 x.f5.length c5], rfl, ⟨A3, c3, rfl, l3, g3⟩, ⟨[.bool x.f4], [.slice A5 x.f5.length c5], rfl, rfl, ⟨A5, c5, rfl, l5, g5⟩⟩⟩⟩⟩⟩
theorem k34_openF {W : World} {ok : Nat → Prop} {x : S34} {cs : List Value} (h : Kd.FK k34 W ok x cs) : ∃ A3 c3 A5 c5, cs = [.int .i64 x.f0, .int .i64 x.f1, .bool x.f2, .slice A3 x.f3.length c3, .bool x.f4, .slice A5 x.f5.length c5] ∧ x.f3.length ≤ c3 ∧ Kd.F (Kd.int .i64) W ok A3 x.f3.length x.f3 ∧ x.f5.length ≤ c5 ∧ Kd.F (Kd.int .i64) W ok A5 x.f5.length x.f5 := by
 obtain ⟨A3, c3, A5, c5, rfl, l3, _, l5, _⟩ := k34_open (Kd.FK_now h)
 exact ⟨A3, c3, A5, c5, rfl, l3, (fun W' hW => by obtain ⟨A3_, c3_, A5_, c5_, he, l3_, g3_, l5_, g5_⟩ := k34_open (h W' hW); injection (Option.some.inj (show some (Value.slice A3 x.f3.length c3) = some (Value.slice A3_ x.f3.length c3_) from congrArg (fun l => l[3]?) he)) with ha_ _ _; rw [ha_]; exact g3_), l5, (fun W' hW => by obtain ⟨A3_, c3_, A5_, c5_, he, l3_, g3_, l5_, g5_⟩ := k34_open (h W' hW); injection (Option.some.inj (show some (Value.slice A5 x.f5.length c5) = some (Value.slice A5_ x.f5.length c5_) from congrArg (fun l => l[5]?) he)) with ha_ _ _; rw [ha_]; exact g5_)⟩
theorem k34_mkF (W : World) (ok : Nat → Prop) (x : S34) {A3 : Option Addr} {c3 : Nat} (l3 : x.f3.length ≤ c3) (g3 : Kd.F (Kd.int .i64) W ok A3 x.f3.length x.f3) {A5 : Option Addr} {c5 : Nat} (l5 : x.f5.length ≤ c5) (g5 : Kd.F (Kd.int .i64) W ok A5 x.f5.length x.f5) : Kd.FK k34 W ok x [.int .i64 x.f0, .int .i64 x.f1, .bool x.f2, .slice A3 x.f3.length c3, .bool x.f4, .slice A5 x.f5.length c5] := fun W2 hW => k34_mk W2 x l3 (g3 W2 hW) l5 (g5 W2 hW)
def rd_T34 (xs : List S34) (i : Int) : S34 := xs.getD i.toNat z34
theorem at_T34 {w : World} {A : Option Addr} {n : Nat} {xs : List S34} (h : Kd.C k34 w A n xs) (i : Int) (h0 : 0 ≤ i) (h1 : i < n) : ∃ ad A3 c3 A5 c5, A = some ad ∧ w.cell? (ad.add (i.toNat * 6)) = some (.int .i64 (rd_T34 xs i).f0) ∧ w.cell? ⟨(ad.add (i.toNat * 6)).block, (ad.add (i.toNat * 6)).off + 1, none⟩ = some (.int .i64 (rd_T34 xs i).f1) ∧ w.cell? ⟨(ad.add (i.toNat * 6)).block, (ad.add (i.toNat * 6)).off + 2, none⟩ = some (.bool (rd_T34 xs i).f2) ∧ w.cell? ⟨(ad.add (i.toNat * 6)).block, (ad.add (i.toNat * 6)).off + 3, none⟩ = some (.slice A3 (rd_T34 xs i).f3.length c3) ∧ w.cell? ⟨(ad.add (i.toNat * 6)).block, (ad.add (i.toNat * 6)).off + 4, none⟩ = some (.bool (rd_T34 xs i).f4) ∧ w.cell? ⟨(ad.add (i.toNat * 6)).block, (ad.add (i.toNat * 6)).off + 5, none⟩ = some (.slice A5 (rd_T34 xs i).f5.length c5) ∧ (rd_T34 xs i).f3.length ≤ c3 ∧ (Kd.int .i64).C w A3 (rd_T34 xs i).f3.length (rd_T34 xs i).f3 ∧ (rd_T34 xs i).f5.length ≤ c5 ∧ (Kd.int .i64).C w A5 (rd_T34 xs i).f5.length (rd_T34 xs i).f5 := by
 obtain ⟨ad, c, e, _, hK, hc0⟩ := Kd.C_get h z34 i h0 h1
 have hc : ∀ j u, c[j]? = some u → w.cell? (ad.add (i.toNat * 6 + j)) = some u := hc0
 obtain ⟨A3, c3, A5, c5, rfl, l3, g3, l5, g5⟩ := k34_open hK
 exact ⟨ad, A3, c3, A5, c5, e, hc 0 _ rfl, by rw [← add_field _ _ 1 (by omega)]; exact hc 1 _ rfl, by rw [← add_field _ _ 2 (by omega)]; exact hc 2 _ rfl, by rw [← add_field _ _ 3 (by omega)]; exact hc 3 _ rfl, by rw [← add_field _ _ 4 (by omega)]; exact hc 4 _ rfl, by rw [← add_field _ _ 5 (by omega)]; exact hc 5 _ rfl, l3, g3, l5, g5⟩
structure S27 where
 f0 : Bool
 f1 : Bool
 f2 : Int
 f3 : Int
 f4 : Int
 f5 : (List S34)
def k27 : Kd S27 := Kd.iso (Kd.pair Kd.bool (Kd.pair Kd.bool (Kd.pair (Kd.int .i64) (Kd.pair (Kd.int .i64) (Kd.pair (Kd.int .i64) (Kd.slice 34 k34)))))) (fun x : S27 => (x.f0, x.f1, x.f2, x.f3, x.f4, x.f5))
end Go.Proofs.Yticpnjhkdfdkkaa.T
namespace Go.Proofs.Yticpnjhkdfdkkaa.T
open Go.RowKit Go.Proofs.YticpnjhkdfdkkaaW.PrintWords Go.Proofs.YticpnjhkdfdkkaaW.PrintLast Go.Proofs.YticpnjhkdfdkkaaW.PrintMore

set_option linter.unusedVariables false
set_option linter.unusedSimpArgs false
def IsS94 (w0 W : World) (g : Nat) (f0 : List Int) (f1 : Int) : Prop := ∃ A0 c0, W.heap[g]? = some (.cells #[.slice A0 f0.length c0, .int .i64 f1] 94 (0, 0)) ∧ w0.heap.size ≤ g ∧ Kd.C (Kd.int .u8) w0 A0 f0.length f0
theorem IsS94.grown {w0 W : World} {g : Nat} {f0 : List Int} {f1 : Int} {W1 : World} {row : Option Nat} (h : IsS94 w0 W g f0 f1) (hw : W.grownBy W1 row) (hne : some g ≠ row) : IsS94 w0 W1 g f0 f1 := by
 obtain ⟨A0, c0, hb, hg, hr0⟩ := h
 exact ⟨A0, c0, blk_grown hb hw hne, hg, hr0⟩
theorem IsS94.below {w0 W : World} {g : Nat} {f0 : List Int} {f1 : Int} {W1 : World} (h : IsS94 w0 W g f0 f1) (hw : Below W.heap.size W W1) : IsS94 w0 W1 g f0 f1 := h.grown (grown_of_below hw none) (by simp)
theorem IsS94.drewN {w0 W : World} {g : Nat} {f0 : List Int} {f1 : Int} (h : IsS94 w0 W g f0 f1) (m : Nat) : IsS94 w0 (W.drewN m) g f0 f1 := h
theorem IsS94.drew {w0 W : World} {g : Nat} {f0 : List Int} {f1 : Int} (h : IsS94 w0 W g f0 f1) : IsS94 w0 W.drew g f0 f1 := h
theorem IsS94.apart {w0 W : World} {g : Nat} {f0 : List Int} {f1 : Int} {α : Type} {d : Kd α} {e : Nat} {base : Nat} {ok : Nat → Prop} {v : Value} {xs : List α} (h : IsS94 w0 W g f0 f1) (ho : d.R e W base ok v xs) (ht : ∀ q, q ∈ e :: d.E → q ≠ 94) : d.R e W base (fun k => ok k ∧ k ≠ g) v xs := by
 obtain ⟨A0, c0, hb, hg, hr0⟩ := h
 exact Kd.R_types ho hb ht
theorem IsS94.ge {w0 W : World} {g : Nat} {f0 : List Int} {f1 : Int} (h : IsS94 w0 W g f0 f1) : w0.heap.size ≤ g := by
 obtain ⟨A0, c0, hb, hg, hr0⟩ := h
 exact hg
theorem cellS94_0 {W : World} {g : Nat} {A0 : Option Addr} {c0 : Nat} {f0 : List Int} {f1 : Int} (h : W.heap[g]? = some (.cells #[.slice A0 f0.length c0, .int .i64 f1] 94 (0, 0))) : W.cell? ⟨g, 0, none⟩ = some (.slice A0 f0.length c0) := (zzk h 0).trans rfl
theorem cellS94_1 {W : World} {g : Nat} {A0 : Option Addr} {c0 : Nat} {f0 : List Int} {f1 : Int} (h : W.heap[g]? = some (.cells #[.slice A0 f0.length c0, .int .i64 f1] 94 (0, 0))) : W.cell? ⟨g, 1, none⟩ = some (.int .i64 f1) := (zzk h 1).trans rfl
theorem IsS94.set_1 {w0 W : World} {g : Nat} {f0 : List Int} {f1 : Int} (h : IsS94 w0 W g f0 f1) (x : Int) : IsS94 w0 (W.setCell ⟨g, 1, none⟩ (.int .i64 x)) g f0 x := by
 obtain ⟨A0, c0, hb, hg, hr0⟩ := h
 exact ⟨A0, c0, by simpa using blk_set hb 1 (.int .i64 x), hg, hr0⟩
def spec_l6Open.f (l0 : List Int) : Option (List Int × Int) := if (l0.length : Int) > 2000 then (if 2000 ≤ (l0.length : Int) then (some (l0.take 2000, 0)) else (none)) else (some (l0, 0))
set_option maxHeartbeats 8000000 in
set_option maxRecDepth 100000 in
theorem spec_l6Open.calls (A0 : Option Addr) (c0 : Nat) (l0 : List Int) (r1 : List Int) (r2 : Int) (w0 w : World) (hB : Below w0.heap.size w0 w) (hr0 : Kd.C (Kd.int .u8) w0 A0 l0.length l0) (hc0 : l0.length ≤ c0) (h : spec_l6Open.f l0 = some (r1, r2)) :
  Calls Try.prog 53 #[.slice A0 l0.length c0] w fun e w' => ∃ g_ : Nat, e = .returned (.pointer (some ⟨g_, 0, none⟩)) ∧ IsS94 w0 w' g_ r1 r2 ∧ Below w0.heap.size w0 w' ∧ Below w.heap.size w w' := by
 have hu94 := Try.underlying94
 have HR0 := zzm hr0
 have HC0 := zzm hc0
 clear hr0 hc0
 have HBW := zzm (Below.refl w.heap.size w)
 have HW0 := zzm hB.size
 have HB := zzm hB
 clear hB
 have H : (if (l0.length : Int) > 2000 then (if 2000 ≤ (l0.length : Int) then (some (l0.take 2000, 0)) else (none)) else (some (l0, 0))) = some (r1, r2) := h
 clear h
 by_cases c2 : (l0.length : Int) > 2000
 ·
  rw [if_pos c2] at H
  have c2b0 : decide (2000 < (l0.length : Int)) = true := decide_eq_true c2
  have c2b1 : decide (2000 < l0.length) = true := decide_eq_true (by omega)
  clear c2
  by_cases c3 : 2000 ≤ (l0.length : Int)
  ·
   rw [if_pos c3] at H
   have c3b0 := eq_true c3
   have c3b1 : decide (2000 ≤ (l0.length : Int)) = true := decide_eq_true c3
   clear c3
   simp only [Option.some.injEq, Prod.mk.injEq] at H
   obtain ⟨rfl, rfl⟩ := H
   obtain ⟨i04, hi04, _, hsz4, _⟩ := info_parts info5
   obtain ⟨hcut4, hA4, hC4⟩ := print_take_of (P := Try.prog) (Value.int .u8) 0 22 5 .i64 Try.underlying22 hi04 hsz4 A0 c0 l0 2000 (by omega) (of_decide_eq_true (by first | (with_reducible assumption) | assumption)) HC0.out
   have HR101 := zzm (Kd.C_of_reads (h1 := fun _ => rfl) (hA4 _ (Kd.reads_of_C HR0.out)))
   have HC101 := zzm hC4
   clear hA4 hC4 hi04 hsz4
   go_enter Try.func53, Try.ntmps53
   go_wp2_with (first | ((with_reducible refine gate_dst (N := 10) rfl ?_); refine box_event ?hg (N := 10) ?hd (cs := #[.slice A0 (l0.take 2000).length c0, .int .i64 0]) (t := 94) ?hr ?_; (case hd => rfl); (case hg => rfl); (case hr => first | (go_simp; done) | (go_simp; rfl)); intro gb102 hg w5 hbox hb; have n0_ := zzm (zzp HBW.out hb); have n1_ := zzm (zzp (by repeat (first | (with_reducible first | exact HB.out | apply zza | apply zzb | apply zzc) | exact HB.out)) hb); have n2_ := zzm (hbox); have n3_ := zzm ((by rw [hg]; exact (zzo (by repeat (first | (with_reducible first | exact HBW.out | apply zza | apply zzb | apply zzc) | exact HBW.out))) : w.heap.size ≤ gb102)); have n4_ := zzm ((Nat.le_trans HW0.out (by rw [hg]; exact (zzo (by repeat (first | (with_reducible first | exact HBW.out | apply zza | apply zzb | apply zzc) | exact HBW.out))) : w.heap.size ≤ gb102) : w0.heap.size ≤ gb102)); clear HBW HB; have HBW := n0_; have HB := n1_; have BK102 := n2_; have GW102 := n3_; have GE102 := n4_; clear n0_ n1_ n2_ n3_ n4_ hb hbox hg))
   go_ret
   exact ⟨_, rfl, (show IsS94 w0 _ gb102 (l0.take 2000) 0 from ⟨_, _, by (with_reducible repeat (first | refine zzf ?_ _ | refine zzg ?_ | refine zze ?_ _)); exact BK102.out, GE102.out, HR101.out⟩), by repeat (first | (with_reducible first | exact HB.out | apply zza | apply zzb | apply zzc | refine zzd ?_ GE102.out) | exact HB.out), by repeat (first | (with_reducible first | exact HBW.out | apply zza | apply zzb | apply zzc | refine zzd ?_ GW102.out) | exact HBW.out)⟩
  ·
   rw [if_neg c3] at H
   exact absurd H (by simp)
 ·
  rw [if_neg c2] at H
  have c2b0 : decide (2000 < (l0.length : Int)) = false := decide_eq_false c2
  have c2b1 : decide (2000 < l0.length) = false := decide_eq_false (by omega)
  clear c2
  simp only [Option.some.injEq, Prod.mk.injEq] at H
  obtain ⟨rfl, rfl⟩ := H
  go_enter Try.func53, Try.ntmps53
  go_wp2_with (first | ((with_reducible refine gate_dst (N := 10) rfl ?_); refine box_event ?hg (N := 10) ?hd (cs := #[.slice A0 l0.length c0, .int .i64 0]) (t := 94) ?hr ?_; (case hd => rfl); (case hg => rfl); (case hr => first | (go_simp; done) | (go_simp; rfl)); intro gb103 hg w6 hbox hb; have n0_ := zzm (zzp HBW.out hb); have n1_ := zzm (zzp (by repeat (first | (with_reducible first | exact HB.out | apply zza | apply zzb | apply zzc) | exact HB.out)) hb); have n2_ := zzm (hbox); have n3_ := zzm ((by rw [hg]; exact (zzo (by repeat (first | (with_reducible first | exact HBW.out | apply zza | apply zzb | apply zzc) | exact HBW.out))) : w.heap.size ≤ gb103)); have n4_ := zzm ((Nat.le_trans HW0.out (by rw [hg]; exact (zzo (by repeat (first | (with_reducible first | exact HBW.out | apply zza | apply zzb | apply zzc) | exact HBW.out))) : w.heap.size ≤ gb103) : w0.heap.size ≤ gb103)); clear HBW HB; have HBW := n0_; have HB := n1_; have BK103 := n2_; have GW103 := n3_; have GE103 := n4_; clear n0_ n1_ n2_ n3_ n4_ hb hbox hg))
  go_ret
  exact ⟨_, rfl, (show IsS94 w0 _ gb103 l0 0 from ⟨_, _, by (with_reducible repeat (first | refine zzf ?_ _ | refine zzg ?_ | refine zze ?_ _)); exact BK103.out, GE103.out, HR0.out⟩), by repeat (first | (with_reducible first | exact HB.out | apply zza | apply zzb | apply zzc | refine zzd ?_ GE103.out) | exact HB.out), by repeat (first | (with_reducible first | exact HBW.out | apply zza | apply zzb | apply zzc | refine zzd ?_ GW103.out) | exact HBW.out)⟩
end Go.Proofs.Yticpnjhkdfdkkaa.T
namespace Go.Proofs.Yticpnjhkdfdkkaa.T
open Go.RowKit Go.Proofs.YticpnjhkdfdkkaaW.PrintWords Go.Proofs.YticpnjhkdfdkkaaW.PrintLast Go.Proofs.YticpnjhkdfdkkaaW.PrintMore

set_option linter.unusedVariables false
set_option linter.unusedSimpArgs false
def spec_l6Rd_pick.j0 : Nat → Int → Bool → List Int → Int → Option (Int × Int)
 | 0, _, _, _, _ => none
 | k + 1, x1, x24, x1000, x1001 => if x24 = true then (some (0, x1001)) else (if (wrap64 (x1001 - 1)) < (x1000.length : Int) then (if 0 ≤ (wrap64 (x1001 - 1)) then (if x1 = 0 then (none) else (some (Int.tmod (wrap64 (rd x1000 (wrap64 (x1001 - 1)))) x1, x1001))) else (none)) else (if (x1000.length : Int) = 0 then (none) else (if 0 ≤ (Int.tmod (wrap64 (x1001 - 1)) (x1000.length : Int)) then (if (Int.tmod (wrap64 (x1001 - 1)) (x1000.length : Int)) < (x1000.length : Int) then (if 0 ≤ (Int.tmod (wrap64 ((wrap64 ((wrap64 (x1001 - 1)) * 7)) + 3)) (x1000.length : Int)) then (if (Int.tmod (wrap64 ((wrap64 ((wrap64 (x1001 - 1)) * 7)) + 3)) (x1000.length : Int)) < (x1000.length : Int) then (if x1 = 0 then (none) else (some (Int.tmod (Go.bits .xor .i64 (wrap64 ((wrap64 ((wrap64 ((wrap64 ((wrap64 (rd x1000 (Int.tmod (wrap64 (x1001 - 1)) (x1000.length : Int)))) * 131)) + (wrap64 ((wrap64 (rd x1000 (Int.tmod (wrap64 ((wrap64 ((wrap64 (x1001 - 1)) * 7)) + 3)) (x1000.length : Int)))) * 1117)))) + (wrap64 ((wrap64 (x1001 - 1)) * 29)))) + (wrap64 ((wrap64 (Int.tdiv (wrap64 (x1001 - 1)) (x1000.length : Int))) * 53)))) (wrap64 (Int.tdiv (wrap64 ((wrap64 ((wrap64 ((wrap64 ((wrap64 (rd x1000 (Int.tmod (wrap64 (x1001 - 1)) (x1000.length : Int)))) * 131)) + (wrap64 ((wrap64 (rd x1000 (Int.tmod (wrap64 ((wrap64 ((wrap64 (x1001 - 1)) * 7)) + 3)) (x1000.length : Int)))) * 1117)))) + (wrap64 ((wrap64 (x1001 - 1)) * 29)))) + (wrap64 ((wrap64 (Int.tdiv (wrap64 (x1001 - 1)) (x1000.length : Int))) * 53)))) 64))) x1, x1001))) else (none)) else (none)) else (none)) else (none))))
def spec_l6Rd_pick.f (k : Nat) (s0_0 : List Int) (s0_1 : Int) (a1 : Int) : Option (Int × Int) := if a1 < 1 then (spec_l6Rd_pick.j0 k a1 true s0_0 (wrap64 (s0_1 + 1))) else (spec_l6Rd_pick.j0 k a1 ((s0_0.length : Int) == 0) s0_0 (wrap64 (s0_1 + 1)))
set_option maxHeartbeats 8000000 in
set_option maxRecDepth 100000 in
theorem spec_l6Rd_pick.calls (k : Nat) (g : Nat) (s0_0 : List Int) (s0_1 : Int) (a1 : Int) (r1 : Int) (r2 : Int) (w0 w : World) (hI : IsS94 w0 w g s0_0 s0_1) (hB : Below w0.heap.size w0 w) (h : spec_l6Rd_pick.f k s0_0 s0_1 a1 = some (r1, r2)) :
  Calls Try.prog 54 #[.pointer (some ⟨g, 0, none⟩), .int .i64 a1] w fun e w' => e = .returned (.int .i64 r1) ∧ IsS94 w0 w' g s0_0 r2 ∧ Below w0.heap.size w0 w' ∧ KeepBut w w' g none := by
 have HI0 := zzm hI
 have HK := zzm (KeepBut.refl w g none)
 have HL := zzm hB.size
 clear hI
 have HW0 := zzm hB.size
 have HB := zzm hB
 clear hB
 have H : (if a1 < 1 then (spec_l6Rd_pick.j0 k a1 true s0_0 (wrap64 (s0_1 + 1))) else (spec_l6Rd_pick.j0 k a1 ((s0_0.length : Int) == 0) s0_0 (wrap64 (s0_1 + 1)))) = some (r1, r2) := h
 clear h
 have HC3 := zzm H
 clear H
 obtain ⟨ASz4_0, cSz4_0, HGz4, hgz4, HSz4_0⟩ := HI0.out
 have hcz4_0 := cellS94_0 HGz4
 have hcz4_1 := cellS94_1 HGz4
 have hfz4_1 := zzl HGz4 1
 clear HGz4 hgz4
 go_enter Try.func54, Try.ntmps54
 go_upto_region 2 with (fail)
 repeat (go_quiet (fail); go_upto_region 2 with (fail))
 go_cut [24] (fun v24 wc => ∃ (kq : Nat) (x24_2 : Bool), v24 = .bool x24_2 ∧ Aside0 (spec_l6Rd_pick.j0 kq a1 x24_2 s0_0 (wrap64 (s0_1 + 1)) = some (r1, r2)) ∧ Aside0 (kq ≤ k) ∧ Aside0 (IsS94 w0 wc g s0_0 (wrap64 (s0_1 + 1))) ∧ Aside0 (KeepBut w wc g none) ∧ Aside0 (Below w0.heap.size w0 wc))
 case first =>
  have H := HC3.out
  clear HC3
  by_cases c5 : a1 < 1
  ·
   rw [if_pos c5] at H
   have c5b0 : decide (a1 < 1) = true := decide_eq_true c5
   clear c5
   (first | rw [c5b0] | (simp only [i64_w, i32_w]; rw [c5b0]) | skip)
   have H' := zzm H
   clear H
   go_wp2
   repeat (go_quiet (fail); try go_wp2)
   go_meet
   case rel => exact ⟨_, (true), (by first | rfl | (simp; done) | (simp [*]; done)), H', ⟨by first | omega | exact Nat.le_refl _⟩, ⟨by repeat (first | (with_reducible first | exact HI0.out | apply IsS94.alloc | apply IsS94.drewN | apply IsS94.drew | apply IsS94.set_1) | exact HI0.out)⟩, ⟨by repeat (first | (with_reducible first | exact HK.out | apply KeepBut.set_ | apply keep_drewN | apply keep_drew | apply keep_alloc) | exact HK.out)⟩, ⟨by repeat (first | (with_reducible first | exact HB.out | apply zza | apply zzb | apply zzc | refine zzd ?_ (IsS94.ge HI0.out)) | exact HB.out)⟩⟩
  ·
   rw [if_neg c5] at H
   have c5b0 : decide (a1 < 1) = false := decide_eq_false c5
   clear c5
   (first | rw [c5b0] | (simp only [i64_w, i32_w]; rw [c5b0]) | skip)
   have H' := zzm H
   clear H
   obtain ⟨ASz6_0, cSz6_0, HGz6, hgz6, HSz6_0⟩ := HI0.out
   have hcz6_0 := cellS94_0 HGz6
   have hcz6_1 := cellS94_1 HGz6
   have hfz6_1 := zzl HGz6 1
   clear HGz6 hgz6
   go_wp2
   repeat (go_quiet (fail); try go_wp2)
   go_meet
   case rel => exact ⟨_, (((s0_0.length : Int) == 0)), (by first | rfl | (simp; done) | (simp [*]; done)), H', ⟨by first | omega | exact Nat.le_refl _⟩, ⟨by repeat (first | (with_reducible first | exact HI0.out | apply IsS94.alloc | apply IsS94.drewN | apply IsS94.drew | apply IsS94.set_1) | exact HI0.out)⟩, ⟨by repeat (first | (with_reducible first | exact HK.out | apply KeepBut.set_ | apply keep_drewN | apply keep_drew | apply keep_alloc) | exact HK.out)⟩, ⟨by repeat (first | (with_reducible first | exact HB.out | apply zza | apply zzb | apply zzc | refine zzd ?_ (IsS94.ge HI0.out)) | exact HB.out)⟩⟩
 case rest =>
  clear HC3
  try clear p2
  try clear c5
  try clear c5b0
  try clear p6
  try clear hcz4_0
  try clear hcz4_1
  try clear hcz6_0
  try clear hcz6_1
  try clear hfz4_1
  try clear hfz6_1
  obtain ⟨kq, x24_2, rfl, HA, HJ2, HI0, HK, HB⟩ := hcut
  cases kq with
  | zero => exact absurd HA.out (by simp [spec_l6Rd_pick.j0])
  | succ kj2 =>
   have H := HA.out
   clear HA
   simp only [spec_l6Rd_pick.j0] at H
   by_cases c7 : x24_2 = true
   ·
    subst c7
    have H1 : (some (0, (wrap64 (s0_1 + 1)))) = some (r1, r2) := by rw [if_pos rfl] at H; exact H
    clear H
    have H := H1
    clear H1
    simp only [Option.some.injEq, Prod.mk.injEq] at H
    obtain ⟨rfl, rfl⟩ := H
    go_wp2
    repeat (go_quiet (fail); try go_wp2)
    go_ret
    exact ⟨by first | rfl | (simp [errW_none, errW_some] <;> rfl) | (simp [*, errW_none, errW_some] <;> rfl), by repeat (first | (with_reducible first | exact HI0.out | apply IsS94.alloc | apply IsS94.drewN | apply IsS94.drew | apply IsS94.set_1) | exact HI0.out), by repeat (first | (with_reducible first | exact HB.out | apply zza | apply zzb | apply zzc | refine zzd ?_ (IsS94.ge HI0.out)) | exact HB.out), by repeat (first | (with_reducible first | exact HK.out | apply KeepBut.set_ | apply keep_drewN | apply keep_drew | apply keep_alloc) | exact HK.out)⟩
   ·
    replace c7 := Bool.eq_false_iff.mpr c7
    subst c7
    have H1 : (if (wrap64 ((wrap64 (s0_1 + 1)) - 1)) < (s0_0.length : Int) then (if 0 ≤ (wrap64 ((wrap64 (s0_1 + 1)) - 1)) then (if a1 = 0 then (none) else (some (Int.tmod (wrap64 (rd s0_0 (wrap64 ((wrap64 (s0_1 + 1)) - 1)))) a1, (wrap64 (s0_1 + 1))))) else (none)) else (if (s0_0.length : Int) = 0 then (none) else (if 0 ≤ (Int.tmod (wrap64 ((wrap64 (s0_1 + 1)) - 1)) (s0_0.length : Int)) then (if (Int.tmod (wrap64 ((wrap64 (s0_1 + 1)) - 1)) (s0_0.length : Int)) < (s0_0.length : Int) then (if 0 ≤ (Int.tmod (wrap64 ((wrap64 ((wrap64 ((wrap64 (s0_1 + 1)) - 1)) * 7)) + 3)) (s0_0.length : Int)) then (if (Int.tmod (wrap64 ((wrap64 ((wrap64 ((wrap64 (s0_1 + 1)) - 1)) * 7)) + 3)) (s0_0.length : Int)) < (s0_0.length : Int) then (if a1 = 0 then (none) else (some (Int.tmod (Go.bits .xor .i64 (wrap64 ((wrap64 ((wrap64 ((wrap64 ((wrap64 (rd s0_0 (Int.tmod (wrap64 ((wrap64 (s0_1 + 1)) - 1)) (s0_0.length : Int)))) * 131)) + (wrap64 ((wrap64 (rd s0_0 (Int.tmod (wrap64 ((wrap64 ((wrap64 ((wrap64 (s0_1 + 1)) - 1)) * 7)) + 3)) (s0_0.length : Int)))) * 1117)))) + (wrap64 ((wrap64 ((wrap64 (s0_1 + 1)) - 1)) * 29)))) + (wrap64 ((wrap64 (Int.tdiv (wrap64 ((wrap64 (s0_1 + 1)) - 1)) (s0_0.length : Int))) * 53)))) (wrap64 (Int.tdiv (wrap64 ((wrap64 ((wrap64 ((wrap64 ((wrap64 (rd s0_0 (Int.tmod (wrap64 ((wrap64 (s0_1 + 1)) - 1)) (s0_0.length : Int)))) * 131)) + (wrap64 ((wrap64 (rd s0_0 (Int.tmod (wrap64 ((wrap64 ((wrap64 ((wrap64 (s0_1 + 1)) - 1)) * 7)) + 3)) (s0_0.length : Int)))) * 1117)))) + (wrap64 ((wrap64 ((wrap64 (s0_1 + 1)) - 1)) * 29)))) + (wrap64 ((wrap64 (Int.tdiv (wrap64 ((wrap64 (s0_1 + 1)) - 1)) (s0_0.length : Int))) * 53)))) 64))) a1, (wrap64 (s0_1 + 1))))) else (none)) else (none)) else (none)) else (none)))) = some (r1, r2) := by rw [if_neg (show ¬ (false = true) by decide)] at H; exact H
    clear H
    have H := H1
    clear H1
    by_cases c8 : (wrap64 ((wrap64 (s0_1 + 1)) - 1)) < (s0_0.length : Int)
    ·
     rw [if_pos c8] at H
     have c8b0 : decide ((wrap64 ((wrap64 (s0_1 + 1)) - 1)) < (s0_0.length : Int)) = true := decide_eq_true c8
     clear c8
     obtain ⟨ji9, hji9⟩ : ∃ j_ : Int, (wrap64 ((wrap64 (s0_1 + 1)) - 1)) = j_ := ⟨_, rfl⟩
     replace H : (if 0 ≤ (ji9) then (if a1 = 0 then (none) else (some (Int.tmod (wrap64 (rd s0_0 (ji9))) a1, (wrap64 (s0_1 + 1))))) else (none)) = some (r1, r2) := by first | (rw [hji9] at H; exact H) | (simp only [hji9] at H ⊢; exact H)
     (try rw [hji9] at c8b0)
     have hji9w : (IntKind.i64.wrap ((wrap64 (s0_1 + 1)) - 1)) = ji9 := (i64_w _).trans hji9
     by_cases c10 : 0 ≤ (ji9)
     ·
      rw [if_pos c10] at H
      have c10b0 : decide (0 ≤ (ji9)) = true := decide_eq_true c10
      clear c10
      by_cases c11 : a1 = 0
      ·
       rw [if_pos c11] at H
       exact absurd H (by simp)
      ·
       rw [if_neg c11] at H
       have c11b0 : (a1 == 0) = false := beq_eq_false_iff_ne.mpr c11
       have c11b1 : (a1 != 0) = true := bne_iff_ne.mpr c11
       simp only [Option.some.injEq, Prod.mk.injEq] at H
       obtain ⟨rfl, rfl⟩ := H
       obtain ⟨ASz12_0, cSz12_0, HGz12, hgz12, HSz12_0⟩ := HI0.out
       have hcz12_0 := cellS94_0 HGz12
       have hcz12_1 := cellS94_1 HGz12
       have hfz12_1 := zzl HGz12 1
       clear HGz12 hgz12
       have p104 : 0 ≤ ((ji9) : Int) := of_decide_eq_true (by first | (with_reducible assumption) | assumption)
       have q104 : (ji9) < (s0_0.length : Int) := of_decide_eq_true (by first | (with_reducible assumption) | assumption)
       obtain ⟨ad104, e104, hx104_0⟩ := Kd.at_int HSz12_0 (ji9) p104 q104
       cases e104
       replace hx104_0 := pw_cell_below HB.out hx104_0
       replace p104 := eq_true p104
       replace q104 := eq_true q104
       go_wp2
       repeat (go_quiet (fail); try go_wp2)
       go_ret
       exact ⟨by first | rfl | (simp [errW_none, errW_some] <;> rfl) | (simp only [← hji9]; first | rfl | (simp [errW_none, errW_some] <;> rfl)) | (simp [*, errW_none, errW_some] <;> rfl), by repeat (first | (with_reducible first | exact HI0.out | apply IsS94.alloc | apply IsS94.drewN | apply IsS94.drew | apply IsS94.set_1) | exact HI0.out), by repeat (first | (with_reducible first | exact HB.out | apply zza | apply zzb | apply zzc | refine zzd ?_ (IsS94.ge HI0.out)) | exact HB.out), by repeat (first | (with_reducible first | exact HK.out | apply KeepBut.set_ | apply keep_drewN | apply keep_drew | apply keep_alloc) | exact HK.out)⟩
     ·
      rw [if_neg c10] at H
      exact absurd H (by simp)
    ·
     rw [if_neg c8] at H
     have c8b0 : decide ((wrap64 ((wrap64 (s0_1 + 1)) - 1)) < (s0_0.length : Int)) = false := decide_eq_false c8
     clear c8
     by_cases c13 : (s0_0.length : Int) = 0
     ·
      rw [if_pos c13] at H
      exact absurd H (by simp)
     ·
      rw [if_neg c13] at H
      have c13b0 : ((s0_0.length : Int) == 0) = false := beq_eq_false_iff_ne.mpr c13
      have c13b1 : ((s0_0.length : Int) != 0) = true := bne_iff_ne.mpr c13
      have c13b2 : ¬ (s0_0 = []) := fun h_ => c13 (by rw [h_]; rfl)
      obtain ⟨ji14, hji14⟩ : ∃ j_ : Int, (Int.tmod (wrap64 ((wrap64 (s0_1 + 1)) - 1)) (s0_0.length : Int)) = j_ := ⟨_, rfl⟩
      replace H : (if 0 ≤ (ji14) then (if (ji14) < (s0_0.length : Int) then (if 0 ≤ (Int.tmod (wrap64 ((wrap64 ((wrap64 ((wrap64 (s0_1 + 1)) - 1)) * 7)) + 3)) (s0_0.length : Int)) then (if (Int.tmod (wrap64 ((wrap64 ((wrap64 ((wrap64 (s0_1 + 1)) - 1)) * 7)) + 3)) (s0_0.length : Int)) < (s0_0.length : Int) then (if a1 = 0 then (none) else (some (Int.tmod (Go.bits .xor .i64 (wrap64 ((wrap64 ((wrap64 ((wrap64 ((wrap64 (rd s0_0 (ji14))) * 131)) + (wrap64 ((wrap64 (rd s0_0 (Int.tmod (wrap64 ((wrap64 ((wrap64 ((wrap64 (s0_1 + 1)) - 1)) * 7)) + 3)) (s0_0.length : Int)))) * 1117)))) + (wrap64 ((wrap64 ((wrap64 (s0_1 + 1)) - 1)) * 29)))) + (wrap64 ((wrap64 (Int.tdiv (wrap64 ((wrap64 (s0_1 + 1)) - 1)) (s0_0.length : Int))) * 53)))) (wrap64 (Int.tdiv (wrap64 ((wrap64 ((wrap64 ((wrap64 ((wrap64 (rd s0_0 (ji14))) * 131)) + (wrap64 ((wrap64 (rd s0_0 (Int.tmod (wrap64 ((wrap64 ((wrap64 ((wrap64 (s0_1 + 1)) - 1)) * 7)) + 3)) (s0_0.length : Int)))) * 1117)))) + (wrap64 ((wrap64 ((wrap64 (s0_1 + 1)) - 1)) * 29)))) + (wrap64 ((wrap64 (Int.tdiv (wrap64 ((wrap64 (s0_1 + 1)) - 1)) (s0_0.length : Int))) * 53)))) 64))) a1, (wrap64 (s0_1 + 1))))) else (none)) else (none)) else (none)) else (none)) = some (r1, r2) := by first | (rw [hji14] at H; exact H) | (simp only [hji14] at H ⊢; exact H)
      by_cases c15 : 0 ≤ (ji14)
      ·
       rw [if_pos c15] at H
       have c15b0 : decide (0 ≤ (ji14)) = true := decide_eq_true c15
       clear c15
       by_cases c16 : (ji14) < (s0_0.length : Int)
       ·
        rw [if_pos c16] at H
        have c16b0 : decide ((ji14) < (s0_0.length : Int)) = true := decide_eq_true c16
        clear c16
        obtain ⟨ji17, hji17⟩ : ∃ j_ : Int, (Int.tmod (wrap64 ((wrap64 ((wrap64 ((wrap64 (s0_1 + 1)) - 1)) * 7)) + 3)) (s0_0.length : Int)) = j_ := ⟨_, rfl⟩
        replace H : (if 0 ≤ (ji17) then (if (ji17) < (s0_0.length : Int) then (if a1 = 0 then (none) else (some (Int.tmod (Go.bits .xor .i64 (wrap64 ((wrap64 ((wrap64 ((wrap64 ((wrap64 (rd s0_0 (ji14))) * 131)) + (wrap64 ((wrap64 (rd s0_0 (ji17))) * 1117)))) + (wrap64 ((wrap64 ((wrap64 (s0_1 + 1)) - 1)) * 29)))) + (wrap64 ((wrap64 (Int.tdiv (wrap64 ((wrap64 (s0_1 + 1)) - 1)) (s0_0.length : Int))) * 53)))) (wrap64 (Int.tdiv (wrap64 ((wrap64 ((wrap64 ((wrap64 ((wrap64 (rd s0_0 (ji14))) * 131)) + (wrap64 ((wrap64 (rd s0_0 (ji17))) * 1117)))) + (wrap64 ((wrap64 ((wrap64 (s0_1 + 1)) - 1)) * 29)))) + (wrap64 ((wrap64 (Int.tdiv (wrap64 ((wrap64 (s0_1 + 1)) - 1)) (s0_0.length : Int))) * 53)))) 64))) a1, (wrap64 (s0_1 + 1))))) else (none)) else (none)) = some (r1, r2) := by first | (rw [hji17] at H; exact H) | (simp only [hji17] at H ⊢; exact H)
        by_cases c18 : 0 ≤ (ji17)
        ·
         rw [if_pos c18] at H
         have c18b0 : decide (0 ≤ (ji17)) = true := decide_eq_true c18
         clear c18
         by_cases c19 : (ji17) < (s0_0.length : Int)
         ·
          rw [if_pos c19] at H
          have c19b0 : decide ((ji17) < (s0_0.length : Int)) = true := decide_eq_true c19
          clear c19
          by_cases c20 : a1 = 0
          ·
           rw [if_pos c20] at H
           exact absurd H (by simp)
          ·
           rw [if_neg c20] at H
           have c20b0 : (a1 == 0) = false := beq_eq_false_iff_ne.mpr c20
           have c20b1 : (a1 != 0) = true := bne_iff_ne.mpr c20
           simp only [Option.some.injEq, Prod.mk.injEq] at H
           obtain ⟨rfl, rfl⟩ := H
           obtain ⟨ASz21_0, cSz21_0, HGz21, hgz21, HSz21_0⟩ := HI0.out
           have hcz21_0 := cellS94_0 HGz21
           have hcz21_1 := cellS94_1 HGz21
           have hfz21_1 := zzl HGz21 1
           clear HGz21 hgz21
           have p105 : 0 ≤ ((ji14) : Int) := of_decide_eq_true (by first | (with_reducible assumption) | assumption)
           have q105 : (ji14) < (s0_0.length : Int) := of_decide_eq_true (by first | (with_reducible assumption) | assumption)
           obtain ⟨ad105, e105, hx105_0⟩ := Kd.at_int HSz21_0 (ji14) p105 q105
           cases e105
           replace hx105_0 := pw_cell_below HB.out hx105_0
           replace p105 := eq_true p105
           replace q105 := eq_true q105
           have p106 : 0 ≤ ((ji17) : Int) := of_decide_eq_true (by first | (with_reducible assumption) | assumption)
           have q106 : (ji17) < (s0_0.length : Int) := of_decide_eq_true (by first | (with_reducible assumption) | assumption)
           obtain ⟨ad106, e106, hx106_0⟩ := Kd.at_int HSz21_0 (ji17) p106 q106
           obtain rfl : ad105 = ad106 := (by injection e106)
           replace hx106_0 := pw_cell_below HB.out hx106_0
           replace p106 := eq_true p106
           replace q106 := eq_true q106
           go_wp2
           repeat (go_quiet (fail); try go_wp2)
           go_ret
           exact ⟨by first | rfl | (simp [errW_none, errW_some] <;> rfl) | (simp only [← hji14, ← hji17]; first | rfl | (simp [errW_none, errW_some] <;> rfl)) | (simp [*, errW_none, errW_some] <;> rfl), by repeat (first | (with_reducible first | exact HI0.out | apply IsS94.alloc | apply IsS94.drewN | apply IsS94.drew | apply IsS94.set_1) | exact HI0.out), by repeat (first | (with_reducible first | exact HB.out | apply zza | apply zzb | apply zzc | refine zzd ?_ (IsS94.ge HI0.out)) | exact HB.out), by repeat (first | (with_reducible first | exact HK.out | apply KeepBut.set_ | apply keep_drewN | apply keep_drew | apply keep_alloc) | exact HK.out)⟩
         ·
          rw [if_neg c19] at H
          exact absurd H (by simp)
        ·
         rw [if_neg c18] at H
         exact absurd H (by simp)
       ·
        rw [if_neg c16] at H
        exact absurd H (by simp)
      ·
       rw [if_neg c15] at H
       exact absurd H (by simp)
end Go.Proofs.Yticpnjhkdfdkkaa.T
namespace Go.Proofs.Yticpnjhkdfdkkaa.T
open Go.RowKit Go.Proofs.YticpnjhkdfdkkaaW.PrintWords Go.Proofs.YticpnjhkdfdkkaaW.PrintLast Go.Proofs.YticpnjhkdfdkkaaW.PrintMore

set_option linter.unusedVariables false
set_option linter.unusedSimpArgs false
def spec_DrawMarkBatch.f (k : Nat) (l0 : List Int) : Option (Int × Int × Int × Int × Bool) := (spec_l6Open.f l0).bind fun bt107 => ((spec_l6Rd_pick.f k bt107.1 bt107.2 10).bind fun bt110 => (if bt110.1 = 0 then ((some (([(-1), 254, 255] : List Int) : List Int)).bind fun y112 => ((spec_l6Rd_pick.f k bt107.1 bt110.2 3).bind fun bt115 => (if 0 ≤ bt115.1 then (if bt115.1 < (y112.length : Int) then ((spec_l6Rd_pick.f k bt107.1 bt115.2 3).bind fun bt118 => ((some (([(-1), 5, 100000] : List Int) : List Int)).bind fun y120 => ((spec_l6Rd_pick.f k bt107.1 bt118.2 3).bind fun bt123 => (if 0 ≤ bt123.1 then (if bt123.1 < (y120.length : Int) then (some (rd y112 bt115.1, bt118.1, rd y120 bt123.1, 7, true)) else (none)) else (none))))) else (none)) else (none)))) else ((spec_l6Rd_pick.f k bt107.1 bt110.2 5).bind fun bt126 => ((spec_l6Rd_pick.f k bt107.1 bt126.2 5).bind fun bt128 => ((spec_l6Rd_pick.f k bt107.1 bt128.2 60).bind fun bt130 => ((spec_l6Rd_pick.f k bt107.1 bt130.2 250).bind fun bt132 => ((spec_l6Rd_pick.f k bt107.1 bt132.2 2).bind fun bt134 => (some (bt126.1, bt128.1, bt130.1, bt132.1, (bt134.1 == 0))))))))))
def spec_DrawMarkBatch.T3 : Bool × List (List Nat × List Nat) := (true, [([], []), ([], []), ([1], [1]), ([0, 2], [0, 2]), ([3], [3]), ([], []), ([5, 2], [5]), ([], []), ([], []), ([8, 6], [8]), ([7, 9], [7, 9]), ([10], [10]), ([4, 9, 0, 1, 2, 3, 4], [4]), ([6, 12, 0, 1, 2, 3, 4, 5, 6, 12], [6]), ([11, 13, 0, 1, 2, 3, 4, 5, 6, 7, 8, 9, 10, 11, 12, 13], [11]), ([14, 0, 1, 2, 3, 4, 5, 6, 7, 8, 9, 10, 11, 12, 13, 14], []), ([15, 0, 1, 2, 3, 4, 5, 6, 7, 8, 9, 10, 11, 12, 13, 14, 15], [])])
def spec_DrawMarkBatch.B3 : List Nat := [0, 0, 2, 7, 15, 0, 38, 0, 0, 358, 998, 2022, 895, 4991, 16383, 32767, 65535]
theorem spec_DrawMarkBatch.tab3 : rtab .any (opsOf Try.f18 3) = spec_DrawMarkBatch.T3 := by kernel_rfl
theorem spec_DrawMarkBatch.bits3 : waitsOk spec_DrawMarkBatch.T3.2 spec_DrawMarkBatch.B3 = true := by kernel_rfl
set_option maxHeartbeats 8000000 in
set_option maxRecDepth 100000 in
theorem spec_DrawMarkBatch.calls (k : Nat) (A0 : Option Addr) (c0 : Nat) (l0 : List Int) (r1 : Int) (r2 : Int) (r3 : Int) (r4 : Int) (r5 : Bool) (w : World) (hr0 : Kd.C (Kd.int .u8) w A0 l0.length l0) (hc0 : l0.length ≤ c0) (h : spec_DrawMarkBatch.f k l0 = some (r1, r2, r3, r4, r5)) :
  Calls Try.prog 18 #[.slice A0 l0.length c0] w fun e w' => e = .returned (.tuple #[.int .i64 r1, .int .i64 r2, .int .i64 r3, .int .i64 r4, .bool r5]) ∧ Below w.heap.size w w' := by
 have HR0 := zzm hr0
 have HC0 := zzm hc0
 clear hr0 hc0
 have HB := zzm (Below.refl w.heap.size w)
 have H : ((spec_l6Open.f l0).bind fun bt107 => ((spec_l6Rd_pick.f k bt107.1 bt107.2 10).bind fun bt110 => (if bt110.1 = 0 then ((some (([(-1), 254, 255] : List Int) : List Int)).bind fun y112 => ((spec_l6Rd_pick.f k bt107.1 bt110.2 3).bind fun bt115 => (if 0 ≤ bt115.1 then (if bt115.1 < (y112.length : Int) then ((spec_l6Rd_pick.f k bt107.1 bt115.2 3).bind fun bt118 => ((some (([(-1), 5, 100000] : List Int) : List Int)).bind fun y120 => ((spec_l6Rd_pick.f k bt107.1 bt118.2 3).bind fun bt123 => (if 0 ≤ bt123.1 then (if bt123.1 < (y120.length : Int) then (some (rd y112 bt115.1, bt118.1, rd y120 bt123.1, 7, true)) else (none)) else (none))))) else (none)) else (none)))) else ((spec_l6Rd_pick.f k bt107.1 bt110.2 5).bind fun bt126 => ((spec_l6Rd_pick.f k bt107.1 bt126.2 5).bind fun bt128 => ((spec_l6Rd_pick.f k bt107.1 bt128.2 60).bind fun bt130 => ((spec_l6Rd_pick.f k bt107.1 bt130.2 250).bind fun bt132 => ((spec_l6Rd_pick.f k bt107.1 bt132.2 2).bind fun bt134 => (some (bt126.1, bt128.1, bt130.1, bt132.1, (bt134.1 == 0))))))))))) = some (r1, r2, r3, r4, r5) := h
 clear h
 replace H := Option.bind_eq_some_iff.mp H
 obtain ⟨⟨t107, t108⟩, A20, H⟩ := H
 replace H : ((spec_l6Rd_pick.f k t107 t108 10).bind fun bt110 => (if bt110.1 = 0 then ((some (([(-1), 254, 255] : List Int) : List Int)).bind fun y112 => ((spec_l6Rd_pick.f k t107 bt110.2 3).bind fun bt115 => (if 0 ≤ bt115.1 then (if bt115.1 < (y112.length : Int) then ((spec_l6Rd_pick.f k t107 bt115.2 3).bind fun bt118 => ((some (([(-1), 5, 100000] : List Int) : List Int)).bind fun y120 => ((spec_l6Rd_pick.f k t107 bt118.2 3).bind fun bt123 => (if 0 ≤ bt123.1 then (if bt123.1 < (y120.length : Int) then (some (rd y112 bt115.1, bt118.1, rd y120 bt123.1, 7, true)) else (none)) else (none))))) else (none)) else (none)))) else ((spec_l6Rd_pick.f k t107 bt110.2 5).bind fun bt126 => ((spec_l6Rd_pick.f k t107 bt126.2 5).bind fun bt128 => ((spec_l6Rd_pick.f k t107 bt128.2 60).bind fun bt130 => ((spec_l6Rd_pick.f k t107 bt130.2 250).bind fun bt132 => ((spec_l6Rd_pick.f k t107 bt132.2 2).bind fun bt134 => (some (bt126.1, bt128.1, bt130.1, bt132.1, (bt134.1 == 0)))))))))) = some (r1, r2, r3, r4, r5) := H
 have A2 := zzm A20
 clear A20
 replace H := Option.bind_eq_some_iff.mp H
 obtain ⟨⟨t110, t111⟩, A30, H⟩ := H
 replace H : (if t110 = 0 then ((some (([(-1), 254, 255] : List Int) : List Int)).bind fun y112 => ((spec_l6Rd_pick.f k t107 t111 3).bind fun bt115 => (if 0 ≤ bt115.1 then (if bt115.1 < (y112.length : Int) then ((spec_l6Rd_pick.f k t107 bt115.2 3).bind fun bt118 => ((some (([(-1), 5, 100000] : List Int) : List Int)).bind fun y120 => ((spec_l6Rd_pick.f k t107 bt118.2 3).bind fun bt123 => (if 0 ≤ bt123.1 then (if bt123.1 < (y120.length : Int) then (some (rd y112 bt115.1, bt118.1, rd y120 bt123.1, 7, true)) else (none)) else (none))))) else (none)) else (none)))) else ((spec_l6Rd_pick.f k t107 t111 5).bind fun bt126 => ((spec_l6Rd_pick.f k t107 bt126.2 5).bind fun bt128 => ((spec_l6Rd_pick.f k t107 bt128.2 60).bind fun bt130 => ((spec_l6Rd_pick.f k t107 bt130.2 250).bind fun bt132 => ((spec_l6Rd_pick.f k t107 bt132.2 2).bind fun bt134 => (some (bt126.1, bt128.1, bt130.1, bt132.1, (bt134.1 == 0))))))))) = some (r1, r2, r3, r4, r5) := H
 have A3 := zzm A30
 clear A30
 by_cases c4 : t110 = 0
 ·
  rw [if_pos c4] at H
  have c4b0 : (t110 == 0) = true := beq_iff_eq.mpr c4
  have c4b1 : (t110 != 0) = false := bne_eq_false_iff_eq.mpr c4
  clear c4
  obtain ⟨y112, hy112⟩ : ∃ y_ : List Int, y_ = (([(-1), 254, 255] : List Int)) := ⟨_, rfl⟩
  replace H : ((spec_l6Rd_pick.f k t107 t111 3).bind fun bt115 => (if 0 ≤ bt115.1 then (if bt115.1 < (y112.length : Int) then ((spec_l6Rd_pick.f k t107 bt115.2 3).bind fun bt118 => ((some (([(-1), 5, 100000] : List Int) : List Int)).bind fun y120 => ((spec_l6Rd_pick.f k t107 bt118.2 3).bind fun bt123 => (if 0 ≤ bt123.1 then (if bt123.1 < (y120.length : Int) then (some (rd y112 bt115.1, bt118.1, rd y120 bt123.1, 7, true)) else (none)) else (none))))) else (none)) else (none))) = some (r1, r2, r3, r4, r5) := by first | (rw [hy112]; with_reducible exact H) | (have H2_ := (Option.bind_some _ _).symm.trans H; rw [hy112]; with_reducible exact H2_) | (have H2_ := (Option.bind_some _ _).symm.trans H; with_reducible exact H2_) | with_reducible exact H | (rw [hy112]; exact H) | exact H
  have Ny112 := zzm hy112
  clear hy112
  replace H := Option.bind_eq_some_iff.mp H
  obtain ⟨⟨t115, t116⟩, A50, H⟩ := H
  replace H : (if 0 ≤ t115 then (if t115 < (y112.length : Int) then ((spec_l6Rd_pick.f k t107 t116 3).bind fun bt118 => ((some (([(-1), 5, 100000] : List Int) : List Int)).bind fun y120 => ((spec_l6Rd_pick.f k t107 bt118.2 3).bind fun bt123 => (if 0 ≤ bt123.1 then (if bt123.1 < (y120.length : Int) then (some (rd y112 t115, bt118.1, rd y120 bt123.1, 7, true)) else (none)) else (none))))) else (none)) else (none)) = some (r1, r2, r3, r4, r5) := H
  have A5 := zzm A50
  clear A50
  by_cases c6 : 0 ≤ t115
  ·
   rw [if_pos c6] at H
   have c6b0 : decide (0 ≤ t115) = true := decide_eq_true c6
   clear c6
   by_cases c7 : t115 < (y112.length : Int)
   ·
    rw [if_pos c7] at H
    have c7b0 : decide (t115 < (y112.length : Int)) = true := decide_eq_true c7
    clear c7
    replace H := Option.bind_eq_some_iff.mp H
    obtain ⟨⟨t118, t119⟩, A80, H⟩ := H
    replace H : ((some (([(-1), 5, 100000] : List Int) : List Int)).bind fun y120 => ((spec_l6Rd_pick.f k t107 t119 3).bind fun bt123 => (if 0 ≤ bt123.1 then (if bt123.1 < (y120.length : Int) then (some (rd y112 t115, t118, rd y120 bt123.1, 7, true)) else (none)) else (none)))) = some (r1, r2, r3, r4, r5) := H
    have A8 := zzm A80
    clear A80
    obtain ⟨y120, hy120⟩ : ∃ y_ : List Int, y_ = (([(-1), 5, 100000] : List Int)) := ⟨_, rfl⟩
    replace H : ((spec_l6Rd_pick.f k t107 t119 3).bind fun bt123 => (if 0 ≤ bt123.1 then (if bt123.1 < (y120.length : Int) then (some (rd y112 t115, t118, rd y120 bt123.1, 7, true)) else (none)) else (none))) = some (r1, r2, r3, r4, r5) := by first | (rw [hy120]; with_reducible exact H) | (have H2_ := (Option.bind_some _ _).symm.trans H; rw [hy120]; with_reducible exact H2_) | (have H2_ := (Option.bind_some _ _).symm.trans H; with_reducible exact H2_) | with_reducible exact H | (rw [hy120]; exact H) | exact H
    have Ny120 := zzm hy120
    clear hy120
    replace H := Option.bind_eq_some_iff.mp H
    obtain ⟨⟨t123, t124⟩, A90, H⟩ := H
    replace H : (if 0 ≤ t123 then (if t123 < (y120.length : Int) then (some (rd y112 t115, t118, rd y120 t123, 7, true)) else (none)) else (none)) = some (r1, r2, r3, r4, r5) := H
    have A9 := zzm A90
    clear A90
    by_cases c10 : 0 ≤ t123
    ·
     rw [if_pos c10] at H
     have c10b0 : decide (0 ≤ t123) = true := decide_eq_true c10
     clear c10
     by_cases c11 : t123 < (y120.length : Int)
     ·
      rw [if_pos c11] at H
      have c11b0 : decide (t123 < (y120.length : Int)) = true := decide_eq_true c11
      clear c11
      simp only [Option.some.injEq, Prod.mk.injEq] at H
      obtain ⟨rfl, rfl, rfl, rfl, rfl⟩ := H
      go_enter Try.func18, Try.ntmps18
      try go_wp2_with (first | ((with_reducible refine gate_callee (f := 53) rfl ?_); refine goesL_ (some 9) rfl rfl Try.func53 (by kernel_rfl) rfl #[.slice A0 l0.length c0] rfl (by (try simp only [List.map_toArray, List.map_cons, List.map_nil]); first | done | rfl | (simp only [List.length_drop, List.length_take]; rfl)) ?_; (with_reducible refine (spec_l6Open.calls _ _ l0 t107 t108 w _ ?side1 ?side2 ?side3 A2.out).mono ?_); (case side1 => repeat (first | (with_reducible first | exact HB.out | apply zza | apply zzb | apply zzc) | exact HB.out)); (case side2 => exact HR0.out); (case side3 => exact HC0.out); rintro e w12 ⟨g109, rfl, hi, hb, hb2⟩; refine ⟨_, rfl, ?_⟩; have n0_ := zzm (hb); have n1_ := zzm (hi); clear HB; have HB := n0_; have HI109 := n1_; clear n0_ n1_; (try clear hb); (try clear hb2); (try clear hk); (try clear hi)) | ((with_reducible refine gate_callee (f := 54) rfl ?_); refine goesL_ (some 11) rfl rfl Try.func54 (by kernel_rfl) rfl #[.pointer (some ⟨g109, 0, none⟩), .int .i64 10] rfl (by (try simp only [List.map_toArray, List.map_cons, List.map_nil]); first | done | rfl | (simp only [List.length_drop, List.length_take]; rfl)) ?_; (with_reducible refine (spec_l6Rd_pick.calls k g109 t107 t108 10 t110 t111 w _ ?side1 ?side2 A3.out).mono ?_); (case side1 => repeat (first | (with_reducible first | exact HI109.out | apply IsS94.alloc | apply IsS94.drewN | apply IsS94.drew | apply IsS94.set_1) | exact HI109.out)); (case side2 => repeat (first | (with_reducible first | exact HB.out | apply zza | apply zzb | apply zzc | refine zzd ?_ (IsS94.ge HI109.out)) | exact HB.out)); rintro e w13 ⟨rfl, hi, hb, hk⟩; refine ⟨_, rfl, ?_⟩; have n0_ := zzm (hb); have n1_ := zzm (hi); clear HB HI109; have HB := n0_; have HI109 := n1_; clear n0_ n1_; (try clear hb); (try clear hb2); (try clear hk); (try clear hi)))
      have pi117 : (0 ≤ (t115 : Int)) = True := eq_true (of_decide_eq_true (by first | (with_reducible assumption) | assumption))
      have qi117 : (t115 < (y112.length : Int)) = True := eq_true (of_decide_eq_true (by first | (with_reducible assumption) | assumption))
      have pi125 : (0 ≤ (t123 : Int)) = True := eq_true (of_decide_eq_true (by first | (with_reducible assumption) | assumption))
      have qi125 : (t123 < (y120.length : Int)) = True := eq_true (of_decide_eq_true (by first | (with_reducible assumption) | assumption))
      have n0_ := zzm (IsS94.drew HI109.out)
      have n1_ := zzm (zzc HB.out)
      clear HI109
      clear HB
      have HI109 := n0_
      have HB := n1_
      clear n0_ n1_
      refine start_ (n := 17) (S := fun w' => True) (ds := []) #[false, false, false, false, false, false, false, false, false, false, false, false, false, false, false, false, false] (by kernel_rfl) rfl rfl trivial (fun hHeld => ?_); refine with_tabW spec_DrawMarkBatch.tab3 spec_DrawMarkBatch.bits3 (fun HT_ HW_ => ?_)
      generalize w13.drew = w14 at HI109 HB hHeld ⊢
      refine pure_ (i := 1) (N := some 14) (v := ?_) (a' := ?_) #[false, true, false, false, false, false, false, false, false, false, false, false, false, false, false, false, false] rfl rfl (any_of HT_.out (by kernel_rfl)) (fun _ _ _ h => h) (Or.inl ⟨by rfl, ?_⟩) ?_ ?_
      rotate_left
      ·
       intro w'
       go_simp
       with_reducible rfl
      rotate_left
      ·
       simp only [Act.put, zzq, zzr, zzs, i64_w, i32_w]
       rfl
      refine pure_ (i := 5) (N := some 18) (v := ?_) (a' := ?_) #[false, true, false, false, false, true, false, false, false, false, false, false, false, false, false, false, false] rfl rfl (any_of HT_.out (by kernel_rfl)) (fun _ _ _ h => h) (Or.inl ⟨by rfl, ?_⟩) ?_ ?_
      rotate_left
      ·
       intro w'
       go_simp
       with_reducible rfl
      rotate_left
      ·
       simp only [Act.put, zzq, zzr, zzs, i64_w, i32_w]
       rfl
      refine pure_ (i := 8) (N := some 21) (v := ?_) (a' := ?_) #[false, true, false, false, false, true, false, false, true, false, false, false, false, false, false, false, false] rfl rfl (any_of HT_.out (by kernel_rfl)) (fun _ _ _ h => h) (Or.inl ⟨by rfl, ?_⟩) ?_ ?_
      rotate_left
      ·
       intro w'
       go_simp
       with_reducible rfl
      rotate_left
      ·
       simp only [Act.put, zzq, zzr, zzs, i64_w, i32_w]
       rfl
      refine inv_at [0, 2, 3, 4, 6, 7, 9, 10, 11, 12, 13, 14, 15, 16] (fun a0_ b a w' => ∃ (v113 : Value) (adz_v113 : Addr) (v121 : Value) (adz_v121 : Addr) (m3_ : Value) (m10_ : Value), a = putSel a0_ b [(0, 13, v113), (2, 15, .int .i64 t115), (3, 16, m3_), (4, 17, .int .i64 (rd y112 t115)), (6, 19, .int .i64 t118), (7, 20, v121), (9, 22, .int .i64 t123), (10, 23, m10_), (11, 24, .int .i64 (rd y120 t123)), (12, 2, .int .i64 (rd y112 t115)), (13, 3, .int .i64 t118), (14, 4, .int .i64 (rd y120 t123)), (15, 5, .int .i64 7), (16, 6, .bool true)] ∧ (b 2 = false → IsS94 w w' g109 t107 t111) ∧ (Below w.heap.size w w') ∧ (b 0 = true → Kd.R (Kd.int .i64) 3 w' w.heap.size (fun _ => True) v113 y112) ∧ (b 0 = true → ∃ c_, (v113 : Value) = .slice (some adz_v113) y112.length c_) ∧ (b 2 = true → b 6 = false → IsS94 w w' g109 t107 t116) ∧ (b 6 = true → b 9 = false → IsS94 w w' g109 t107 t119) ∧ (b 7 = true → Kd.R (Kd.int .i64) 3 w' w.heap.size (fun _ => True) v121 y120) ∧ (b 7 = true → ∃ c_, (v121 : Value) = .slice (some adz_v121) y120.length c_) ∧ (b 9 = true → IsS94 w w' g109 t107 t124) ∧ (b 3 = true → (m3_ : Value) = .pointer (some (adz_v113.add (t115).toNat))) ∧ (b 10 = true → (m10_ : Value) = .pointer (some (adz_v121.add (t123).toNat)))) HT_.out HW_.out (by kernel_rfl) (by kernel_rfl) ?_ ?_ ?_
      ·
       exact ⟨.bool false, ⟨0, 0, none⟩, .bool false, ⟨0, 0, none⟩, .bool false, .bool false, by simp only [putSel, Bool.false_eq_true, if_false], fun _ => HI109.out, HB.out, fun h_ => absurd h_ (by decide), fun h_ => absurd h_ (by decide), fun h_ => absurd h_ (by decide), fun h_ => absurd h_ (by decide), fun h_ => absurd h_ (by decide), fun h_ => absurd h_ (by decide), fun h_ => absurd h_ (by decide), fun h_ => absurd h_ (by decide), fun h_ => absurd h_ (by decide)⟩
      ·
       skip
       clear HB HI109
       refine steps_cons ?_ ?_
       ·
        rintro b a w' ⟨v113, adz_v113, v121, adz_v121, m3_, m10_, ha, Q_HI109, Q_HB, Q_HO114, Q_HA_HO114, Q_HI109_e2, Q_HI109_e6, Q_HO122, Q_HA_HO122, Q_HI109_e9, Q_X3_, Q_X10_⟩ hb_ hon hoff
        refine ⟨_, rfl, fun K hK => ?_⟩
        replace ha := zzm ha
        have HB := zzm Q_HB
        refine Kd.R_lit_step (Kd.int .i64) _ 3 ?hg (N := 13) ?hd (xs := ([(-1), 254, 255] : List Int)) (inner := [.int .i64 (-1), .int .i64 254, .int .i64 255]) (ok := fun _ => True) (okp := fun _ => True) ?hr ?hp (fun _ hk => hk) trivial (Below.refl _ _) (Nat.le_refl _) (by simp) ?_; (case hd => rfl); (case hg => rfl); (case hr => first | (go_simp; done) | (go_simp; rfl)); (case hp => exact (Reps.one (show Kd.M (Kd.int .i64) _ _ _ (-1) [.int .i64 (-1)] from rfl) (Reps.one (show Kd.M (Kd.int .i64) _ _ _ 254 [.int .i64 254] from rfl) (Reps.one (show Kd.M (Kd.int .i64) _ _ _ 255 [.int .i64 255] from rfl) (Reps.none _ _)))))
        intro v113 w15 ho16 hb hg_ hnew_
        clear hg_ hnew_
        (first | rw [← Ny112.out] at ho16 | (simp only [Int.reduceToNat] at ho16; rw [← Ny112.out] at ho16))
        have n0_ := zzm (Kd.R_lower ho16 (zzo (by repeat (first | (with_reducible first | exact HB.out | apply zza | apply zzb | apply zzc) | exact HB.out))))
        have n2_ := zzm (zzp (by repeat (first | (with_reducible first | exact HB.out | apply zza | apply zzb | apply zzc) | exact HB.out)) hb)
        have z_HI109 := fun (h0_ : b 2 = false) => (show IsS94 w w15 g109 t107 t111 from by first | exact (IsS94.below (by repeat (first | (with_reducible first | exact (Q_HI109 h0_) | apply IsS94.alloc | apply IsS94.drewN | apply IsS94.drew | apply IsS94.set_1) | exact (Q_HI109 h0_))) hb))
        have z_HI109_e2 := fun (h0_ : b 2 = true) (h1_ : b 6 = false) => (show IsS94 w w15 g109 t107 t116 from by first | exact (IsS94.below (by repeat (first | (with_reducible first | exact (Q_HI109_e2 h0_ h1_) | apply IsS94.alloc | apply IsS94.drewN | apply IsS94.drew | apply IsS94.set_1) | exact (Q_HI109_e2 h0_ h1_))) hb))
        have z_HI109_e6 := fun (h0_ : b 6 = true) (h1_ : b 9 = false) => (show IsS94 w w15 g109 t107 t119 from by first | exact (IsS94.below (by repeat (first | (with_reducible first | exact (Q_HI109_e6 h0_ h1_) | apply IsS94.alloc | apply IsS94.drewN | apply IsS94.drew | apply IsS94.set_1) | exact (Q_HI109_e6 h0_ h1_))) hb))
        have z_HO122 := fun (h0_ : b 7 = true) => (show Kd.R (Kd.int .i64) 3 w15 w.heap.size (fun _ => True) v121 y120 from by first | exact (Kd.R_elder' (by (with_reducible repeat (first | apply Kd.R_alloc | apply Kd.R_drewN | apply Kd.R_drew)); exact (Q_HO122 h0_)) (Kd.R_base ho16) hb) | exact Kd.R_mono (Kd.R_elder' (by (with_reducible repeat (first | apply Kd.R_alloc | apply Kd.R_drewN | apply Kd.R_drew)); exact (Q_HO122 h0_)) (Kd.R_base ho16) hb) (fun _ h_ => by first | trivial | exact h_ | exact h_.1))
        have z_HI109_e9 := fun (h0_ : b 9 = true) => (show IsS94 w w15 g109 t107 t124 from by first | exact (IsS94.below (by repeat (first | (with_reducible first | exact (Q_HI109_e9 h0_) | apply IsS94.alloc | apply IsS94.drewN | apply IsS94.drew | apply IsS94.set_1) | exact (Q_HI109_e9 h0_))) hb))
        clear HB
        have HO114 := n0_
        have HB := n2_
        clear n0_ n2_
        clear hb ho16
        obtain ⟨Ao17, co17, eo17⟩ := Kd.R_slice HO114.out
        subst eo17
        obtain ⟨ado17, fo17, _⟩ := Kd.at_int (Kd.R_reads' HO114.out).2.2 0 (by decide) (by rw [Ny112.out]; simp)
        cases fo17
        refine hK.out _ _ ⟨.slice (some ado17) y112.length co17, ado17, v121, adz_v121, m3_, m10_, (by rw [ha.out]; exact putSel_upk 0 hb_ rfl rfl rfl), z_HI109, (by repeat (first | (with_reducible first | exact HB.out | apply zza | apply zzb | apply zzc) | exact HB.out)), fun _ => (by (with_reducible repeat (first | apply Kd.R_alloc | apply Kd.R_drewN | apply Kd.R_drew)); exact HO114.out), fun _ => ⟨_, rfl⟩, z_HI109_e2, z_HI109_e6, z_HO122, Q_HA_HO122, z_HI109_e9, fun h0_ => absurd ((hoff 3 (by kernel_rfl)).symm.trans h0_) (by decide), Q_X10_⟩
       refine steps_cons ?_ ?_
       ·
        rintro b a w' ⟨v113, adz_v113, v121, adz_v121, m3_, m10_, ha, Q_HI109, Q_HB, Q_HO114, Q_HA_HO114, Q_HI109_e2, Q_HI109_e6, Q_HO122, Q_HA_HO122, Q_HI109_e9, Q_X3_, Q_X10_⟩ hb_ hon hoff
        refine ⟨_, rfl, fun K hK => ?_⟩
        have e14 : a.tmps[14]? = some (.pointer (some ⟨g109, 0, none⟩)) := by rw [ha]; exact (putSel_off rfl).trans rfl
        replace ha := zzm ha
        have HI109 := zzm (Q_HI109 hb_)
        have HB := zzm Q_HB
        refine goes_ Try.func54 (by kernel_rfl) rfl #[.pointer (some ⟨g109, 0, none⟩), .int .i64 3] (by rfl) rfl rfl (by first | (simp only [List.map_toArray, List.map_cons, List.map_nil, Act.eval, Array.getD_eq_getD_getElem?, Option.getD_some, e14]; done) | (simp only [List.map_toArray, List.map_cons, List.map_nil, Act.eval, Array.getD_eq_getD_getElem?, Option.getD_some, e14]; rfl)) ?_
        with_reducible refine (spec_l6Rd_pick.calls k g109 t107 t111 3 t115 t116 w _ ?side1 ?side2 A5.out).mono ?_
        (case side1 => repeat (first | (with_reducible first | exact HI109.out | apply IsS94.alloc | apply IsS94.drewN | apply IsS94.drew | apply IsS94.set_1) | exact HI109.out))
        (case side2 => repeat (first | (with_reducible first | exact HB.out | apply zza | apply zzb | apply zzc | refine zzd ?_ (IsS94.ge HI109.out)) | exact HB.out))
        rintro e w15 ⟨rfl, hi, hb, hk⟩
        refine ⟨_, rfl, ?_⟩
        have n0_ := zzm (hb)
        have n1_ := zzm (hi)
        have z_HO114 := fun (h0_ : b 0 = true) => (show Kd.R (Kd.int .i64) 3 w15 w.heap.size (fun _ => True) v113 y112 from by first | exact (Kd.R_mono (Kd.R_keep (IsS94.apart (show IsS94 w _ g109 t107 t111 from by repeat (first | (with_reducible first | exact HI109.out | apply IsS94.alloc | apply IsS94.drewN | apply IsS94.drew | apply IsS94.set_1) | exact HI109.out)) (by (with_reducible repeat (first | apply Kd.R_alloc | apply Kd.R_drewN | apply Kd.R_drew)); exact (Q_HO114 h0_)) (by decide)) hk (fun _ h => h.2)) (fun _ h => h.1)) | exact Kd.R_mono (Kd.R_mono (Kd.R_keep (IsS94.apart (show IsS94 w _ g109 t107 t111 from by repeat (first | (with_reducible first | exact HI109.out | apply IsS94.alloc | apply IsS94.drewN | apply IsS94.drew | apply IsS94.set_1) | exact HI109.out)) (by (with_reducible repeat (first | apply Kd.R_alloc | apply Kd.R_drewN | apply Kd.R_drew)); exact (Q_HO114 h0_)) (by decide)) hk (fun _ h => h.2)) (fun _ h => h.1)) (fun _ h_ => by first | trivial | exact h_ | exact h_.1))
        have z_HO122 := fun (h0_ : b 7 = true) => (show Kd.R (Kd.int .i64) 3 w15 w.heap.size (fun _ => True) v121 y120 from by first | exact (Kd.R_mono (Kd.R_keep (IsS94.apart (show IsS94 w _ g109 t107 t111 from by repeat (first | (with_reducible first | exact HI109.out | apply IsS94.alloc | apply IsS94.drewN | apply IsS94.drew | apply IsS94.set_1) | exact HI109.out)) (by (with_reducible repeat (first | apply Kd.R_alloc | apply Kd.R_drewN | apply Kd.R_drew)); exact (Q_HO122 h0_)) (by decide)) hk (fun _ h => h.2)) (fun _ h => h.1)) | exact Kd.R_mono (Kd.R_mono (Kd.R_keep (IsS94.apart (show IsS94 w _ g109 t107 t111 from by repeat (first | (with_reducible first | exact HI109.out | apply IsS94.alloc | apply IsS94.drewN | apply IsS94.drew | apply IsS94.set_1) | exact HI109.out)) (by (with_reducible repeat (first | apply Kd.R_alloc | apply Kd.R_drewN | apply Kd.R_drew)); exact (Q_HO122 h0_)) (by decide)) hk (fun _ h => h.2)) (fun _ h => h.1)) (fun _ h_ => by first | trivial | exact h_ | exact h_.1))
        clear HB
        clear HI109
        have HB := n0_
        have HI109 := n1_
        clear n0_ n1_
        (try clear hb)
        (try clear hb2)
        (try clear hk)
        (try clear hi)
        refine hK.out _ _ ⟨v113, adz_v113, v121, adz_v121, m3_, m10_, (by rw [ha.out]; exact putSel_upk 1 hb_ rfl rfl rfl), fun h0_ => absurd ((up_self b 2).symm.trans h0_) (by decide), (by repeat (first | (with_reducible first | exact HB.out | apply zza | apply zzb | apply zzc | refine zzd ?_ (IsS94.ge HI109.out)) | exact HB.out)), z_HO114, Q_HA_HO114, fun _ _ => (by repeat (first | (with_reducible first | exact HI109.out | apply IsS94.alloc | apply IsS94.drewN | apply IsS94.drew | apply IsS94.set_1) | exact HI109.out)), fun h0_ _ => absurd ((hoff 6 (by kernel_rfl)).symm.trans h0_) (by decide), z_HO122, Q_HA_HO122, fun h0_ => absurd ((hoff 9 (by kernel_rfl)).symm.trans h0_) (by decide), fun h0_ => absurd ((hoff 3 (by kernel_rfl)).symm.trans h0_) (by decide), fun h0_ => absurd ((hoff 10 (by kernel_rfl)).symm.trans h0_) (by decide)⟩
       refine steps_cons ?_ ?_
       ·
        rintro b a w' ⟨v113, adz_v113, v121, adz_v121, m3_, m10_, ha, Q_HI109, Q_HB, Q_HO114, Q_HA_HO114, Q_HI109_e2, Q_HI109_e6, Q_HO122, Q_HA_HO122, Q_HI109_e9, Q_X3_, Q_X10_⟩ hb_ hon hoff
        refine ⟨_, rfl, fun K hK => ?_⟩
        have e13 : a.tmps[13]? = some (v113) := by rw [ha]; exact putSel_on (e := (0, 13, v113)) 0 rfl rfl (hon 0 (by kernel_rfl)) rfl
        have e15 : a.tmps[15]? = some (.int .i64 t115) := by rw [ha]; exact putSel_on (e := (2, 15, .int .i64 t115)) 1 rfl rfl (hon 2 (by kernel_rfl)) rfl
        replace ha := zzm ha
        have HB := zzm Q_HB
        have HO114 := zzm (Q_HO114 (hon 0 (by kernel_rfl)))
        have HA_HO114 := zzm (Q_HA_HO114 (hon 0 (by kernel_rfl)))
        obtain ⟨c_, hv_⟩ := HA_HO114.out
        rw [hv_] at e13
        refine value_ (w1 := w') (v := .pointer (some (adz_v113.add (t115).toNat))) (by rfl) rfl ?_ ?_
        ·
         go_simp
         (try simp only [i64_w])
         try rfl
        refine hK.out _ _ ⟨v113, adz_v113, v121, adz_v121, (.pointer (some (adz_v113.add (t115).toNat))), m10_, (by rw [ha.out]; exact putSel_upk 2 hb_ rfl rfl rfl), fun h0_ => absurd ((hon 2 (by kernel_rfl)).symm.trans h0_) (by decide), Q_HB, Q_HO114, Q_HA_HO114, Q_HI109_e2, Q_HI109_e6, Q_HO122, Q_HA_HO122, Q_HI109_e9, fun _ => rfl, Q_X10_⟩
       refine steps_cons ?_ ?_
       ·
        rintro b a w' ⟨v113, adz_v113, v121, adz_v121, m3_, m10_, ha, Q_HI109, Q_HB, Q_HO114, Q_HA_HO114, Q_HI109_e2, Q_HI109_e6, Q_HO122, Q_HA_HO122, Q_HI109_e9, Q_X3_, Q_X10_⟩ hb_ hon hoff
        refine ⟨_, rfl, fun K hK => ?_⟩
        have e16 : a.tmps[16]? = some (m3_) := by rw [ha]; exact putSel_on (e := (3, 16, m3_)) 2 rfl rfl (hon 3 (by kernel_rfl)) rfl
        rw [Q_X3_ (hon 3 (by kernel_rfl))] at e16
        replace ha := zzm ha
        have HB := zzm Q_HB
        have HO114 := zzm (Q_HO114 (hon 0 (by kernel_rfl)))
        have HA_HO114 := zzm (Q_HA_HO114 (hon 0 (by kernel_rfl)))
        obtain ⟨c_, hv_⟩ := HA_HO114.out
        have hF_ := HO114.out
        rw [hv_] at hF_
        obtain ⟨ad_, ea_, hx_⟩ := Kd.at_int (Kd.R_reads' hF_).2.2 t115 (of_eq_true pi117) (of_eq_true qi117)
        cases ea_
        refine value_ (w1 := w') (v := .int .i64 (rd y112 t115)) (by rfl) rfl ?_ ?_
        ·
         go_simp
         (try simp only [i64_w])
         try rfl
        refine hK.out _ _ ⟨v113, adz_v113, v121, adz_v121, m3_, m10_, (by rw [ha.out]; exact putSel_upk 3 hb_ rfl rfl rfl), fun h0_ => absurd ((hon 2 (by kernel_rfl)).symm.trans h0_) (by decide), Q_HB, Q_HO114, Q_HA_HO114, Q_HI109_e2, Q_HI109_e6, Q_HO122, Q_HA_HO122, Q_HI109_e9, Q_X3_, Q_X10_⟩
       refine steps_cons ?_ ?_
       ·
        rintro b a w' ⟨v113, adz_v113, v121, adz_v121, m3_, m10_, ha, Q_HI109, Q_HB, Q_HO114, Q_HA_HO114, Q_HI109_e2, Q_HI109_e6, Q_HO122, Q_HA_HO122, Q_HI109_e9, Q_X3_, Q_X10_⟩ hb_ hon hoff
        refine ⟨_, rfl, fun K hK => ?_⟩
        have e18 : a.tmps[18]? = some (.pointer (some ⟨g109, 0, none⟩)) := by rw [ha]; exact (putSel_off rfl).trans rfl
        replace ha := zzm ha
        have HB := zzm Q_HB
        have HI109 := zzm (Q_HI109_e2 (hon 2 (by kernel_rfl)) hb_)
        refine goes_ Try.func54 (by kernel_rfl) rfl #[.pointer (some ⟨g109, 0, none⟩), .int .i64 3] (by rfl) rfl rfl (by first | (simp only [List.map_toArray, List.map_cons, List.map_nil, Act.eval, Array.getD_eq_getD_getElem?, Option.getD_some, e18]; done) | (simp only [List.map_toArray, List.map_cons, List.map_nil, Act.eval, Array.getD_eq_getD_getElem?, Option.getD_some, e18]; rfl)) ?_
        with_reducible refine (spec_l6Rd_pick.calls k g109 t107 t116 3 t118 t119 w _ ?side1 ?side2 A8.out).mono ?_
        (case side1 => repeat (first | (with_reducible first | exact HI109.out | apply IsS94.alloc | apply IsS94.drewN | apply IsS94.drew | apply IsS94.set_1) | exact HI109.out))
        (case side2 => repeat (first | (with_reducible first | exact HB.out | apply zza | apply zzb | apply zzc | refine zzd ?_ (IsS94.ge HI109.out)) | exact HB.out))
        rintro e w17 ⟨rfl, hi, hb, hk⟩
        refine ⟨_, rfl, ?_⟩
        have n0_ := zzm (hb)
        have n1_ := zzm (hi)
        have z_HO114 := fun (h0_ : b 0 = true) => (show Kd.R (Kd.int .i64) 3 w17 w.heap.size (fun _ => True) v113 y112 from by first | exact (Kd.R_mono (Kd.R_keep (IsS94.apart (show IsS94 w _ g109 t107 t116 from by repeat (first | (with_reducible first | exact HI109.out | apply IsS94.alloc | apply IsS94.drewN | apply IsS94.drew | apply IsS94.set_1) | exact HI109.out)) (by (with_reducible repeat (first | apply Kd.R_alloc | apply Kd.R_drewN | apply Kd.R_drew)); exact (Q_HO114 h0_)) (by decide)) hk (fun _ h => h.2)) (fun _ h => h.1)) | exact Kd.R_mono (Kd.R_mono (Kd.R_keep (IsS94.apart (show IsS94 w _ g109 t107 t116 from by repeat (first | (with_reducible first | exact HI109.out | apply IsS94.alloc | apply IsS94.drewN | apply IsS94.drew | apply IsS94.set_1) | exact HI109.out)) (by (with_reducible repeat (first | apply Kd.R_alloc | apply Kd.R_drewN | apply Kd.R_drew)); exact (Q_HO114 h0_)) (by decide)) hk (fun _ h => h.2)) (fun _ h => h.1)) (fun _ h_ => by first | trivial | exact h_ | exact h_.1))
        have z_HO122 := fun (h0_ : b 7 = true) => (show Kd.R (Kd.int .i64) 3 w17 w.heap.size (fun _ => True) v121 y120 from by first | exact (Kd.R_mono (Kd.R_keep (IsS94.apart (show IsS94 w _ g109 t107 t116 from by repeat (first | (with_reducible first | exact HI109.out | apply IsS94.alloc | apply IsS94.drewN | apply IsS94.drew | apply IsS94.set_1) | exact HI109.out)) (by (with_reducible repeat (first | apply Kd.R_alloc | apply Kd.R_drewN | apply Kd.R_drew)); exact (Q_HO122 h0_)) (by decide)) hk (fun _ h => h.2)) (fun _ h => h.1)) | exact Kd.R_mono (Kd.R_mono (Kd.R_keep (IsS94.apart (show IsS94 w _ g109 t107 t116 from by repeat (first | (with_reducible first | exact HI109.out | apply IsS94.alloc | apply IsS94.drewN | apply IsS94.drew | apply IsS94.set_1) | exact HI109.out)) (by (with_reducible repeat (first | apply Kd.R_alloc | apply Kd.R_drewN | apply Kd.R_drew)); exact (Q_HO122 h0_)) (by decide)) hk (fun _ h => h.2)) (fun _ h => h.1)) (fun _ h_ => by first | trivial | exact h_ | exact h_.1))
        clear HB
        clear HI109
        have HB := n0_
        have HI109 := n1_
        clear n0_ n1_
        (try clear hb)
        (try clear hb2)
        (try clear hk)
        (try clear hi)
        refine hK.out _ _ ⟨v113, adz_v113, v121, adz_v121, m3_, m10_, (by rw [ha.out]; exact putSel_upk 4 hb_ rfl rfl rfl), fun h0_ => absurd ((hon 2 (by kernel_rfl)).symm.trans h0_) (by decide), (by repeat (first | (with_reducible first | exact HB.out | apply zza | apply zzb | apply zzc | refine zzd ?_ (IsS94.ge HI109.out)) | exact HB.out)), z_HO114, Q_HA_HO114, fun _ h1_ => absurd ((up_self b 6).symm.trans h1_) (by decide), fun _ _ => (by repeat (first | (with_reducible first | exact HI109.out | apply IsS94.alloc | apply IsS94.drewN | apply IsS94.drew | apply IsS94.set_1) | exact HI109.out)), z_HO122, Q_HA_HO122, fun h0_ => absurd ((hoff 9 (by kernel_rfl)).symm.trans h0_) (by decide), Q_X3_, fun h0_ => absurd ((hoff 10 (by kernel_rfl)).symm.trans h0_) (by decide)⟩
       refine steps_cons ?_ ?_
       ·
        rintro b a w' ⟨v113, adz_v113, v121, adz_v121, m3_, m10_, ha, Q_HI109, Q_HB, Q_HO114, Q_HA_HO114, Q_HI109_e2, Q_HI109_e6, Q_HO122, Q_HA_HO122, Q_HI109_e9, Q_X3_, Q_X10_⟩ hb_ hon hoff
        refine ⟨_, rfl, fun K hK => ?_⟩
        replace ha := zzm ha
        have HB := zzm Q_HB
        refine Kd.R_lit_step (Kd.int .i64) _ 3 ?hg (N := 20) ?hd (xs := ([(-1), 5, 100000] : List Int)) (inner := [.int .i64 (-1), .int .i64 5, .int .i64 100000]) (ok := fun _ => True) (okp := fun _ => True) ?hr ?hp (fun _ hk => hk) trivial (Below.refl _ _) (Nat.le_refl _) (by simp) ?_; (case hd => rfl); (case hg => rfl); (case hr => first | (go_simp; done) | (go_simp; rfl)); (case hp => exact (Reps.one (show Kd.M (Kd.int .i64) _ _ _ (-1) [.int .i64 (-1)] from rfl) (Reps.one (show Kd.M (Kd.int .i64) _ _ _ 5 [.int .i64 5] from rfl) (Reps.one (show Kd.M (Kd.int .i64) _ _ _ 100000 [.int .i64 100000] from rfl) (Reps.none _ _)))))
        intro v121 w15 ho16 hb hg_ hnew_
        clear hg_ hnew_
        (first | rw [← Ny120.out] at ho16 | (simp only [Int.reduceToNat] at ho16; rw [← Ny120.out] at ho16))
        have n0_ := zzm (Kd.R_lower ho16 (zzo (by repeat (first | (with_reducible first | exact HB.out | apply zza | apply zzb | apply zzc) | exact HB.out))))
        have n2_ := zzm (zzp (by repeat (first | (with_reducible first | exact HB.out | apply zza | apply zzb | apply zzc) | exact HB.out)) hb)
        have z_HI109 := fun (h0_ : b 2 = false) => (show IsS94 w w15 g109 t107 t111 from by first | exact (IsS94.below (by repeat (first | (with_reducible first | exact (Q_HI109 h0_) | apply IsS94.alloc | apply IsS94.drewN | apply IsS94.drew | apply IsS94.set_1) | exact (Q_HI109 h0_))) hb))
        have z_HO114 := fun (h0_ : b 0 = true) => (show Kd.R (Kd.int .i64) 3 w15 w.heap.size (fun _ => True) v113 y112 from by first | exact (Kd.R_elder' (by (with_reducible repeat (first | apply Kd.R_alloc | apply Kd.R_drewN | apply Kd.R_drew)); exact (Q_HO114 h0_)) (Kd.R_base ho16) hb) | exact Kd.R_mono (Kd.R_elder' (by (with_reducible repeat (first | apply Kd.R_alloc | apply Kd.R_drewN | apply Kd.R_drew)); exact (Q_HO114 h0_)) (Kd.R_base ho16) hb) (fun _ h_ => by first | trivial | exact h_ | exact h_.1))
        have z_HI109_e2 := fun (h0_ : b 2 = true) (h1_ : b 6 = false) => (show IsS94 w w15 g109 t107 t116 from by first | exact (IsS94.below (by repeat (first | (with_reducible first | exact (Q_HI109_e2 h0_ h1_) | apply IsS94.alloc | apply IsS94.drewN | apply IsS94.drew | apply IsS94.set_1) | exact (Q_HI109_e2 h0_ h1_))) hb))
        have z_HI109_e6 := fun (h0_ : b 6 = true) (h1_ : b 9 = false) => (show IsS94 w w15 g109 t107 t119 from by first | exact (IsS94.below (by repeat (first | (with_reducible first | exact (Q_HI109_e6 h0_ h1_) | apply IsS94.alloc | apply IsS94.drewN | apply IsS94.drew | apply IsS94.set_1) | exact (Q_HI109_e6 h0_ h1_))) hb))
        have z_HI109_e9 := fun (h0_ : b 9 = true) => (show IsS94 w w15 g109 t107 t124 from by first | exact (IsS94.below (by repeat (first | (with_reducible first | exact (Q_HI109_e9 h0_) | apply IsS94.alloc | apply IsS94.drewN | apply IsS94.drew | apply IsS94.set_1) | exact (Q_HI109_e9 h0_))) hb))
        clear HB
        have HO122 := n0_
        have HB := n2_
        clear n0_ n2_
        clear hb ho16
        obtain ⟨Ao17, co17, eo17⟩ := Kd.R_slice HO122.out
        subst eo17
        obtain ⟨ado17, fo17, _⟩ := Kd.at_int (Kd.R_reads' HO122.out).2.2 0 (by decide) (by rw [Ny120.out]; simp)
        cases fo17
        refine hK.out _ _ ⟨v113, adz_v113, .slice (some ado17) y120.length co17, ado17, m3_, m10_, (by rw [ha.out]; exact putSel_upk 5 hb_ rfl rfl rfl), z_HI109, (by repeat (first | (with_reducible first | exact HB.out | apply zza | apply zzb | apply zzc) | exact HB.out)), z_HO114, Q_HA_HO114, z_HI109_e2, z_HI109_e6, fun _ => (by (with_reducible repeat (first | apply Kd.R_alloc | apply Kd.R_drewN | apply Kd.R_drew)); exact HO122.out), fun _ => ⟨_, rfl⟩, z_HI109_e9, Q_X3_, fun h0_ => absurd ((hoff 10 (by kernel_rfl)).symm.trans h0_) (by decide)⟩
       refine steps_cons ?_ ?_
       ·
        rintro b a w' ⟨v113, adz_v113, v121, adz_v121, m3_, m10_, ha, Q_HI109, Q_HB, Q_HO114, Q_HA_HO114, Q_HI109_e2, Q_HI109_e6, Q_HO122, Q_HA_HO122, Q_HI109_e9, Q_X3_, Q_X10_⟩ hb_ hon hoff
        refine ⟨_, rfl, fun K hK => ?_⟩
        have e21 : a.tmps[21]? = some (.pointer (some ⟨g109, 0, none⟩)) := by rw [ha]; exact (putSel_off rfl).trans rfl
        replace ha := zzm ha
        have HB := zzm Q_HB
        have HI109 := zzm (Q_HI109_e6 (hon 6 (by kernel_rfl)) hb_)
        refine goes_ Try.func54 (by kernel_rfl) rfl #[.pointer (some ⟨g109, 0, none⟩), .int .i64 3] (by rfl) rfl rfl (by first | (simp only [List.map_toArray, List.map_cons, List.map_nil, Act.eval, Array.getD_eq_getD_getElem?, Option.getD_some, e21]; done) | (simp only [List.map_toArray, List.map_cons, List.map_nil, Act.eval, Array.getD_eq_getD_getElem?, Option.getD_some, e21]; rfl)) ?_
        with_reducible refine (spec_l6Rd_pick.calls k g109 t107 t119 3 t123 t124 w _ ?side1 ?side2 A9.out).mono ?_
        (case side1 => repeat (first | (with_reducible first | exact HI109.out | apply IsS94.alloc | apply IsS94.drewN | apply IsS94.drew | apply IsS94.set_1) | exact HI109.out))
        (case side2 => repeat (first | (with_reducible first | exact HB.out | apply zza | apply zzb | apply zzc | refine zzd ?_ (IsS94.ge HI109.out)) | exact HB.out))
        rintro e w18 ⟨rfl, hi, hb, hk⟩
        refine ⟨_, rfl, ?_⟩
        have n0_ := zzm (hb)
        have n1_ := zzm (hi)
        have z_HO114 := fun (h0_ : b 0 = true) => (show Kd.R (Kd.int .i64) 3 w18 w.heap.size (fun _ => True) v113 y112 from by first | exact (Kd.R_mono (Kd.R_keep (IsS94.apart (show IsS94 w _ g109 t107 t119 from by repeat (first | (with_reducible first | exact HI109.out | apply IsS94.alloc | apply IsS94.drewN | apply IsS94.drew | apply IsS94.set_1) | exact HI109.out)) (by (with_reducible repeat (first | apply Kd.R_alloc | apply Kd.R_drewN | apply Kd.R_drew)); exact (Q_HO114 h0_)) (by decide)) hk (fun _ h => h.2)) (fun _ h => h.1)) | exact Kd.R_mono (Kd.R_mono (Kd.R_keep (IsS94.apart (show IsS94 w _ g109 t107 t119 from by repeat (first | (with_reducible first | exact HI109.out | apply IsS94.alloc | apply IsS94.drewN | apply IsS94.drew | apply IsS94.set_1) | exact HI109.out)) (by (with_reducible repeat (first | apply Kd.R_alloc | apply Kd.R_drewN | apply Kd.R_drew)); exact (Q_HO114 h0_)) (by decide)) hk (fun _ h => h.2)) (fun _ h => h.1)) (fun _ h_ => by first | trivial | exact h_ | exact h_.1))
        have z_HO122 := fun (h0_ : b 7 = true) => (show Kd.R (Kd.int .i64) 3 w18 w.heap.size (fun _ => True) v121 y120 from by first | exact (Kd.R_mono (Kd.R_keep (IsS94.apart (show IsS94 w _ g109 t107 t119 from by repeat (first | (with_reducible first | exact HI109.out | apply IsS94.alloc | apply IsS94.drewN | apply IsS94.drew | apply IsS94.set_1) | exact HI109.out)) (by (with_reducible repeat (first | apply Kd.R_alloc | apply Kd.R_drewN | apply Kd.R_drew)); exact (Q_HO122 h0_)) (by decide)) hk (fun _ h => h.2)) (fun _ h => h.1)) | exact Kd.R_mono (Kd.R_mono (Kd.R_keep (IsS94.apart (show IsS94 w _ g109 t107 t119 from by repeat (first | (with_reducible first | exact HI109.out | apply IsS94.alloc | apply IsS94.drewN | apply IsS94.drew | apply IsS94.set_1) | exact HI109.out)) (by (with_reducible repeat (first | apply Kd.R_alloc | apply Kd.R_drewN | apply Kd.R_drew)); exact (Q_HO122 h0_)) (by decide)) hk (fun _ h => h.2)) (fun _ h => h.1)) (fun _ h_ => by first | trivial | exact h_ | exact h_.1))
        clear HB
        clear HI109
        have HB := n0_
        have HI109 := n1_
        clear n0_ n1_
        (try clear hb)
        (try clear hb2)
        (try clear hk)
        (try clear hi)
        refine hK.out _ _ ⟨v113, adz_v113, v121, adz_v121, m3_, m10_, (by rw [ha.out]; exact putSel_upk 6 hb_ rfl rfl rfl), fun h0_ => absurd ((hon 2 (by kernel_rfl)).symm.trans h0_) (by decide), (by repeat (first | (with_reducible first | exact HB.out | apply zza | apply zzb | apply zzc | refine zzd ?_ (IsS94.ge HI109.out)) | exact HB.out)), z_HO114, Q_HA_HO114, fun _ h1_ => absurd ((hon 6 (by kernel_rfl)).symm.trans h1_) (by decide), fun _ h1_ => absurd ((up_self b 9).symm.trans h1_) (by decide), z_HO122, Q_HA_HO122, fun _ => (by repeat (first | (with_reducible first | exact HI109.out | apply IsS94.alloc | apply IsS94.drewN | apply IsS94.drew | apply IsS94.set_1) | exact HI109.out)), Q_X3_, fun h0_ => absurd ((hoff 10 (by kernel_rfl)).symm.trans h0_) (by decide)⟩
       refine steps_cons ?_ ?_
       ·
        rintro b a w' ⟨v113, adz_v113, v121, adz_v121, m3_, m10_, ha, Q_HI109, Q_HB, Q_HO114, Q_HA_HO114, Q_HI109_e2, Q_HI109_e6, Q_HO122, Q_HA_HO122, Q_HI109_e9, Q_X3_, Q_X10_⟩ hb_ hon hoff
        refine ⟨_, rfl, fun K hK => ?_⟩
        have e20 : a.tmps[20]? = some (v121) := by rw [ha]; exact putSel_on (e := (7, 20, v121)) 5 rfl rfl (hon 7 (by kernel_rfl)) rfl
        have e22 : a.tmps[22]? = some (.int .i64 t123) := by rw [ha]; exact putSel_on (e := (9, 22, .int .i64 t123)) 6 rfl rfl (hon 9 (by kernel_rfl)) rfl
        replace ha := zzm ha
        have HB := zzm Q_HB
        have HO122 := zzm (Q_HO122 (hon 7 (by kernel_rfl)))
        have HA_HO122 := zzm (Q_HA_HO122 (hon 7 (by kernel_rfl)))
        have HI109 := zzm (Q_HI109_e9 (hon 9 (by kernel_rfl)))
        obtain ⟨c_, hv_⟩ := HA_HO122.out
        rw [hv_] at e20
        refine value_ (w1 := w') (v := .pointer (some (adz_v121.add (t123).toNat))) (by rfl) rfl ?_ ?_
        ·
         go_simp
         (try simp only [i64_w])
         try rfl
        refine hK.out _ _ ⟨v113, adz_v113, v121, adz_v121, m3_, (.pointer (some (adz_v121.add (t123).toNat))), (by rw [ha.out]; exact putSel_upk 7 hb_ rfl rfl rfl), fun h0_ => absurd ((hon 2 (by kernel_rfl)).symm.trans h0_) (by decide), Q_HB, Q_HO114, Q_HA_HO114, fun _ h1_ => absurd ((hon 6 (by kernel_rfl)).symm.trans h1_) (by decide), fun _ h1_ => absurd ((hon 9 (by kernel_rfl)).symm.trans h1_) (by decide), Q_HO122, Q_HA_HO122, Q_HI109_e9, Q_X3_, fun _ => rfl⟩
       refine steps_cons ?_ ?_
       ·
        rintro b a w' ⟨v113, adz_v113, v121, adz_v121, m3_, m10_, ha, Q_HI109, Q_HB, Q_HO114, Q_HA_HO114, Q_HI109_e2, Q_HI109_e6, Q_HO122, Q_HA_HO122, Q_HI109_e9, Q_X3_, Q_X10_⟩ hb_ hon hoff
        refine ⟨_, rfl, fun K hK => ?_⟩
        have e23 : a.tmps[23]? = some (m10_) := by rw [ha]; exact putSel_on (e := (10, 23, m10_)) 7 rfl rfl (hon 10 (by kernel_rfl)) rfl
        rw [Q_X10_ (hon 10 (by kernel_rfl))] at e23
        replace ha := zzm ha
        have HB := zzm Q_HB
        have HO122 := zzm (Q_HO122 (hon 7 (by kernel_rfl)))
        have HA_HO122 := zzm (Q_HA_HO122 (hon 7 (by kernel_rfl)))
        have HI109 := zzm (Q_HI109_e9 (hon 9 (by kernel_rfl)))
        obtain ⟨c_, hv_⟩ := HA_HO122.out
        have hF_ := HO122.out
        rw [hv_] at hF_
        obtain ⟨ad_, ea_, hx_⟩ := Kd.at_int (Kd.R_reads' hF_).2.2 t123 (of_eq_true pi125) (of_eq_true qi125)
        cases ea_
        refine value_ (w1 := w') (v := .int .i64 (rd y120 t123)) (by rfl) rfl ?_ ?_
        ·
         go_simp
         (try simp only [i64_w])
         try rfl
        refine hK.out _ _ ⟨v113, adz_v113, v121, adz_v121, m3_, m10_, (by rw [ha.out]; exact putSel_upk 8 hb_ rfl rfl rfl), fun h0_ => absurd ((hon 2 (by kernel_rfl)).symm.trans h0_) (by decide), Q_HB, Q_HO114, Q_HA_HO114, fun _ h1_ => absurd ((hon 6 (by kernel_rfl)).symm.trans h1_) (by decide), fun _ h1_ => absurd ((hon 9 (by kernel_rfl)).symm.trans h1_) (by decide), Q_HO122, Q_HA_HO122, Q_HI109_e9, Q_X3_, Q_X10_⟩
       refine steps_cons ?_ ?_
       ·
        rintro b a w' ⟨v113, adz_v113, v121, adz_v121, m3_, m10_, ha, Q_HI109, Q_HB, Q_HO114, Q_HA_HO114, Q_HI109_e2, Q_HI109_e6, Q_HO122, Q_HA_HO122, Q_HI109_e9, Q_X3_, Q_X10_⟩ hb_ hon hoff
        refine ⟨_, rfl, fun K hK => ?_⟩
        have e17 : a.tmps[17]? = some (.int .i64 (rd y112 t115)) := by rw [ha]; exact putSel_on (e := (4, 17, .int .i64 (rd y112 t115))) 3 rfl rfl (hon 4 (by kernel_rfl)) rfl
        replace ha := zzm ha
        have HB := zzm Q_HB
        have HO114 := zzm (Q_HO114 (hon 0 (by kernel_rfl)))
        have HA_HO114 := zzm (Q_HA_HO114 (hon 0 (by kernel_rfl)))
        have HI109 := zzm (Q_HI109_e9 (hon 9 (by kernel_rfl)))
        refine value_ (w1 := w') (v := .int .i64 (rd y112 t115)) (by rfl) rfl ?_ ?_
        ·
         go_simp
         (try simp only [i64_w])
         try rfl
        refine hK.out _ _ ⟨v113, adz_v113, v121, adz_v121, m3_, m10_, (by rw [ha.out]; exact putSel_upk 9 hb_ rfl rfl rfl), fun h0_ => absurd ((hon 2 (by kernel_rfl)).symm.trans h0_) (by decide), Q_HB, Q_HO114, Q_HA_HO114, fun _ h1_ => absurd ((hon 6 (by kernel_rfl)).symm.trans h1_) (by decide), fun _ h1_ => absurd ((hon 9 (by kernel_rfl)).symm.trans h1_) (by decide), Q_HO122, Q_HA_HO122, Q_HI109_e9, Q_X3_, Q_X10_⟩
       refine steps_cons ?_ ?_
       ·
        rintro b a w' ⟨v113, adz_v113, v121, adz_v121, m3_, m10_, ha, Q_HI109, Q_HB, Q_HO114, Q_HA_HO114, Q_HI109_e2, Q_HI109_e6, Q_HO122, Q_HA_HO122, Q_HI109_e9, Q_X3_, Q_X10_⟩ hb_ hon hoff
        refine ⟨_, rfl, fun K hK => ?_⟩
        have e19 : a.tmps[19]? = some (.int .i64 t118) := by rw [ha]; exact putSel_on (e := (6, 19, .int .i64 t118)) 4 rfl rfl (hon 6 (by kernel_rfl)) rfl
        replace ha := zzm ha
        have HB := zzm Q_HB
        have HO114 := zzm (Q_HO114 (hon 0 (by kernel_rfl)))
        have HA_HO114 := zzm (Q_HA_HO114 (hon 0 (by kernel_rfl)))
        have HI109 := zzm (Q_HI109_e9 (hon 9 (by kernel_rfl)))
        refine value_ (w1 := w') (v := .int .i64 t118) (by rfl) rfl ?_ ?_
        ·
         go_simp
         (try simp only [i64_w])
         try rfl
        refine hK.out _ _ ⟨v113, adz_v113, v121, adz_v121, m3_, m10_, (by rw [ha.out]; exact putSel_upk 10 hb_ rfl rfl rfl), fun h0_ => absurd ((hon 2 (by kernel_rfl)).symm.trans h0_) (by decide), Q_HB, Q_HO114, Q_HA_HO114, fun _ h1_ => absurd ((hon 6 (by kernel_rfl)).symm.trans h1_) (by decide), fun _ h1_ => absurd ((hon 9 (by kernel_rfl)).symm.trans h1_) (by decide), Q_HO122, Q_HA_HO122, Q_HI109_e9, Q_X3_, Q_X10_⟩
       refine steps_cons ?_ ?_
       ·
        rintro b a w' ⟨v113, adz_v113, v121, adz_v121, m3_, m10_, ha, Q_HI109, Q_HB, Q_HO114, Q_HA_HO114, Q_HI109_e2, Q_HI109_e6, Q_HO122, Q_HA_HO122, Q_HI109_e9, Q_X3_, Q_X10_⟩ hb_ hon hoff
        refine ⟨_, rfl, fun K hK => ?_⟩
        have e24 : a.tmps[24]? = some (.int .i64 (rd y120 t123)) := by rw [ha]; exact putSel_on (e := (11, 24, .int .i64 (rd y120 t123))) 8 rfl rfl (hon 11 (by kernel_rfl)) rfl
        replace ha := zzm ha
        have HB := zzm Q_HB
        have HO114 := zzm (Q_HO114 (hon 0 (by kernel_rfl)))
        have HA_HO114 := zzm (Q_HA_HO114 (hon 0 (by kernel_rfl)))
        have HO122 := zzm (Q_HO122 (hon 7 (by kernel_rfl)))
        have HA_HO122 := zzm (Q_HA_HO122 (hon 7 (by kernel_rfl)))
        have HI109 := zzm (Q_HI109_e9 (hon 9 (by kernel_rfl)))
        refine value_ (w1 := w') (v := .int .i64 (rd y120 t123)) (by rfl) rfl ?_ ?_
        ·
         go_simp
         (try simp only [i64_w])
         try rfl
        refine hK.out _ _ ⟨v113, adz_v113, v121, adz_v121, m3_, m10_, (by rw [ha.out]; exact putSel_upk 11 hb_ rfl rfl rfl), fun h0_ => absurd ((hon 2 (by kernel_rfl)).symm.trans h0_) (by decide), Q_HB, Q_HO114, Q_HA_HO114, fun _ h1_ => absurd ((hon 6 (by kernel_rfl)).symm.trans h1_) (by decide), fun _ h1_ => absurd ((hon 9 (by kernel_rfl)).symm.trans h1_) (by decide), Q_HO122, Q_HA_HO122, Q_HI109_e9, Q_X3_, Q_X10_⟩
       refine steps_cons ?_ ?_
       ·
        rintro b a w' ⟨v113, adz_v113, v121, adz_v121, m3_, m10_, ha, Q_HI109, Q_HB, Q_HO114, Q_HA_HO114, Q_HI109_e2, Q_HI109_e6, Q_HO122, Q_HA_HO122, Q_HI109_e9, Q_X3_, Q_X10_⟩ hb_ hon hoff
        refine ⟨_, rfl, fun K hK => ?_⟩
        replace ha := zzm ha
        have HB := zzm Q_HB
        have HO114 := zzm (Q_HO114 (hon 0 (by kernel_rfl)))
        have HA_HO114 := zzm (Q_HA_HO114 (hon 0 (by kernel_rfl)))
        have HO122 := zzm (Q_HO122 (hon 7 (by kernel_rfl)))
        have HA_HO122 := zzm (Q_HA_HO122 (hon 7 (by kernel_rfl)))
        have HI109 := zzm (Q_HI109_e9 (hon 9 (by kernel_rfl)))
        refine value_ (w1 := w') (v := .int .i64 7) (by rfl) rfl ?_ ?_
        ·
         go_simp
         (try simp only [i64_w])
         try rfl
        refine hK.out _ _ ⟨v113, adz_v113, v121, adz_v121, m3_, m10_, (by rw [ha.out]; exact putSel_upk 12 hb_ rfl rfl rfl), fun h0_ => absurd ((hon 2 (by kernel_rfl)).symm.trans h0_) (by decide), Q_HB, Q_HO114, Q_HA_HO114, fun _ h1_ => absurd ((hon 6 (by kernel_rfl)).symm.trans h1_) (by decide), fun _ h1_ => absurd ((hon 9 (by kernel_rfl)).symm.trans h1_) (by decide), Q_HO122, Q_HA_HO122, Q_HI109_e9, Q_X3_, Q_X10_⟩
       refine steps_cons ?_ ?_
       ·
        rintro b a w' ⟨v113, adz_v113, v121, adz_v121, m3_, m10_, ha, Q_HI109, Q_HB, Q_HO114, Q_HA_HO114, Q_HI109_e2, Q_HI109_e6, Q_HO122, Q_HA_HO122, Q_HI109_e9, Q_X3_, Q_X10_⟩ hb_ hon hoff
        refine ⟨_, rfl, fun K hK => ?_⟩
        replace ha := zzm ha
        have HB := zzm Q_HB
        have HO114 := zzm (Q_HO114 (hon 0 (by kernel_rfl)))
        have HA_HO114 := zzm (Q_HA_HO114 (hon 0 (by kernel_rfl)))
        have HO122 := zzm (Q_HO122 (hon 7 (by kernel_rfl)))
        have HA_HO122 := zzm (Q_HA_HO122 (hon 7 (by kernel_rfl)))
        have HI109 := zzm (Q_HI109_e9 (hon 9 (by kernel_rfl)))
        refine value_ (w1 := w') (v := .bool true) (by rfl) rfl ?_ ?_
        ·
         go_simp
         (try simp only [i64_w])
         try rfl
        refine hK.out _ _ ⟨v113, adz_v113, v121, adz_v121, m3_, m10_, (by rw [ha.out]; exact putSel_upk 13 hb_ rfl rfl rfl), fun h0_ => absurd ((hon 2 (by kernel_rfl)).symm.trans h0_) (by decide), Q_HB, Q_HO114, Q_HA_HO114, fun _ h1_ => absurd ((hon 6 (by kernel_rfl)).symm.trans h1_) (by decide), fun _ h1_ => absurd ((hon 9 (by kernel_rfl)).symm.trans h1_) (by decide), Q_HO122, Q_HA_HO122, Q_HI109_e9, Q_X3_, Q_X10_⟩
       exact steps_nil
      rintro b a w24 hall ⟨v113, adz_v113, v121, adz_v121, m3_, m10_, ha, Q_HI109, Q_HB, Q_HO114, Q_HA_HO114, Q_HI109_e2, Q_HI109_e6, Q_HO122, Q_HA_HO122, Q_HI109_e9, Q_X3_, Q_X10_⟩
      clear HB HI109
      have hb0_ := hall 0 (by kernel_rfl)
      have hb2_ := hall 2 (by kernel_rfl)
      have hb3_ := hall 3 (by kernel_rfl)
      have hb4_ := hall 4 (by kernel_rfl)
      have hb6_ := hall 6 (by kernel_rfl)
      have hb7_ := hall 7 (by kernel_rfl)
      have hb9_ := hall 9 (by kernel_rfl)
      have hb10_ := hall 10 (by kernel_rfl)
      have hb11_ := hall 11 (by kernel_rfl)
      have hb12_ := hall 12 (by kernel_rfl)
      have hb13_ := hall 13 (by kernel_rfl)
      have hb14_ := hall 14 (by kernel_rfl)
      have hb15_ := hall 15 (by kernel_rfl)
      have hb16_ := hall 16 (by kernel_rfl)
      subst ha
      obtain rfl := Q_X3_ hb3_
      obtain rfl := Q_X10_ hb10_
      simp only [putSel, hb0_, hb2_, hb3_, hb4_, hb6_, hb7_, hb9_, hb10_, hb11_, hb12_, hb13_, hb14_, hb15_, hb16_, if_true, Act.put, zzq, zzr, zzs]
      clear Q_HI109
      have HB := zzm Q_HB
      clear Q_HB
      have HO114 := zzm (Q_HO114 hb0_)
      clear Q_HO114
      have HA_HO114 := zzm (Q_HA_HO114 hb0_)
      clear Q_HA_HO114
      clear Q_HI109_e2
      clear Q_HI109_e6
      have HO122 := zzm (Q_HO122 hb7_)
      clear Q_HO122
      have HA_HO122 := zzm (Q_HA_HO122 hb7_)
      clear Q_HA_HO122
      have HI109 := zzm (Q_HI109_e9 hb9_)
      clear Q_HI109_e9
      clear hall hb0_ hb2_ hb3_ hb4_ hb6_ hb7_ hb9_ hb10_ hb11_ hb12_ hb13_ hb14_ hb15_ hb16_
      obtain ⟨co25, eo25⟩ := HA_HO114.out
      clear HA_HO114
      subst eo25
      obtain ⟨co26, eo26⟩ := HA_HO122.out
      clear HA_HO122
      subst eo26
      try go_wp2
      refine bodyPost_ret (results_list (rs := [.tmp 2, .tmp 3, .tmp 4, .tmp 5, .tmp 6]) rfl (by simp) (.tmp (.tmp (.tmp (.tmp (.tmp .nil)))))) rfl ?_
      exact ⟨by first | rfl | (simp [errW_none, errW_some] <;> rfl) | (simp [*, errW_none, errW_some] <;> rfl), by repeat (first | (with_reducible first | exact HB.out | apply zza | apply zzb | apply zzc | refine zzd ?_ (IsS94.ge HI109.out)) | exact HB.out)⟩
     ·
      rw [if_neg c11] at H
      exact absurd H (by simp)
    ·
     rw [if_neg c10] at H
     exact absurd H (by simp)
   ·
    rw [if_neg c7] at H
    exact absurd H (by simp)
  ·
   rw [if_neg c6] at H
   exact absurd H (by simp)
 ·
  rw [if_neg c4] at H
  have c4b0 : (t110 == 0) = false := beq_eq_false_iff_ne.mpr c4
  have c4b1 : (t110 != 0) = true := bne_iff_ne.mpr c4
  replace H := Option.bind_eq_some_iff.mp H
  obtain ⟨⟨t126, t127⟩, A270, H⟩ := H
  replace H : ((spec_l6Rd_pick.f k t107 t127 5).bind fun bt128 => ((spec_l6Rd_pick.f k t107 bt128.2 60).bind fun bt130 => ((spec_l6Rd_pick.f k t107 bt130.2 250).bind fun bt132 => ((spec_l6Rd_pick.f k t107 bt132.2 2).bind fun bt134 => (some (t126, bt128.1, bt130.1, bt132.1, (bt134.1 == 0))))))) = some (r1, r2, r3, r4, r5) := H
  have A27 := zzm A270
  clear A270
  replace H := Option.bind_eq_some_iff.mp H
  obtain ⟨⟨t128, t129⟩, A280, H⟩ := H
  replace H : ((spec_l6Rd_pick.f k t107 t129 60).bind fun bt130 => ((spec_l6Rd_pick.f k t107 bt130.2 250).bind fun bt132 => ((spec_l6Rd_pick.f k t107 bt132.2 2).bind fun bt134 => (some (t126, t128, bt130.1, bt132.1, (bt134.1 == 0)))))) = some (r1, r2, r3, r4, r5) := H
  have A28 := zzm A280
  clear A280
  replace H := Option.bind_eq_some_iff.mp H
  obtain ⟨⟨t130, t131⟩, A290, H⟩ := H
  replace H : ((spec_l6Rd_pick.f k t107 t131 250).bind fun bt132 => ((spec_l6Rd_pick.f k t107 bt132.2 2).bind fun bt134 => (some (t126, t128, t130, bt132.1, (bt134.1 == 0))))) = some (r1, r2, r3, r4, r5) := H
  have A29 := zzm A290
  clear A290
  replace H := Option.bind_eq_some_iff.mp H
  obtain ⟨⟨t132, t133⟩, A300, H⟩ := H
  replace H : ((spec_l6Rd_pick.f k t107 t133 2).bind fun bt134 => (some (t126, t128, t130, t132, (bt134.1 == 0)))) = some (r1, r2, r3, r4, r5) := H
  have A30 := zzm A300
  clear A300
  replace H := Option.bind_eq_some_iff.mp H
  obtain ⟨⟨t134, t135⟩, A310, H⟩ := H
  replace H : (some (t126, t128, t130, t132, (t134 == 0))) = some (r1, r2, r3, r4, r5) := H
  have A31 := zzm A310
  clear A310
  simp only [Option.some.injEq, Prod.mk.injEq] at H
  obtain ⟨rfl, rfl, rfl, rfl, rfl⟩ := H
  go_enter Try.func18, Try.ntmps18
  go_wp2_with (first | ((with_reducible refine gate_callee (f := 53) rfl ?_); refine goesL_ (some 9) rfl rfl Try.func53 (by kernel_rfl) rfl #[.slice A0 l0.length c0] rfl (by (try simp only [List.map_toArray, List.map_cons, List.map_nil]); first | done | rfl | (simp only [List.length_drop, List.length_take]; rfl)) ?_; (with_reducible refine (spec_l6Open.calls _ _ l0 t107 t108 w _ ?side1 ?side2 ?side3 A2.out).mono ?_); (case side1 => repeat (first | (with_reducible first | exact HB.out | apply zza | apply zzb | apply zzc) | exact HB.out)); (case side2 => exact HR0.out); (case side3 => exact HC0.out); rintro e w32 ⟨g109, rfl, hi, hb, hb2⟩; refine ⟨_, rfl, ?_⟩; have n0_ := zzm (hb); have n1_ := zzm (hi); clear HB; have HB := n0_; have HI109 := n1_; clear n0_ n1_; (try clear hb); (try clear hb2); (try clear hk); (try clear hi)) | ((with_reducible refine gate_callee (f := 54) rfl ?_); refine goesL_ (some 11) rfl rfl Try.func54 (by kernel_rfl) rfl #[.pointer (some ⟨g109, 0, none⟩), .int .i64 10] rfl (by (try simp only [List.map_toArray, List.map_cons, List.map_nil]); first | done | rfl | (simp only [List.length_drop, List.length_take]; rfl)) ?_; (with_reducible refine (spec_l6Rd_pick.calls k g109 t107 t108 10 t110 t111 w _ ?side1 ?side2 A3.out).mono ?_); (case side1 => repeat (first | (with_reducible first | exact HI109.out | apply IsS94.alloc | apply IsS94.drewN | apply IsS94.drew | apply IsS94.set_1) | exact HI109.out)); (case side2 => repeat (first | (with_reducible first | exact HB.out | apply zza | apply zzb | apply zzc | refine zzd ?_ (IsS94.ge HI109.out)) | exact HB.out)); rintro e w33 ⟨rfl, hi, hb, hk⟩; refine ⟨_, rfl, ?_⟩; have n0_ := zzm (hb); have n1_ := zzm (hi); clear HB HI109; have HB := n0_; have HI109 := n1_; clear n0_ n1_; (try clear hb); (try clear hb2); (try clear hk); (try clear hi)) | ((with_reducible refine gate_callee (f := 54) rfl ?_); refine goesL_ (some 26) rfl rfl Try.func54 (by kernel_rfl) rfl #[.pointer (some ⟨g109, 0, none⟩), .int .i64 5] rfl (by (try simp only [List.map_toArray, List.map_cons, List.map_nil]); first | done | rfl | (simp only [List.length_drop, List.length_take]; rfl)) ?_; (with_reducible refine (spec_l6Rd_pick.calls k g109 t107 t111 5 t126 t127 w _ ?side1 ?side2 A27.out).mono ?_); (case side1 => repeat (first | (with_reducible first | exact HI109.out | apply IsS94.alloc | apply IsS94.drewN | apply IsS94.drew | apply IsS94.set_1) | exact HI109.out)); (case side2 => repeat (first | (with_reducible first | exact HB.out | apply zza | apply zzb | apply zzc | refine zzd ?_ (IsS94.ge HI109.out)) | exact HB.out)); rintro e w34 ⟨rfl, hi, hb, hk⟩; refine ⟨_, rfl, ?_⟩; have n0_ := zzm (hb); have n1_ := zzm (hi); clear HB HI109; have HB := n0_; have HI109 := n1_; clear n0_ n1_; (try clear hb); (try clear hb2); (try clear hk); (try clear hi)) | ((with_reducible refine gate_callee (f := 54) rfl ?_); refine goesL_ (some 28) rfl rfl Try.func54 (by kernel_rfl) rfl #[.pointer (some ⟨g109, 0, none⟩), .int .i64 5] rfl (by (try simp only [List.map_toArray, List.map_cons, List.map_nil]); first | done | rfl | (simp only [List.length_drop, List.length_take]; rfl)) ?_; (with_reducible refine (spec_l6Rd_pick.calls k g109 t107 t127 5 t128 t129 w _ ?side1 ?side2 A28.out).mono ?_); (case side1 => repeat (first | (with_reducible first | exact HI109.out | apply IsS94.alloc | apply IsS94.drewN | apply IsS94.drew | apply IsS94.set_1) | exact HI109.out)); (case side2 => repeat (first | (with_reducible first | exact HB.out | apply zza | apply zzb | apply zzc | refine zzd ?_ (IsS94.ge HI109.out)) | exact HB.out)); rintro e w35 ⟨rfl, hi, hb, hk⟩; refine ⟨_, rfl, ?_⟩; have n0_ := zzm (hb); have n1_ := zzm (hi); clear HB HI109; have HB := n0_; have HI109 := n1_; clear n0_ n1_; (try clear hb); (try clear hb2); (try clear hk); (try clear hi)) | ((with_reducible refine gate_callee (f := 54) rfl ?_); refine goesL_ (some 30) rfl rfl Try.func54 (by kernel_rfl) rfl #[.pointer (some ⟨g109, 0, none⟩), .int .i64 60] rfl (by (try simp only [List.map_toArray, List.map_cons, List.map_nil]); first | done | rfl | (simp only [List.length_drop, List.length_take]; rfl)) ?_; (with_reducible refine (spec_l6Rd_pick.calls k g109 t107 t129 60 t130 t131 w _ ?side1 ?side2 A29.out).mono ?_); (case side1 => repeat (first | (with_reducible first | exact HI109.out | apply IsS94.alloc | apply IsS94.drewN | apply IsS94.drew | apply IsS94.set_1) | exact HI109.out)); (case side2 => repeat (first | (with_reducible first | exact HB.out | apply zza | apply zzb | apply zzc | refine zzd ?_ (IsS94.ge HI109.out)) | exact HB.out)); rintro e w36 ⟨rfl, hi, hb, hk⟩; refine ⟨_, rfl, ?_⟩; have n0_ := zzm (hb); have n1_ := zzm (hi); clear HB HI109; have HB := n0_; have HI109 := n1_; clear n0_ n1_; (try clear hb); (try clear hb2); (try clear hk); (try clear hi)) | ((with_reducible refine gate_callee (f := 54) rfl ?_); refine goesL_ (some 32) rfl rfl Try.func54 (by kernel_rfl) rfl #[.pointer (some ⟨g109, 0, none⟩), .int .i64 250] rfl (by (try simp only [List.map_toArray, List.map_cons, List.map_nil]); first | done | rfl | (simp only [List.length_drop, List.length_take]; rfl)) ?_; (with_reducible refine (spec_l6Rd_pick.calls k g109 t107 t131 250 t132 t133 w _ ?side1 ?side2 A30.out).mono ?_); (case side1 => repeat (first | (with_reducible first | exact HI109.out | apply IsS94.alloc | apply IsS94.drewN | apply IsS94.drew | apply IsS94.set_1) | exact HI109.out)); (case side2 => repeat (first | (with_reducible first | exact HB.out | apply zza | apply zzb | apply zzc | refine zzd ?_ (IsS94.ge HI109.out)) | exact HB.out)); rintro e w37 ⟨rfl, hi, hb, hk⟩; refine ⟨_, rfl, ?_⟩; have n0_ := zzm (hb); have n1_ := zzm (hi); clear HB HI109; have HB := n0_; have HI109 := n1_; clear n0_ n1_; (try clear hb); (try clear hb2); (try clear hk); (try clear hi)) | ((with_reducible refine gate_callee (f := 54) rfl ?_); refine goesL_ (some 34) rfl rfl Try.func54 (by kernel_rfl) rfl #[.pointer (some ⟨g109, 0, none⟩), .int .i64 2] rfl (by (try simp only [List.map_toArray, List.map_cons, List.map_nil]); first | done | rfl | (simp only [List.length_drop, List.length_take]; rfl)) ?_; (with_reducible refine (spec_l6Rd_pick.calls k g109 t107 t133 2 t134 t135 w _ ?side1 ?side2 A31.out).mono ?_); (case side1 => repeat (first | (with_reducible first | exact HI109.out | apply IsS94.alloc | apply IsS94.drewN | apply IsS94.drew | apply IsS94.set_1) | exact HI109.out)); (case side2 => repeat (first | (with_reducible first | exact HB.out | apply zza | apply zzb | apply zzc | refine zzd ?_ (IsS94.ge HI109.out)) | exact HB.out)); rintro e w38 ⟨rfl, hi, hb, hk⟩; refine ⟨_, rfl, ?_⟩; have n0_ := zzm (hb); have n1_ := zzm (hi); clear HB HI109; have HB := n0_; have HI109 := n1_; clear n0_ n1_; (try clear hb); (try clear hb2); (try clear hk); (try clear hi)))
  refine bodyPost_ret (results_list (rs := [.tmp 2, .tmp 3, .tmp 4, .tmp 5, .tmp 6]) rfl (by simp) (.tmp (.tmp (.tmp (.tmp (.tmp .nil)))))) rfl ?_
  exact ⟨by first | rfl | (simp [errW_none, errW_some] <;> rfl) | (simp [*, errW_none, errW_some] <;> rfl), by repeat (first | (with_reducible first | exact HB.out | apply zza | apply zzb | apply zzc | refine zzd ?_ (IsS94.ge HI109.out)) | exact HB.out)⟩
end Go.Proofs.Yticpnjhkdfdkkaa.T
namespace Go.Proofs.Yticpnjhkdfdkkaa.T
open Go.RowKit Go.Proofs.YticpnjhkdfdkkaaW.PrintWords Go.Proofs.YticpnjhkdfdkkaaW.PrintLast Go.Proofs.YticpnjhkdfdkkaaW.PrintMore

set_option linter.unusedVariables false
set_option linter.unusedSimpArgs false
def impl_within.f (a0 : Int) (a1 : Int) (a2 : Int) : Option (Bool) := if a0 ≥ a1 then (some (decide (a0 ≤ a2))) else (some false)
set_option maxHeartbeats 8000000 in
set_option maxRecDepth 100000 in
theorem impl_within.calls (a0 : Int) (a1 : Int) (a2 : Int) (r : Bool) (w : World) (h : impl_within.f a0 a1 a2 = some r) :
  Calls Try.prog 57 #[.int .i64 a0, .int .i64 a1, .int .i64 a2] w fun e w' => e = .returned (.bool r) ∧ Drawn0 w w' := by
 have H : (if a0 ≥ a1 then (some (decide (a0 ≤ a2))) else (some false)) = some r := h
 clear h
 by_cases c4 : a0 ≥ a1
 ·
  rw [if_pos c4] at H
  have c4b0 : decide (a1 ≤ a0) = true := decide_eq_true c4
  clear c4
  obtain rfl := Option.some.inj H
  go_enter Try.func57, Try.ntmps57
  go_wp2
  go_ret
  exact ⟨by first | rfl | (simp; done) | (simp [*]; done), by repeat (first | exact Drawn0.refl _ | apply Drawn0.step)⟩
 ·
  rw [if_neg c4] at H
  have c4b0 : decide (a1 ≤ a0) = false := decide_eq_false c4
  clear c4
  obtain rfl := Option.some.inj H
  go_enter Try.func57, Try.ntmps57
  go_wp2
  go_ret
  exact ⟨by first | rfl | (simp; done) | (simp [*]; done), by repeat (first | exact Drawn0.refl _ | apply Drawn0.step)⟩
def impl_idValid.f (a0 : Int) : Option (Bool) := (impl_within.f a0 0 254).bind fun t136 => (some t136)
set_option maxHeartbeats 8000000 in
set_option maxRecDepth 100000 in
theorem impl_idValid.calls (a0 : Int) (r : Bool) (w : World) (h : impl_idValid.f a0 = some r) :
  Calls Try.prog 56 #[.int .i64 a0] w fun e w' => e = .returned (.bool r) ∧ Drawn0 w w' := by
 have H : ((impl_within.f a0 0 254).bind fun t136 => (some t136)) = some r := h
 clear h
 replace H := Option.bind_eq_some_iff.mp H
 obtain ⟨t136, A20, H⟩ := H
 replace H : (some t136) = some r := H
 have A2 := zzm A20
 clear A20
 obtain rfl := Option.some.inj H
 go_enter Try.func56, Try.ntmps56
 go_wp2_with (first | ((with_reducible refine gate_callee (f := 57) rfl ?_); refine goesL_ (some 4) rfl rfl Try.func57 (by kernel_rfl) rfl #[.int .i64 a0, .int .i64 0, .int .i64 254] rfl (by (try simp only [List.map_toArray, List.map_cons, List.map_nil]); first | done | rfl | (simp only [List.length_drop, List.length_take]; rfl)) ?_; (with_reducible refine (impl_within.calls a0 0 254 t136 _ A2.out).mono ?_); rintro e w' ⟨rfl, ⟨nd, rfl⟩⟩; refine ⟨_, rfl, ?_⟩))
 go_ret
 exact ⟨by first | rfl | (simp; done) | (simp [*]; done), by repeat (first | exact Drawn0.refl _ | apply Drawn0.step)⟩
def impl_baseValid.f (a0 : Int) (a1 : Int) : Option (Bool) := (impl_within.f a0 0 99999).bind fun t137 => (if t137 = true then ((impl_within.f a1 0 99999).bind fun t138 => (some t138)) else (some false))
set_option maxHeartbeats 8000000 in
set_option maxRecDepth 100000 in
theorem impl_baseValid.calls (a0 : Int) (a1 : Int) (r : Bool) (w : World) (h : impl_baseValid.f a0 a1 = some r) :
  Calls Try.prog 85 #[.int .i64 a0, .int .i64 a1] w fun e w' => e = .returned (.bool r) ∧ Drawn0 w w' := by
 have H : ((impl_within.f a0 0 99999).bind fun t137 => (if t137 = true then ((impl_within.f a1 0 99999).bind fun t138 => (some t138)) else (some false))) = some r := h
 clear h
 replace H := Option.bind_eq_some_iff.mp H
 obtain ⟨t137, A30, H⟩ := H
 replace H : (if t137 = true then ((impl_within.f a1 0 99999).bind fun t138 => (some t138)) else (some false)) = some r := H
 have A3 := zzm A30
 clear A30
 by_cases c4 : t137 = true
 ·
  subst c4
  have H1 : ((impl_within.f a1 0 99999).bind fun t138 => (some t138)) = some r := by rw [if_pos rfl] at H; exact H
  clear H
  have H := H1
  clear H1
  replace H := Option.bind_eq_some_iff.mp H
  obtain ⟨t138, A50, H⟩ := H
  replace H : (some t138) = some r := H
  have A5 := zzm A50
  clear A50
  obtain rfl := Option.some.inj H
  go_enter Try.func85, Try.ntmps85
  go_wp2_with (first | ((with_reducible refine gate_callee (f := 57) rfl ?_); refine goesL_ (some 6) rfl rfl Try.func57 (by kernel_rfl) rfl #[.int .i64 a0, .int .i64 0, .int .i64 99999] rfl (by (try simp only [List.map_toArray, List.map_cons, List.map_nil]); first | done | rfl | (simp only [List.length_drop, List.length_take]; rfl)) ?_; (with_reducible refine (impl_within.calls a0 0 99999 true _ A3.out).mono ?_); rintro e w' ⟨rfl, ⟨nd, rfl⟩⟩; refine ⟨_, rfl, ?_⟩) | (go_at_call 57; (with_reducible refine (impl_within.calls a1 0 99999 t138 _ A5.out).mono ?_); rintro e w' ⟨rfl, ⟨nd, rfl⟩⟩))
  go_ret
  exact ⟨by first | rfl | (simp; done) | (simp [*]; done), by repeat (first | exact Drawn0.refl _ | apply Drawn0.step)⟩
 ·
  replace c4 := Bool.eq_false_iff.mpr c4
  subst c4
  have H1 : (some false) = some r := by rw [if_neg (show ¬ (false = true) by decide)] at H; exact H
  clear H
  have H := H1
  clear H1
  obtain rfl := Option.some.inj H
  go_enter Try.func85, Try.ntmps85
  go_wp2_with (first | ((with_reducible refine gate_callee (f := 57) rfl ?_); refine goesL_ (some 6) rfl rfl Try.func57 (by kernel_rfl) rfl #[.int .i64 a0, .int .i64 0, .int .i64 99999] rfl (by (try simp only [List.map_toArray, List.map_cons, List.map_nil]); first | done | rfl | (simp only [List.length_drop, List.length_take]; rfl)) ?_; (with_reducible refine (impl_within.calls a0 0 99999 false _ A3.out).mono ?_); rintro e w' ⟨rfl, ⟨nd, rfl⟩⟩; refine ⟨_, rfl, ?_⟩))
  go_ret
  exact ⟨by first | rfl | (simp; done) | (simp [*]; done), by repeat (first | exact Drawn0.refl _ | apply Drawn0.step)⟩
def impl_isByte.f (a0 : Int) : Option (Bool) := if a0 ≥ 0 then (some (decide (a0 ≤ 255))) else (some false)
set_option maxHeartbeats 8000000 in
set_option maxRecDepth 100000 in
theorem impl_isByte.calls (a0 : Int) (r : Bool) (w : World) (h : impl_isByte.f a0 = some r) :
  Calls Try.prog 110 #[.int .i64 a0] w fun e w' => e = .returned (.bool r) ∧ Drawn0 w w' := by
 have H : (if a0 ≥ 0 then (some (decide (a0 ≤ 255))) else (some false)) = some r := h
 clear h
 by_cases c2 : a0 ≥ 0
 ·
  rw [if_pos c2] at H
  have c2b0 : decide (0 ≤ a0) = true := decide_eq_true c2
  clear c2
  obtain rfl := Option.some.inj H
  go_enter Try.func110, Try.ntmps110
  go_wp2
  go_ret
  exact ⟨by first | rfl | (simp; done) | (simp [*]; done), by repeat (first | exact Drawn0.refl _ | apply Drawn0.step)⟩
 ·
  rw [if_neg c2] at H
  have c2b0 : decide (0 ≤ a0) = false := decide_eq_false c2
  clear c2
  obtain rfl := Option.some.inj H
  go_enter Try.func110, Try.ntmps110
  go_wp2
  go_ret
  exact ⟨by first | rfl | (simp; done) | (simp [*]; done), by repeat (first | exact Drawn0.refl _ | apply Drawn0.step)⟩
end Go.Proofs.Yticpnjhkdfdkkaa.T
namespace Go.Proofs.Yticpnjhkdfdkkaa.T
open Go.RowKit Go.Proofs.YticpnjhkdfdkkaaW.PrintWords Go.Proofs.YticpnjhkdfdkkaaW.PrintLast Go.Proofs.YticpnjhkdfdkkaaW.PrintMore

set_option linter.unusedVariables false
set_option linter.unusedSimpArgs false
def impl_allBytes.l0 : Nat → List Int → Int → Int → Option (Bool)
 | 0, _, _, _ => none
 | k + 1, x5, x6, x7 => if x7 < x6 then (if 0 ≤ x7 then (if x7 < (x5.length : Int) then ((impl_isByte.f (rd x5 x7)).bind fun t140 => (if t140 = true then (impl_allBytes.l0 k x5 x6 (wrap64 (x7 + 1))) else (some false))) else (none)) else (none)) else (some true)
def impl_allBytes.f (k : Nat) (l0 : List Int) : Option (Bool) := impl_allBytes.l0 k l0 (l0.length : Int) 0
set_option maxHeartbeats 8000000 in
set_option maxRecDepth 100000 in
theorem impl_allBytes.calls (k : Nat) (A0 : Option Addr) (c0 : Nat) (l0 : List Int) (r : Bool) (w : World) (hr0 : Kd.C (Kd.int .i64) w A0 l0.length l0) (hc0 : l0.length ≤ c0) (h : impl_allBytes.f k l0 = some r) :
  Calls Try.prog 100 #[.slice A0 l0.length c0] w fun e w' => e = .returned (.bool r) ∧ Drawn0 w w' := by
 have HR0 := zzm hr0
 have HC0 := zzm hc0
 clear hr0 hc0
 have H : (impl_allBytes.l0 k l0 (l0.length : Int) 0) = some r := h
 clear h
 have H' := zzm H
 clear H
 go_enter Try.func100, Try.ntmps100
 go_wp2
 go_loopg [7] k (fun kq v7 w' => ∃ (x7_1 : Int), v7 = .int .i64 x7_1 ∧ Aside0 (impl_allBytes.l0 kq l0 (l0.length : Int) x7_1 = some r) ∧ Aside0 (kq ≤ k) ∧ Drawn0 w w')
 case atStart => exact ⟨(0), (by first | rfl | (simp; done) | (simp [*]; done)), H', ⟨Nat.le_refl _⟩, by repeat (first | exact Drawn0.refl _ | apply Drawn0.step)⟩
 case round =>
  clear H'
  try clear c1
  obtain ⟨x7_1, rfl, HA, HK1, ⟨m1, rfl⟩⟩ := hrel
  cases gk with
  | zero => exact absurd HA.out (by simp [impl_allBytes.l0])
  | succ k1 =>
   have H := HA.out
   clear HA
   simp only [impl_allBytes.l0] at H
   by_cases c2 : x7_1 < (l0.length : Int)
   ·
    rw [if_pos c2] at H
    have c2b0 : decide (x7_1 < (l0.length : Int)) = true := decide_eq_true c2
    clear c2
    by_cases c3 : 0 ≤ x7_1
    ·
     rw [if_pos c3] at H
     have c3b0 : decide (0 ≤ x7_1) = true := decide_eq_true c3
     clear c3
     by_cases c4 : x7_1 < (l0.length : Int)
     ·
      rw [if_pos c4] at H
      have c4b0 : decide (x7_1 < (l0.length : Int)) = true := decide_eq_true c4
      clear c4
      replace H := Option.bind_eq_some_iff.mp H
      obtain ⟨t140, A50, H⟩ := H
      replace H : (if t140 = true then (impl_allBytes.l0 k1 l0 (l0.length : Int) (wrap64 (x7_1 + 1))) else (some false)) = some r := H
      have A5 := zzm A50
      clear A50
      by_cases c6 : t140 = true
      ·
       subst c6
       have H1 : (impl_allBytes.l0 k1 l0 (l0.length : Int) (wrap64 (x7_1 + 1))) = some r := by rw [if_pos rfl] at H; exact H
       clear H
       have H := H1
       clear H1
       have H' := zzm H
       clear H
       have p139 : 0 ≤ (x7_1 : Int) := of_decide_eq_true (by first | (with_reducible assumption) | assumption)
       have q139 : x7_1 < (l0.length : Int) := of_decide_eq_true (by first | (with_reducible assumption) | assumption)
       obtain ⟨ad139, e139, hx139_0⟩ := Kd.at_int HR0.out x7_1 p139 q139
       cases e139
       replace p139 := eq_true p139
       replace q139 := eq_true q139
       go_wp2_with (first | ((with_reducible refine gate_callee (f := 110) rfl ?_); refine goesL_ (some 12) rfl rfl Try.func110 (by kernel_rfl) rfl #[.int .i64 (rd l0 x7_1)] rfl (by (try simp only [List.map_toArray, List.map_cons, List.map_nil]); first | done | rfl | (simp only [List.length_drop, List.length_take]; rfl)) ?_; (with_reducible refine (impl_isByte.calls (rd l0 x7_1) true _ A5.out).mono ?_); rintro e w' ⟨rfl, ⟨nd, rfl⟩⟩; refine ⟨_, rfl, ?_⟩))
       go_roundg k1
       case measure => have := HK1.out; omega
       case rel => exact ⟨(wrap64 (x7_1 + 1)), (by first | rfl | (simp; done) | (simp [*]; done)), H', ⟨by have := HK1.out; omega⟩, by repeat (first | exact Drawn0.refl _ | apply Drawn0.step)⟩
      ·
       replace c6 := Bool.eq_false_iff.mpr c6
       subst c6
       have H1 : (some false) = some r := by rw [if_neg (show ¬ (false = true) by decide)] at H; exact H
       clear H
       have H := H1
       clear H1
       obtain rfl := Option.some.inj H
       have p139 : 0 ≤ (x7_1 : Int) := of_decide_eq_true (by first | (with_reducible assumption) | assumption)
       have q139 : x7_1 < (l0.length : Int) := of_decide_eq_true (by first | (with_reducible assumption) | assumption)
       obtain ⟨ad139, e139, hx139_0⟩ := Kd.at_int HR0.out x7_1 p139 q139
       cases e139
       replace p139 := eq_true p139
       replace q139 := eq_true q139
       go_wp2_with (first | ((with_reducible refine gate_callee (f := 110) rfl ?_); refine goesL_ (some 12) rfl rfl Try.func110 (by kernel_rfl) rfl #[.int .i64 (rd l0 x7_1)] rfl (by (try simp only [List.map_toArray, List.map_cons, List.map_nil]); first | done | rfl | (simp only [List.length_drop, List.length_take]; rfl)) ?_; (with_reducible refine (impl_isByte.calls (rd l0 x7_1) false _ A5.out).mono ?_); rintro e w' ⟨rfl, ⟨nd, rfl⟩⟩; refine ⟨_, rfl, ?_⟩))
       go_ret
       exact ⟨by first | rfl | (simp; done) | (simp [*]; done), by repeat (first | exact Drawn0.refl _ | apply Drawn0.step)⟩
     ·
      rw [if_neg c4] at H
      exact absurd H (by simp)
    ·
     rw [if_neg c3] at H
     exact absurd H (by simp)
   ·
    rw [if_neg c2] at H
    have c2b0 : decide (x7_1 < (l0.length : Int)) = false := decide_eq_false c2
    clear c2
    obtain rfl := Option.some.inj H
    go_wp2
    go_ret
    exact ⟨by first | rfl | (simp; done) | (simp [*]; done), by repeat (first | exact Drawn0.refl _ | apply Drawn0.step)⟩
def impl_partValid.f (k : Nat) (a0 : Bool) (l1 : List Int) : Option (Bool) := if a0 = true then (if (l1.length : Int) ≤ 12 then ((impl_allBytes.f k l1).bind fun t141 => (some t141)) else (some false)) else (some ((l1.length : Int) == 0))
set_option maxHeartbeats 8000000 in
set_option maxRecDepth 100000 in
theorem impl_partValid.calls (k : Nat) (a0 : Bool) (A1 : Option Addr) (c1 : Nat) (l1 : List Int) (r : Bool) (w : World) (hr1 : Kd.C (Kd.int .i64) w A1 l1.length l1) (hc1 : l1.length ≤ c1) (h : impl_partValid.f k a0 l1 = some r) :
  Calls Try.prog 86 #[.bool a0, .slice A1 l1.length c1] w fun e w' => e = .returned (.bool r) ∧ Drawn0 w w' := by
 have HR1 := zzm hr1
 have HC1 := zzm hc1
 clear hr1 hc1
 have H : (if a0 = true then (if (l1.length : Int) ≤ 12 then ((impl_allBytes.f k l1).bind fun t141 => (some t141)) else (some false)) else (some ((l1.length : Int) == 0))) = some r := h
 clear h
 by_cases c3 : a0 = true
 ·
  subst c3
  have H1 : (if (l1.length : Int) ≤ 12 then ((impl_allBytes.f k l1).bind fun t141 => (some t141)) else (some false)) = some r := by rw [if_pos rfl] at H; exact H
  clear H
  have H := H1
  clear H1
  by_cases c4 : (l1.length : Int) ≤ 12
  ·
   rw [if_pos c4] at H
   have c4b0 : decide ((l1.length : Int) ≤ 12) = true := decide_eq_true c4
   have c4b1 : decide (l1.length ≤ 12) = true := decide_eq_true (by omega)
   clear c4
   replace H := Option.bind_eq_some_iff.mp H
   obtain ⟨t141, A50, H⟩ := H
   replace H : (some t141) = some r := H
   have A5 := zzm A50
   clear A50
   obtain rfl := Option.some.inj H
   go_enter Try.func86, Try.ntmps86
   go_wp2_with (first | (go_at_call 100; (with_reducible refine (impl_allBytes.calls k _ _ l1 t141 _ ?side1 ?side2 A5.out).mono ?_); (case side1 => repeat (first | exact HR1.out | (with_reducible refine Kd.C_alloc ?_ _) | (with_reducible refine Kd.C_drewN ?_ _) | (with_reducible refine Kd.C_drew ?_))); (case side2 => exact HC1.out); rintro e w' ⟨rfl, ⟨nd, rfl⟩⟩))
   go_ret
   exact ⟨by first | rfl | (simp; done) | (simp [*]; done), by repeat (first | exact Drawn0.refl _ | apply Drawn0.step)⟩
  ·
   rw [if_neg c4] at H
   have c4b0 : decide ((l1.length : Int) ≤ 12) = false := decide_eq_false c4
   have c4b1 : decide (l1.length ≤ 12) = false := decide_eq_false (by omega)
   clear c4
   obtain rfl := Option.some.inj H
   go_enter Try.func86, Try.ntmps86
   go_wp2
   go_ret
   exact ⟨by first | rfl | (simp; done) | (simp [*]; done), by repeat (first | exact Drawn0.refl _ | apply Drawn0.step)⟩
 ·
  replace c3 := Bool.eq_false_iff.mpr c3
  subst c3
  have H1 : (some ((l1.length : Int) == 0)) = some r := by rw [if_neg (show ¬ (false = true) by decide)] at H; exact H
  clear H
  have H := H1
  clear H1
  obtain rfl := Option.some.inj H
  go_enter Try.func86, Try.ntmps86
  go_wp2
  go_ret
  exact ⟨by first | rfl | (simp; done) | (simp [*]; done), by repeat (first | exact Drawn0.refl _ | apply Drawn0.step)⟩
end Go.Proofs.Yticpnjhkdfdkkaa.T
namespace Go.Proofs.Yticpnjhkdfdkkaa.T
open Go.RowKit Go.Proofs.YticpnjhkdfdkkaaW.PrintWords Go.Proofs.YticpnjhkdfdkkaaW.PrintLast Go.Proofs.YticpnjhkdfdkkaaW.PrintMore

set_option linter.unusedVariables false
set_option linter.unusedSimpArgs false
def impl_RecordValid.f (k : Nat) (a0_0 : Int) (a0_1 : Int) (a0_2 : Bool) (l0_3 : List Int) (a0_4 : Bool) (l0_5 : List Int) : Option (Bool) := (impl_baseValid.f a0_0 a0_1).bind fun t143 => (if t143 = true then ((impl_partValid.f k a0_2 l0_3).bind fun t144 => (if t144 = true then ((impl_partValid.f k a0_4 l0_5).bind fun t145 => (some t145)) else (some false))) else (some false))
set_option maxHeartbeats 8000000 in
set_option maxRecDepth 100000 in
theorem impl_RecordValid.calls (k : Nat) (a0_0 : Int) (a0_1 : Int) (a0_2 : Bool) (A0_3 : Option Addr) (c0_3 : Nat) (l0_3 : List Int) (a0_4 : Bool) (A0_5 : Option Addr) (c0_5 : Nat) (l0_5 : List Int) (r : Bool) (w : World) (hr0_3 : Kd.C (Kd.int .i64) w A0_3 l0_3.length l0_3) (hc0_3 : l0_3.length ≤ c0_3) (hr0_5 : Kd.C (Kd.int .i64) w A0_5 l0_5.length l0_5) (hc0_5 : l0_5.length ≤ c0_5) (h : impl_RecordValid.f k a0_0 a0_1 a0_2 l0_3 a0_4 l0_5 = some r) :
  Calls Try.prog 58 #[.agg #[.int .i64 a0_0, .int .i64 a0_1, .bool a0_2, .slice A0_3 l0_3.length c0_3, .bool a0_4, .slice A0_5 l0_5.length c0_5]] w fun e w' => e = .returned (.bool r) ∧ Below w.heap.size w w' := by
 have hu34 := Try.underlying34
 have HR0_3 := zzm hr0_3
 have HC0_3 := zzm hc0_3
 clear hr0_3 hc0_3
 have HR0_5 := zzm hr0_5
 have HC0_5 := zzm hc0_5
 clear hr0_5 hc0_5
 have HB := zzm (Below.refl w.heap.size w)
 have H : ((impl_baseValid.f a0_0 a0_1).bind fun t143 => (if t143 = true then ((impl_partValid.f k a0_2 l0_3).bind fun t144 => (if t144 = true then ((impl_partValid.f k a0_4 l0_5).bind fun t145 => (some t145)) else (some false))) else (some false))) = some r := h
 clear h
 replace H := Option.bind_eq_some_iff.mp H
 obtain ⟨t143, A20, H⟩ := H
 replace H : (if t143 = true then ((impl_partValid.f k a0_2 l0_3).bind fun t144 => (if t144 = true then ((impl_partValid.f k a0_4 l0_5).bind fun t145 => (some t145)) else (some false))) else (some false)) = some r := H
 have A2 := zzm A20
 clear A20
 by_cases c3 : t143 = true
 ·
  subst c3
  have H1 : ((impl_partValid.f k a0_2 l0_3).bind fun t144 => (if t144 = true then ((impl_partValid.f k a0_4 l0_5).bind fun t145 => (some t145)) else (some false))) = some r := by rw [if_pos rfl] at H; exact H
  clear H
  have H := H1
  clear H1
  replace H := Option.bind_eq_some_iff.mp H
  obtain ⟨t144, A40, H⟩ := H
  replace H : (if t144 = true then ((impl_partValid.f k a0_4 l0_5).bind fun t145 => (some t145)) else (some false)) = some r := H
  have A4 := zzm A40
  clear A40
  by_cases c5 : t144 = true
  ·
   subst c5
   have H1 : ((impl_partValid.f k a0_4 l0_5).bind fun t145 => (some t145)) = some r := by rw [if_pos rfl] at H; exact H
   clear H
   have H := H1
   clear H1
   replace H := Option.bind_eq_some_iff.mp H
   obtain ⟨t145, A60, H⟩ := H
   replace H : (some t145) = some r := H
   have A6 := zzm A60
   clear A60
   obtain rfl := Option.some.inj H
   go_enter Try.func58, Try.ntmps58
   go_wp2_with (first | ((with_reducible refine gate_dst (N := 1) rfl ?_); refine box_event ?hg (N := 1) ?hd (cs := #[.int .i64 a0_0, .int .i64 a0_1, .bool a0_2, .slice A0_3 l0_3.length c0_3, .bool a0_4, .slice A0_5 l0_5.length c0_5]) (t := 34) ?hr ?_; (case hd => rfl); (case hg => rfl); (case hr => first | (go_simp; done) | (go_simp; rfl)); intro gb142 hg w7 hbox hb; have n0_ := zzm (zzp (by repeat (first | (with_reducible first | exact HB.out | apply zza | apply zzb | apply zzc) | exact HB.out)) hb); have n1_ := zzm (hbox); have n2_ := zzm ((by rw [hg]; exact (zzo (by repeat (first | (with_reducible first | exact HB.out | apply zza | apply zzb | apply zzc) | exact HB.out))) : w.heap.size ≤ gb142)); have n3_ := zzm ((by rw [hg]; exact (zzo (by repeat (first | (with_reducible first | exact HB.out | apply zza | apply zzb | apply zzc) | exact HB.out))) : w.heap.size ≤ gb142)); clear HB; have HB := n0_; have BK142 := n1_; have GW142 := n2_; have GE142 := n3_; clear n0_ n1_ n2_ n3_ hb hbox hg; obtain ⟨hcz8_0, hcz8_1, hcz8_2, hcz8_3, hcz8_4, hcz8_5, hfz8_0, hfz8_1, hfz8_2, hfz8_3, hfz8_4, hfz8_5⟩ := zzc6 BK142.out) | ((with_reducible refine gate_callee (f := 85) rfl ?_); refine goesL_ (some 7) rfl rfl Try.func85 (by kernel_rfl) rfl #[.int .i64 a0_0, .int .i64 a0_1] rfl (by (try simp only [List.map_toArray, List.map_cons, List.map_nil]); first | done | rfl | (simp only [List.length_drop, List.length_take]; rfl)) ?_; (with_reducible refine (impl_baseValid.calls a0_0 a0_1 true _ A2.out).mono ?_); rintro e w' ⟨rfl, ⟨nd, rfl⟩⟩; refine ⟨_, rfl, ?_⟩) | (go_at_call 86; (with_reducible refine (impl_partValid.calls k a0_2 _ _ l0_3 true _ ?side1 ?side2 A4.out).mono ?_); (case side1 => repeat (first | exact (Kd.C_below HR0_3.out (by repeat (first | (with_reducible first | exact HB.out | apply zza | apply zzb | apply zzc | refine zzd ?_ GE142.out) | exact HB.out))) | (with_reducible refine Kd.C_alloc ?_ _) | (with_reducible refine Kd.C_drewN ?_ _) | (with_reducible refine Kd.C_drew ?_))); (case side2 => exact HC0_3.out); rintro e w' ⟨rfl, ⟨nd, rfl⟩⟩) | (go_at_call 86; (with_reducible refine (impl_partValid.calls k a0_4 _ _ l0_5 t145 _ ?side1 ?side2 A6.out).mono ?_); (case side1 => repeat (first | exact (Kd.C_below HR0_5.out (by repeat (first | (with_reducible first | exact HB.out | apply zza | apply zzb | apply zzc | refine zzd ?_ GE142.out) | exact HB.out))) | (with_reducible refine Kd.C_alloc ?_ _) | (with_reducible refine Kd.C_drewN ?_ _) | (with_reducible refine Kd.C_drew ?_))); (case side2 => exact HC0_5.out); rintro e w' ⟨rfl, ⟨nd, rfl⟩⟩))
   go_ret
   exact ⟨by first | rfl | (simp [errW_none, errW_some] <;> rfl) | (simp [*, errW_none, errW_some] <;> rfl), by repeat (first | (with_reducible first | exact HB.out | apply zza | apply zzb | apply zzc | refine zzd ?_ GE142.out) | exact HB.out)⟩
  ·
   replace c5 := Bool.eq_false_iff.mpr c5
   subst c5
   have H1 : (some false) = some r := by rw [if_neg (show ¬ (false = true) by decide)] at H; exact H
   clear H
   have H := H1
   clear H1
   obtain rfl := Option.some.inj H
   go_enter Try.func58, Try.ntmps58
   go_wp2_with (first | ((with_reducible refine gate_dst (N := 1) rfl ?_); refine box_event ?hg (N := 1) ?hd (cs := #[.int .i64 a0_0, .int .i64 a0_1, .bool a0_2, .slice A0_3 l0_3.length c0_3, .bool a0_4, .slice A0_5 l0_5.length c0_5]) (t := 34) ?hr ?_; (case hd => rfl); (case hg => rfl); (case hr => first | (go_simp; done) | (go_simp; rfl)); intro gb142 hg w9 hbox hb; have n0_ := zzm (zzp (by repeat (first | (with_reducible first | exact HB.out | apply zza | apply zzb | apply zzc) | exact HB.out)) hb); have n1_ := zzm (hbox); have n2_ := zzm ((by rw [hg]; exact (zzo (by repeat (first | (with_reducible first | exact HB.out | apply zza | apply zzb | apply zzc) | exact HB.out))) : w.heap.size ≤ gb142)); have n3_ := zzm ((by rw [hg]; exact (zzo (by repeat (first | (with_reducible first | exact HB.out | apply zza | apply zzb | apply zzc) | exact HB.out))) : w.heap.size ≤ gb142)); clear HB; have HB := n0_; have BK142 := n1_; have GW142 := n2_; have GE142 := n3_; clear n0_ n1_ n2_ n3_ hb hbox hg; obtain ⟨hcz10_0, hcz10_1, hcz10_2, hcz10_3, hcz10_4, hcz10_5, hfz10_0, hfz10_1, hfz10_2, hfz10_3, hfz10_4, hfz10_5⟩ := zzc6 BK142.out) | ((with_reducible refine gate_callee (f := 85) rfl ?_); refine goesL_ (some 7) rfl rfl Try.func85 (by kernel_rfl) rfl #[.int .i64 a0_0, .int .i64 a0_1] rfl (by (try simp only [List.map_toArray, List.map_cons, List.map_nil]); first | done | rfl | (simp only [List.length_drop, List.length_take]; rfl)) ?_; (with_reducible refine (impl_baseValid.calls a0_0 a0_1 true _ A2.out).mono ?_); rintro e w' ⟨rfl, ⟨nd, rfl⟩⟩; refine ⟨_, rfl, ?_⟩) | (go_at_call 86; (with_reducible refine (impl_partValid.calls k a0_2 _ _ l0_3 false _ ?side1 ?side2 A4.out).mono ?_); (case side1 => repeat (first | exact (Kd.C_below HR0_3.out (by repeat (first | (with_reducible first | exact HB.out | apply zza | apply zzb | apply zzc | refine zzd ?_ GE142.out) | exact HB.out))) | (with_reducible refine Kd.C_alloc ?_ _) | (with_reducible refine Kd.C_drewN ?_ _) | (with_reducible refine Kd.C_drew ?_))); (case side2 => exact HC0_3.out); rintro e w' ⟨rfl, ⟨nd, rfl⟩⟩))
   go_ret
   exact ⟨by first | rfl | (simp [errW_none, errW_some] <;> rfl) | (simp [*, errW_none, errW_some] <;> rfl), by repeat (first | (with_reducible first | exact HB.out | apply zza | apply zzb | apply zzc | refine zzd ?_ GE142.out) | exact HB.out)⟩
 ·
  replace c3 := Bool.eq_false_iff.mpr c3
  subst c3
  have H1 : (some false) = some r := by rw [if_neg (show ¬ (false = true) by decide)] at H; exact H
  clear H
  have H := H1
  clear H1
  obtain rfl := Option.some.inj H
  go_enter Try.func58, Try.ntmps58
  go_wp2_with (first | ((with_reducible refine gate_dst (N := 1) rfl ?_); refine box_event ?hg (N := 1) ?hd (cs := #[.int .i64 a0_0, .int .i64 a0_1, .bool a0_2, .slice A0_3 l0_3.length c0_3, .bool a0_4, .slice A0_5 l0_5.length c0_5]) (t := 34) ?hr ?_; (case hd => rfl); (case hg => rfl); (case hr => first | (go_simp; done) | (go_simp; rfl)); intro gb142 hg w11 hbox hb; have n0_ := zzm (zzp (by repeat (first | (with_reducible first | exact HB.out | apply zza | apply zzb | apply zzc) | exact HB.out)) hb); have n1_ := zzm (hbox); have n2_ := zzm ((by rw [hg]; exact (zzo (by repeat (first | (with_reducible first | exact HB.out | apply zza | apply zzb | apply zzc) | exact HB.out))) : w.heap.size ≤ gb142)); have n3_ := zzm ((by rw [hg]; exact (zzo (by repeat (first | (with_reducible first | exact HB.out | apply zza | apply zzb | apply zzc) | exact HB.out))) : w.heap.size ≤ gb142)); clear HB; have HB := n0_; have BK142 := n1_; have GW142 := n2_; have GE142 := n3_; clear n0_ n1_ n2_ n3_ hb hbox hg; obtain ⟨hcz12_0, hcz12_1, hcz12_2, hcz12_3, hcz12_4, hcz12_5, hfz12_0, hfz12_1, hfz12_2, hfz12_3, hfz12_4, hfz12_5⟩ := zzc6 BK142.out) | ((with_reducible refine gate_callee (f := 85) rfl ?_); refine goesL_ (some 7) rfl rfl Try.func85 (by kernel_rfl) rfl #[.int .i64 a0_0, .int .i64 a0_1] rfl (by (try simp only [List.map_toArray, List.map_cons, List.map_nil]); first | done | rfl | (simp only [List.length_drop, List.length_take]; rfl)) ?_; (with_reducible refine (impl_baseValid.calls a0_0 a0_1 false _ A2.out).mono ?_); rintro e w' ⟨rfl, ⟨nd, rfl⟩⟩; refine ⟨_, rfl, ?_⟩))
  go_ret
  exact ⟨by first | rfl | (simp [errW_none, errW_some] <;> rfl) | (simp [*, errW_none, errW_some] <;> rfl), by repeat (first | (with_reducible first | exact HB.out | apply zza | apply zzb | apply zzc | refine zzd ?_ GE142.out) | exact HB.out)⟩
end Go.Proofs.Yticpnjhkdfdkkaa.T
namespace Go.Proofs.Yticpnjhkdfdkkaa.T
open Go.RowKit Go.Proofs.YticpnjhkdfdkkaaW.PrintWords Go.Proofs.YticpnjhkdfdkkaaW.PrintLast Go.Proofs.YticpnjhkdfdkkaaW.PrintMore

set_option linter.unusedVariables false
set_option linter.unusedSimpArgs false
mutual
def impl_BatchValid.j0 : Nat → Bool → Bool → Int → Int → Int → List (S34) → Option (Bool)
 | 0, _, _, _, _, _, _ => none
 | k + 1, x147000, x147001, x147002, x147003, x147004, x147005 => (impl_within.f (x147005.length : Int) 1 6).bind fun t150 => (if t150 = true then (if x147001 = true then (impl_BatchValid.j1 k ((x147005.length : Int) != 1) x147000 x147001 x147002 x147003 x147004 x147005) else (impl_BatchValid.j1 k false x147000 x147001 x147002 x147003 x147004 x147005)) else (impl_BatchValid.j1 k true x147000 x147001 x147002 x147003 x147004 x147005))
def impl_BatchValid.j1 : Nat → Bool → Bool → Bool → Int → Int → Int → List (S34) → Option (Bool)
 | 0, _, _, _, _, _, _, _ => none
 | k + 1, x50, x147000, x147001, x147002, x147003, x147004, x147005 => if x50 = true then (some false) else (impl_BatchValid.l0 k x147005 (x147005.length : Int) 0 x147000 x147001 x147002 x147003 x147004 x147005)
def impl_BatchValid.l0 : Nat → List (S34) → Int → Int → Bool → Bool → Int → Int → Int → List (S34) → Option (Bool)
 | 0, _, _, _, _, _, _, _, _, _ => none
 | k + 1, x52, x53, x54, x147000, x147001, x147002, x147003, x147004, x147005 => if x54 < x53 then (if 0 ≤ x54 then (if x54 < (x52.length : Int) then ((impl_RecordValid.f k ((rd_T34 x52 x54).f0) ((rd_T34 x52 x54).f1) ((rd_T34 x52 x54).f2) ((rd_T34 x52 x54).f3) ((rd_T34 x52 x54).f4) ((rd_T34 x52 x54).f5)).bind fun t153 => (if t153 = true then (if x54 > 0 then (if 0 ≤ (wrap64 (x54 - 1)) then (if (wrap64 (x54 - 1)) < (x147005.length : Int) then (if ((rd_T34 x147005 (wrap64 (x54 - 1))).f0) ≥ ((rd_T34 x52 x54).f0) then (some false) else (impl_BatchValid.l0 k x52 x53 (wrap64 (x54 + 1)) x147000 x147001 x147002 x147003 x147004 x147005)) else (none)) else (none)) else (impl_BatchValid.l0 k x52 x53 (wrap64 (x54 + 1)) x147000 x147001 x147002 x147003 x147004 x147005)) else (some false))) else (none)) else (none)) else (some true)
end
def impl_BatchValid.f (k : Nat) (a0_0 : Bool) (a0_1 : Bool) (a0_2 : Int) (a0_3 : Int) (a0_4 : Int) (l0_5 : List (S34)) : Option (Bool) := if a0_2 = 255 then (if a0_3 = 0 then (if a0_4 = 0 then (if a0_1 = true then (some false) else (impl_BatchValid.j0 k a0_0 a0_1 a0_2 a0_3 a0_4 l0_5)) else (some false)) else (some false)) else ((impl_idValid.f a0_2).bind fun t147 => (if t147 = true then ((impl_within.f a0_3 0 99).bind fun t148 => (if t148 = true then ((impl_within.f a0_4 0 9999).bind fun t149 => (if t149 = true then (impl_BatchValid.j0 k a0_0 a0_1 a0_2 a0_3 a0_4 l0_5) else (some false))) else (some false))) else (some false)))
def impl_BatchValid.T11 : Bool × List (List Nat × List Nat) := (true, [([], []), ([0], [0]), ([1], [1]), ([2, 1], [2]), ([3], [3]), ([4, 3], [3, 4]), ([5, 3, 3], [3, 5]), ([6], [6]), ([7, 6], [6, 7]), ([6], [6]), ([9, 6], [6, 9]), ([8, 10, 6], [6, 8, 10]), ([11, 6], [6, 11]), ([12, 6], [6, 12]), ([6], [6]), ([14, 6], [6, 14]), ([13, 15, 6], [6, 13, 15]), ([6, 16, 3], [3, 6, 16]), ([3, 17], [3, 17])])
def impl_BatchValid.B11 : List Nat := [0, 1, 3, 7, 15, 31, 63, 127, 255, 127, 639, 2047, 4095, 8191, 127, 16511, 65535, 131071, 262143]
theorem impl_BatchValid.tab11 : rtab .any (opsOf Try.f22 11) = impl_BatchValid.T11 := by kernel_rfl
theorem impl_BatchValid.bits11 : waitsOk impl_BatchValid.T11.2 impl_BatchValid.B11 = true := by kernel_rfl
set_option maxHeartbeats 8000000 in
set_option maxRecDepth 100000 in
theorem impl_BatchValid.calls (k : Nat) (a0_0 : Bool) (a0_1 : Bool) (a0_2 : Int) (a0_3 : Int) (a0_4 : Int) (A0_5 : Option Addr) (c0_5 : Nat) (l0_5 : List (S34)) (r : Bool) (w : World) (hr0_5 : Kd.C k34 w A0_5 l0_5.length l0_5) (hc0_5 : l0_5.length ≤ c0_5) (h : impl_BatchValid.f k a0_0 a0_1 a0_2 a0_3 a0_4 l0_5 = some r) :
  Calls Try.prog 22 #[.agg #[.bool a0_0, .bool a0_1, .int .i64 a0_2, .int .i64 a0_3, .int .i64 a0_4, .slice A0_5 l0_5.length c0_5]] w fun e w' => e = .returned (.bool r) ∧ Below w.heap.size w w' := by
 have hu27 := Try.underlying27
 have hu34 := Try.underlying34
 have HR0_5 := zzm hr0_5
 have HC0_5 := zzm hc0_5
 clear hr0_5 hc0_5
 have HB := zzm (Below.refl w.heap.size w)
 have H : (if a0_2 = 255 then (if a0_3 = 0 then (if a0_4 = 0 then (if a0_1 = true then (some false) else (impl_BatchValid.j0 k a0_0 a0_1 a0_2 a0_3 a0_4 l0_5)) else (some false)) else (some false)) else ((impl_idValid.f a0_2).bind fun t147 => (if t147 = true then ((impl_within.f a0_3 0 99).bind fun t148 => (if t148 = true then ((impl_within.f a0_4 0 9999).bind fun t149 => (if t149 = true then (impl_BatchValid.j0 k a0_0 a0_1 a0_2 a0_3 a0_4 l0_5) else (some false))) else (some false))) else (some false)))) = some r := h
 clear h
 have HC2 := zzm H
 clear H
 go_enter Try.func22, Try.ntmps22
 go_upto_if 7 with (first | ((with_reducible refine gate_dst (N := 1) rfl ?_); (try (refine gate_guard (by rfl) ?_; dsimp only)); refine box_event ?hg (N := 1) ?hd (cs := #[.bool a0_0, .bool a0_1, .int .i64 a0_2, .int .i64 a0_3, .int .i64 a0_4, .slice A0_5 l0_5.length c0_5]) (t := 27) ?hr ?_; (case hd => rfl); (case hg => rfl); (case hr => first | (go_simp; done) | (go_simp; rfl)); intro gb146 hg w3 hbox hb; have n0_ := zzm (zzp (by repeat (first | (with_reducible first | exact HB.out | apply zza | apply zzb | apply zzc) | exact HB.out)) hb); have n1_ := zzm (hbox); have n2_ := zzm ((by rw [hg]; exact (zzo (by repeat (first | (with_reducible first | exact HB.out | apply zza | apply zzb | apply zzc) | exact HB.out))) : w.heap.size ≤ gb146)); have n3_ := zzm ((by rw [hg]; exact (zzo (by repeat (first | (with_reducible first | exact HB.out | apply zza | apply zzb | apply zzc) | exact HB.out))) : w.heap.size ≤ gb146)); clear HB; have HB := n0_; have BK146 := n1_; have GW146 := n2_; have GE146 := n3_; clear n0_ n1_ n2_ n3_ hb hbox hg; obtain ⟨hcz4_0, hcz4_1, hcz4_2, hcz4_3, hcz4_4, hcz4_5, hfz4_0, hfz4_1, hfz4_2, hfz4_3, hfz4_4, hfz4_5⟩ := zzc6 BK146.out))
 (try simp only [Act.put, zzq, zzr, zzs])
 go_cut [] (fun wc => ∃ (kq : Nat), Aside0 (impl_BatchValid.j0 kq a0_0 a0_1 a0_2 a0_3 a0_4 l0_5 = some r) ∧ Aside0 (kq ≤ k) ∧ Aside0 (wc.heap[gb146]? = some (.cells #[.bool a0_0, .bool a0_1, .int .i64 a0_2, .int .i64 a0_3, .int .i64 a0_4, (.slice A0_5 l0_5.length c0_5)] 27 (0, 0))) ∧ Aside0 (Below w.heap.size w wc))
 case first =>
  have H := HC2.out
  clear HC2
  by_cases c5 : a0_2 = 255
  ·
   rw [if_pos c5] at H
   have c5b0 : (a0_2 == 255) = true := beq_iff_eq.mpr c5
   have c5b1 : (a0_2 != 255) = false := bne_eq_false_iff_eq.mpr c5
   clear c5
   (first | rw [c5b0] | (simp only [i64_w, i32_w]; rw [c5b0]) | skip)
   by_cases c6 : a0_3 = 0
   ·
    rw [if_pos c6] at H
    have c6b0 : (a0_3 == 0) = true := beq_iff_eq.mpr c6
    have c6b1 : (a0_3 != 0) = false := bne_eq_false_iff_eq.mpr c6
    clear c6
    by_cases c7 : a0_4 = 0
    ·
     rw [if_pos c7] at H
     have c7b0 : (a0_4 == 0) = true := beq_iff_eq.mpr c7
     have c7b1 : (a0_4 != 0) = false := bne_eq_false_iff_eq.mpr c7
     clear c7
     by_cases c8 : a0_1 = true
     ·
      subst c8
      have H1 : (some false) = some r := by rw [if_pos rfl] at H; exact H
      clear H
      have H := H1
      clear H1
      obtain rfl := Option.some.inj H
      obtain ⟨hcz9_0, hcz9_1, hcz9_2, hcz9_3, hcz9_4, hcz9_5, hfz9_0, hfz9_1, hfz9_2, hfz9_3, hfz9_4, hfz9_5⟩ := zzc6 BK146.out
      go_wp2
      go_ret
      exact ⟨by first | rfl | (simp [errW_none, errW_some] <;> rfl) | (simp [*, errW_none, errW_some] <;> rfl), by repeat (first | (with_reducible first | exact HB.out | apply zza | apply zzb | apply zzc | refine zzd ?_ GE146.out) | exact HB.out)⟩
     ·
      replace c8 := Bool.eq_false_iff.mpr c8
      subst c8
      have H1 : (impl_BatchValid.j0 k a0_0 false a0_2 a0_3 a0_4 l0_5) = some r := by rw [if_neg (show ¬ (false = true) by decide)] at H; exact H
      clear H
      have H := H1
      clear H1
      have H' := zzm H
      clear H
      obtain ⟨hcz10_0, hcz10_1, hcz10_2, hcz10_3, hcz10_4, hcz10_5, hfz10_0, hfz10_1, hfz10_2, hfz10_3, hfz10_4, hfz10_5⟩ := zzc6 BK146.out
      go_wp2
      go_meet
      case rel => exact ⟨_, H', ⟨by first | omega | exact Nat.le_refl _⟩, ⟨by (with_reducible repeat (first | refine zzf ?_ _ | refine zzg ?_ | refine zze ?_ _)); exact BK146.out⟩, ⟨by repeat (first | (with_reducible first | exact HB.out | apply zza | apply zzb | apply zzc | refine zzd ?_ GE146.out) | exact HB.out)⟩⟩
    ·
     rw [if_neg c7] at H
     have c7b0 : (a0_4 == 0) = false := beq_eq_false_iff_ne.mpr c7
     have c7b1 : (a0_4 != 0) = true := bne_iff_ne.mpr c7
     obtain rfl := Option.some.inj H
     obtain ⟨hcz11_0, hcz11_1, hcz11_2, hcz11_3, hcz11_4, hcz11_5, hfz11_0, hfz11_1, hfz11_2, hfz11_3, hfz11_4, hfz11_5⟩ := zzc6 BK146.out
     go_wp2
     go_ret
     exact ⟨by first | rfl | (simp [errW_none, errW_some] <;> rfl) | (simp [*, errW_none, errW_some] <;> rfl), by repeat (first | (with_reducible first | exact HB.out | apply zza | apply zzb | apply zzc | refine zzd ?_ GE146.out) | exact HB.out)⟩
   ·
    rw [if_neg c6] at H
    have c6b0 : (a0_3 == 0) = false := beq_eq_false_iff_ne.mpr c6
    have c6b1 : (a0_3 != 0) = true := bne_iff_ne.mpr c6
    obtain rfl := Option.some.inj H
    obtain ⟨hcz12_0, hcz12_1, hcz12_2, hcz12_3, hcz12_4, hcz12_5, hfz12_0, hfz12_1, hfz12_2, hfz12_3, hfz12_4, hfz12_5⟩ := zzc6 BK146.out
    go_wp2
    go_ret
    exact ⟨by first | rfl | (simp [errW_none, errW_some] <;> rfl) | (simp [*, errW_none, errW_some] <;> rfl), by repeat (first | (with_reducible first | exact HB.out | apply zza | apply zzb | apply zzc | refine zzd ?_ GE146.out) | exact HB.out)⟩
  ·
   rw [if_neg c5] at H
   have c5b0 : (a0_2 == 255) = false := beq_eq_false_iff_ne.mpr c5
   have c5b1 : (a0_2 != 255) = true := bne_iff_ne.mpr c5
   (first | rw [c5b0] | (simp only [i64_w, i32_w]; rw [c5b0]) | skip)
   replace H := Option.bind_eq_some_iff.mp H
   obtain ⟨t147, A130, H⟩ := H
   replace H : (if t147 = true then ((impl_within.f a0_3 0 99).bind fun t148 => (if t148 = true then ((impl_within.f a0_4 0 9999).bind fun t149 => (if t149 = true then (impl_BatchValid.j0 k a0_0 a0_1 a0_2 a0_3 a0_4 l0_5) else (some false))) else (some false))) else (some false)) = some r := H
   have A13 := zzm A130
   clear A130
   by_cases c14 : t147 = true
   ·
    subst c14
    have H1 : ((impl_within.f a0_3 0 99).bind fun t148 => (if t148 = true then ((impl_within.f a0_4 0 9999).bind fun t149 => (if t149 = true then (impl_BatchValid.j0 k a0_0 a0_1 a0_2 a0_3 a0_4 l0_5) else (some false))) else (some false))) = some r := by rw [if_pos rfl] at H; exact H
    clear H
    have H := H1
    clear H1
    replace H := Option.bind_eq_some_iff.mp H
    obtain ⟨t148, A150, H⟩ := H
    replace H : (if t148 = true then ((impl_within.f a0_4 0 9999).bind fun t149 => (if t149 = true then (impl_BatchValid.j0 k a0_0 a0_1 a0_2 a0_3 a0_4 l0_5) else (some false))) else (some false)) = some r := H
    have A15 := zzm A150
    clear A150
    by_cases c16 : t148 = true
    ·
     subst c16
     have H1 : ((impl_within.f a0_4 0 9999).bind fun t149 => (if t149 = true then (impl_BatchValid.j0 k a0_0 a0_1 a0_2 a0_3 a0_4 l0_5) else (some false))) = some r := by rw [if_pos rfl] at H; exact H
     clear H
     have H := H1
     clear H1
     replace H := Option.bind_eq_some_iff.mp H
     obtain ⟨t149, A170, H⟩ := H
     replace H : (if t149 = true then (impl_BatchValid.j0 k a0_0 a0_1 a0_2 a0_3 a0_4 l0_5) else (some false)) = some r := H
     have A17 := zzm A170
     clear A170
     by_cases c18 : t149 = true
     ·
      subst c18
      have H1 : (impl_BatchValid.j0 k a0_0 a0_1 a0_2 a0_3 a0_4 l0_5) = some r := by rw [if_pos rfl] at H; exact H
      clear H
      have H := H1
      clear H1
      have H' := zzm H
      clear H
      obtain ⟨hcz19_0, hcz19_1, hcz19_2, hcz19_3, hcz19_4, hcz19_5, hfz19_0, hfz19_1, hfz19_2, hfz19_3, hfz19_4, hfz19_5⟩ := zzc6 BK146.out
      go_wp2_with (first | ((with_reducible refine gate_callee (f := 56) rfl ?_); refine goesL_ (some 22) rfl rfl Try.func56 (by kernel_rfl) rfl #[.int .i64 a0_2] rfl (by (try simp only [List.map_toArray, List.map_cons, List.map_nil]); first | done | rfl | (simp only [List.length_drop, List.length_take]; rfl)) ?_; (with_reducible refine (impl_idValid.calls a0_2 true _ A13.out).mono ?_); rintro e w' ⟨rfl, ⟨nd, rfl⟩⟩; refine ⟨_, rfl, ?_⟩) | (go_at_call 57; (with_reducible refine (impl_within.calls a0_3 0 99 true _ A15.out).mono ?_); rintro e w' ⟨rfl, ⟨nd, rfl⟩⟩) | (go_at_call 57; (with_reducible refine (impl_within.calls a0_4 0 9999 true _ A17.out).mono ?_); rintro e w' ⟨rfl, ⟨nd, rfl⟩⟩))
      go_meet
      case rel => exact ⟨_, H', ⟨by first | omega | exact Nat.le_refl _⟩, ⟨by (with_reducible repeat (first | refine zzf ?_ _ | refine zzg ?_ | refine zze ?_ _)); exact BK146.out⟩, ⟨by repeat (first | (with_reducible first | exact HB.out | apply zza | apply zzb | apply zzc | refine zzd ?_ GE146.out) | exact HB.out)⟩⟩
     ·
      replace c18 := Bool.eq_false_iff.mpr c18
      subst c18
      have H1 : (some false) = some r := by rw [if_neg (show ¬ (false = true) by decide)] at H; exact H
      clear H
      have H := H1
      clear H1
      obtain rfl := Option.some.inj H
      obtain ⟨hcz20_0, hcz20_1, hcz20_2, hcz20_3, hcz20_4, hcz20_5, hfz20_0, hfz20_1, hfz20_2, hfz20_3, hfz20_4, hfz20_5⟩ := zzc6 BK146.out
      go_wp2_with (first | ((with_reducible refine gate_callee (f := 56) rfl ?_); refine goesL_ (some 22) rfl rfl Try.func56 (by kernel_rfl) rfl #[.int .i64 a0_2] rfl (by (try simp only [List.map_toArray, List.map_cons, List.map_nil]); first | done | rfl | (simp only [List.length_drop, List.length_take]; rfl)) ?_; (with_reducible refine (impl_idValid.calls a0_2 true _ A13.out).mono ?_); rintro e w' ⟨rfl, ⟨nd, rfl⟩⟩; refine ⟨_, rfl, ?_⟩) | (go_at_call 57; (with_reducible refine (impl_within.calls a0_3 0 99 true _ A15.out).mono ?_); rintro e w' ⟨rfl, ⟨nd, rfl⟩⟩) | (go_at_call 57; (with_reducible refine (impl_within.calls a0_4 0 9999 false _ A17.out).mono ?_); rintro e w' ⟨rfl, ⟨nd, rfl⟩⟩))
      go_ret
      exact ⟨by first | rfl | (simp [errW_none, errW_some] <;> rfl) | (simp [*, errW_none, errW_some] <;> rfl), by repeat (first | (with_reducible first | exact HB.out | apply zza | apply zzb | apply zzc | refine zzd ?_ GE146.out) | exact HB.out)⟩
    ·
     replace c16 := Bool.eq_false_iff.mpr c16
     subst c16
     have H1 : (some false) = some r := by rw [if_neg (show ¬ (false = true) by decide)] at H; exact H
     clear H
     have H := H1
     clear H1
     obtain rfl := Option.some.inj H
     obtain ⟨hcz21_0, hcz21_1, hcz21_2, hcz21_3, hcz21_4, hcz21_5, hfz21_0, hfz21_1, hfz21_2, hfz21_3, hfz21_4, hfz21_5⟩ := zzc6 BK146.out
     go_wp2_with (first | ((with_reducible refine gate_callee (f := 56) rfl ?_); refine goesL_ (some 22) rfl rfl Try.func56 (by kernel_rfl) rfl #[.int .i64 a0_2] rfl (by (try simp only [List.map_toArray, List.map_cons, List.map_nil]); first | done | rfl | (simp only [List.length_drop, List.length_take]; rfl)) ?_; (with_reducible refine (impl_idValid.calls a0_2 true _ A13.out).mono ?_); rintro e w' ⟨rfl, ⟨nd, rfl⟩⟩; refine ⟨_, rfl, ?_⟩) | (go_at_call 57; (with_reducible refine (impl_within.calls a0_3 0 99 false _ A15.out).mono ?_); rintro e w' ⟨rfl, ⟨nd, rfl⟩⟩))
     go_ret
     exact ⟨by first | rfl | (simp [errW_none, errW_some] <;> rfl) | (simp [*, errW_none, errW_some] <;> rfl), by repeat (first | (with_reducible first | exact HB.out | apply zza | apply zzb | apply zzc | refine zzd ?_ GE146.out) | exact HB.out)⟩
   ·
    replace c14 := Bool.eq_false_iff.mpr c14
    subst c14
    have H1 : (some false) = some r := by rw [if_neg (show ¬ (false = true) by decide)] at H; exact H
    clear H
    have H := H1
    clear H1
    obtain rfl := Option.some.inj H
    obtain ⟨hcz22_0, hcz22_1, hcz22_2, hcz22_3, hcz22_4, hcz22_5, hfz22_0, hfz22_1, hfz22_2, hfz22_3, hfz22_4, hfz22_5⟩ := zzc6 BK146.out
    go_wp2_with (first | ((with_reducible refine gate_callee (f := 56) rfl ?_); refine goesL_ (some 22) rfl rfl Try.func56 (by kernel_rfl) rfl #[.int .i64 a0_2] rfl (by (try simp only [List.map_toArray, List.map_cons, List.map_nil]); first | done | rfl | (simp only [List.length_drop, List.length_take]; rfl)) ?_; (with_reducible refine (impl_idValid.calls a0_2 false _ A13.out).mono ?_); rintro e w' ⟨rfl, ⟨nd, rfl⟩⟩; refine ⟨_, rfl, ?_⟩))
    go_ret
    exact ⟨by first | rfl | (simp [errW_none, errW_some] <;> rfl) | (simp [*, errW_none, errW_some] <;> rfl), by repeat (first | (with_reducible first | exact HB.out | apply zza | apply zzb | apply zzc | refine zzd ?_ GE146.out) | exact HB.out)⟩
 case rest =>
  clear HC2
  try clear c1
  try clear c2
  try clear p2
  try clear c5
  try clear c5b0
  try clear c5b1
  try clear c6
  try clear c6b0
  try clear c6b1
  try clear c7
  try clear c7b0
  try clear c7b1
  try clear c8
  try clear c14
  try clear c16
  try clear c18
  try clear c22
  try clear hcz10_0
  try clear hcz10_1
  try clear hcz10_2
  try clear hcz10_3
  try clear hcz10_4
  try clear hcz10_5
  try clear hcz11_0
  try clear hcz11_1
  try clear hcz11_2
  try clear hcz11_3
  try clear hcz11_4
  try clear hcz11_5
  try clear hcz12_0
  try clear hcz12_1
  try clear hcz12_2
  try clear hcz12_3
  try clear hcz12_4
  try clear hcz12_5
  try clear hcz19_0
  try clear hcz19_1
  try clear hcz19_2
  try clear hcz19_3
  try clear hcz19_4
  try clear hcz19_5
  try clear hcz20_0
  try clear hcz20_1
  try clear hcz20_2
  try clear hcz20_3
  try clear hcz20_4
  try clear hcz20_5
  try clear hcz21_0
  try clear hcz21_1
  try clear hcz21_2
  try clear hcz21_3
  try clear hcz21_4
  try clear hcz21_5
  try clear hcz22_0
  try clear hcz22_1
  try clear hcz22_2
  try clear hcz22_3
  try clear hcz22_4
  try clear hcz22_5
  try clear hcz4_0
  try clear hcz4_1
  try clear hcz4_2
  try clear hcz4_3
  try clear hcz4_4
  try clear hcz4_5
  try clear hcz9_0
  try clear hcz9_1
  try clear hcz9_2
  try clear hcz9_3
  try clear hcz9_4
  try clear hcz9_5
  try clear hfz10_0
  try clear hfz10_1
  try clear hfz10_2
  try clear hfz10_3
  try clear hfz10_4
  try clear hfz10_5
  try clear hfz11_0
  try clear hfz11_1
  try clear hfz11_2
  try clear hfz11_3
  try clear hfz11_4
  try clear hfz11_5
  try clear hfz12_0
  try clear hfz12_1
  try clear hfz12_2
  try clear hfz12_3
  try clear hfz12_4
  try clear hfz12_5
  try clear hfz19_0
  try clear hfz19_1
  try clear hfz19_2
  try clear hfz19_3
  try clear hfz19_4
  try clear hfz19_5
  try clear hfz20_0
  try clear hfz20_1
  try clear hfz20_2
  try clear hfz20_3
  try clear hfz20_4
  try clear hfz20_5
  try clear hfz21_0
  try clear hfz21_1
  try clear hfz21_2
  try clear hfz21_3
  try clear hfz21_4
  try clear hfz21_5
  try clear hfz22_0
  try clear hfz22_1
  try clear hfz22_2
  try clear hfz22_3
  try clear hfz22_4
  try clear hfz22_5
  try clear hfz4_0
  try clear hfz4_1
  try clear hfz4_2
  try clear hfz4_3
  try clear hfz4_4
  try clear hfz4_5
  try clear hfz9_0
  try clear hfz9_1
  try clear hfz9_2
  try clear hfz9_3
  try clear hfz9_4
  try clear hfz9_5
  obtain ⟨kq, HA, HJ1, BK146, HB⟩ := hcut
  cases kq with
  | zero => exact absurd HA.out (by simp [impl_BatchValid.j0])
  | succ kj1 =>
   have H := HA.out
   clear HA
   simp only [impl_BatchValid.j0] at H
   have HC23 := zzm H
   clear H
   go_upto_region 6 with (fail)
   go_cut [50] (fun v50 wc => ∃ (kq : Nat) (x50_22 : Bool), v50 = .bool x50_22 ∧ Aside0 (impl_BatchValid.j1 kq x50_22 a0_0 a0_1 a0_2 a0_3 a0_4 l0_5 = some r) ∧ Aside0 (kq ≤ kj1) ∧ Aside0 (wc.heap[gb146]? = some (.cells #[.bool a0_0, .bool a0_1, .int .i64 a0_2, .int .i64 a0_3, .int .i64 a0_4, (.slice A0_5 l0_5.length c0_5)] 27 (0, 0))) ∧ Aside0 (Below w.heap.size w wc))
   case first =>
    have H := HC23.out
    clear HC23
    replace H := Option.bind_eq_some_iff.mp H
    obtain ⟨t150, A240, H⟩ := H
    replace H : (if t150 = true then (if a0_1 = true then (impl_BatchValid.j1 kj1 ((l0_5.length : Int) != 1) a0_0 a0_1 a0_2 a0_3 a0_4 l0_5) else (impl_BatchValid.j1 kj1 false a0_0 a0_1 a0_2 a0_3 a0_4 l0_5)) else (impl_BatchValid.j1 kj1 true a0_0 a0_1 a0_2 a0_3 a0_4 l0_5)) = some r := H
    have A24 := zzm A240
    clear A240
    by_cases c25 : t150 = true
    ·
     subst c25
     have H1 : (if a0_1 = true then (impl_BatchValid.j1 kj1 ((l0_5.length : Int) != 1) a0_0 a0_1 a0_2 a0_3 a0_4 l0_5) else (impl_BatchValid.j1 kj1 false a0_0 a0_1 a0_2 a0_3 a0_4 l0_5)) = some r := by rw [if_pos rfl] at H; exact H
     clear H
     have H := H1
     clear H1
     by_cases c26 : a0_1 = true
     ·
      subst c26
      have H1 : (impl_BatchValid.j1 kj1 ((l0_5.length : Int) != 1) a0_0 true a0_2 a0_3 a0_4 l0_5) = some r := by rw [if_pos rfl] at H; exact H
      clear H
      have H := H1
      clear H1
      have H' := zzm H
      clear H
      obtain ⟨hcz27_0, hcz27_1, hcz27_2, hcz27_3, hcz27_4, hcz27_5, hfz27_0, hfz27_1, hfz27_2, hfz27_3, hfz27_4, hfz27_5⟩ := zzc6 BK146.out
      go_wp2_with (first | ((with_reducible refine gate_callee (f := 57) rfl ?_); refine goesL_ (some 39) rfl rfl Try.func57 (by kernel_rfl) rfl #[.int .i64 (l0_5.length : Int), .int .i64 1, .int .i64 6] rfl (by (try simp only [List.map_toArray, List.map_cons, List.map_nil]); first | done | rfl | (simp only [List.length_drop, List.length_take]; rfl)) ?_; (with_reducible refine (impl_within.calls (l0_5.length : Int) 1 6 true _ A24.out).mono ?_); rintro e w' ⟨rfl, ⟨nd, rfl⟩⟩; refine ⟨_, rfl, ?_⟩))
      go_meet
      case rel => exact ⟨_, (((l0_5.length : Int) != 1)), (by first | rfl | (simp; done) | (simp [*]; done)), H', ⟨by have := HJ1.out; first | omega | exact Nat.le_refl _⟩, ⟨by (with_reducible repeat (first | refine zzf ?_ _ | refine zzg ?_ | refine zze ?_ _)); exact BK146.out⟩, ⟨by repeat (first | (with_reducible first | exact HB.out | apply zza | apply zzb | apply zzc | refine zzd ?_ GE146.out) | exact HB.out)⟩⟩
     ·
      replace c26 := Bool.eq_false_iff.mpr c26
      subst c26
      have H1 : (impl_BatchValid.j1 kj1 false a0_0 false a0_2 a0_3 a0_4 l0_5) = some r := by rw [if_neg (show ¬ (false = true) by decide)] at H; exact H
      clear H
      have H := H1
      clear H1
      have H' := zzm H
      clear H
      obtain ⟨hcz28_0, hcz28_1, hcz28_2, hcz28_3, hcz28_4, hcz28_5, hfz28_0, hfz28_1, hfz28_2, hfz28_3, hfz28_4, hfz28_5⟩ := zzc6 BK146.out
      go_wp2_with (first | ((with_reducible refine gate_callee (f := 57) rfl ?_); refine goesL_ (some 39) rfl rfl Try.func57 (by kernel_rfl) rfl #[.int .i64 (l0_5.length : Int), .int .i64 1, .int .i64 6] rfl (by (try simp only [List.map_toArray, List.map_cons, List.map_nil]); first | done | rfl | (simp only [List.length_drop, List.length_take]; rfl)) ?_; (with_reducible refine (impl_within.calls (l0_5.length : Int) 1 6 true _ A24.out).mono ?_); rintro e w' ⟨rfl, ⟨nd, rfl⟩⟩; refine ⟨_, rfl, ?_⟩))
      go_meet
      case rel => exact ⟨_, (false), (by first | rfl | (simp; done) | (simp [*]; done)), H', ⟨by have := HJ1.out; first | omega | exact Nat.le_refl _⟩, ⟨by (with_reducible repeat (first | refine zzf ?_ _ | refine zzg ?_ | refine zze ?_ _)); exact BK146.out⟩, ⟨by repeat (first | (with_reducible first | exact HB.out | apply zza | apply zzb | apply zzc | refine zzd ?_ GE146.out) | exact HB.out)⟩⟩
    ·
     replace c25 := Bool.eq_false_iff.mpr c25
     subst c25
     have H1 : (impl_BatchValid.j1 kj1 true a0_0 a0_1 a0_2 a0_3 a0_4 l0_5) = some r := by rw [if_neg (show ¬ (false = true) by decide)] at H; exact H
     clear H
     have H := H1
     clear H1
     have H' := zzm H
     clear H
     obtain ⟨hcz29_0, hcz29_1, hcz29_2, hcz29_3, hcz29_4, hcz29_5, hfz29_0, hfz29_1, hfz29_2, hfz29_3, hfz29_4, hfz29_5⟩ := zzc6 BK146.out
     go_wp2_with (first | ((with_reducible refine gate_callee (f := 57) rfl ?_); refine goesL_ (some 39) rfl rfl Try.func57 (by kernel_rfl) rfl #[.int .i64 (l0_5.length : Int), .int .i64 1, .int .i64 6] rfl (by (try simp only [List.map_toArray, List.map_cons, List.map_nil]); first | done | rfl | (simp only [List.length_drop, List.length_take]; rfl)) ?_; (with_reducible refine (impl_within.calls (l0_5.length : Int) 1 6 false _ A24.out).mono ?_); rintro e w' ⟨rfl, ⟨nd, rfl⟩⟩; refine ⟨_, rfl, ?_⟩))
     go_meet
     case rel => exact ⟨_, (true), (by first | rfl | (simp; done) | (simp [*]; done)), H', ⟨by have := HJ1.out; first | omega | exact Nat.le_refl _⟩, ⟨by (with_reducible repeat (first | refine zzf ?_ _ | refine zzg ?_ | refine zze ?_ _)); exact BK146.out⟩, ⟨by repeat (first | (with_reducible first | exact HB.out | apply zza | apply zzb | apply zzc | refine zzd ?_ GE146.out) | exact HB.out)⟩⟩
   case rest =>
    clear HC23
    try clear c1
    try clear c2
    try clear p2
    try clear c5
    try clear c5b0
    try clear c5b1
    try clear c6
    try clear c6b0
    try clear c6b1
    try clear c7
    try clear c7b0
    try clear c7b1
    try clear c8
    try clear c14
    try clear c16
    try clear c18
    try clear c22
    try clear c25
    try clear c26
    try clear hcz10_0
    try clear hcz10_1
    try clear hcz10_2
    try clear hcz10_3
    try clear hcz10_4
    try clear hcz10_5
    try clear hcz11_0
    try clear hcz11_1
    try clear hcz11_2
    try clear hcz11_3
    try clear hcz11_4
    try clear hcz11_5
    try clear hcz12_0
    try clear hcz12_1
    try clear hcz12_2
    try clear hcz12_3
    try clear hcz12_4
    try clear hcz12_5
    try clear hcz19_0
    try clear hcz19_1
    try clear hcz19_2
    try clear hcz19_3
    try clear hcz19_4
    try clear hcz19_5
    try clear hcz20_0
    try clear hcz20_1
    try clear hcz20_2
    try clear hcz20_3
    try clear hcz20_4
    try clear hcz20_5
    try clear hcz21_0
    try clear hcz21_1
    try clear hcz21_2
    try clear hcz21_3
    try clear hcz21_4
    try clear hcz21_5
    try clear hcz22_0
    try clear hcz22_1
    try clear hcz22_2
    try clear hcz22_3
    try clear hcz22_4
    try clear hcz22_5
    try clear hcz27_0
    try clear hcz27_1
    try clear hcz27_2
    try clear hcz27_3
    try clear hcz27_4
    try clear hcz27_5
    try clear hcz28_0
    try clear hcz28_1
    try clear hcz28_2
    try clear hcz28_3
    try clear hcz28_4
    try clear hcz28_5
    try clear hcz29_0
    try clear hcz29_1
    try clear hcz29_2
    try clear hcz29_3
    try clear hcz29_4
    try clear hcz29_5
    try clear hcz4_0
    try clear hcz4_1
    try clear hcz4_2
    try clear hcz4_3
    try clear hcz4_4
    try clear hcz4_5
    try clear hcz9_0
    try clear hcz9_1
    try clear hcz9_2
    try clear hcz9_3
    try clear hcz9_4
    try clear hcz9_5
    try clear hfz10_0
    try clear hfz10_1
    try clear hfz10_2
    try clear hfz10_3
    try clear hfz10_4
    try clear hfz10_5
    try clear hfz11_0
    try clear hfz11_1
    try clear hfz11_2
    try clear hfz11_3
    try clear hfz11_4
    try clear hfz11_5
    try clear hfz12_0
    try clear hfz12_1
    try clear hfz12_2
    try clear hfz12_3
    try clear hfz12_4
    try clear hfz12_5
    try clear hfz19_0
    try clear hfz19_1
    try clear hfz19_2
    try clear hfz19_3
    try clear hfz19_4
    try clear hfz19_5
    try clear hfz20_0
    try clear hfz20_1
    try clear hfz20_2
    try clear hfz20_3
    try clear hfz20_4
    try clear hfz20_5
    try clear hfz21_0
    try clear hfz21_1
    try clear hfz21_2
    try clear hfz21_3
    try clear hfz21_4
    try clear hfz21_5
    try clear hfz22_0
    try clear hfz22_1
    try clear hfz22_2
    try clear hfz22_3
    try clear hfz22_4
    try clear hfz22_5
    try clear hfz27_0
    try clear hfz27_1
    try clear hfz27_2
    try clear hfz27_3
    try clear hfz27_4
    try clear hfz27_5
    try clear hfz28_0
    try clear hfz28_1
    try clear hfz28_2
    try clear hfz28_3
    try clear hfz28_4
    try clear hfz28_5
    try clear hfz29_0
    try clear hfz29_1
    try clear hfz29_2
    try clear hfz29_3
    try clear hfz29_4
    try clear hfz29_5
    try clear hfz4_0
    try clear hfz4_1
    try clear hfz4_2
    try clear hfz4_3
    try clear hfz4_4
    try clear hfz4_5
    try clear hfz9_0
    try clear hfz9_1
    try clear hfz9_2
    try clear hfz9_3
    try clear hfz9_4
    try clear hfz9_5
    try clear p2
    obtain ⟨kq, x50_22, rfl, HA, HJ22, BK146, HB⟩ := hcut
    cases kq with
    | zero => exact absurd HA.out (by simp [impl_BatchValid.j1])
    | succ kj22 =>
     have H := HA.out
     clear HA
     simp only [impl_BatchValid.j1] at H
     by_cases c30 : x50_22 = true
     ·
      subst c30
      have H1 : (some false) = some r := by rw [if_pos rfl] at H; exact H
      clear H
      have H := H1
      clear H1
      obtain rfl := Option.some.inj H
      go_wp2
      go_ret
      exact ⟨by first | rfl | (simp [errW_none, errW_some] <;> rfl) | (simp [*, errW_none, errW_some] <;> rfl), by repeat (first | (with_reducible first | exact HB.out | apply zza | apply zzb | apply zzc | refine zzd ?_ GE146.out) | exact HB.out)⟩
     ·
      replace c30 := Bool.eq_false_iff.mpr c30
      subst c30
      have H1 : (impl_BatchValid.l0 kj22 l0_5 (l0_5.length : Int) 0 a0_0 a0_1 a0_2 a0_3 a0_4 l0_5) = some r := by rw [if_neg (show ¬ (false = true) by decide)] at H; exact H
      clear H
      have H := H1
      clear H1
      have H' := zzm H
      clear H
      obtain ⟨hcz31_0, hcz31_1, hcz31_2, hcz31_3, hcz31_4, hcz31_5, hfz31_0, hfz31_1, hfz31_2, hfz31_3, hfz31_4, hfz31_5⟩ := zzc6 BK146.out
      go_wp2
      go_loopg [54] kj22 (fun kq v54 w' => ∃ (x54_3 : Int), v54 = .int .i64 x54_3 ∧ Aside0 (impl_BatchValid.l0 kq l0_5 (l0_5.length : Int) x54_3 a0_0 a0_1 a0_2 a0_3 a0_4 l0_5 = some r) ∧ Aside0 (kq ≤ kj22) ∧ Aside0 (w'.heap[gb146]? = some (.cells #[.bool a0_0, .bool a0_1, .int .i64 a0_2, .int .i64 a0_3, .int .i64 a0_4, (.slice A0_5 l0_5.length c0_5)] 27 (0, 0))) ∧ Aside0 (Below w.heap.size w w'))
      case atStart => exact ⟨(0), (by first | rfl | (simp; done) | (simp [*]; done)), H', ⟨Nat.le_refl _⟩, ⟨by (with_reducible repeat (first | refine zzf ?_ _ | refine zzg ?_ | refine zze ?_ _)); exact BK146.out⟩, ⟨by repeat (first | (with_reducible first | exact HB.out | apply zza | apply zzb | apply zzc | refine zzd ?_ GE146.out) | exact HB.out)⟩⟩
      case round =>
       clear H'
       try clear c1
       try clear c2
       try clear p2
       try clear c3
       try clear c5
       try clear c5b0
       try clear c5b1
       try clear c6
       try clear c6b0
       try clear c6b1
       try clear c7
       try clear c7b0
       try clear c7b1
       try clear c8
       try clear c14
       try clear c16
       try clear c18
       try clear c22
       try clear c25
       try clear c26
       try clear c30
       try clear hcz10_0
       try clear hcz10_1
       try clear hcz10_2
       try clear hcz10_3
       try clear hcz10_4
       try clear hcz10_5
       try clear hcz11_0
       try clear hcz11_1
       try clear hcz11_2
       try clear hcz11_3
       try clear hcz11_4
       try clear hcz11_5
       try clear hcz12_0
       try clear hcz12_1
       try clear hcz12_2
       try clear hcz12_3
       try clear hcz12_4
       try clear hcz12_5
       try clear hcz19_0
       try clear hcz19_1
       try clear hcz19_2
       try clear hcz19_3
       try clear hcz19_4
       try clear hcz19_5
       try clear hcz20_0
       try clear hcz20_1
       try clear hcz20_2
       try clear hcz20_3
       try clear hcz20_4
       try clear hcz20_5
       try clear hcz21_0
       try clear hcz21_1
       try clear hcz21_2
       try clear hcz21_3
       try clear hcz21_4
       try clear hcz21_5
       try clear hcz22_0
       try clear hcz22_1
       try clear hcz22_2
       try clear hcz22_3
       try clear hcz22_4
       try clear hcz22_5
       try clear hcz27_0
       try clear hcz27_1
       try clear hcz27_2
       try clear hcz27_3
       try clear hcz27_4
       try clear hcz27_5
       try clear hcz28_0
       try clear hcz28_1
       try clear hcz28_2
       try clear hcz28_3
       try clear hcz28_4
       try clear hcz28_5
       try clear hcz29_0
       try clear hcz29_1
       try clear hcz29_2
       try clear hcz29_3
       try clear hcz29_4
       try clear hcz29_5
       try clear hcz31_0
       try clear hcz31_1
       try clear hcz31_2
       try clear hcz31_3
       try clear hcz31_4
       try clear hcz31_5
       try clear hcz4_0
       try clear hcz4_1
       try clear hcz4_2
       try clear hcz4_3
       try clear hcz4_4
       try clear hcz4_5
       try clear hcz9_0
       try clear hcz9_1
       try clear hcz9_2
       try clear hcz9_3
       try clear hcz9_4
       try clear hcz9_5
       try clear hfz10_0
       try clear hfz10_1
       try clear hfz10_2
       try clear hfz10_3
       try clear hfz10_4
       try clear hfz10_5
       try clear hfz11_0
       try clear hfz11_1
       try clear hfz11_2
       try clear hfz11_3
       try clear hfz11_4
       try clear hfz11_5
       try clear hfz12_0
       try clear hfz12_1
       try clear hfz12_2
       try clear hfz12_3
       try clear hfz12_4
       try clear hfz12_5
       try clear hfz19_0
       try clear hfz19_1
       try clear hfz19_2
       try clear hfz19_3
       try clear hfz19_4
       try clear hfz19_5
       try clear hfz20_0
       try clear hfz20_1
       try clear hfz20_2
       try clear hfz20_3
       try clear hfz20_4
       try clear hfz20_5
       try clear hfz21_0
       try clear hfz21_1
       try clear hfz21_2
       try clear hfz21_3
       try clear hfz21_4
       try clear hfz21_5
       try clear hfz22_0
       try clear hfz22_1
       try clear hfz22_2
       try clear hfz22_3
       try clear hfz22_4
       try clear hfz22_5
       try clear hfz27_0
       try clear hfz27_1
       try clear hfz27_2
       try clear hfz27_3
       try clear hfz27_4
       try clear hfz27_5
       try clear hfz28_0
       try clear hfz28_1
       try clear hfz28_2
       try clear hfz28_3
       try clear hfz28_4
       try clear hfz28_5
       try clear hfz29_0
       try clear hfz29_1
       try clear hfz29_2
       try clear hfz29_3
       try clear hfz29_4
       try clear hfz29_5
       try clear hfz31_0
       try clear hfz31_1
       try clear hfz31_2
       try clear hfz31_3
       try clear hfz31_4
       try clear hfz31_5
       try clear hfz4_0
       try clear hfz4_1
       try clear hfz4_2
       try clear hfz4_3
       try clear hfz4_4
       try clear hfz4_5
       try clear hfz9_0
       try clear hfz9_1
       try clear hfz9_2
       try clear hfz9_3
       try clear hfz9_4
       try clear hfz9_5
       try clear p2
       obtain ⟨x54_3, rfl, HA, HK3, BK146, HB⟩ := hrel
       cases gk with
       | zero => exact absurd HA.out (by simp [impl_BatchValid.l0])
       | succ k3 =>
        have H := HA.out
        clear HA
        simp only [impl_BatchValid.l0] at H
        by_cases c32 : x54_3 < (l0_5.length : Int)
        ·
         rw [if_pos c32] at H
         have c32b0 : decide (x54_3 < (l0_5.length : Int)) = true := decide_eq_true c32
         clear c32
         by_cases c33 : 0 ≤ x54_3
         ·
          rw [if_pos c33] at H
          have c33b0 : decide (0 ≤ x54_3) = true := decide_eq_true c33
          clear c33
          by_cases c34 : x54_3 < (l0_5.length : Int)
          ·
           rw [if_pos c34] at H
           have c34b0 : decide (x54_3 < (l0_5.length : Int)) = true := decide_eq_true c34
           clear c34
           replace H := Option.bind_eq_some_iff.mp H
           obtain ⟨t153, A350, H⟩ := H
           replace H : (if t153 = true then (if x54_3 > 0 then (if 0 ≤ (wrap64 (x54_3 - 1)) then (if (wrap64 (x54_3 - 1)) < (l0_5.length : Int) then (if ((rd_T34 l0_5 (wrap64 (x54_3 - 1))).f0) ≥ ((rd_T34 l0_5 x54_3).f0) then (some false) else (impl_BatchValid.l0 k3 l0_5 (l0_5.length : Int) (wrap64 (x54_3 + 1)) a0_0 a0_1 a0_2 a0_3 a0_4 l0_5)) else (none)) else (none)) else (impl_BatchValid.l0 k3 l0_5 (l0_5.length : Int) (wrap64 (x54_3 + 1)) a0_0 a0_1 a0_2 a0_3 a0_4 l0_5)) else (some false)) = some r := H
           have A35 := zzm A350
           clear A350
           by_cases c36 : t153 = true
           ·
            subst c36
            have H1 : (if x54_3 > 0 then (if 0 ≤ (wrap64 (x54_3 - 1)) then (if (wrap64 (x54_3 - 1)) < (l0_5.length : Int) then (if ((rd_T34 l0_5 (wrap64 (x54_3 - 1))).f0) ≥ ((rd_T34 l0_5 x54_3).f0) then (some false) else (impl_BatchValid.l0 k3 l0_5 (l0_5.length : Int) (wrap64 (x54_3 + 1)) a0_0 a0_1 a0_2 a0_3 a0_4 l0_5)) else (none)) else (none)) else (impl_BatchValid.l0 k3 l0_5 (l0_5.length : Int) (wrap64 (x54_3 + 1)) a0_0 a0_1 a0_2 a0_3 a0_4 l0_5)) = some r := by rw [if_pos rfl] at H; exact H
            clear H
            have H := H1
            clear H1
            by_cases c37 : x54_3 > 0
            ·
             rw [if_pos c37] at H
             have c37b0 : decide (0 < x54_3) = true := decide_eq_true c37
             clear c37
             obtain ⟨ji38, hji38⟩ : ∃ j_ : Int, (wrap64 (x54_3 - 1)) = j_ := ⟨_, rfl⟩
             replace H : (if 0 ≤ (ji38) then (if (ji38) < (l0_5.length : Int) then (if ((rd_T34 l0_5 (ji38)).f0) ≥ ((rd_T34 l0_5 x54_3).f0) then (some false) else (impl_BatchValid.l0 k3 l0_5 (l0_5.length : Int) (wrap64 (x54_3 + 1)) a0_0 a0_1 a0_2 a0_3 a0_4 l0_5)) else (none)) else (none)) = some r := by first | (rw [hji38] at H; exact H) | (simp only [hji38] at H ⊢; exact H)
             (try rw [hji38] at A35)
             have hji38w : (IntKind.i64.wrap (x54_3 - 1)) = ji38 := (i64_w _).trans hji38
             by_cases c39 : 0 ≤ (ji38)
             ·
              rw [if_pos c39] at H
              have c39b0 : decide (0 ≤ (ji38)) = true := decide_eq_true c39
              clear c39
              by_cases c40 : (ji38) < (l0_5.length : Int)
              ·
               rw [if_pos c40] at H
               have c40b0 : decide ((ji38) < (l0_5.length : Int)) = true := decide_eq_true c40
               clear c40
               by_cases c41 : ((rd_T34 l0_5 (ji38)).f0) ≥ ((rd_T34 l0_5 x54_3).f0)
               ·
                rw [if_pos c41] at H
                have c41b0 : decide (((rd_T34 l0_5 x54_3).f0) ≤ ((rd_T34 l0_5 (ji38)).f0)) = true := decide_eq_true c41
                clear c41
                obtain rfl := Option.some.inj H
                have p151 : 0 ≤ (x54_3 : Int) := of_decide_eq_true (by first | (with_reducible assumption) | assumption)
                have q151 : x54_3 < (l0_5.length : Int) := of_decide_eq_true (by first | (with_reducible assumption) | assumption)
                obtain ⟨ad151, A151_3, c151_3, A151_5, c151_5, e151, hx151_0, hx151_1, hx151_2, hx151_3, hx151_4, hx151_5, hl151_3, hi151_3, hl151_5, hi151_5⟩ := at_T34 HR0_5.out x54_3 p151 q151
                cases e151
                replace hx151_0 := (HB.out.cell (zzn w _ hx151_0)).trans hx151_0
                replace hx151_1 := (HB.out.cell (zzn w _ hx151_1)).trans hx151_1
                replace hx151_2 := (HB.out.cell (zzn w _ hx151_2)).trans hx151_2
                replace hx151_3 := (HB.out.cell (zzn w _ hx151_3)).trans hx151_3
                replace hx151_4 := (HB.out.cell (zzn w _ hx151_4)).trans hx151_4
                replace hx151_5 := (HB.out.cell (zzn w _ hx151_5)).trans hx151_5
                have HR151_3 := zzm hi151_3
                have HC151_3 := zzm hl151_3
                clear hi151_3 hl151_3
                have HR151_5 := zzm hi151_5
                have HC151_5 := zzm hl151_5
                clear hi151_5 hl151_5
                replace p151 := eq_true p151
                replace q151 := eq_true q151
                try go_wp2_with (first | ((with_reducible refine gate_dst (N := 4) rfl ?_); (try (refine gate_guard (by rfl) ?_; dsimp only)); refine box_event ?hg (N := 4) ?hd (cs := #[.int .i64 0, .int .i64 0, .bool false, .slice none 0 0, .bool false, .slice none 0 0]) (t := 34) ?hr ?_; (case hd => rfl); (case hg => rfl); (case hr => first | (go_simp; done) | (go_simp; rfl)); intro gb152 hg w42 hbox hb; have n0_ := zzm (zzh (g := gb146) (o := .cells #[.bool a0_0, .bool a0_1, .int .i64 a0_2, .int .i64 a0_3, .int .i64 a0_4, .slice (some ad151) l0_5.length c0_5] 27 (0, 0)) (by (with_reducible repeat (first | refine zzf ?_ _ | refine zzg ?_ | refine zze ?_ _)); exact BK146.out) hb); have n1_ := zzm (zzp (by repeat (first | (with_reducible first | exact HB.out | apply zza | apply zzb | apply zzc | refine zzd ?_ GE146.out) | exact HB.out)) hb); have n2_ := zzm (hbox); have n3_ := zzm ((by rw [hg]; exact (zzo (by repeat (first | (with_reducible first | exact HB.out | apply zza | apply zzb | apply zzc | refine zzd ?_ GE146.out) | exact HB.out))) : w.heap.size ≤ gb152)); have n4_ := zzm ((by rw [hg]; exact (zzo (by repeat (first | (with_reducible first | exact HB.out | apply zza | apply zzb | apply zzc | refine zzd ?_ GE146.out) | exact HB.out))) : w.heap.size ≤ gb152)); have n5_ := zzm ((by rw [hg]; exact Nat.ne_of_lt (blk_lt (g := gb146) (o := .cells #[.bool a0_0, .bool a0_1, .int .i64 a0_2, .int .i64 a0_3, .int .i64 a0_4, .slice (some ad151) l0_5.length c0_5] 27 (0, 0)) (by (with_reducible repeat (first | refine zzf ?_ _ | refine zzg ?_ | refine zze ?_ _)); exact BK146.out)) : gb146 ≠ gb152)); have n6_ := zzm ((by rw [hg]; exact Nat.ne_of_gt (blk_lt (g := gb146) (o := .cells #[.bool a0_0, .bool a0_1, .int .i64 a0_2, .int .i64 a0_3, .int .i64 a0_4, .slice (some ad151) l0_5.length c0_5] 27 (0, 0)) (by (with_reducible repeat (first | refine zzf ?_ _ | refine zzg ?_ | refine zze ?_ _)); exact BK146.out)) : gb152 ≠ gb146)); clear BK146 HB; have BK146 := n0_; have HB := n1_; have BK152 := n2_; have GW152 := n3_; have GE152 := n4_; have NB146_152 := n5_; have NB152_146 := n6_; clear n0_ n1_ n2_ n3_ n4_ n5_ n6_ hb hbox hg; have hnb43 := NB152_146.out; have hnc43 := NB146_152.out; obtain ⟨hcz44_0, hcz44_1, hcz44_2, hcz44_3, hcz44_4, hcz44_5, hfz44_0, hfz44_1, hfz44_2, hfz44_3, hfz44_4, hfz44_5⟩ := zzc6 BK152.out))
                have n0_ : Aside0 (((((((w42.setCell ⟨gb152, 0, none⟩ (.int .i64 ((rd_T34 l0_5 x54_3).f0))).setCell ⟨gb152, 1, none⟩ (.int .i64 ((rd_T34 l0_5 x54_3).f1))).setCell ⟨gb152, 2, none⟩ (.bool ((rd_T34 l0_5 x54_3).f2))).setCell ⟨gb152, 3, none⟩ (.slice A151_3 ((rd_T34 l0_5 x54_3).f3).length c151_3)).setCell ⟨gb152, 4, none⟩ (.bool ((rd_T34 l0_5 x54_3).f4))).setCell ⟨gb152, 5, none⟩ (.slice A151_5 ((rd_T34 l0_5 x54_3).f5).length c151_5)).heap[gb146]? = some (.cells #[.bool a0_0, .bool a0_1, .int .i64 a0_2, .int .i64 a0_3, .int .i64 a0_4, .slice (some ad151) l0_5.length c0_5] 27 (0, 0))) := ⟨by (with_reducible repeat (first | refine zzf ?_ _ | refine zzg ?_ | refine zze ?_ _)); refine zzj ?_ NB146_152.out _; (with_reducible repeat (first | refine zzf ?_ _ | refine zzg ?_ | refine zze ?_ _)); refine zzj ?_ NB146_152.out _; (with_reducible repeat (first | refine zzf ?_ _ | refine zzg ?_ | refine zze ?_ _)); refine zzj ?_ NB146_152.out _; (with_reducible repeat (first | refine zzf ?_ _ | refine zzg ?_ | refine zze ?_ _)); refine zzj ?_ NB146_152.out _; (with_reducible repeat (first | refine zzf ?_ _ | refine zzg ?_ | refine zze ?_ _)); refine zzj ?_ NB146_152.out _; (with_reducible repeat (first | refine zzf ?_ _ | refine zzg ?_ | refine zze ?_ _)); refine zzj ?_ NB146_152.out _; (with_reducible repeat (first | refine zzf ?_ _ | refine zzg ?_ | refine zze ?_ _)); exact BK146.out⟩
                have n1_ : Aside0 (((((((w42.setCell ⟨gb152, 0, none⟩ (.int .i64 ((rd_T34 l0_5 x54_3).f0))).setCell ⟨gb152, 1, none⟩ (.int .i64 ((rd_T34 l0_5 x54_3).f1))).setCell ⟨gb152, 2, none⟩ (.bool ((rd_T34 l0_5 x54_3).f2))).setCell ⟨gb152, 3, none⟩ (.slice A151_3 ((rd_T34 l0_5 x54_3).f3).length c151_3)).setCell ⟨gb152, 4, none⟩ (.bool ((rd_T34 l0_5 x54_3).f4))).setCell ⟨gb152, 5, none⟩ (.slice A151_5 ((rd_T34 l0_5 x54_3).f5).length c151_5)).heap[gb152]? = some (.cells #[.int .i64 ((rd_T34 l0_5 x54_3).f0), .int .i64 ((rd_T34 l0_5 x54_3).f1), .bool ((rd_T34 l0_5 x54_3).f2), .slice A151_3 ((rd_T34 l0_5 x54_3).f3).length c151_3, .bool ((rd_T34 l0_5 x54_3).f4), .slice A151_5 ((rd_T34 l0_5 x54_3).f5).length c151_5] 34 (0, 0))) := ⟨by (with_reducible repeat (first | refine zzf ?_ _ | refine zzg ?_ | refine zze ?_ _)); refine zzi (cs := #[.int .i64 ((rd_T34 l0_5 x54_3).f0), .int .i64 ((rd_T34 l0_5 x54_3).f1), .bool ((rd_T34 l0_5 x54_3).f2), .slice A151_3 ((rd_T34 l0_5 x54_3).f3).length c151_3, .bool ((rd_T34 l0_5 x54_3).f4), .slice none 0 0]) ?_ 5 _ rfl; (with_reducible repeat (first | refine zzf ?_ _ | refine zzg ?_ | refine zze ?_ _)); refine zzi (cs := #[.int .i64 ((rd_T34 l0_5 x54_3).f0), .int .i64 ((rd_T34 l0_5 x54_3).f1), .bool ((rd_T34 l0_5 x54_3).f2), .slice A151_3 ((rd_T34 l0_5 x54_3).f3).length c151_3, .bool false, .slice none 0 0]) ?_ 4 _ rfl; (with_reducible repeat (first | refine zzf ?_ _ | refine zzg ?_ | refine zze ?_ _)); refine zzi (cs := #[.int .i64 ((rd_T34 l0_5 x54_3).f0), .int .i64 ((rd_T34 l0_5 x54_3).f1), .bool ((rd_T34 l0_5 x54_3).f2), .slice none 0 0, .bool false, .slice none 0 0]) ?_ 3 _ rfl; (with_reducible repeat (first | refine zzf ?_ _ | refine zzg ?_ | refine zze ?_ _)); refine zzi (cs := #[.int .i64 ((rd_T34 l0_5 x54_3).f0), .int .i64 ((rd_T34 l0_5 x54_3).f1), .bool false, .slice none 0 0, .bool false, .slice none 0 0]) ?_ 2 _ rfl; (with_reducible repeat (first | refine zzf ?_ _ | refine zzg ?_ | refine zze ?_ _)); refine zzi (cs := #[.int .i64 ((rd_T34 l0_5 x54_3).f0), .int .i64 0, .bool false, .slice none 0 0, .bool false, .slice none 0 0]) ?_ 1 _ rfl; (with_reducible repeat (first | refine zzf ?_ _ | refine zzg ?_ | refine zze ?_ _)); refine zzi (cs := #[.int .i64 0, .int .i64 0, .bool false, .slice none 0 0, .bool false, .slice none 0 0]) ?_ 0 _ rfl; (with_reducible repeat (first | refine zzf ?_ _ | refine zzg ?_ | refine zze ?_ _)); exact BK152.out⟩
                have n2_ : Aside0 (Below w.heap.size w ((((((w42.setCell ⟨gb152, 0, none⟩ (.int .i64 ((rd_T34 l0_5 x54_3).f0))).setCell ⟨gb152, 1, none⟩ (.int .i64 ((rd_T34 l0_5 x54_3).f1))).setCell ⟨gb152, 2, none⟩ (.bool ((rd_T34 l0_5 x54_3).f2))).setCell ⟨gb152, 3, none⟩ (.slice A151_3 ((rd_T34 l0_5 x54_3).f3).length c151_3)).setCell ⟨gb152, 4, none⟩ (.bool ((rd_T34 l0_5 x54_3).f4))).setCell ⟨gb152, 5, none⟩ (.slice A151_5 ((rd_T34 l0_5 x54_3).f5).length c151_5))) := ⟨by repeat (first | (with_reducible first | exact HB.out | apply zza | apply zzb | apply zzc | refine zzd ?_ GE146.out | refine zzd ?_ GE152.out) | exact HB.out)⟩
                (try clear BK146)
                (try clear BK152)
                (try clear HB)
                generalize ((((((w42.setCell ⟨gb152, 0, none⟩ (.int .i64 ((rd_T34 l0_5 x54_3).f0))).setCell ⟨gb152, 1, none⟩ (.int .i64 ((rd_T34 l0_5 x54_3).f1))).setCell ⟨gb152, 2, none⟩ (.bool ((rd_T34 l0_5 x54_3).f2))).setCell ⟨gb152, 3, none⟩ (.slice A151_3 ((rd_T34 l0_5 x54_3).f3).length c151_3)).setCell ⟨gb152, 4, none⟩ (.bool ((rd_T34 l0_5 x54_3).f4))).setCell ⟨gb152, 5, none⟩ (.slice A151_5 ((rd_T34 l0_5 x54_3).f5).length c151_5)) = w45 at n0_ n1_ n2_ ⊢
                have BK146 := n0_
                have BK152 := n1_
                have HB := n2_
                clear n0_ n1_ n2_
                have n0_ := zzm (zzg BK146.out)
                have n1_ := zzm (zzg BK152.out)
                have n2_ := zzm (zzc HB.out)
                clear BK146
                clear BK152
                clear HB
                have BK146 := n0_
                have BK152 := n1_
                have HB := n2_
                clear n0_ n1_ n2_
                have p154 : 0 ≤ ((ji38) : Int) := of_decide_eq_true (by first | (with_reducible assumption) | assumption)
                have q154 : (ji38) < (l0_5.length : Int) := of_decide_eq_true (by first | (with_reducible assumption) | assumption)
                obtain ⟨ad154, A154_3, c154_3, A154_5, c154_5, e154, hx154_0, hx154_1, hx154_2, hx154_3, hx154_4, hx154_5, hl154_3, hi154_3, hl154_5, hi154_5⟩ := at_T34 HR0_5.out (ji38) p154 q154
                have hw154_5 := hx154_5
                have hw154_4 := hx154_4
                have hw154_3 := hx154_3
                have hw154_2 := hx154_2
                have hw154_1 := hx154_1
                have hw154_0 := hx154_0
                obtain rfl : ad151 = ad154 := (by injection e154)
                replace hx154_0 := (HB.out.cell (zzn w _ hx154_0)).trans hx154_0
                replace hx154_1 := (HB.out.cell (zzn w _ hx154_1)).trans hx154_1
                replace hx154_2 := (HB.out.cell (zzn w _ hx154_2)).trans hx154_2
                replace hx154_3 := (HB.out.cell (zzn w _ hx154_3)).trans hx154_3
                replace hx154_4 := (HB.out.cell (zzn w _ hx154_4)).trans hx154_4
                replace hx154_5 := (HB.out.cell (zzn w _ hx154_5)).trans hx154_5
                have HR154_3 := zzm hi154_3
                have HC154_3 := zzm hl154_3
                clear hi154_3 hl154_3
                have HR154_5 := zzm hi154_5
                have HC154_5 := zzm hl154_5
                clear hi154_5 hl154_5
                replace p154 := eq_true p154
                replace q154 := eq_true q154
                refine start_ (n := 19) (S := fun w' => w'.cell? ⟨gb152, 0, none⟩ = some (.int .i64 ((rd_T34 l0_5 x54_3).f0)) ∧ w'.cell? ⟨gb152, 1, none⟩ = some (.int .i64 ((rd_T34 l0_5 x54_3).f1)) ∧ w'.cell? ⟨gb152, 2, none⟩ = some (.bool ((rd_T34 l0_5 x54_3).f2)) ∧ w'.cell? ⟨gb152, 3, none⟩ = some (.slice A151_3 ((rd_T34 l0_5 x54_3).f3).length c151_3) ∧ w'.cell? ⟨gb152, 4, none⟩ = some (.bool ((rd_T34 l0_5 x54_3).f4)) ∧ w'.cell? ⟨gb152, 5, none⟩ = some (.slice A151_5 ((rd_T34 l0_5 x54_3).f5).length c151_5) ∧ w'.cell? ⟨gb146, 0, none⟩ = some (.bool a0_0) ∧ w'.cell? ⟨gb146, 1, none⟩ = some (.bool a0_1) ∧ w'.cell? ⟨gb146, 2, none⟩ = some (.int .i64 a0_2) ∧ w'.cell? ⟨gb146, 3, none⟩ = some (.int .i64 a0_3) ∧ w'.cell? ⟨gb146, 4, none⟩ = some (.int .i64 a0_4) ∧ w'.cell? ⟨gb146, 5, none⟩ = some (.slice (some ad151) l0_5.length c0_5) ∧ w'.cell? (ad151.add (((ji38)).toNat * 6)) = some (.int .i64 ((rd_T34 l0_5 (ji38)).f0)) ∧ w'.cell? ⟨(ad151.add (((ji38)).toNat * 6)).block, (ad151.add (((ji38)).toNat * 6)).off + 1, none⟩ = some (.int .i64 ((rd_T34 l0_5 (ji38)).f1)) ∧ w'.cell? ⟨(ad151.add (((ji38)).toNat * 6)).block, (ad151.add (((ji38)).toNat * 6)).off + 2, none⟩ = some (.bool ((rd_T34 l0_5 (ji38)).f2)) ∧ w'.cell? ⟨(ad151.add (((ji38)).toNat * 6)).block, (ad151.add (((ji38)).toNat * 6)).off + 3, none⟩ = some (.slice A154_3 ((rd_T34 l0_5 (ji38)).f3).length c154_3) ∧ w'.cell? ⟨(ad151.add (((ji38)).toNat * 6)).block, (ad151.add (((ji38)).toNat * 6)).off + 4, none⟩ = some (.bool ((rd_T34 l0_5 (ji38)).f4)) ∧ w'.cell? ⟨(ad151.add (((ji38)).toNat * 6)).block, (ad151.add (((ji38)).toNat * 6)).off + 5, none⟩ = some (.slice A154_5 ((rd_T34 l0_5 (ji38)).f5).length c154_5)) (ds := []) #[false, false, false, false, false, false, false, false, false, false, false, false, false, false, false, false, false, false, false] (by kernel_rfl) rfl rfl ⟨(zzk BK152.out 0).trans rfl, (zzk BK152.out 1).trans rfl, (zzk BK152.out 2).trans rfl, (zzk BK152.out 3).trans rfl, (zzk BK152.out 4).trans rfl, (zzk BK152.out 5).trans rfl, (zzk BK146.out 0).trans rfl, (zzk BK146.out 1).trans rfl, (zzk BK146.out 2).trans rfl, (zzk BK146.out 3).trans rfl, (zzk BK146.out 4).trans rfl, (zzk BK146.out 5).trans rfl, ((HB.out.cell (zzn w _ hw154_0)).trans hw154_0), ((HB.out.cell (zzn w _ hw154_1)).trans hw154_1), ((HB.out.cell (zzn w _ hw154_2)).trans hw154_2), ((HB.out.cell (zzn w _ hw154_3)).trans hw154_3), ((HB.out.cell (zzn w _ hw154_4)).trans hw154_4), ((HB.out.cell (zzn w _ hw154_5)).trans hw154_5)⟩ (fun hHeld => ?_); refine with_tabW impl_BatchValid.tab11 impl_BatchValid.bits11 (fun HT_ HW_ => ?_)
                generalize w45.drew = w46 at BK146 BK152 HB HR154_3 HR154_5 hx154_0 hx154_1 hx154_2 hx154_3 hx154_4 hx154_5 hHeld ⊢
                refine take_ (i := 0) (N := some 59) (v := ?_) (a' := ?_) #[true, false, false, false, false, false, false, false, false, false, false, false, false, false, false, false, false, false, false] rfl rfl (take_ofW HT_.out HW_.out (by kernel_rfl)) (fun _ _ _ h => h) (Or.inl ⟨by rfl, ?_⟩) hHeld ?_ ?_
                rotate_left
                ·
                 rintro w' ⟨s0, s1, s2, s3, s4, s5, s6, s7, s8, s9, s10, s11, s12, s13, s14, s15, s16, s17⟩
                 go_simp
                 with_reducible rfl
                rotate_left
                ·
                 simp only [Act.put, zzq, zzr, zzs, i64_w, i32_w]
                 rfl
                refine one_ (i := 1) (N := some 60) #[true, true, false, false, false, false, false, false, false, false, false, false, false, false, false, false, false, false, false] rfl rfl (one_of HT_.out (by kernel_rfl)) (by decide) (fun K hK => ?_)
                refine goes_ Try.func58 (by kernel_rfl) rfl #[.agg #[.int .i64 ((rd_T34 l0_5 x54_3).f0), .int .i64 ((rd_T34 l0_5 x54_3).f1), .bool ((rd_T34 l0_5 x54_3).f2), .slice A151_3 ((rd_T34 l0_5 x54_3).f3).length c151_3, .bool ((rd_T34 l0_5 x54_3).f4), .slice A151_5 ((rd_T34 l0_5 x54_3).f5).length c151_5]] (by rfl) rfl rfl (by (try simp only [List.map_toArray, List.map_cons, List.map_nil]); first | done | rfl | (simp only [List.length_drop, List.length_take]; rfl)) ?_
                with_reducible refine (impl_RecordValid.calls k3 ((rd_T34 l0_5 x54_3).f0) ((rd_T34 l0_5 x54_3).f1) ((rd_T34 l0_5 x54_3).f2) _ _ ((rd_T34 l0_5 x54_3).f3) ((rd_T34 l0_5 x54_3).f4) _ _ ((rd_T34 l0_5 x54_3).f5) true _ ?side1 ?side2 ?side3 ?side4 A35.out).mono ?_
                (case side1 => repeat (first | exact (Kd.C_below HR151_3.out HB.out) | (with_reducible refine Kd.C_alloc ?_ _) | (with_reducible refine Kd.C_drewN ?_ _) | (with_reducible refine Kd.C_drew ?_)))
                (case side2 => exact HC151_3.out)
                (case side3 => repeat (first | exact (Kd.C_below HR151_5.out HB.out) | (with_reducible refine Kd.C_alloc ?_ _) | (with_reducible refine Kd.C_drewN ?_ _) | (with_reducible refine Kd.C_drew ?_)))
                (case side4 => exact HC151_5.out)
                rintro e w47 ⟨rfl, hb⟩
                refine ⟨_, rfl, ?_⟩
                have n0_ := zzm (zzh (g := gb146) (o := .cells #[.bool a0_0, .bool a0_1, .int .i64 a0_2, .int .i64 a0_3, .int .i64 a0_4, .slice (some ad151) l0_5.length c0_5] 27 (0, 0)) (by (with_reducible repeat (first | refine zzf ?_ _ | refine zzg ?_ | refine zze ?_ _)); exact BK146.out) hb)
                have n1_ := zzm (zzh (g := gb152) (o := .cells #[.int .i64 ((rd_T34 l0_5 x54_3).f0), .int .i64 ((rd_T34 l0_5 x54_3).f1), .bool ((rd_T34 l0_5 x54_3).f2), .slice A151_3 ((rd_T34 l0_5 x54_3).f3).length c151_3, .bool ((rd_T34 l0_5 x54_3).f4), .slice A151_5 ((rd_T34 l0_5 x54_3).f5).length c151_5] 34 (0, 0)) (by (with_reducible repeat (first | refine zzf ?_ _ | refine zzg ?_ | refine zze ?_ _)); exact BK152.out) hb)
                have n2_ := zzm (zzp (by repeat (first | (with_reducible first | exact HB.out | apply zza | apply zzb | apply zzc | refine zzd ?_ GE146.out | refine zzd ?_ GE152.out) | exact HB.out)) hb)
                clear BK146
                clear BK152
                clear HB
                have BK146 := n0_
                have BK152 := n1_
                have HB := n2_
                clear n0_ n1_ n2_
                (try clear hb)
                (try clear hb2)
                (try clear hk)
                (try clear hi)
                refine hK.out _ _ ⟨(zzk BK152.out 0).trans rfl, (zzk BK152.out 1).trans rfl, (zzk BK152.out 2).trans rfl, (zzk BK152.out 3).trans rfl, (zzk BK152.out 4).trans rfl, (zzk BK152.out 5).trans rfl, (zzk BK146.out 0).trans rfl, (zzk BK146.out 1).trans rfl, (zzk BK146.out 2).trans rfl, (zzk BK146.out 3).trans rfl, (zzk BK146.out 4).trans rfl, (zzk BK146.out 5).trans rfl, ((HB.out.cell (zzn w _ hw154_0)).trans hw154_0), ((HB.out.cell (zzn w _ hw154_1)).trans hw154_1), ((HB.out.cell (zzn w _ hw154_2)).trans hw154_2), ((HB.out.cell (zzn w _ hw154_3)).trans hw154_3), ((HB.out.cell (zzn w _ hw154_4)).trans hw154_4), ((HB.out.cell (zzn w _ hw154_5)).trans hw154_5)⟩ (fun hHeld => ?_)
                clear hK K
                refine norm_ (a' := ?_) ?_ ?_
                rotate_left
                ·
                 show Act.put _ (some 60) _ = _
                 simp only [Act.put, zzq, zzr, zzs, i64_w, i32_w]
                 rfl
                refine pure_ (i := 2) (N := some 61) (v := ?_) (a' := ?_) #[true, true, true, false, false, false, false, false, false, false, false, false, false, false, false, false, false, false, false] rfl rfl (any_of HT_.out (by kernel_rfl)) (fun _ _ _ h => h) (Or.inl ⟨by rfl, ?_⟩) ?_ ?_
                rotate_left
                ·
                 intro w'
                 go_simp
                 with_reducible rfl
                rotate_left
                ·
                 simp only [Act.put, zzq, zzr, zzs, i64_w, i32_w]
                 rfl
                refine pure_ (i := 3) (N := some 62) (v := ?_) (a' := ?_) #[true, true, true, true, false, false, false, false, false, false, false, false, false, false, false, false, false, false, false] rfl rfl (any_of HT_.out (by kernel_rfl)) (fun _ _ _ h => h) (Or.inl ⟨by rfl, ?_⟩) ?_ ?_
                rotate_left
                ·
                 intro w'
                 go_simp
                 with_reducible rfl
                rotate_left
                ·
                 simp only [Act.put, zzq, zzr, zzs, i64_w, i32_w]
                 rfl
                refine pure_ (i := 4) (N := some 63) (v := ?_) (a' := ?_) #[true, true, true, true, true, false, false, false, false, false, false, false, false, false, false, false, false, false, false] rfl rfl (any_of HT_.out (by kernel_rfl)) (fun _ _ _ h => h) (Or.inl ⟨by rfl, ?_⟩) ?_ ?_
                rotate_left
                ·
                 intro w'
                 go_simp
                 with_reducible rfl
                rotate_left
                ·
                 simp only [Act.put, zzq, zzr, zzs, i64_w, i32_w]
                 rfl
                refine pure_ (i := 5) (N := some 64) (v := ?_) (a' := ?_) #[true, true, true, true, true, true, false, false, false, false, false, false, false, false, false, false, false, false, false] rfl rfl (any_of HT_.out (by kernel_rfl)) (fun _ _ _ h => h) (Or.inl ⟨by rfl, ?_⟩) ?_ ?_
                rotate_left
                ·
                 intro w'
                 go_simp
                 with_reducible rfl
                rotate_left
                ·
                 simp only [Act.put, zzq, zzr, zzs, i64_w, i32_w]
                 rfl
                refine pure_ (i := 6) (N := some 65) (v := ?_) (a' := ?_) #[true, true, true, true, true, true, true, false, false, false, false, false, false, false, false, false, false, false, false] rfl rfl (any_of HT_.out (by kernel_rfl)) (fun _ _ _ h => h) (Or.inl ⟨by rfl, ?_⟩) ?_ ?_
                rotate_left
                ·
                 intro w'
                 go_simp
                 with_reducible rfl
                rotate_left
                ·
                 simp only [Act.put, zzq, zzr, zzs, i64_w, i32_w]
                 rfl
                refine pure_ (i := 7) (N := some 66) (v := ?_) (a' := ?_) #[true, true, true, true, true, true, true, true, false, false, false, false, false, false, false, false, false, false, false] rfl rfl (any_of HT_.out (by kernel_rfl)) (fun _ _ _ h => h) (Or.inl ⟨by rfl, ?_⟩) ?_ ?_
                rotate_left
                ·
                 intro w'
                 go_simp
                 with_reducible rfl
                rotate_left
                ·
                 simp only [Act.put, zzq, zzr, zzs, i64_w, i32_w]
                 rfl
                refine pure_ (i := 9) (N := some 68) (v := ?_) (a' := ?_) #[true, true, true, true, true, true, true, true, false, true, false, false, false, false, false, false, false, false, false] rfl rfl (any_of HT_.out (by kernel_rfl)) (fun _ _ _ h => h) (Or.inl ⟨by rfl, ?_⟩) ?_ ?_
                rotate_left
                ·
                 intro w'
                 go_simp
                 with_reducible rfl
                rotate_left
                ·
                 simp only [Act.put, zzq, zzr, zzs, i64_w, i32_w]
                 rfl
                refine pure_ (i := 10) (N := some 69) (v := ?_) (a' := ?_) #[true, true, true, true, true, true, true, true, false, true, true, false, false, false, false, false, false, false, false] rfl rfl (any_of HT_.out (by kernel_rfl)) (fun _ _ _ h => h) (Or.inl ⟨by rfl, ?_⟩) ?_ ?_
                rotate_left
                ·
                 intro w'
                 go_simp
                 with_reducible rfl
                rotate_left
                ·
                 simp only [Act.put, zzq, zzr, zzs, i64_w, i32_w]
                 rfl
                refine pure_ (i := 14) (N := some 73) (v := ?_) (a' := ?_) #[true, true, true, true, true, true, true, true, false, true, true, false, false, false, true, false, false, false, false] rfl rfl (any_of HT_.out (by kernel_rfl)) (fun _ _ _ h => h) (Or.inl ⟨by rfl, ?_⟩) ?_ ?_
                rotate_left
                ·
                 intro w'
                 go_simp
                 with_reducible rfl
                rotate_left
                ·
                 simp only [Act.put, zzq, zzr, zzs, i64_w, i32_w]
                 rfl
                refine take_ (i := 8) (N := some 67) (v := ?_) (a' := ?_) #[true, true, true, true, true, true, true, true, true, true, true, false, false, false, true, false, false, false, false] rfl rfl (take_ofW HT_.out HW_.out (by kernel_rfl)) (fun _ _ _ h => h) (Or.inl ⟨by rfl, ?_⟩) hHeld ?_ ?_
                rotate_left
                ·
                 rintro w' ⟨s0, s1, s2, s3, s4, s5, s6, s7, s8, s9, s10, s11, s12, s13, s14, s15, s16, s17⟩
                 go_simp
                 with_reducible rfl
                rotate_left
                ·
                 simp only [Act.put, zzq, zzr, zzs, i64_w, i32_w]
                 rfl
                refine pure_ (i := 11) (N := some 70) (v := ?_) (a' := ?_) #[true, true, true, true, true, true, true, true, true, true, true, true, false, false, true, false, false, false, false] rfl rfl (any_of HT_.out (by kernel_rfl)) (fun _ _ _ h => h) (Or.inl ⟨by rfl, ?_⟩) ?_ ?_
                rotate_left
                ·
                 intro w'
                 go_simp
                 with_reducible rfl
                rotate_left
                ·
                 simp only [Act.put, zzq, zzr, zzs, i64_w, i32_w]
                 rfl
                refine pure_ (i := 12) (N := some 71) (v := ?_) (a' := ?_) #[true, true, true, true, true, true, true, true, true, true, true, true, true, false, true, false, false, false, false] rfl rfl (any_of HT_.out (by kernel_rfl)) (fun _ _ _ h => h) (Or.inl ⟨by rfl, ?_⟩) ?_ ?_
                rotate_left
                ·
                 intro w'
                 go_simp
                 with_reducible rfl
                rotate_left
                ·
                 simp only [Act.put, zzq, zzr, zzs, i64_w, i32_w]
                 rfl
                refine take_ (i := 13) (N := some 72) (v := ?_) (a' := ?_) #[true, true, true, true, true, true, true, true, true, true, true, true, true, true, true, false, false, false, false] rfl rfl (take_ofW HT_.out HW_.out (by kernel_rfl)) (fun _ _ _ h => h) (Or.inl ⟨by rfl, ?_⟩) hHeld ?_ ?_
                rotate_left
                ·
                 rintro w' ⟨s0, s1, s2, s3, s4, s5, s6, s7, s8, s9, s10, s11, s12, s13, s14, s15, s16, s17⟩
                 go_simp
                 with_reducible rfl
                rotate_left
                ·
                 simp only [Act.put, zzq, zzr, zzs, i64_w, i32_w]
                 rfl
                refine take_ (i := 15) (N := some 74) (v := ?_) (a' := ?_) #[true, true, true, true, true, true, true, true, true, true, true, true, true, true, true, true, false, false, false] rfl rfl (take_ofW HT_.out HW_.out (by kernel_rfl)) (fun _ _ _ h => h) (Or.inl ⟨by rfl, ?_⟩) hHeld ?_ ?_
                rotate_left
                ·
                 rintro w' ⟨s0, s1, s2, s3, s4, s5, s6, s7, s8, s9, s10, s11, s12, s13, s14, s15, s16, s17⟩
                 go_simp
                 with_reducible rfl
                rotate_left
                ·
                 simp only [Act.put, zzq, zzr, zzs, i64_w, i32_w]
                 rfl
                refine pure_ (i := 16) (N := some 75) (v := ?_) (a' := ?_) #[true, true, true, true, true, true, true, true, true, true, true, true, true, true, true, true, true, false, false] rfl rfl (any_of HT_.out (by kernel_rfl)) (fun _ _ _ h => h) (Or.inl ⟨by rfl, ?_⟩) ?_ ?_
                rotate_left
                ·
                 intro w'
                 go_simp
                 with_reducible rfl
                rotate_left
                ·
                 simp only [Act.put, zzq, zzr, zzs, i64_w, i32_w]
                 rfl
                refine pure_ (i := 17) (N := some 76) (v := ?_) (a' := ?_) #[true, true, true, true, true, true, true, true, true, true, true, true, true, true, true, true, true, true, false] rfl rfl (any_of HT_.out (by kernel_rfl)) (fun _ _ _ h => h) (Or.inl ⟨by rfl, ?_⟩) ?_ ?_
                rotate_left
                ·
                 intro w'
                 go_simp
                 with_reducible rfl
                rotate_left
                ·
                 simp only [Act.put, zzq, zzr, zzs, i64_w, i32_w]
                 rfl
                refine pure_ (i := 18) (N := some 77) (v := ?_) (a' := ?_) #[true, true, true, true, true, true, true, true, true, true, true, true, true, true, true, true, true, true, true] rfl rfl (any_of HT_.out (by kernel_rfl)) (fun _ _ _ h => h) (Or.inl ⟨by rfl, ?_⟩) ?_ ?_
                rotate_left
                ·
                 intro w'
                 go_simp
                 with_reducible rfl
                rotate_left
                ·
                 simp only [Act.put, zzq, zzr, zzs, i64_w, i32_w]
                 rfl
                refine done_ (done_of HT_.out (by kernel_rfl)) ?_
                try go_wp2
                go_ret
                exact ⟨by first | rfl | (simp [errW_none, errW_some] <;> rfl) | (simp only [← hji38]; first | rfl | (simp [errW_none, errW_some] <;> rfl)) | (simp [*, errW_none, errW_some] <;> rfl), by repeat (first | (with_reducible first | exact HB.out | apply zza | apply zzb | apply zzc | refine zzd ?_ GE146.out | refine zzd ?_ GE152.out) | exact HB.out)⟩
               ·
                rw [if_neg c41] at H
                have c41b0 : decide (((rd_T34 l0_5 x54_3).f0) ≤ ((rd_T34 l0_5 (ji38)).f0)) = false := decide_eq_false c41
                clear c41
                have H' := zzm H
                clear H
                have p151 : 0 ≤ (x54_3 : Int) := of_decide_eq_true (by first | (with_reducible assumption) | assumption)
                have q151 : x54_3 < (l0_5.length : Int) := of_decide_eq_true (by first | (with_reducible assumption) | assumption)
                obtain ⟨ad151, A151_3, c151_3, A151_5, c151_5, e151, hx151_0, hx151_1, hx151_2, hx151_3, hx151_4, hx151_5, hl151_3, hi151_3, hl151_5, hi151_5⟩ := at_T34 HR0_5.out x54_3 p151 q151
                cases e151
                replace hx151_0 := (HB.out.cell (zzn w _ hx151_0)).trans hx151_0
                replace hx151_1 := (HB.out.cell (zzn w _ hx151_1)).trans hx151_1
                replace hx151_2 := (HB.out.cell (zzn w _ hx151_2)).trans hx151_2
                replace hx151_3 := (HB.out.cell (zzn w _ hx151_3)).trans hx151_3
                replace hx151_4 := (HB.out.cell (zzn w _ hx151_4)).trans hx151_4
                replace hx151_5 := (HB.out.cell (zzn w _ hx151_5)).trans hx151_5
                have HR151_3 := zzm hi151_3
                have HC151_3 := zzm hl151_3
                clear hi151_3 hl151_3
                have HR151_5 := zzm hi151_5
                have HC151_5 := zzm hl151_5
                clear hi151_5 hl151_5
                replace p151 := eq_true p151
                replace q151 := eq_true q151
                try go_wp2_with (first | ((with_reducible refine gate_dst (N := 4) rfl ?_); (try (refine gate_guard (by rfl) ?_; dsimp only)); refine box_event ?hg (N := 4) ?hd (cs := #[.int .i64 0, .int .i64 0, .bool false, .slice none 0 0, .bool false, .slice none 0 0]) (t := 34) ?hr ?_; (case hd => rfl); (case hg => rfl); (case hr => first | (go_simp; done) | (go_simp; rfl)); intro gb152 hg w48 hbox hb; have n0_ := zzm (zzh (g := gb146) (o := .cells #[.bool a0_0, .bool a0_1, .int .i64 a0_2, .int .i64 a0_3, .int .i64 a0_4, .slice (some ad151) l0_5.length c0_5] 27 (0, 0)) (by (with_reducible repeat (first | refine zzf ?_ _ | refine zzg ?_ | refine zze ?_ _)); exact BK146.out) hb); have n1_ := zzm (zzp (by repeat (first | (with_reducible first | exact HB.out | apply zza | apply zzb | apply zzc | refine zzd ?_ GE146.out) | exact HB.out)) hb); have n2_ := zzm (hbox); have n3_ := zzm ((by rw [hg]; exact (zzo (by repeat (first | (with_reducible first | exact HB.out | apply zza | apply zzb | apply zzc | refine zzd ?_ GE146.out) | exact HB.out))) : w.heap.size ≤ gb152)); have n4_ := zzm ((by rw [hg]; exact (zzo (by repeat (first | (with_reducible first | exact HB.out | apply zza | apply zzb | apply zzc | refine zzd ?_ GE146.out) | exact HB.out))) : w.heap.size ≤ gb152)); have n5_ := zzm ((by rw [hg]; exact Nat.ne_of_lt (blk_lt (g := gb146) (o := .cells #[.bool a0_0, .bool a0_1, .int .i64 a0_2, .int .i64 a0_3, .int .i64 a0_4, .slice (some ad151) l0_5.length c0_5] 27 (0, 0)) (by (with_reducible repeat (first | refine zzf ?_ _ | refine zzg ?_ | refine zze ?_ _)); exact BK146.out)) : gb146 ≠ gb152)); have n6_ := zzm ((by rw [hg]; exact Nat.ne_of_gt (blk_lt (g := gb146) (o := .cells #[.bool a0_0, .bool a0_1, .int .i64 a0_2, .int .i64 a0_3, .int .i64 a0_4, .slice (some ad151) l0_5.length c0_5] 27 (0, 0)) (by (with_reducible repeat (first | refine zzf ?_ _ | refine zzg ?_ | refine zze ?_ _)); exact BK146.out)) : gb152 ≠ gb146)); clear BK146 HB; have BK146 := n0_; have HB := n1_; have BK152 := n2_; have GW152 := n3_; have GE152 := n4_; have NB146_152 := n5_; have NB152_146 := n6_; clear n0_ n1_ n2_ n3_ n4_ n5_ n6_ hb hbox hg; have hnb49 := NB152_146.out; have hnc49 := NB146_152.out; obtain ⟨hcz50_0, hcz50_1, hcz50_2, hcz50_3, hcz50_4, hcz50_5, hfz50_0, hfz50_1, hfz50_2, hfz50_3, hfz50_4, hfz50_5⟩ := zzc6 BK152.out))
                have n0_ : Aside0 (((((((w48.setCell ⟨gb152, 0, none⟩ (.int .i64 ((rd_T34 l0_5 x54_3).f0))).setCell ⟨gb152, 1, none⟩ (.int .i64 ((rd_T34 l0_5 x54_3).f1))).setCell ⟨gb152, 2, none⟩ (.bool ((rd_T34 l0_5 x54_3).f2))).setCell ⟨gb152, 3, none⟩ (.slice A151_3 ((rd_T34 l0_5 x54_3).f3).length c151_3)).setCell ⟨gb152, 4, none⟩ (.bool ((rd_T34 l0_5 x54_3).f4))).setCell ⟨gb152, 5, none⟩ (.slice A151_5 ((rd_T34 l0_5 x54_3).f5).length c151_5)).heap[gb146]? = some (.cells #[.bool a0_0, .bool a0_1, .int .i64 a0_2, .int .i64 a0_3, .int .i64 a0_4, .slice (some ad151) l0_5.length c0_5] 27 (0, 0))) := ⟨by (with_reducible repeat (first | refine zzf ?_ _ | refine zzg ?_ | refine zze ?_ _)); refine zzj ?_ NB146_152.out _; (with_reducible repeat (first | refine zzf ?_ _ | refine zzg ?_ | refine zze ?_ _)); refine zzj ?_ NB146_152.out _; (with_reducible repeat (first | refine zzf ?_ _ | refine zzg ?_ | refine zze ?_ _)); refine zzj ?_ NB146_152.out _; (with_reducible repeat (first | refine zzf ?_ _ | refine zzg ?_ | refine zze ?_ _)); refine zzj ?_ NB146_152.out _; (with_reducible repeat (first | refine zzf ?_ _ | refine zzg ?_ | refine zze ?_ _)); refine zzj ?_ NB146_152.out _; (with_reducible repeat (first | refine zzf ?_ _ | refine zzg ?_ | refine zze ?_ _)); refine zzj ?_ NB146_152.out _; (with_reducible repeat (first | refine zzf ?_ _ | refine zzg ?_ | refine zze ?_ _)); exact BK146.out⟩
                have n1_ : Aside0 (((((((w48.setCell ⟨gb152, 0, none⟩ (.int .i64 ((rd_T34 l0_5 x54_3).f0))).setCell ⟨gb152, 1, none⟩ (.int .i64 ((rd_T34 l0_5 x54_3).f1))).setCell ⟨gb152, 2, none⟩ (.bool ((rd_T34 l0_5 x54_3).f2))).setCell ⟨gb152, 3, none⟩ (.slice A151_3 ((rd_T34 l0_5 x54_3).f3).length c151_3)).setCell ⟨gb152, 4, none⟩ (.bool ((rd_T34 l0_5 x54_3).f4))).setCell ⟨gb152, 5, none⟩ (.slice A151_5 ((rd_T34 l0_5 x54_3).f5).length c151_5)).heap[gb152]? = some (.cells #[.int .i64 ((rd_T34 l0_5 x54_3).f0), .int .i64 ((rd_T34 l0_5 x54_3).f1), .bool ((rd_T34 l0_5 x54_3).f2), .slice A151_3 ((rd_T34 l0_5 x54_3).f3).length c151_3, .bool ((rd_T34 l0_5 x54_3).f4), .slice A151_5 ((rd_T34 l0_5 x54_3).f5).length c151_5] 34 (0, 0))) := ⟨by (with_reducible repeat (first | refine zzf ?_ _ | refine zzg ?_ | refine zze ?_ _)); refine zzi (cs := #[.int .i64 ((rd_T34 l0_5 x54_3).f0), .int .i64 ((rd_T34 l0_5 x54_3).f1), .bool ((rd_T34 l0_5 x54_3).f2), .slice A151_3 ((rd_T34 l0_5 x54_3).f3).length c151_3, .bool ((rd_T34 l0_5 x54_3).f4), .slice none 0 0]) ?_ 5 _ rfl; (with_reducible repeat (first | refine zzf ?_ _ | refine zzg ?_ | refine zze ?_ _)); refine zzi (cs := #[.int .i64 ((rd_T34 l0_5 x54_3).f0), .int .i64 ((rd_T34 l0_5 x54_3).f1), .bool ((rd_T34 l0_5 x54_3).f2), .slice A151_3 ((rd_T34 l0_5 x54_3).f3).length c151_3, .bool false, .slice none 0 0]) ?_ 4 _ rfl; (with_reducible repeat (first | refine zzf ?_ _ | refine zzg ?_ | refine zze ?_ _)); refine zzi (cs := #[.int .i64 ((rd_T34 l0_5 x54_3).f0), .int .i64 ((rd_T34 l0_5 x54_3).f1), .bool ((rd_T34 l0_5 x54_3).f2), .slice none 0 0, .bool false, .slice none 0 0]) ?_ 3 _ rfl; (with_reducible repeat (first | refine zzf ?_ _ | refine zzg ?_ | refine zze ?_ _)); refine zzi (cs := #[.int .i64 ((rd_T34 l0_5 x54_3).f0), .int .i64 ((rd_T34 l0_5 x54_3).f1), .bool false, .slice none 0 0, .bool false, .slice none 0 0]) ?_ 2 _ rfl; (with_reducible repeat (first | refine zzf ?_ _ | refine zzg ?_ | refine zze ?_ _)); refine zzi (cs := #[.int .i64 ((rd_T34 l0_5 x54_3).f0), .int .i64 0, .bool false, .slice none 0 0, .bool false, .slice none 0 0]) ?_ 1 _ rfl; (with_reducible repeat (first | refine zzf ?_ _ | refine zzg ?_ | refine zze ?_ _)); refine zzi (cs := #[.int .i64 0, .int .i64 0, .bool false, .slice none 0 0, .bool false, .slice none 0 0]) ?_ 0 _ rfl; (with_reducible repeat (first | refine zzf ?_ _ | refine zzg ?_ | refine zze ?_ _)); exact BK152.out⟩
                have n2_ : Aside0 (Below w.heap.size w ((((((w48.setCell ⟨gb152, 0, none⟩ (.int .i64 ((rd_T34 l0_5 x54_3).f0))).setCell ⟨gb152, 1, none⟩ (.int .i64 ((rd_T34 l0_5 x54_3).f1))).setCell ⟨gb152, 2, none⟩ (.bool ((rd_T34 l0_5 x54_3).f2))).setCell ⟨gb152, 3, none⟩ (.slice A151_3 ((rd_T34 l0_5 x54_3).f3).length c151_3)).setCell ⟨gb152, 4, none⟩ (.bool ((rd_T34 l0_5 x54_3).f4))).setCell ⟨gb152, 5, none⟩ (.slice A151_5 ((rd_T34 l0_5 x54_3).f5).length c151_5))) := ⟨by repeat (first | (with_reducible first | exact HB.out | apply zza | apply zzb | apply zzc | refine zzd ?_ GE146.out | refine zzd ?_ GE152.out) | exact HB.out)⟩
                (try clear BK146)
                (try clear BK152)
                (try clear HB)
                generalize ((((((w48.setCell ⟨gb152, 0, none⟩ (.int .i64 ((rd_T34 l0_5 x54_3).f0))).setCell ⟨gb152, 1, none⟩ (.int .i64 ((rd_T34 l0_5 x54_3).f1))).setCell ⟨gb152, 2, none⟩ (.bool ((rd_T34 l0_5 x54_3).f2))).setCell ⟨gb152, 3, none⟩ (.slice A151_3 ((rd_T34 l0_5 x54_3).f3).length c151_3)).setCell ⟨gb152, 4, none⟩ (.bool ((rd_T34 l0_5 x54_3).f4))).setCell ⟨gb152, 5, none⟩ (.slice A151_5 ((rd_T34 l0_5 x54_3).f5).length c151_5)) = w51 at n0_ n1_ n2_ ⊢
                have BK146 := n0_
                have BK152 := n1_
                have HB := n2_
                clear n0_ n1_ n2_
                have n0_ := zzm (zzg BK146.out)
                have n1_ := zzm (zzg BK152.out)
                have n2_ := zzm (zzc HB.out)
                clear BK146
                clear BK152
                clear HB
                have BK146 := n0_
                have BK152 := n1_
                have HB := n2_
                clear n0_ n1_ n2_
                have p154 : 0 ≤ ((ji38) : Int) := of_decide_eq_true (by first | (with_reducible assumption) | assumption)
                have q154 : (ji38) < (l0_5.length : Int) := of_decide_eq_true (by first | (with_reducible assumption) | assumption)
                obtain ⟨ad154, A154_3, c154_3, A154_5, c154_5, e154, hx154_0, hx154_1, hx154_2, hx154_3, hx154_4, hx154_5, hl154_3, hi154_3, hl154_5, hi154_5⟩ := at_T34 HR0_5.out (ji38) p154 q154
                have hw154_5 := hx154_5
                have hw154_4 := hx154_4
                have hw154_3 := hx154_3
                have hw154_2 := hx154_2
                have hw154_1 := hx154_1
                have hw154_0 := hx154_0
                obtain rfl : ad151 = ad154 := (by injection e154)
                replace hx154_0 := (HB.out.cell (zzn w _ hx154_0)).trans hx154_0
                replace hx154_1 := (HB.out.cell (zzn w _ hx154_1)).trans hx154_1
                replace hx154_2 := (HB.out.cell (zzn w _ hx154_2)).trans hx154_2
                replace hx154_3 := (HB.out.cell (zzn w _ hx154_3)).trans hx154_3
                replace hx154_4 := (HB.out.cell (zzn w _ hx154_4)).trans hx154_4
                replace hx154_5 := (HB.out.cell (zzn w _ hx154_5)).trans hx154_5
                have HR154_3 := zzm hi154_3
                have HC154_3 := zzm hl154_3
                clear hi154_3 hl154_3
                have HR154_5 := zzm hi154_5
                have HC154_5 := zzm hl154_5
                clear hi154_5 hl154_5
                replace p154 := eq_true p154
                replace q154 := eq_true q154
                refine start_ (n := 19) (S := fun w' => w'.cell? ⟨gb152, 0, none⟩ = some (.int .i64 ((rd_T34 l0_5 x54_3).f0)) ∧ w'.cell? ⟨gb152, 1, none⟩ = some (.int .i64 ((rd_T34 l0_5 x54_3).f1)) ∧ w'.cell? ⟨gb152, 2, none⟩ = some (.bool ((rd_T34 l0_5 x54_3).f2)) ∧ w'.cell? ⟨gb152, 3, none⟩ = some (.slice A151_3 ((rd_T34 l0_5 x54_3).f3).length c151_3) ∧ w'.cell? ⟨gb152, 4, none⟩ = some (.bool ((rd_T34 l0_5 x54_3).f4)) ∧ w'.cell? ⟨gb152, 5, none⟩ = some (.slice A151_5 ((rd_T34 l0_5 x54_3).f5).length c151_5) ∧ w'.cell? ⟨gb146, 0, none⟩ = some (.bool a0_0) ∧ w'.cell? ⟨gb146, 1, none⟩ = some (.bool a0_1) ∧ w'.cell? ⟨gb146, 2, none⟩ = some (.int .i64 a0_2) ∧ w'.cell? ⟨gb146, 3, none⟩ = some (.int .i64 a0_3) ∧ w'.cell? ⟨gb146, 4, none⟩ = some (.int .i64 a0_4) ∧ w'.cell? ⟨gb146, 5, none⟩ = some (.slice (some ad151) l0_5.length c0_5) ∧ w'.cell? (ad151.add (((ji38)).toNat * 6)) = some (.int .i64 ((rd_T34 l0_5 (ji38)).f0)) ∧ w'.cell? ⟨(ad151.add (((ji38)).toNat * 6)).block, (ad151.add (((ji38)).toNat * 6)).off + 1, none⟩ = some (.int .i64 ((rd_T34 l0_5 (ji38)).f1)) ∧ w'.cell? ⟨(ad151.add (((ji38)).toNat * 6)).block, (ad151.add (((ji38)).toNat * 6)).off + 2, none⟩ = some (.bool ((rd_T34 l0_5 (ji38)).f2)) ∧ w'.cell? ⟨(ad151.add (((ji38)).toNat * 6)).block, (ad151.add (((ji38)).toNat * 6)).off + 3, none⟩ = some (.slice A154_3 ((rd_T34 l0_5 (ji38)).f3).length c154_3) ∧ w'.cell? ⟨(ad151.add (((ji38)).toNat * 6)).block, (ad151.add (((ji38)).toNat * 6)).off + 4, none⟩ = some (.bool ((rd_T34 l0_5 (ji38)).f4)) ∧ w'.cell? ⟨(ad151.add (((ji38)).toNat * 6)).block, (ad151.add (((ji38)).toNat * 6)).off + 5, none⟩ = some (.slice A154_5 ((rd_T34 l0_5 (ji38)).f5).length c154_5)) (ds := []) #[false, false, false, false, false, false, false, false, false, false, false, false, false, false, false, false, false, false, false] (by kernel_rfl) rfl rfl ⟨(zzk BK152.out 0).trans rfl, (zzk BK152.out 1).trans rfl, (zzk BK152.out 2).trans rfl, (zzk BK152.out 3).trans rfl, (zzk BK152.out 4).trans rfl, (zzk BK152.out 5).trans rfl, (zzk BK146.out 0).trans rfl, (zzk BK146.out 1).trans rfl, (zzk BK146.out 2).trans rfl, (zzk BK146.out 3).trans rfl, (zzk BK146.out 4).trans rfl, (zzk BK146.out 5).trans rfl, ((HB.out.cell (zzn w _ hw154_0)).trans hw154_0), ((HB.out.cell (zzn w _ hw154_1)).trans hw154_1), ((HB.out.cell (zzn w _ hw154_2)).trans hw154_2), ((HB.out.cell (zzn w _ hw154_3)).trans hw154_3), ((HB.out.cell (zzn w _ hw154_4)).trans hw154_4), ((HB.out.cell (zzn w _ hw154_5)).trans hw154_5)⟩ (fun hHeld => ?_); refine with_tabW impl_BatchValid.tab11 impl_BatchValid.bits11 (fun HT_ HW_ => ?_)
                generalize w51.drew = w52 at BK146 BK152 HB HR154_3 HR154_5 hx154_0 hx154_1 hx154_2 hx154_3 hx154_4 hx154_5 hHeld ⊢
                refine take_ (i := 0) (N := some 59) (v := ?_) (a' := ?_) #[true, false, false, false, false, false, false, false, false, false, false, false, false, false, false, false, false, false, false] rfl rfl (take_ofW HT_.out HW_.out (by kernel_rfl)) (fun _ _ _ h => h) (Or.inl ⟨by rfl, ?_⟩) hHeld ?_ ?_
                rotate_left
                ·
                 rintro w' ⟨s0, s1, s2, s3, s4, s5, s6, s7, s8, s9, s10, s11, s12, s13, s14, s15, s16, s17⟩
                 go_simp
                 with_reducible rfl
                rotate_left
                ·
                 simp only [Act.put, zzq, zzr, zzs, i64_w, i32_w]
                 rfl
                refine one_ (i := 1) (N := some 60) #[true, true, false, false, false, false, false, false, false, false, false, false, false, false, false, false, false, false, false] rfl rfl (one_of HT_.out (by kernel_rfl)) (by decide) (fun K hK => ?_)
                refine goes_ Try.func58 (by kernel_rfl) rfl #[.agg #[.int .i64 ((rd_T34 l0_5 x54_3).f0), .int .i64 ((rd_T34 l0_5 x54_3).f1), .bool ((rd_T34 l0_5 x54_3).f2), .slice A151_3 ((rd_T34 l0_5 x54_3).f3).length c151_3, .bool ((rd_T34 l0_5 x54_3).f4), .slice A151_5 ((rd_T34 l0_5 x54_3).f5).length c151_5]] (by rfl) rfl rfl (by (try simp only [List.map_toArray, List.map_cons, List.map_nil]); first | done | rfl | (simp only [List.length_drop, List.length_take]; rfl)) ?_
                with_reducible refine (impl_RecordValid.calls k3 ((rd_T34 l0_5 x54_3).f0) ((rd_T34 l0_5 x54_3).f1) ((rd_T34 l0_5 x54_3).f2) _ _ ((rd_T34 l0_5 x54_3).f3) ((rd_T34 l0_5 x54_3).f4) _ _ ((rd_T34 l0_5 x54_3).f5) true _ ?side1 ?side2 ?side3 ?side4 A35.out).mono ?_
                (case side1 => repeat (first | exact (Kd.C_below HR151_3.out HB.out) | (with_reducible refine Kd.C_alloc ?_ _) | (with_reducible refine Kd.C_drewN ?_ _) | (with_reducible refine Kd.C_drew ?_)))
                (case side2 => exact HC151_3.out)
                (case side3 => repeat (first | exact (Kd.C_below HR151_5.out HB.out) | (with_reducible refine Kd.C_alloc ?_ _) | (with_reducible refine Kd.C_drewN ?_ _) | (with_reducible refine Kd.C_drew ?_)))
                (case side4 => exact HC151_5.out)
                rintro e w53 ⟨rfl, hb⟩
                refine ⟨_, rfl, ?_⟩
                have n0_ := zzm (zzh (g := gb146) (o := .cells #[.bool a0_0, .bool a0_1, .int .i64 a0_2, .int .i64 a0_3, .int .i64 a0_4, .slice (some ad151) l0_5.length c0_5] 27 (0, 0)) (by (with_reducible repeat (first | refine zzf ?_ _ | refine zzg ?_ | refine zze ?_ _)); exact BK146.out) hb)
                have n1_ := zzm (zzh (g := gb152) (o := .cells #[.int .i64 ((rd_T34 l0_5 x54_3).f0), .int .i64 ((rd_T34 l0_5 x54_3).f1), .bool ((rd_T34 l0_5 x54_3).f2), .slice A151_3 ((rd_T34 l0_5 x54_3).f3).length c151_3, .bool ((rd_T34 l0_5 x54_3).f4), .slice A151_5 ((rd_T34 l0_5 x54_3).f5).length c151_5] 34 (0, 0)) (by (with_reducible repeat (first | refine zzf ?_ _ | refine zzg ?_ | refine zze ?_ _)); exact BK152.out) hb)
                have n2_ := zzm (zzp (by repeat (first | (with_reducible first | exact HB.out | apply zza | apply zzb | apply zzc | refine zzd ?_ GE146.out | refine zzd ?_ GE152.out) | exact HB.out)) hb)
                clear BK146
                clear BK152
                clear HB
                have BK146 := n0_
                have BK152 := n1_
                have HB := n2_
                clear n0_ n1_ n2_
                (try clear hb)
                (try clear hb2)
                (try clear hk)
                (try clear hi)
                refine hK.out _ _ ⟨(zzk BK152.out 0).trans rfl, (zzk BK152.out 1).trans rfl, (zzk BK152.out 2).trans rfl, (zzk BK152.out 3).trans rfl, (zzk BK152.out 4).trans rfl, (zzk BK152.out 5).trans rfl, (zzk BK146.out 0).trans rfl, (zzk BK146.out 1).trans rfl, (zzk BK146.out 2).trans rfl, (zzk BK146.out 3).trans rfl, (zzk BK146.out 4).trans rfl, (zzk BK146.out 5).trans rfl, ((HB.out.cell (zzn w _ hw154_0)).trans hw154_0), ((HB.out.cell (zzn w _ hw154_1)).trans hw154_1), ((HB.out.cell (zzn w _ hw154_2)).trans hw154_2), ((HB.out.cell (zzn w _ hw154_3)).trans hw154_3), ((HB.out.cell (zzn w _ hw154_4)).trans hw154_4), ((HB.out.cell (zzn w _ hw154_5)).trans hw154_5)⟩ (fun hHeld => ?_)
                clear hK K
                refine norm_ (a' := ?_) ?_ ?_
                rotate_left
                ·
                 show Act.put _ (some 60) _ = _
                 simp only [Act.put, zzq, zzr, zzs, i64_w, i32_w]
                 rfl
                refine pure_ (i := 2) (N := some 61) (v := ?_) (a' := ?_) #[true, true, true, false, false, false, false, false, false, false, false, false, false, false, false, false, false, false, false] rfl rfl (any_of HT_.out (by kernel_rfl)) (fun _ _ _ h => h) (Or.inl ⟨by rfl, ?_⟩) ?_ ?_
                rotate_left
                ·
                 intro w'
                 go_simp
                 with_reducible rfl
                rotate_left
                ·
                 simp only [Act.put, zzq, zzr, zzs, i64_w, i32_w]
                 rfl
                refine pure_ (i := 3) (N := some 62) (v := ?_) (a' := ?_) #[true, true, true, true, false, false, false, false, false, false, false, false, false, false, false, false, false, false, false] rfl rfl (any_of HT_.out (by kernel_rfl)) (fun _ _ _ h => h) (Or.inl ⟨by rfl, ?_⟩) ?_ ?_
                rotate_left
                ·
                 intro w'
                 go_simp
                 with_reducible rfl
                rotate_left
                ·
                 simp only [Act.put, zzq, zzr, zzs, i64_w, i32_w]
                 rfl
                refine pure_ (i := 4) (N := some 63) (v := ?_) (a' := ?_) #[true, true, true, true, true, false, false, false, false, false, false, false, false, false, false, false, false, false, false] rfl rfl (any_of HT_.out (by kernel_rfl)) (fun _ _ _ h => h) (Or.inl ⟨by rfl, ?_⟩) ?_ ?_
                rotate_left
                ·
                 intro w'
                 go_simp
                 with_reducible rfl
                rotate_left
                ·
                 simp only [Act.put, zzq, zzr, zzs, i64_w, i32_w]
                 rfl
                refine pure_ (i := 5) (N := some 64) (v := ?_) (a' := ?_) #[true, true, true, true, true, true, false, false, false, false, false, false, false, false, false, false, false, false, false] rfl rfl (any_of HT_.out (by kernel_rfl)) (fun _ _ _ h => h) (Or.inl ⟨by rfl, ?_⟩) ?_ ?_
                rotate_left
                ·
                 intro w'
                 go_simp
                 with_reducible rfl
                rotate_left
                ·
                 simp only [Act.put, zzq, zzr, zzs, i64_w, i32_w]
                 rfl
                refine pure_ (i := 6) (N := some 65) (v := ?_) (a' := ?_) #[true, true, true, true, true, true, true, false, false, false, false, false, false, false, false, false, false, false, false] rfl rfl (any_of HT_.out (by kernel_rfl)) (fun _ _ _ h => h) (Or.inl ⟨by rfl, ?_⟩) ?_ ?_
                rotate_left
                ·
                 intro w'
                 go_simp
                 with_reducible rfl
                rotate_left
                ·
                 simp only [Act.put, zzq, zzr, zzs, i64_w, i32_w]
                 rfl
                refine pure_ (i := 7) (N := some 66) (v := ?_) (a' := ?_) #[true, true, true, true, true, true, true, true, false, false, false, false, false, false, false, false, false, false, false] rfl rfl (any_of HT_.out (by kernel_rfl)) (fun _ _ _ h => h) (Or.inl ⟨by rfl, ?_⟩) ?_ ?_
                rotate_left
                ·
                 intro w'
                 go_simp
                 with_reducible rfl
                rotate_left
                ·
                 simp only [Act.put, zzq, zzr, zzs, i64_w, i32_w]
                 rfl
                refine pure_ (i := 9) (N := some 68) (v := ?_) (a' := ?_) #[true, true, true, true, true, true, true, true, false, true, false, false, false, false, false, false, false, false, false] rfl rfl (any_of HT_.out (by kernel_rfl)) (fun _ _ _ h => h) (Or.inl ⟨by rfl, ?_⟩) ?_ ?_
                rotate_left
                ·
                 intro w'
                 go_simp
                 with_reducible rfl
                rotate_left
                ·
                 simp only [Act.put, zzq, zzr, zzs, i64_w, i32_w]
                 rfl
                refine pure_ (i := 10) (N := some 69) (v := ?_) (a' := ?_) #[true, true, true, true, true, true, true, true, false, true, true, false, false, false, false, false, false, false, false] rfl rfl (any_of HT_.out (by kernel_rfl)) (fun _ _ _ h => h) (Or.inl ⟨by rfl, ?_⟩) ?_ ?_
                rotate_left
                ·
                 intro w'
                 go_simp
                 with_reducible rfl
                rotate_left
                ·
                 simp only [Act.put, zzq, zzr, zzs, i64_w, i32_w]
                 rfl
                refine pure_ (i := 14) (N := some 73) (v := ?_) (a' := ?_) #[true, true, true, true, true, true, true, true, false, true, true, false, false, false, true, false, false, false, false] rfl rfl (any_of HT_.out (by kernel_rfl)) (fun _ _ _ h => h) (Or.inl ⟨by rfl, ?_⟩) ?_ ?_
                rotate_left
                ·
                 intro w'
                 go_simp
                 with_reducible rfl
                rotate_left
                ·
                 simp only [Act.put, zzq, zzr, zzs, i64_w, i32_w]
                 rfl
                refine take_ (i := 8) (N := some 67) (v := ?_) (a' := ?_) #[true, true, true, true, true, true, true, true, true, true, true, false, false, false, true, false, false, false, false] rfl rfl (take_ofW HT_.out HW_.out (by kernel_rfl)) (fun _ _ _ h => h) (Or.inl ⟨by rfl, ?_⟩) hHeld ?_ ?_
                rotate_left
                ·
                 rintro w' ⟨s0, s1, s2, s3, s4, s5, s6, s7, s8, s9, s10, s11, s12, s13, s14, s15, s16, s17⟩
                 go_simp
                 with_reducible rfl
                rotate_left
                ·
                 simp only [Act.put, zzq, zzr, zzs, i64_w, i32_w]
                 rfl
                refine pure_ (i := 11) (N := some 70) (v := ?_) (a' := ?_) #[true, true, true, true, true, true, true, true, true, true, true, true, false, false, true, false, false, false, false] rfl rfl (any_of HT_.out (by kernel_rfl)) (fun _ _ _ h => h) (Or.inl ⟨by rfl, ?_⟩) ?_ ?_
                rotate_left
                ·
                 intro w'
                 go_simp
                 with_reducible rfl
                rotate_left
                ·
                 simp only [Act.put, zzq, zzr, zzs, i64_w, i32_w]
                 rfl
                refine pure_ (i := 12) (N := some 71) (v := ?_) (a' := ?_) #[true, true, true, true, true, true, true, true, true, true, true, true, true, false, true, false, false, false, false] rfl rfl (any_of HT_.out (by kernel_rfl)) (fun _ _ _ h => h) (Or.inl ⟨by rfl, ?_⟩) ?_ ?_
                rotate_left
                ·
                 intro w'
                 go_simp
                 with_reducible rfl
                rotate_left
                ·
                 simp only [Act.put, zzq, zzr, zzs, i64_w, i32_w]
                 rfl
                refine take_ (i := 13) (N := some 72) (v := ?_) (a' := ?_) #[true, true, true, true, true, true, true, true, true, true, true, true, true, true, true, false, false, false, false] rfl rfl (take_ofW HT_.out HW_.out (by kernel_rfl)) (fun _ _ _ h => h) (Or.inl ⟨by rfl, ?_⟩) hHeld ?_ ?_
                rotate_left
                ·
                 rintro w' ⟨s0, s1, s2, s3, s4, s5, s6, s7, s8, s9, s10, s11, s12, s13, s14, s15, s16, s17⟩
                 go_simp
                 with_reducible rfl
                rotate_left
                ·
                 simp only [Act.put, zzq, zzr, zzs, i64_w, i32_w]
                 rfl
                refine take_ (i := 15) (N := some 74) (v := ?_) (a' := ?_) #[true, true, true, true, true, true, true, true, true, true, true, true, true, true, true, true, false, false, false] rfl rfl (take_ofW HT_.out HW_.out (by kernel_rfl)) (fun _ _ _ h => h) (Or.inl ⟨by rfl, ?_⟩) hHeld ?_ ?_
                rotate_left
                ·
                 rintro w' ⟨s0, s1, s2, s3, s4, s5, s6, s7, s8, s9, s10, s11, s12, s13, s14, s15, s16, s17⟩
                 go_simp
                 with_reducible rfl
                rotate_left
                ·
                 simp only [Act.put, zzq, zzr, zzs, i64_w, i32_w]
                 rfl
                refine pure_ (i := 16) (N := some 75) (v := ?_) (a' := ?_) #[true, true, true, true, true, true, true, true, true, true, true, true, true, true, true, true, true, false, false] rfl rfl (any_of HT_.out (by kernel_rfl)) (fun _ _ _ h => h) (Or.inl ⟨by rfl, ?_⟩) ?_ ?_
                rotate_left
                ·
                 intro w'
                 go_simp
                 with_reducible rfl
                rotate_left
                ·
                 simp only [Act.put, zzq, zzr, zzs, i64_w, i32_w]
                 rfl
                refine pure_ (i := 17) (N := some 76) (v := ?_) (a' := ?_) #[true, true, true, true, true, true, true, true, true, true, true, true, true, true, true, true, true, true, false] rfl rfl (any_of HT_.out (by kernel_rfl)) (fun _ _ _ h => h) (Or.inl ⟨by rfl, ?_⟩) ?_ ?_
                rotate_left
                ·
                 intro w'
                 go_simp
                 with_reducible rfl
                rotate_left
                ·
                 simp only [Act.put, zzq, zzr, zzs, i64_w, i32_w]
                 rfl
                refine pure_ (i := 18) (N := some 77) (v := ?_) (a' := ?_) #[true, true, true, true, true, true, true, true, true, true, true, true, true, true, true, true, true, true, true] rfl rfl (any_of HT_.out (by kernel_rfl)) (fun _ _ _ h => h) (Or.inl ⟨by rfl, ?_⟩) ?_ ?_
                rotate_left
                ·
                 intro w'
                 go_simp
                 with_reducible rfl
                rotate_left
                ·
                 simp only [Act.put, zzq, zzr, zzs, i64_w, i32_w]
                 rfl
                refine done_ (done_of HT_.out (by kernel_rfl)) ?_
                try go_wp2
                go_roundg k3
                case measure => have := HJ1.out; have := HJ22.out; have := HK3.out; omega
                case rel => exact ⟨(wrap64 (x54_3 + 1)), (by first | rfl | (simp; done) | (simp [*]; done)), H', ⟨by have := HJ1.out; have := HJ22.out; have := HK3.out; omega⟩, ⟨by (with_reducible repeat (first | refine zzf ?_ _ | refine zzg ?_ | refine zze ?_ _)); exact BK146.out⟩, ⟨by repeat (first | (with_reducible first | exact HB.out | apply zza | apply zzb | apply zzc | refine zzd ?_ GE146.out | refine zzd ?_ GE152.out) | exact HB.out)⟩⟩
              ·
               rw [if_neg c40] at H
               exact absurd H (by simp)
             ·
              rw [if_neg c39] at H
              exact absurd H (by simp)
            ·
             rw [if_neg c37] at H
             have c37b0 : decide (0 < x54_3) = false := decide_eq_false c37
             clear c37
             have H' := zzm H
             clear H
             have p151 : 0 ≤ (x54_3 : Int) := of_decide_eq_true (by first | (with_reducible assumption) | assumption)
             have q151 : x54_3 < (l0_5.length : Int) := of_decide_eq_true (by first | (with_reducible assumption) | assumption)
             obtain ⟨ad151, A151_3, c151_3, A151_5, c151_5, e151, hx151_0, hx151_1, hx151_2, hx151_3, hx151_4, hx151_5, hl151_3, hi151_3, hl151_5, hi151_5⟩ := at_T34 HR0_5.out x54_3 p151 q151
             cases e151
             replace hx151_0 := (HB.out.cell (zzn w _ hx151_0)).trans hx151_0
             replace hx151_1 := (HB.out.cell (zzn w _ hx151_1)).trans hx151_1
             replace hx151_2 := (HB.out.cell (zzn w _ hx151_2)).trans hx151_2
             replace hx151_3 := (HB.out.cell (zzn w _ hx151_3)).trans hx151_3
             replace hx151_4 := (HB.out.cell (zzn w _ hx151_4)).trans hx151_4
             replace hx151_5 := (HB.out.cell (zzn w _ hx151_5)).trans hx151_5
             have HR151_3 := zzm hi151_3
             have HC151_3 := zzm hl151_3
             clear hi151_3 hl151_3
             have HR151_5 := zzm hi151_5
             have HC151_5 := zzm hl151_5
             clear hi151_5 hl151_5
             replace p151 := eq_true p151
             replace q151 := eq_true q151
             try go_wp2_with (first | ((with_reducible refine gate_dst (N := 4) rfl ?_); (try (refine gate_guard (by rfl) ?_; dsimp only)); refine box_event ?hg (N := 4) ?hd (cs := #[.int .i64 0, .int .i64 0, .bool false, .slice none 0 0, .bool false, .slice none 0 0]) (t := 34) ?hr ?_; (case hd => rfl); (case hg => rfl); (case hr => first | (go_simp; done) | (go_simp; rfl)); intro gb152 hg w54 hbox hb; have n0_ := zzm (zzh (g := gb146) (o := .cells #[.bool a0_0, .bool a0_1, .int .i64 a0_2, .int .i64 a0_3, .int .i64 a0_4, .slice (some ad151) l0_5.length c0_5] 27 (0, 0)) (by (with_reducible repeat (first | refine zzf ?_ _ | refine zzg ?_ | refine zze ?_ _)); exact BK146.out) hb); have n1_ := zzm (zzp (by repeat (first | (with_reducible first | exact HB.out | apply zza | apply zzb | apply zzc | refine zzd ?_ GE146.out) | exact HB.out)) hb); have n2_ := zzm (hbox); have n3_ := zzm ((by rw [hg]; exact (zzo (by repeat (first | (with_reducible first | exact HB.out | apply zza | apply zzb | apply zzc | refine zzd ?_ GE146.out) | exact HB.out))) : w.heap.size ≤ gb152)); have n4_ := zzm ((by rw [hg]; exact (zzo (by repeat (first | (with_reducible first | exact HB.out | apply zza | apply zzb | apply zzc | refine zzd ?_ GE146.out) | exact HB.out))) : w.heap.size ≤ gb152)); have n5_ := zzm ((by rw [hg]; exact Nat.ne_of_lt (blk_lt (g := gb146) (o := .cells #[.bool a0_0, .bool a0_1, .int .i64 a0_2, .int .i64 a0_3, .int .i64 a0_4, .slice (some ad151) l0_5.length c0_5] 27 (0, 0)) (by (with_reducible repeat (first | refine zzf ?_ _ | refine zzg ?_ | refine zze ?_ _)); exact BK146.out)) : gb146 ≠ gb152)); have n6_ := zzm ((by rw [hg]; exact Nat.ne_of_gt (blk_lt (g := gb146) (o := .cells #[.bool a0_0, .bool a0_1, .int .i64 a0_2, .int .i64 a0_3, .int .i64 a0_4, .slice (some ad151) l0_5.length c0_5] 27 (0, 0)) (by (with_reducible repeat (first | refine zzf ?_ _ | refine zzg ?_ | refine zze ?_ _)); exact BK146.out)) : gb152 ≠ gb146)); clear BK146 HB; have BK146 := n0_; have HB := n1_; have BK152 := n2_; have GW152 := n3_; have GE152 := n4_; have NB146_152 := n5_; have NB152_146 := n6_; clear n0_ n1_ n2_ n3_ n4_ n5_ n6_ hb hbox hg; have hnb55 := NB152_146.out; have hnc55 := NB146_152.out; obtain ⟨hcz56_0, hcz56_1, hcz56_2, hcz56_3, hcz56_4, hcz56_5, hfz56_0, hfz56_1, hfz56_2, hfz56_3, hfz56_4, hfz56_5⟩ := zzc6 BK152.out))
             have n0_ : Aside0 (((((((w54.setCell ⟨gb152, 0, none⟩ (.int .i64 ((rd_T34 l0_5 x54_3).f0))).setCell ⟨gb152, 1, none⟩ (.int .i64 ((rd_T34 l0_5 x54_3).f1))).setCell ⟨gb152, 2, none⟩ (.bool ((rd_T34 l0_5 x54_3).f2))).setCell ⟨gb152, 3, none⟩ (.slice A151_3 ((rd_T34 l0_5 x54_3).f3).length c151_3)).setCell ⟨gb152, 4, none⟩ (.bool ((rd_T34 l0_5 x54_3).f4))).setCell ⟨gb152, 5, none⟩ (.slice A151_5 ((rd_T34 l0_5 x54_3).f5).length c151_5)).heap[gb146]? = some (.cells #[.bool a0_0, .bool a0_1, .int .i64 a0_2, .int .i64 a0_3, .int .i64 a0_4, .slice (some ad151) l0_5.length c0_5] 27 (0, 0))) := ⟨by (with_reducible repeat (first | refine zzf ?_ _ | refine zzg ?_ | refine zze ?_ _)); refine zzj ?_ NB146_152.out _; (with_reducible repeat (first | refine zzf ?_ _ | refine zzg ?_ | refine zze ?_ _)); refine zzj ?_ NB146_152.out _; (with_reducible repeat (first | refine zzf ?_ _ | refine zzg ?_ | refine zze ?_ _)); refine zzj ?_ NB146_152.out _; (with_reducible repeat (first | refine zzf ?_ _ | refine zzg ?_ | refine zze ?_ _)); refine zzj ?_ NB146_152.out _; (with_reducible repeat (first | refine zzf ?_ _ | refine zzg ?_ | refine zze ?_ _)); refine zzj ?_ NB146_152.out _; (with_reducible repeat (first | refine zzf ?_ _ | refine zzg ?_ | refine zze ?_ _)); refine zzj ?_ NB146_152.out _; (with_reducible repeat (first | refine zzf ?_ _ | refine zzg ?_ | refine zze ?_ _)); exact BK146.out⟩
             have n1_ : Aside0 (((((((w54.setCell ⟨gb152, 0, none⟩ (.int .i64 ((rd_T34 l0_5 x54_3).f0))).setCell ⟨gb152, 1, none⟩ (.int .i64 ((rd_T34 l0_5 x54_3).f1))).setCell ⟨gb152, 2, none⟩ (.bool ((rd_T34 l0_5 x54_3).f2))).setCell ⟨gb152, 3, none⟩ (.slice A151_3 ((rd_T34 l0_5 x54_3).f3).length c151_3)).setCell ⟨gb152, 4, none⟩ (.bool ((rd_T34 l0_5 x54_3).f4))).setCell ⟨gb152, 5, none⟩ (.slice A151_5 ((rd_T34 l0_5 x54_3).f5).length c151_5)).heap[gb152]? = some (.cells #[.int .i64 ((rd_T34 l0_5 x54_3).f0), .int .i64 ((rd_T34 l0_5 x54_3).f1), .bool ((rd_T34 l0_5 x54_3).f2), .slice A151_3 ((rd_T34 l0_5 x54_3).f3).length c151_3, .bool ((rd_T34 l0_5 x54_3).f4), .slice A151_5 ((rd_T34 l0_5 x54_3).f5).length c151_5] 34 (0, 0))) := ⟨by (with_reducible repeat (first | refine zzf ?_ _ | refine zzg ?_ | refine zze ?_ _)); refine zzi (cs := #[.int .i64 ((rd_T34 l0_5 x54_3).f0), .int .i64 ((rd_T34 l0_5 x54_3).f1), .bool ((rd_T34 l0_5 x54_3).f2), .slice A151_3 ((rd_T34 l0_5 x54_3).f3).length c151_3, .bool ((rd_T34 l0_5 x54_3).f4), .slice none 0 0]) ?_ 5 _ rfl; (with_reducible repeat (first | refine zzf ?_ _ | refine zzg ?_ | refine zze ?_ _)); refine zzi (cs := #[.int .i64 ((rd_T34 l0_5 x54_3).f0), .int .i64 ((rd_T34 l0_5 x54_3).f1), .bool ((rd_T34 l0_5 x54_3).f2), .slice A151_3 ((rd_T34 l0_5 x54_3).f3).length c151_3, .bool false, .slice none 0 0]) ?_ 4 _ rfl; (with_reducible repeat (first | refine zzf ?_ _ | refine zzg ?_ | refine zze ?_ _)); refine zzi (cs := #[.int .i64 ((rd_T34 l0_5 x54_3).f0), .int .i64 ((rd_T34 l0_5 x54_3).f1), .bool ((rd_T34 l0_5 x54_3).f2), .slice none 0 0, .bool false, .slice none 0 0]) ?_ 3 _ rfl; (with_reducible repeat (first | refine zzf ?_ _ | refine zzg ?_ | refine zze ?_ _)); refine zzi (cs := #[.int .i64 ((rd_T34 l0_5 x54_3).f0), .int .i64 ((rd_T34 l0_5 x54_3).f1), .bool false, .slice none 0 0, .bool false, .slice none 0 0]) ?_ 2 _ rfl; (with_reducible repeat (first | refine zzf ?_ _ | refine zzg ?_ | refine zze ?_ _)); refine zzi (cs := #[.int .i64 ((rd_T34 l0_5 x54_3).f0), .int .i64 0, .bool false, .slice none 0 0, .bool false, .slice none 0 0]) ?_ 1 _ rfl; (with_reducible repeat (first | refine zzf ?_ _ | refine zzg ?_ | refine zze ?_ _)); refine zzi (cs := #[.int .i64 0, .int .i64 0, .bool false, .slice none 0 0, .bool false, .slice none 0 0]) ?_ 0 _ rfl; (with_reducible repeat (first | refine zzf ?_ _ | refine zzg ?_ | refine zze ?_ _)); exact BK152.out⟩
             have n2_ : Aside0 (Below w.heap.size w ((((((w54.setCell ⟨gb152, 0, none⟩ (.int .i64 ((rd_T34 l0_5 x54_3).f0))).setCell ⟨gb152, 1, none⟩ (.int .i64 ((rd_T34 l0_5 x54_3).f1))).setCell ⟨gb152, 2, none⟩ (.bool ((rd_T34 l0_5 x54_3).f2))).setCell ⟨gb152, 3, none⟩ (.slice A151_3 ((rd_T34 l0_5 x54_3).f3).length c151_3)).setCell ⟨gb152, 4, none⟩ (.bool ((rd_T34 l0_5 x54_3).f4))).setCell ⟨gb152, 5, none⟩ (.slice A151_5 ((rd_T34 l0_5 x54_3).f5).length c151_5))) := ⟨by repeat (first | (with_reducible first | exact HB.out | apply zza | apply zzb | apply zzc | refine zzd ?_ GE146.out | refine zzd ?_ GE152.out) | exact HB.out)⟩
             (try clear BK146)
             (try clear BK152)
             (try clear HB)
             generalize ((((((w54.setCell ⟨gb152, 0, none⟩ (.int .i64 ((rd_T34 l0_5 x54_3).f0))).setCell ⟨gb152, 1, none⟩ (.int .i64 ((rd_T34 l0_5 x54_3).f1))).setCell ⟨gb152, 2, none⟩ (.bool ((rd_T34 l0_5 x54_3).f2))).setCell ⟨gb152, 3, none⟩ (.slice A151_3 ((rd_T34 l0_5 x54_3).f3).length c151_3)).setCell ⟨gb152, 4, none⟩ (.bool ((rd_T34 l0_5 x54_3).f4))).setCell ⟨gb152, 5, none⟩ (.slice A151_5 ((rd_T34 l0_5 x54_3).f5).length c151_5)) = w57 at n0_ n1_ n2_ ⊢
             have BK146 := n0_
             have BK152 := n1_
             have HB := n2_
             clear n0_ n1_ n2_
             have n0_ := zzm (zzg BK146.out)
             have n1_ := zzm (zzg BK152.out)
             have n2_ := zzm (zzc HB.out)
             clear BK146
             clear BK152
             clear HB
             have BK146 := n0_
             have BK152 := n1_
             have HB := n2_
             clear n0_ n1_ n2_
             refine start_ (n := 19) (S := fun w' => w'.cell? ⟨gb152, 0, none⟩ = some (.int .i64 ((rd_T34 l0_5 x54_3).f0)) ∧ w'.cell? ⟨gb152, 1, none⟩ = some (.int .i64 ((rd_T34 l0_5 x54_3).f1)) ∧ w'.cell? ⟨gb152, 2, none⟩ = some (.bool ((rd_T34 l0_5 x54_3).f2)) ∧ w'.cell? ⟨gb152, 3, none⟩ = some (.slice A151_3 ((rd_T34 l0_5 x54_3).f3).length c151_3) ∧ w'.cell? ⟨gb152, 4, none⟩ = some (.bool ((rd_T34 l0_5 x54_3).f4)) ∧ w'.cell? ⟨gb152, 5, none⟩ = some (.slice A151_5 ((rd_T34 l0_5 x54_3).f5).length c151_5)) (ds := []) #[false, false, false, false, false, false, false, false, false, false, false, false, false, false, false, false, false, false, false] (by kernel_rfl) rfl rfl ⟨(zzk BK152.out 0).trans rfl, (zzk BK152.out 1).trans rfl, (zzk BK152.out 2).trans rfl, (zzk BK152.out 3).trans rfl, (zzk BK152.out 4).trans rfl, (zzk BK152.out 5).trans rfl⟩ (fun hHeld => ?_); refine with_tabW impl_BatchValid.tab11 impl_BatchValid.bits11 (fun HT_ HW_ => ?_)
             generalize w57.drew = w58 at BK146 BK152 HB hHeld ⊢
             refine take_ (i := 0) (N := some 59) (v := ?_) (a' := ?_) #[true, false, false, false, false, false, false, false, false, false, false, false, false, false, false, false, false, false, false] rfl rfl (take_ofW HT_.out HW_.out (by kernel_rfl)) (fun _ _ _ h => h) (Or.inl ⟨by rfl, ?_⟩) hHeld ?_ ?_
             rotate_left
             ·
              rintro w' ⟨s0, s1, s2, s3, s4, s5⟩
              go_simp
              with_reducible rfl
             rotate_left
             ·
              simp only [Act.put, zzq, zzr, zzs, i64_w, i32_w]
              rfl
             refine one_ (i := 1) (N := some 60) #[true, true, false, false, false, false, false, false, false, false, false, false, false, false, false, false, false, false, false] rfl rfl (one_of HT_.out (by kernel_rfl)) (by decide) (fun K hK => ?_)
             refine goes_ Try.func58 (by kernel_rfl) rfl #[.agg #[.int .i64 ((rd_T34 l0_5 x54_3).f0), .int .i64 ((rd_T34 l0_5 x54_3).f1), .bool ((rd_T34 l0_5 x54_3).f2), .slice A151_3 ((rd_T34 l0_5 x54_3).f3).length c151_3, .bool ((rd_T34 l0_5 x54_3).f4), .slice A151_5 ((rd_T34 l0_5 x54_3).f5).length c151_5]] (by rfl) rfl rfl (by (try simp only [List.map_toArray, List.map_cons, List.map_nil]); first | done | rfl | (simp only [List.length_drop, List.length_take]; rfl)) ?_
             with_reducible refine (impl_RecordValid.calls k3 ((rd_T34 l0_5 x54_3).f0) ((rd_T34 l0_5 x54_3).f1) ((rd_T34 l0_5 x54_3).f2) _ _ ((rd_T34 l0_5 x54_3).f3) ((rd_T34 l0_5 x54_3).f4) _ _ ((rd_T34 l0_5 x54_3).f5) true _ ?side1 ?side2 ?side3 ?side4 A35.out).mono ?_
             (case side1 => repeat (first | exact (Kd.C_below HR151_3.out HB.out) | (with_reducible refine Kd.C_alloc ?_ _) | (with_reducible refine Kd.C_drewN ?_ _) | (with_reducible refine Kd.C_drew ?_)))
             (case side2 => exact HC151_3.out)
             (case side3 => repeat (first | exact (Kd.C_below HR151_5.out HB.out) | (with_reducible refine Kd.C_alloc ?_ _) | (with_reducible refine Kd.C_drewN ?_ _) | (with_reducible refine Kd.C_drew ?_)))
             (case side4 => exact HC151_5.out)
             rintro e w59 ⟨rfl, hb⟩
             refine ⟨_, rfl, ?_⟩
             have n0_ := zzm (zzh (g := gb146) (o := .cells #[.bool a0_0, .bool a0_1, .int .i64 a0_2, .int .i64 a0_3, .int .i64 a0_4, .slice (some ad151) l0_5.length c0_5] 27 (0, 0)) (by (with_reducible repeat (first | refine zzf ?_ _ | refine zzg ?_ | refine zze ?_ _)); exact BK146.out) hb)
             have n1_ := zzm (zzh (g := gb152) (o := .cells #[.int .i64 ((rd_T34 l0_5 x54_3).f0), .int .i64 ((rd_T34 l0_5 x54_3).f1), .bool ((rd_T34 l0_5 x54_3).f2), .slice A151_3 ((rd_T34 l0_5 x54_3).f3).length c151_3, .bool ((rd_T34 l0_5 x54_3).f4), .slice A151_5 ((rd_T34 l0_5 x54_3).f5).length c151_5] 34 (0, 0)) (by (with_reducible repeat (first | refine zzf ?_ _ | refine zzg ?_ | refine zze ?_ _)); exact BK152.out) hb)
             have n2_ := zzm (zzp (by repeat (first | (with_reducible first | exact HB.out | apply zza | apply zzb | apply zzc | refine zzd ?_ GE146.out | refine zzd ?_ GE152.out) | exact HB.out)) hb)
             clear BK146
             clear BK152
             clear HB
             have BK146 := n0_
             have BK152 := n1_
             have HB := n2_
             clear n0_ n1_ n2_
             (try clear hb)
             (try clear hb2)
             (try clear hk)
             (try clear hi)
             refine hK.out _ _ ⟨(zzk BK152.out 0).trans rfl, (zzk BK152.out 1).trans rfl, (zzk BK152.out 2).trans rfl, (zzk BK152.out 3).trans rfl, (zzk BK152.out 4).trans rfl, (zzk BK152.out 5).trans rfl⟩ (fun hHeld => ?_)
             clear hK K
             refine norm_ (a' := ?_) ?_ ?_
             rotate_left
             ·
              show Act.put _ (some 60) _ = _
              simp only [Act.put, zzq, zzr, zzs, i64_w, i32_w]
              rfl
             refine pure_ (i := 2) (N := some 61) (v := ?_) (a' := ?_) #[true, true, true, false, false, false, false, false, false, false, false, false, false, false, false, false, false, false, false] rfl rfl (any_of HT_.out (by kernel_rfl)) (fun _ _ _ h => h) (Or.inl ⟨by rfl, ?_⟩) ?_ ?_
             rotate_left
             ·
              intro w'
              go_simp
              with_reducible rfl
             rotate_left
             ·
              simp only [Act.put, zzq, zzr, zzs, i64_w, i32_w]
              rfl
             refine pure_ (i := 3) (N := some 62) (v := ?_) (a' := ?_) #[true, true, true, true, false, false, false, false, false, false, false, false, false, false, false, false, false, false, false] rfl rfl (any_of HT_.out (by kernel_rfl)) (fun _ _ _ h => h) (Or.inl ⟨by rfl, ?_⟩) ?_ ?_
             rotate_left
             ·
              intro w'
              go_simp
              with_reducible rfl
             rotate_left
             ·
              simp only [Act.put, zzq, zzr, zzs, i64_w, i32_w]
              rfl
             refine pure_ (i := 4) (N := some 63) (v := ?_) (a' := ?_) #[true, true, true, true, true, false, false, false, false, false, false, false, false, false, false, false, false, false, false] rfl rfl (any_of HT_.out (by kernel_rfl)) (fun _ _ _ h => h) (Or.inl ⟨by rfl, ?_⟩) ?_ ?_
             rotate_left
             ·
              intro w'
              go_simp
              with_reducible rfl
             rotate_left
             ·
              simp only [Act.put, zzq, zzr, zzs, i64_w, i32_w]
              rfl
             refine pure_ (i := 5) (N := some 64) (v := ?_) (a' := ?_) #[true, true, true, true, true, true, false, false, false, false, false, false, false, false, false, false, false, false, false] rfl rfl (any_of HT_.out (by kernel_rfl)) (fun _ _ _ h => h) (Or.inl ⟨by rfl, ?_⟩) ?_ ?_
             rotate_left
             ·
              intro w'
              go_simp
              with_reducible rfl
             rotate_left
             ·
              simp only [Act.put, zzq, zzr, zzs, i64_w, i32_w]
              rfl
             refine pure_ (i := 6) (N := some 65) (v := ?_) (a' := ?_) #[true, true, true, true, true, true, true, false, false, false, false, false, false, false, false, false, false, false, false] rfl rfl (any_of HT_.out (by kernel_rfl)) (fun _ _ _ h => h) (Or.inl ⟨by rfl, ?_⟩) ?_ ?_
             rotate_left
             ·
              intro w'
              go_simp
              with_reducible rfl
             rotate_left
             ·
              simp only [Act.put, zzq, zzr, zzs, i64_w, i32_w]
              rfl
             refine pure_ (i := 7) (N := some 66) (v := undef) (a' := ?_) #[true, true, true, true, true, true, true, true, false, false, false, false, false, false, false, false, false, false, false] rfl rfl (any_of HT_.out (by kernel_rfl)) (fun _ _ _ h => h) (Or.inr ⟨by rfl, rfl⟩) ?_ ?_
             rotate_left
             ·
              simp only [Act.put, zzq, zzr, zzs, i64_w, i32_w]
              rfl
             refine pure_ (i := 8) (N := some 67) (v := undef) (a' := ?_) #[true, true, true, true, true, true, true, true, true, false, false, false, false, false, false, false, false, false, false] rfl rfl (any_of HT_.out (by kernel_rfl)) (fun _ _ _ h => h) (Or.inr ⟨by rfl, rfl⟩) ?_ ?_
             rotate_left
             ·
              simp only [Act.put, zzq, zzr, zzs, i64_w, i32_w]
              rfl
             refine pure_ (i := 9) (N := some 68) (v := undef) (a' := ?_) #[true, true, true, true, true, true, true, true, true, true, false, false, false, false, false, false, false, false, false] rfl rfl (any_of HT_.out (by kernel_rfl)) (fun _ _ _ h => h) (Or.inr ⟨by rfl, rfl⟩) ?_ ?_
             rotate_left
             ·
              simp only [Act.put, zzq, zzr, zzs, i64_w, i32_w]
              rfl
             refine pure_ (i := 10) (N := some 69) (v := undef) (a' := ?_) #[true, true, true, true, true, true, true, true, true, true, true, false, false, false, false, false, false, false, false] rfl rfl (any_of HT_.out (by kernel_rfl)) (fun _ _ _ h => h) (Or.inr ⟨by rfl, rfl⟩) ?_ ?_
             rotate_left
             ·
              simp only [Act.put, zzq, zzr, zzs, i64_w, i32_w]
              rfl
             refine pure_ (i := 11) (N := some 70) (v := undef) (a' := ?_) #[true, true, true, true, true, true, true, true, true, true, true, true, false, false, false, false, false, false, false] rfl rfl (any_of HT_.out (by kernel_rfl)) (fun _ _ _ h => h) (Or.inr ⟨by rfl, rfl⟩) ?_ ?_
             rotate_left
             ·
              simp only [Act.put, zzq, zzr, zzs, i64_w, i32_w]
              rfl
             refine pure_ (i := 12) (N := some 71) (v := undef) (a' := ?_) #[true, true, true, true, true, true, true, true, true, true, true, true, true, false, false, false, false, false, false] rfl rfl (any_of HT_.out (by kernel_rfl)) (fun _ _ _ h => h) (Or.inr ⟨by rfl, rfl⟩) ?_ ?_
             rotate_left
             ·
              simp only [Act.put, zzq, zzr, zzs, i64_w, i32_w]
              rfl
             refine pure_ (i := 13) (N := some 72) (v := undef) (a' := ?_) #[true, true, true, true, true, true, true, true, true, true, true, true, true, true, false, false, false, false, false] rfl rfl (any_of HT_.out (by kernel_rfl)) (fun _ _ _ h => h) (Or.inr ⟨by rfl, rfl⟩) ?_ ?_
             rotate_left
             ·
              simp only [Act.put, zzq, zzr, zzs, i64_w, i32_w]
              rfl
             refine pure_ (i := 14) (N := some 73) (v := undef) (a' := ?_) #[true, true, true, true, true, true, true, true, true, true, true, true, true, true, true, false, false, false, false] rfl rfl (any_of HT_.out (by kernel_rfl)) (fun _ _ _ h => h) (Or.inr ⟨by rfl, rfl⟩) ?_ ?_
             rotate_left
             ·
              simp only [Act.put, zzq, zzr, zzs, i64_w, i32_w]
              rfl
             refine pure_ (i := 15) (N := some 74) (v := undef) (a' := ?_) #[true, true, true, true, true, true, true, true, true, true, true, true, true, true, true, true, false, false, false] rfl rfl (any_of HT_.out (by kernel_rfl)) (fun _ _ _ h => h) (Or.inr ⟨by rfl, rfl⟩) ?_ ?_
             rotate_left
             ·
              simp only [Act.put, zzq, zzr, zzs, i64_w, i32_w]
              rfl
             refine pure_ (i := 16) (N := some 75) (v := undef) (a' := ?_) #[true, true, true, true, true, true, true, true, true, true, true, true, true, true, true, true, true, false, false] rfl rfl (any_of HT_.out (by kernel_rfl)) (fun _ _ _ h => h) (Or.inr ⟨by rfl, rfl⟩) ?_ ?_
             rotate_left
             ·
              simp only [Act.put, zzq, zzr, zzs, i64_w, i32_w]
              rfl
             refine pure_ (i := 17) (N := some 76) (v := ?_) (a' := ?_) #[true, true, true, true, true, true, true, true, true, true, true, true, true, true, true, true, true, true, false] rfl rfl (any_of HT_.out (by kernel_rfl)) (fun _ _ _ h => h) (Or.inl ⟨by rfl, ?_⟩) ?_ ?_
             rotate_left
             ·
              intro w'
              go_simp
              with_reducible rfl
             rotate_left
             ·
              simp only [Act.put, zzq, zzr, zzs, i64_w, i32_w]
              rfl
             refine pure_ (i := 18) (N := some 77) (v := ?_) (a' := ?_) #[true, true, true, true, true, true, true, true, true, true, true, true, true, true, true, true, true, true, true] rfl rfl (any_of HT_.out (by kernel_rfl)) (fun _ _ _ h => h) (Or.inl ⟨by rfl, ?_⟩) ?_ ?_
             rotate_left
             ·
              intro w'
              go_simp
              with_reducible rfl
             rotate_left
             ·
              simp only [Act.put, zzq, zzr, zzs, i64_w, i32_w]
              rfl
             refine done_ (done_of HT_.out (by kernel_rfl)) ?_
             try go_wp2
             go_roundg k3
             case measure => have := HJ1.out; have := HJ22.out; have := HK3.out; omega
             case rel => exact ⟨(wrap64 (x54_3 + 1)), (by first | rfl | (simp; done) | (simp [*]; done)), H', ⟨by have := HJ1.out; have := HJ22.out; have := HK3.out; omega⟩, ⟨by (with_reducible repeat (first | refine zzf ?_ _ | refine zzg ?_ | refine zze ?_ _)); exact BK146.out⟩, ⟨by repeat (first | (with_reducible first | exact HB.out | apply zza | apply zzb | apply zzc | refine zzd ?_ GE146.out | refine zzd ?_ GE152.out) | exact HB.out)⟩⟩
           ·
            replace c36 := Bool.eq_false_iff.mpr c36
            subst c36
            have H1 : (some false) = some r := by rw [if_neg (show ¬ (false = true) by decide)] at H; exact H
            clear H
            have H := H1
            clear H1
            obtain rfl := Option.some.inj H
            have p151 : 0 ≤ (x54_3 : Int) := of_decide_eq_true (by first | (with_reducible assumption) | assumption)
            have q151 : x54_3 < (l0_5.length : Int) := of_decide_eq_true (by first | (with_reducible assumption) | assumption)
            obtain ⟨ad151, A151_3, c151_3, A151_5, c151_5, e151, hx151_0, hx151_1, hx151_2, hx151_3, hx151_4, hx151_5, hl151_3, hi151_3, hl151_5, hi151_5⟩ := at_T34 HR0_5.out x54_3 p151 q151
            cases e151
            replace hx151_0 := (HB.out.cell (zzn w _ hx151_0)).trans hx151_0
            replace hx151_1 := (HB.out.cell (zzn w _ hx151_1)).trans hx151_1
            replace hx151_2 := (HB.out.cell (zzn w _ hx151_2)).trans hx151_2
            replace hx151_3 := (HB.out.cell (zzn w _ hx151_3)).trans hx151_3
            replace hx151_4 := (HB.out.cell (zzn w _ hx151_4)).trans hx151_4
            replace hx151_5 := (HB.out.cell (zzn w _ hx151_5)).trans hx151_5
            have HR151_3 := zzm hi151_3
            have HC151_3 := zzm hl151_3
            clear hi151_3 hl151_3
            have HR151_5 := zzm hi151_5
            have HC151_5 := zzm hl151_5
            clear hi151_5 hl151_5
            replace p151 := eq_true p151
            replace q151 := eq_true q151
            try go_wp2_with (first | ((with_reducible refine gate_dst (N := 4) rfl ?_); (try (refine gate_guard (by rfl) ?_; dsimp only)); refine box_event ?hg (N := 4) ?hd (cs := #[.int .i64 0, .int .i64 0, .bool false, .slice none 0 0, .bool false, .slice none 0 0]) (t := 34) ?hr ?_; (case hd => rfl); (case hg => rfl); (case hr => first | (go_simp; done) | (go_simp; rfl)); intro gb152 hg w60 hbox hb; have n0_ := zzm (zzh (g := gb146) (o := .cells #[.bool a0_0, .bool a0_1, .int .i64 a0_2, .int .i64 a0_3, .int .i64 a0_4, .slice (some ad151) l0_5.length c0_5] 27 (0, 0)) (by (with_reducible repeat (first | refine zzf ?_ _ | refine zzg ?_ | refine zze ?_ _)); exact BK146.out) hb); have n1_ := zzm (zzp (by repeat (first | (with_reducible first | exact HB.out | apply zza | apply zzb | apply zzc | refine zzd ?_ GE146.out) | exact HB.out)) hb); have n2_ := zzm (hbox); have n3_ := zzm ((by rw [hg]; exact (zzo (by repeat (first | (with_reducible first | exact HB.out | apply zza | apply zzb | apply zzc | refine zzd ?_ GE146.out) | exact HB.out))) : w.heap.size ≤ gb152)); have n4_ := zzm ((by rw [hg]; exact (zzo (by repeat (first | (with_reducible first | exact HB.out | apply zza | apply zzb | apply zzc | refine zzd ?_ GE146.out) | exact HB.out))) : w.heap.size ≤ gb152)); have n5_ := zzm ((by rw [hg]; exact Nat.ne_of_lt (blk_lt (g := gb146) (o := .cells #[.bool a0_0, .bool a0_1, .int .i64 a0_2, .int .i64 a0_3, .int .i64 a0_4, .slice (some ad151) l0_5.length c0_5] 27 (0, 0)) (by (with_reducible repeat (first | refine zzf ?_ _ | refine zzg ?_ | refine zze ?_ _)); exact BK146.out)) : gb146 ≠ gb152)); have n6_ := zzm ((by rw [hg]; exact Nat.ne_of_gt (blk_lt (g := gb146) (o := .cells #[.bool a0_0, .bool a0_1, .int .i64 a0_2, .int .i64 a0_3, .int .i64 a0_4, .slice (some ad151) l0_5.length c0_5] 27 (0, 0)) (by (with_reducible repeat (first | refine zzf ?_ _ | refine zzg ?_ | refine zze ?_ _)); exact BK146.out)) : gb152 ≠ gb146)); clear BK146 HB; have BK146 := n0_; have HB := n1_; have BK152 := n2_; have GW152 := n3_; have GE152 := n4_; have NB146_152 := n5_; have NB152_146 := n6_; clear n0_ n1_ n2_ n3_ n4_ n5_ n6_ hb hbox hg; have hnb61 := NB152_146.out; have hnc61 := NB146_152.out; obtain ⟨hcz62_0, hcz62_1, hcz62_2, hcz62_3, hcz62_4, hcz62_5, hfz62_0, hfz62_1, hfz62_2, hfz62_3, hfz62_4, hfz62_5⟩ := zzc6 BK152.out))
            have n0_ : Aside0 (((((((w60.setCell ⟨gb152, 0, none⟩ (.int .i64 ((rd_T34 l0_5 x54_3).f0))).setCell ⟨gb152, 1, none⟩ (.int .i64 ((rd_T34 l0_5 x54_3).f1))).setCell ⟨gb152, 2, none⟩ (.bool ((rd_T34 l0_5 x54_3).f2))).setCell ⟨gb152, 3, none⟩ (.slice A151_3 ((rd_T34 l0_5 x54_3).f3).length c151_3)).setCell ⟨gb152, 4, none⟩ (.bool ((rd_T34 l0_5 x54_3).f4))).setCell ⟨gb152, 5, none⟩ (.slice A151_5 ((rd_T34 l0_5 x54_3).f5).length c151_5)).heap[gb146]? = some (.cells #[.bool a0_0, .bool a0_1, .int .i64 a0_2, .int .i64 a0_3, .int .i64 a0_4, .slice (some ad151) l0_5.length c0_5] 27 (0, 0))) := ⟨by (with_reducible repeat (first | refine zzf ?_ _ | refine zzg ?_ | refine zze ?_ _)); refine zzj ?_ NB146_152.out _; (with_reducible repeat (first | refine zzf ?_ _ | refine zzg ?_ | refine zze ?_ _)); refine zzj ?_ NB146_152.out _; (with_reducible repeat (first | refine zzf ?_ _ | refine zzg ?_ | refine zze ?_ _)); refine zzj ?_ NB146_152.out _; (with_reducible repeat (first | refine zzf ?_ _ | refine zzg ?_ | refine zze ?_ _)); refine zzj ?_ NB146_152.out _; (with_reducible repeat (first | refine zzf ?_ _ | refine zzg ?_ | refine zze ?_ _)); refine zzj ?_ NB146_152.out _; (with_reducible repeat (first | refine zzf ?_ _ | refine zzg ?_ | refine zze ?_ _)); refine zzj ?_ NB146_152.out _; (with_reducible repeat (first | refine zzf ?_ _ | refine zzg ?_ | refine zze ?_ _)); exact BK146.out⟩
            have n1_ : Aside0 (((((((w60.setCell ⟨gb152, 0, none⟩ (.int .i64 ((rd_T34 l0_5 x54_3).f0))).setCell ⟨gb152, 1, none⟩ (.int .i64 ((rd_T34 l0_5 x54_3).f1))).setCell ⟨gb152, 2, none⟩ (.bool ((rd_T34 l0_5 x54_3).f2))).setCell ⟨gb152, 3, none⟩ (.slice A151_3 ((rd_T34 l0_5 x54_3).f3).length c151_3)).setCell ⟨gb152, 4, none⟩ (.bool ((rd_T34 l0_5 x54_3).f4))).setCell ⟨gb152, 5, none⟩ (.slice A151_5 ((rd_T34 l0_5 x54_3).f5).length c151_5)).heap[gb152]? = some (.cells #[.int .i64 ((rd_T34 l0_5 x54_3).f0), .int .i64 ((rd_T34 l0_5 x54_3).f1), .bool ((rd_T34 l0_5 x54_3).f2), .slice A151_3 ((rd_T34 l0_5 x54_3).f3).length c151_3, .bool ((rd_T34 l0_5 x54_3).f4), .slice A151_5 ((rd_T34 l0_5 x54_3).f5).length c151_5] 34 (0, 0))) := ⟨by (with_reducible repeat (first | refine zzf ?_ _ | refine zzg ?_ | refine zze ?_ _)); refine zzi (cs := #[.int .i64 ((rd_T34 l0_5 x54_3).f0), .int .i64 ((rd_T34 l0_5 x54_3).f1), .bool ((rd_T34 l0_5 x54_3).f2), .slice A151_3 ((rd_T34 l0_5 x54_3).f3).length c151_3, .bool ((rd_T34 l0_5 x54_3).f4), .slice none 0 0]) ?_ 5 _ rfl; (with_reducible repeat (first | refine zzf ?_ _ | refine zzg ?_ | refine zze ?_ _)); refine zzi (cs := #[.int .i64 ((rd_T34 l0_5 x54_3).f0), .int .i64 ((rd_T34 l0_5 x54_3).f1), .bool ((rd_T34 l0_5 x54_3).f2), .slice A151_3 ((rd_T34 l0_5 x54_3).f3).length c151_3, .bool false, .slice none 0 0]) ?_ 4 _ rfl; (with_reducible repeat (first | refine zzf ?_ _ | refine zzg ?_ | refine zze ?_ _)); refine zzi (cs := #[.int .i64 ((rd_T34 l0_5 x54_3).f0), .int .i64 ((rd_T34 l0_5 x54_3).f1), .bool ((rd_T34 l0_5 x54_3).f2), .slice none 0 0, .bool false, .slice none 0 0]) ?_ 3 _ rfl; (with_reducible repeat (first | refine zzf ?_ _ | refine zzg ?_ | refine zze ?_ _)); refine zzi (cs := #[.int .i64 ((rd_T34 l0_5 x54_3).f0), .int .i64 ((rd_T34 l0_5 x54_3).f1), .bool false, .slice none 0 0, .bool false, .slice none 0 0]) ?_ 2 _ rfl; (with_reducible repeat (first | refine zzf ?_ _ | refine zzg ?_ | refine zze ?_ _)); refine zzi (cs := #[.int .i64 ((rd_T34 l0_5 x54_3).f0), .int .i64 0, .bool false, .slice none 0 0, .bool false, .slice none 0 0]) ?_ 1 _ rfl; (with_reducible repeat (first | refine zzf ?_ _ | refine zzg ?_ | refine zze ?_ _)); refine zzi (cs := #[.int .i64 0, .int .i64 0, .bool false, .slice none 0 0, .bool false, .slice none 0 0]) ?_ 0 _ rfl; (with_reducible repeat (first | refine zzf ?_ _ | refine zzg ?_ | refine zze ?_ _)); exact BK152.out⟩
            have n2_ : Aside0 (Below w.heap.size w ((((((w60.setCell ⟨gb152, 0, none⟩ (.int .i64 ((rd_T34 l0_5 x54_3).f0))).setCell ⟨gb152, 1, none⟩ (.int .i64 ((rd_T34 l0_5 x54_3).f1))).setCell ⟨gb152, 2, none⟩ (.bool ((rd_T34 l0_5 x54_3).f2))).setCell ⟨gb152, 3, none⟩ (.slice A151_3 ((rd_T34 l0_5 x54_3).f3).length c151_3)).setCell ⟨gb152, 4, none⟩ (.bool ((rd_T34 l0_5 x54_3).f4))).setCell ⟨gb152, 5, none⟩ (.slice A151_5 ((rd_T34 l0_5 x54_3).f5).length c151_5))) := ⟨by repeat (first | (with_reducible first | exact HB.out | apply zza | apply zzb | apply zzc | refine zzd ?_ GE146.out | refine zzd ?_ GE152.out) | exact HB.out)⟩
            (try clear BK146)
            (try clear BK152)
            (try clear HB)
            generalize ((((((w60.setCell ⟨gb152, 0, none⟩ (.int .i64 ((rd_T34 l0_5 x54_3).f0))).setCell ⟨gb152, 1, none⟩ (.int .i64 ((rd_T34 l0_5 x54_3).f1))).setCell ⟨gb152, 2, none⟩ (.bool ((rd_T34 l0_5 x54_3).f2))).setCell ⟨gb152, 3, none⟩ (.slice A151_3 ((rd_T34 l0_5 x54_3).f3).length c151_3)).setCell ⟨gb152, 4, none⟩ (.bool ((rd_T34 l0_5 x54_3).f4))).setCell ⟨gb152, 5, none⟩ (.slice A151_5 ((rd_T34 l0_5 x54_3).f5).length c151_5)) = w63 at n0_ n1_ n2_ ⊢
            have BK146 := n0_
            have BK152 := n1_
            have HB := n2_
            clear n0_ n1_ n2_
            have n0_ := zzm (zzg BK146.out)
            have n1_ := zzm (zzg BK152.out)
            have n2_ := zzm (zzc HB.out)
            clear BK146
            clear BK152
            clear HB
            have BK146 := n0_
            have BK152 := n1_
            have HB := n2_
            clear n0_ n1_ n2_
            refine start_ (n := 19) (S := fun w' => w'.cell? ⟨gb152, 0, none⟩ = some (.int .i64 ((rd_T34 l0_5 x54_3).f0)) ∧ w'.cell? ⟨gb152, 1, none⟩ = some (.int .i64 ((rd_T34 l0_5 x54_3).f1)) ∧ w'.cell? ⟨gb152, 2, none⟩ = some (.bool ((rd_T34 l0_5 x54_3).f2)) ∧ w'.cell? ⟨gb152, 3, none⟩ = some (.slice A151_3 ((rd_T34 l0_5 x54_3).f3).length c151_3) ∧ w'.cell? ⟨gb152, 4, none⟩ = some (.bool ((rd_T34 l0_5 x54_3).f4)) ∧ w'.cell? ⟨gb152, 5, none⟩ = some (.slice A151_5 ((rd_T34 l0_5 x54_3).f5).length c151_5)) (ds := []) #[false, false, false, false, false, false, false, false, false, false, false, false, false, false, false, false, false, false, false] (by kernel_rfl) rfl rfl ⟨(zzk BK152.out 0).trans rfl, (zzk BK152.out 1).trans rfl, (zzk BK152.out 2).trans rfl, (zzk BK152.out 3).trans rfl, (zzk BK152.out 4).trans rfl, (zzk BK152.out 5).trans rfl⟩ (fun hHeld => ?_); refine with_tabW impl_BatchValid.tab11 impl_BatchValid.bits11 (fun HT_ HW_ => ?_)
            generalize w63.drew = w64 at BK146 BK152 HB hHeld ⊢
            refine take_ (i := 0) (N := some 59) (v := ?_) (a' := ?_) #[true, false, false, false, false, false, false, false, false, false, false, false, false, false, false, false, false, false, false] rfl rfl (take_ofW HT_.out HW_.out (by kernel_rfl)) (fun _ _ _ h => h) (Or.inl ⟨by rfl, ?_⟩) hHeld ?_ ?_
            rotate_left
            ·
             rintro w' ⟨s0, s1, s2, s3, s4, s5⟩
             go_simp
             with_reducible rfl
            rotate_left
            ·
             simp only [Act.put, zzq, zzr, zzs, i64_w, i32_w]
             rfl
            refine one_ (i := 1) (N := some 60) #[true, true, false, false, false, false, false, false, false, false, false, false, false, false, false, false, false, false, false] rfl rfl (one_of HT_.out (by kernel_rfl)) (by decide) (fun K hK => ?_)
            refine goes_ Try.func58 (by kernel_rfl) rfl #[.agg #[.int .i64 ((rd_T34 l0_5 x54_3).f0), .int .i64 ((rd_T34 l0_5 x54_3).f1), .bool ((rd_T34 l0_5 x54_3).f2), .slice A151_3 ((rd_T34 l0_5 x54_3).f3).length c151_3, .bool ((rd_T34 l0_5 x54_3).f4), .slice A151_5 ((rd_T34 l0_5 x54_3).f5).length c151_5]] (by rfl) rfl rfl (by (try simp only [List.map_toArray, List.map_cons, List.map_nil]); first | done | rfl | (simp only [List.length_drop, List.length_take]; rfl)) ?_
            with_reducible refine (impl_RecordValid.calls k3 ((rd_T34 l0_5 x54_3).f0) ((rd_T34 l0_5 x54_3).f1) ((rd_T34 l0_5 x54_3).f2) _ _ ((rd_T34 l0_5 x54_3).f3) ((rd_T34 l0_5 x54_3).f4) _ _ ((rd_T34 l0_5 x54_3).f5) false _ ?side1 ?side2 ?side3 ?side4 A35.out).mono ?_
            (case side1 => repeat (first | exact (Kd.C_below HR151_3.out HB.out) | (with_reducible refine Kd.C_alloc ?_ _) | (with_reducible refine Kd.C_drewN ?_ _) | (with_reducible refine Kd.C_drew ?_)))
            (case side2 => exact HC151_3.out)
            (case side3 => repeat (first | exact (Kd.C_below HR151_5.out HB.out) | (with_reducible refine Kd.C_alloc ?_ _) | (with_reducible refine Kd.C_drewN ?_ _) | (with_reducible refine Kd.C_drew ?_)))
            (case side4 => exact HC151_5.out)
            rintro e w65 ⟨rfl, hb⟩
            refine ⟨_, rfl, ?_⟩
            have n0_ := zzm (zzh (g := gb146) (o := .cells #[.bool a0_0, .bool a0_1, .int .i64 a0_2, .int .i64 a0_3, .int .i64 a0_4, .slice (some ad151) l0_5.length c0_5] 27 (0, 0)) (by (with_reducible repeat (first | refine zzf ?_ _ | refine zzg ?_ | refine zze ?_ _)); exact BK146.out) hb)
            have n1_ := zzm (zzh (g := gb152) (o := .cells #[.int .i64 ((rd_T34 l0_5 x54_3).f0), .int .i64 ((rd_T34 l0_5 x54_3).f1), .bool ((rd_T34 l0_5 x54_3).f2), .slice A151_3 ((rd_T34 l0_5 x54_3).f3).length c151_3, .bool ((rd_T34 l0_5 x54_3).f4), .slice A151_5 ((rd_T34 l0_5 x54_3).f5).length c151_5] 34 (0, 0)) (by (with_reducible repeat (first | refine zzf ?_ _ | refine zzg ?_ | refine zze ?_ _)); exact BK152.out) hb)
            have n2_ := zzm (zzp (by repeat (first | (with_reducible first | exact HB.out | apply zza | apply zzb | apply zzc | refine zzd ?_ GE146.out | refine zzd ?_ GE152.out) | exact HB.out)) hb)
            clear BK146
            clear BK152
            clear HB
            have BK146 := n0_
            have BK152 := n1_
            have HB := n2_
            clear n0_ n1_ n2_
            (try clear hb)
            (try clear hb2)
            (try clear hk)
            (try clear hi)
            refine hK.out _ _ ⟨(zzk BK152.out 0).trans rfl, (zzk BK152.out 1).trans rfl, (zzk BK152.out 2).trans rfl, (zzk BK152.out 3).trans rfl, (zzk BK152.out 4).trans rfl, (zzk BK152.out 5).trans rfl⟩ (fun hHeld => ?_)
            clear hK K
            refine norm_ (a' := ?_) ?_ ?_
            rotate_left
            ·
             show Act.put _ (some 60) _ = _
             simp only [Act.put, zzq, zzr, zzs, i64_w, i32_w]
             rfl
            refine pure_ (i := 2) (N := some 61) (v := ?_) (a' := ?_) #[true, true, true, false, false, false, false, false, false, false, false, false, false, false, false, false, false, false, false] rfl rfl (any_of HT_.out (by kernel_rfl)) (fun _ _ _ h => h) (Or.inl ⟨by rfl, ?_⟩) ?_ ?_
            rotate_left
            ·
             intro w'
             go_simp
             with_reducible rfl
            rotate_left
            ·
             simp only [Act.put, zzq, zzr, zzs, i64_w, i32_w]
             rfl
            refine pure_ (i := 3) (N := some 62) (v := ?_) (a' := ?_) #[true, true, true, true, false, false, false, false, false, false, false, false, false, false, false, false, false, false, false] rfl rfl (any_of HT_.out (by kernel_rfl)) (fun _ _ _ h => h) (Or.inl ⟨by rfl, ?_⟩) ?_ ?_
            rotate_left
            ·
             intro w'
             go_simp
             with_reducible rfl
            rotate_left
            ·
             simp only [Act.put, zzq, zzr, zzs, i64_w, i32_w]
             rfl
            refine pure_ (i := 4) (N := some 63) (v := undef) (a' := ?_) #[true, true, true, true, true, false, false, false, false, false, false, false, false, false, false, false, false, false, false] rfl rfl (any_of HT_.out (by kernel_rfl)) (fun _ _ _ h => h) (Or.inr ⟨by rfl, rfl⟩) ?_ ?_
            rotate_left
            ·
             simp only [Act.put, zzq, zzr, zzs, i64_w, i32_w]
             rfl
            refine pure_ (i := 5) (N := some 64) (v := undef) (a' := ?_) #[true, true, true, true, true, true, false, false, false, false, false, false, false, false, false, false, false, false, false] rfl rfl (any_of HT_.out (by kernel_rfl)) (fun _ _ _ h => h) (Or.inr ⟨by rfl, rfl⟩) ?_ ?_
            rotate_left
            ·
             simp only [Act.put, zzq, zzr, zzs, i64_w, i32_w]
             rfl
            refine pure_ (i := 6) (N := some 65) (v := undef) (a' := ?_) #[true, true, true, true, true, true, true, false, false, false, false, false, false, false, false, false, false, false, false] rfl rfl (any_of HT_.out (by kernel_rfl)) (fun _ _ _ h => h) (Or.inr ⟨by rfl, rfl⟩) ?_ ?_
            rotate_left
            ·
             simp only [Act.put, zzq, zzr, zzs, i64_w, i32_w]
             rfl
            refine pure_ (i := 7) (N := some 66) (v := undef) (a' := ?_) #[true, true, true, true, true, true, true, true, false, false, false, false, false, false, false, false, false, false, false] rfl rfl (any_of HT_.out (by kernel_rfl)) (fun _ _ _ h => h) (Or.inr ⟨by rfl, rfl⟩) ?_ ?_
            rotate_left
            ·
             simp only [Act.put, zzq, zzr, zzs, i64_w, i32_w]
             rfl
            refine pure_ (i := 8) (N := some 67) (v := undef) (a' := ?_) #[true, true, true, true, true, true, true, true, true, false, false, false, false, false, false, false, false, false, false] rfl rfl (any_of HT_.out (by kernel_rfl)) (fun _ _ _ h => h) (Or.inr ⟨by rfl, rfl⟩) ?_ ?_
            rotate_left
            ·
             simp only [Act.put, zzq, zzr, zzs, i64_w, i32_w]
             rfl
            refine pure_ (i := 9) (N := some 68) (v := undef) (a' := ?_) #[true, true, true, true, true, true, true, true, true, true, false, false, false, false, false, false, false, false, false] rfl rfl (any_of HT_.out (by kernel_rfl)) (fun _ _ _ h => h) (Or.inr ⟨by rfl, rfl⟩) ?_ ?_
            rotate_left
            ·
             simp only [Act.put, zzq, zzr, zzs, i64_w, i32_w]
             rfl
            refine pure_ (i := 10) (N := some 69) (v := undef) (a' := ?_) #[true, true, true, true, true, true, true, true, true, true, true, false, false, false, false, false, false, false, false] rfl rfl (any_of HT_.out (by kernel_rfl)) (fun _ _ _ h => h) (Or.inr ⟨by rfl, rfl⟩) ?_ ?_
            rotate_left
            ·
             simp only [Act.put, zzq, zzr, zzs, i64_w, i32_w]
             rfl
            refine pure_ (i := 11) (N := some 70) (v := undef) (a' := ?_) #[true, true, true, true, true, true, true, true, true, true, true, true, false, false, false, false, false, false, false] rfl rfl (any_of HT_.out (by kernel_rfl)) (fun _ _ _ h => h) (Or.inr ⟨by rfl, rfl⟩) ?_ ?_
            rotate_left
            ·
             simp only [Act.put, zzq, zzr, zzs, i64_w, i32_w]
             rfl
            refine pure_ (i := 12) (N := some 71) (v := undef) (a' := ?_) #[true, true, true, true, true, true, true, true, true, true, true, true, true, false, false, false, false, false, false] rfl rfl (any_of HT_.out (by kernel_rfl)) (fun _ _ _ h => h) (Or.inr ⟨by rfl, rfl⟩) ?_ ?_
            rotate_left
            ·
             simp only [Act.put, zzq, zzr, zzs, i64_w, i32_w]
             rfl
            refine pure_ (i := 13) (N := some 72) (v := undef) (a' := ?_) #[true, true, true, true, true, true, true, true, true, true, true, true, true, true, false, false, false, false, false] rfl rfl (any_of HT_.out (by kernel_rfl)) (fun _ _ _ h => h) (Or.inr ⟨by rfl, rfl⟩) ?_ ?_
            rotate_left
            ·
             simp only [Act.put, zzq, zzr, zzs, i64_w, i32_w]
             rfl
            refine pure_ (i := 14) (N := some 73) (v := undef) (a' := ?_) #[true, true, true, true, true, true, true, true, true, true, true, true, true, true, true, false, false, false, false] rfl rfl (any_of HT_.out (by kernel_rfl)) (fun _ _ _ h => h) (Or.inr ⟨by rfl, rfl⟩) ?_ ?_
            rotate_left
            ·
             simp only [Act.put, zzq, zzr, zzs, i64_w, i32_w]
             rfl
            refine pure_ (i := 15) (N := some 74) (v := undef) (a' := ?_) #[true, true, true, true, true, true, true, true, true, true, true, true, true, true, true, true, false, false, false] rfl rfl (any_of HT_.out (by kernel_rfl)) (fun _ _ _ h => h) (Or.inr ⟨by rfl, rfl⟩) ?_ ?_
            rotate_left
            ·
             simp only [Act.put, zzq, zzr, zzs, i64_w, i32_w]
             rfl
            refine pure_ (i := 16) (N := some 75) (v := undef) (a' := ?_) #[true, true, true, true, true, true, true, true, true, true, true, true, true, true, true, true, true, false, false] rfl rfl (any_of HT_.out (by kernel_rfl)) (fun _ _ _ h => h) (Or.inr ⟨by rfl, rfl⟩) ?_ ?_
            rotate_left
            ·
             simp only [Act.put, zzq, zzr, zzs, i64_w, i32_w]
             rfl
            refine pure_ (i := 17) (N := some 76) (v := undef) (a' := ?_) #[true, true, true, true, true, true, true, true, true, true, true, true, true, true, true, true, true, true, false] rfl rfl (any_of HT_.out (by kernel_rfl)) (fun _ _ _ h => h) (Or.inr ⟨by rfl, rfl⟩) ?_ ?_
            rotate_left
            ·
             simp only [Act.put, zzq, zzr, zzs, i64_w, i32_w]
             rfl
            refine pure_ (i := 18) (N := some 77) (v := ?_) (a' := ?_) #[true, true, true, true, true, true, true, true, true, true, true, true, true, true, true, true, true, true, true] rfl rfl (any_of HT_.out (by kernel_rfl)) (fun _ _ _ h => h) (Or.inl ⟨by rfl, ?_⟩) ?_ ?_
            rotate_left
            ·
             intro w'
             go_simp
             with_reducible rfl
            rotate_left
            ·
             simp only [Act.put, zzq, zzr, zzs, i64_w, i32_w]
             rfl
            refine done_ (done_of HT_.out (by kernel_rfl)) ?_
            try go_wp2
            go_ret
            exact ⟨by first | rfl | (simp [errW_none, errW_some] <;> rfl) | (simp [*, errW_none, errW_some] <;> rfl), by repeat (first | (with_reducible first | exact HB.out | apply zza | apply zzb | apply zzc | refine zzd ?_ GE146.out | refine zzd ?_ GE152.out) | exact HB.out)⟩
          ·
           rw [if_neg c34] at H
           exact absurd H (by simp)
         ·
          rw [if_neg c33] at H
          exact absurd H (by simp)
        ·
         rw [if_neg c32] at H
         have c32b0 : decide (x54_3 < (l0_5.length : Int)) = false := decide_eq_false c32
         clear c32
         obtain rfl := Option.some.inj H
         go_wp2
         go_ret
         exact ⟨by first | rfl | (simp [errW_none, errW_some] <;> rfl) | (simp [*, errW_none, errW_some] <;> rfl), by repeat (first | (with_reducible first | exact HB.out | apply zza | apply zzb | apply zzc | refine zzd ?_ GE146.out) | exact HB.out)⟩
end Go.Proofs.Yticpnjhkdfdkkaa.T
