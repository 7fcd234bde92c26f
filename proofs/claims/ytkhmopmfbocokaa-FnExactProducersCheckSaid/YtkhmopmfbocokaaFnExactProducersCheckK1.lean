/- FnExactProducersCheck, part 2 of 5: merged by wip/tools/pack2.py out of the texts that the row reaches; the pure statement is the session's own. -/
import Derived.Test.YtkhmopmfbocokaaRows
import Derived.JoinedOf
import Derived.KernelRfl
import Derived.Test.YtkhmopmfbocokaaProg
import Derived.Below
import Derived.Deep.Draws
import Derived.Deep.AppendLies
import Derived.Maps.AppendAt
import Derived.OwnWalk
import Derived.Laws.BytesArg
import Derived.Laws.MakeOwn
import Derived.Laws.OwnMore
import Derived.Deep.OwnRows
import Derived.Tactics
import Derived.Lib.ConvBytes
import Derived.Laws.Slices
import Derived.WalkKit
import Derived.RowKit3
import Derived.Deep.LoopGhost
import Derived.Deep.QuietTactic
import Derived.BigQuiet
import Derived.WideLaws
import Derived.Deep.DeepCutAuto
import Derived.Deep.CutBlock
import Derived.Deep.RegionHeld3
import Derived.Laws.Rows
import Derived.Lib.AppendStr
import Derived.ArgAppend
import Derived.Laws.IdiomCopy
import Derived.OrdersHeld
import Derived.Laws.BitsLemmas
import Derived.RowKit
import Derived.IntWalk
import Derived.RegionTactic
import Derived.Test.YtkhmopmfbocokaaFnExactProducersCheckK0
namespace Go.Proofs.Ytkhmopmfbocokaa.Head
open Go
theorem make_of (P : Program) (w : List Char) (R : List (List Char)) (h : behindMainWord (wordsSigns P.initOrder.toList) = w :: R) (h1 : (w == "gc".toList || w == "spec".toList) = false) (h2 : (w == "cut".toList) = true) : P.make = some .cut := by
  unfold Program.make
  rw [h]
  simp only [h1, h2, Bool.true_or, if_true, Bool.false_eq_true, if_false]
theorem enter_of (P : Program) (w : List Char) (R : List (List Char)) (h : behindMainWord (wordsSigns P.initOrder.toList) = w :: R) (h2 : stripLifts liftWords (w :: R) = ([], w :: R)) (h3 : ((w :: R).head? == some "cut".toList) = true)
    (h4 : P.laysLater = false) (h5 : P.bearsReflect = false) (h6 : P.doorFits [] = true) : P.mayEnter = true := by
  unfold Program.mayEnter
  rw [h]
  simp only [h2, h3, h4, h5, h6, List.contains_nil, Bool.not_false, Bool.and_self, Bool.or_true]
theorem lifts_of (P : Program) (w : List Char) (R : List (List Char)) (h : behindMainWord (wordsSigns P.initOrder.toList) = w :: R) (h2 : stripLifts liftWords (w :: R) = ([], w :: R)) (h3 : ((w :: R).head? == some "carried".toList) = false) : P.liftsFinal = false := by
  unfold Program.liftsFinal Program.headLifts
  rw [h]
  simp only [h2, h3, Bool.false_and, Bool.false_or, List.contains_nil, ite_self]
def chs (l : List Nat) : List Char := l.map Char.ofNat
theorem wordsSigns_word : ∀ (w r : List Char), (∀ c ∈ w, c ≠ Char.ofNat 32) → wordsSigns (w ++ Char.ofNat 32 :: r) = w :: wordsSigns r
  | [], r, _ => rfl
  | c :: w, r, h => by
    have ih := wordsSigns_word w r (fun x hx => h x (List.mem_cons_of_mem _ hx))
    have hc : c ≠ Char.ofNat 32 := h c List.mem_cons_self
    rw [List.cons_append, wordsSigns, ih]
    exact hc
def word1 : List Nat := [104, 97, 114, 110, 101, 115, 115]
def word2 : List Nat := [48, 97, 56, 50, 98, 100, 48, 100, 51, 54, 48, 55, 49, 56, 56, 54, 54, 97, 100, 97, 54, 49, 48, 99, 52, 52, 101, 50, 54, 54, 49, 53, 55, 54, 54, 101, 56, 55, 99, 101, 52, 50, 99, 50, 52, 52, 99, 50, 51, 56, 100, 97, 99, 53, 52, 100, 101, 55, 49, 102, 97, 49, 49, 56]
def word3 : List Nat := [99, 117, 116]
def signs : List Nat := [97, 116, 32, 108, 111, 111, 112, 46, 101, 120, 97, 109, 112, 108, 101, 47, 114, 101, 99, 111, 114, 100, 98, 97, 116, 99, 104, 101, 115, 47, 108, 97, 119, 115, 46, 70, 110, 80, 114, 111, 100, 117, 99, 101, 114, 115, 80, 97, 114, 116, 32, 108, 111, 111, 112, 46, 101, 120, 97, 109, 112, 108, 101, 47, 114, 101, 99, 111, 114, 100, 98, 97, 116, 99, 104, 101, 115, 47, 108, 97, 119, 115, 46, 70, 110, 69, 120, 97, 99, 116, 80, 114, 111, 100, 117, 99, 101, 114, 115, 86, 97, 108, 105, 100, 32, 108, 111, 111, 112, 46, 101, 120, 97, 109, 112, 108, 101, 47, 114, 101, 99, 111, 114, 100, 98, 97, 116, 99, 104, 101, 115, 47, 108, 97, 119, 115, 46, 70, 110, 67, 104, 101, 99, 107, 32, 108, 111, 111, 112, 46, 101, 120, 97, 109, 112, 108, 101, 47, 114, 101, 99, 111, 114, 100, 98, 97, 116, 99, 104, 101, 115, 47, 108, 97, 119, 115, 46, 70, 110, 67, 104, 101, 99, 107, 70, 114, 101, 101, 32, 108, 111, 111, 112, 46, 101, 120, 97, 109, 112, 108, 101, 47, 114, 101, 99, 111, 114, 100, 98, 97, 116, 99, 104, 101, 115, 47, 108, 97, 119, 115, 46, 70, 110, 67, 104, 101, 99, 107, 71, 97, 112, 32, 108, 111, 111, 112, 46, 101, 120, 97, 109, 112, 108, 101, 47, 114, 101, 99, 111, 114, 100, 98, 97, 116, 99, 104, 101, 115, 47, 108, 97, 119, 115, 46, 70, 110, 67, 104, 101, 99, 107, 79, 108, 100, 32, 108, 111, 111, 112, 46, 101, 120, 97, 109, 112, 108, 101, 47, 114, 101, 99, 111, 114, 100, 98, 97, 116, 99, 104, 101, 115, 47, 108, 97, 119, 115, 46, 70, 110, 80, 117, 116, 75, 101, 101, 112, 32, 108, 111, 111, 112, 46, 101, 120, 97, 109, 112, 108, 101, 47, 114, 101, 99, 111, 114, 100, 98, 97, 116, 99, 104, 101, 115, 47, 108, 97, 119, 115, 46, 70, 110, 80, 117, 116, 79, 116, 104, 101, 114, 115, 32, 108, 111, 111, 112, 46, 101, 120, 97, 109, 112, 108, 101, 47, 114, 101, 99, 111, 114, 100, 98, 97, 116, 99, 104, 101, 115, 47, 108, 97, 119, 115, 46, 70, 110, 80, 117, 116, 70, 105, 110, 101, 32, 108, 111, 111, 112, 46, 101, 120, 97, 109, 112, 108, 101, 47, 114, 101, 99, 111, 114, 100, 98, 97, 116, 99, 104, 101, 115, 47, 108, 97, 119, 115, 46, 70, 110, 80, 117, 116, 78, 101, 120, 116, 32, 108, 111, 111, 112, 46, 101, 120, 97, 109, 112, 108, 101, 47, 114, 101, 99, 111, 114, 100, 98, 97, 116, 99, 104, 101, 115, 47, 108, 97, 119, 115, 46, 70, 110, 69, 120, 97, 99, 116, 80, 114, 111, 100, 117, 99, 101, 114, 115, 67, 104, 101, 99, 107, 32, 108, 111, 111, 112, 46, 101, 120, 97, 109, 112, 108, 101, 47, 114, 101, 99, 111, 114, 100, 98, 97, 116, 99, 104, 101, 115, 47, 108, 97, 119, 115, 46, 70, 110, 82, 117, 110, 80, 114, 111, 100, 117, 99, 101, 114, 115, 32, 108, 111, 111, 112, 46, 101, 120, 97, 109, 112, 108, 101, 47, 114, 101, 99, 111, 114, 100, 98, 97, 116, 99, 104, 101, 115, 47, 108, 97, 119, 115, 46, 70, 110, 82, 117, 110, 84, 119, 105, 99, 101, 32, 108, 111, 111, 112, 46, 101, 120, 97, 109, 112, 108, 101, 47, 114, 101, 99, 111, 114, 100, 98, 97, 116, 99, 104, 101, 115, 47, 108, 97, 119, 115, 46, 70, 110, 69, 120, 97, 99, 116, 80, 114, 111, 100, 117, 99, 101, 114, 115, 80, 117, 116, 32, 108, 111, 111, 112, 46, 101, 120, 97, 109, 112, 108, 101, 47, 114, 101, 99, 111, 114, 100, 98, 97, 116, 99, 104, 101, 115, 47, 108, 97, 119, 115, 46, 70, 110, 69, 120, 97, 99, 116, 80, 114, 111, 100, 117, 99, 101, 114, 115, 82, 117, 110]
theorem init_is : Try.prog.initOrder = String.ofList (chs word1 ++ Char.ofNat 32 :: (chs word2 ++ Char.ofNat 32 :: (chs word3 ++ Char.ofNat 32 :: chs signs))) := by kernel_rfl
theorem init_words : wordsSigns Try.prog.initOrder.toList = chs word1 :: chs word2 :: chs word3 :: wordsSigns (chs signs) := by
  rw [init_is, String.toList_ofList, wordsSigns_word _ _ (by decide +kernel), wordsSigns_word _ _ (by decide +kernel), wordsSigns_word _ _ (by decide +kernel)]
theorem behind_is : ∃ R, behindMainWord (wordsSigns Try.prog.initOrder.toList) = chs word3 :: R := by
  rw [init_words]
  generalize wordsSigns (chs signs) = R
  exact ⟨R, by kernel_rfl⟩
theorem strip_is (R : List (List Char)) : stripLifts liftWords (chs word3 :: R) = ([], chs word3 :: R) := by kernel_rfl
theorem make_is : Try.prog.make = some .cut := by
  obtain ⟨R, h⟩ := behind_is
  exact make_of _ _ R h (by kernel_rfl) (by kernel_rfl)
theorem lays_later : Try.prog.laysLater = false := by kernel_rfl
theorem bears_reflect : Try.prog.bearsReflect = false := by kernel_rfl
theorem door_fits : Try.prog.doorFits [] = true := by kernel_rfl
theorem may_enter : Try.prog.mayEnter = true := by
  obtain ⟨R, h⟩ := behind_is
  exact enter_of _ _ R h (strip_is R) (by kernel_rfl) lays_later bears_reflect door_fits
theorem lifts_final : Try.prog.liftsFinal = false := by
  obtain ⟨R, h⟩ := behind_is
  exact lifts_of _ _ R h (strip_is R) (by kernel_rfl)
theorem and2 {a b : Bool} (h : a = true) (h2 : b = true) : (a && b) = true := by rw [h, h2]; rfl
theorem closed_of (P : Program) (f : FuncId) (fn : Func) (s : ChangeSpec) (c : OpenClaim) (k0 : (c.wf (OpenSpec.ofChange s)) = true) (k1 : (laidOutB P) = true) (k2 : (mapsRowed P) = true) (k3 : (fn.params.all (P.readableRec ·)) = true) (k4 : (namedTie P c.named s.vars) = true) (k5 : ((c.stops == [])) = true) (k6 : ((P.stops == [])) = true) (k7 : ((c.knobs == [])) = true) (k8 : ((P.stopKnobs == [])) = true) (k9 : ((c.inPlace == P.inPlace f)) = true) (k10 : ((c.unfollowed == P.unfollowed f)) = true) (k11 : ((c.recurses == P.recurses f)) = true) (k12 : ((c.named == P.varsNamed f)) = true) (k13 : ((c.maps == (fn.params.toList ++ s.plain.varTypes P).any (P.mapsRec ·))) = true) (k14 : ((c.ifaces == (fn.params.toList ++ s.plain.varTypes P).any (P.ifacesRec ·))) = true) (k15 : ((c.mapsOut == P.mapsAmong fn.resultTypes.toList)) = true) (k16 : ((c.loops == (fn.params.toList ++ s.plain.varTypes P).any (P.loopsFrom ·))) = true) (k17 : ((c.wideKeys == (fn.params.toList ++ s.plain.varTypes P ++ fn.resultTypes.toList).any (P.wideKeysFrom ·))) = true) (k18 : (s.vars.all (P.varReadable ·)) = true) (k19 : (fn.resultTypes.all (fun t => P.readableRec t && decide (t < P.types.size))) = true) (k20 : ((c.ifacesOut == fn.resultTypes.toList.any (P.ifacesRec ·))) = true) (k21 : ((c.loopsOut == fn.resultTypes.toList.any (P.loopsFrom ·))) = true) (k22 : ((c.plainKeys == P.plainKeys)) = true) (k23 : (c.shortTexts.isNone) = true) (k24 : (P.stopsHeard) = true) (k25 : (P.mayEnter) = true) (k26 : ((c.lifted == P.liftsFinal)) = true) (k27 : ((P.make == some c.make)) = true) (k28 : ((c.kinds == (if c.domain.isEmpty then [] else fn.params.toList.map fun t => match P.underlying t with | some (.int k) => some k | _ => none))) = true) (k29 : ((c.pinned == c.pinnedBy)) = true) (k30 : ((c.veiled == (fn.params.toList ++ s.plain.varTypes P ++ fn.resultTypes.toList).any (P.veiledRec ·))) = true) (k31 : (c.veiledFits P fn.params.toList (fn.params.toList ++ s.plain.varTypes P ++ fn.resultTypes.toList)) = true) : joinedFacts P f fn s c = true := by
  unfold joinedFacts
  exact (and2 (and2 (and2 (and2 (and2 (and2 (and2 (and2 (and2 (and2 (and2 (and2 (and2 (and2 (and2 (and2 (and2 (and2 (and2 (and2 (and2 (and2 (and2 (and2 (and2 (and2 (and2 (and2 (and2 (and2 (and2 k0 k1) k2) k3) k4) k5) k6) k7) k8) k9) k10) k11) k12) k13) k14) k15) k16) k17) k18) k19) k20) k21) k22) k23) k24) k25) k26) k27) k28) k29) k30) k31)
end Go.Proofs.Ytkhmopmfbocokaa.Head
namespace Go.Proofs.Ytkhmopmfbocokaa.T
open Go.RowKit Go.Proofs.YtkhmopmfbocokaaW.PrintWords Go.Proofs.YtkhmopmfbocokaaW.PrintLast Go.Proofs.YtkhmopmfbocokaaW.PrintMore

set_option linter.unusedVariables false
set_option linter.unusedSimpArgs false
def errW : Option Int → Value
 | none => .nilIface
 | some c => .iface 0 (.int .i64 c)
theorem errW_none : errW none = .nilIface := rfl
theorem errW_some (c : Int) : errW (some c) = .iface 0 (.int .i64 c) := rfl
theorem info3 : (Try.prog.info? 3).map (fun i => (i.zero, i.size, i.bytes)) = some (some (.int .i64 0), 1, 8) := by kernel_rfl
theorem info39 : (Try.prog.info? 39).map (fun i => (i.zero, i.size, i.bytes)) = some (some (.agg #[(.int .i64 0), (.int .i64 0), (.int .i64 0)]), 3, 24) := by kernel_rfl
theorem info79 : (Try.prog.info? 79).map (fun i => (i.zero, i.size, i.bytes)) = some (some (.agg #[(.int .i64 0), (.int .i64 0), (.bool false), (.slice none 0 0), (.bool false), (.slice none 0 0)]), 6, 80) := by kernel_rfl
structure S39 where
 f0 : Int
 f1 : Int
 f2 : Int
def z39 : S39 := ⟨(0 : Int), (0 : Int), (0 : Int)⟩
def k39 : Kd S39 := Kd.iso (Kd.pair (Kd.int .i64) (Kd.pair (Kd.int .i64) (Kd.int .i64))) (fun x : S39 => (x.f0, x.f1, x.f2))
theorem k39_open {w : World} {x : S39} {cs : List Value} (h : k39.K w x cs) : cs = [.int .i64 x.f0, .int .i64 x.f1, .int .i64 x.f2] := by
 obtain ⟨_, _, rfl, rfl, ⟨_, _, rfl, rfl, rfl⟩⟩ := h; exact rfl
theorem k39_openM {w : World} {base : Nat} {ok : Nat → Prop} {x : S39} {cs : List Value} (h : k39.M w base ok x cs) : cs = [.int .i64 x.f0, .int .i64 x.f1, .int .i64 x.f2] := by
 obtain ⟨_, _, rfl, rfl, ⟨_, _, rfl, rfl, rfl⟩⟩ := h; exact rfl
theorem k39_mkM (w : World) (base : Nat) (ok : Nat → Prop) (x : S39)  : k39.M w base ok x [.int .i64 x.f0, .int .i64 x.f1, .int .i64 x.f2] := ⟨[.int .i64 x.f0], [.int .i64 x.f1, .int .i64 x.f2], rfl, rfl, ⟨[.int .i64 x.f1], [.int .i64 x.f2], rfl, rfl, rfl⟩⟩
def rd_T39 (xs : List S39) (i : Int) : S39 := xs.getD i.toNat z39
theorem at_T39 {w : World} {A : Option Addr} {n : Nat} {xs : List S39} (h : Kd.C k39 w A n xs) (i : Int) (h0 : 0 ≤ i) (h1 : i < n) : ∃ ad , A = some ad ∧ w.cell? (ad.add (i.toNat * 3)) = some (.int .i64 (rd_T39 xs i).f0) ∧ w.cell? ⟨(ad.add (i.toNat * 3)).block, (ad.add (i.toNat * 3)).off + 1, none⟩ = some (.int .i64 (rd_T39 xs i).f1) ∧ w.cell? ⟨(ad.add (i.toNat * 3)).block, (ad.add (i.toNat * 3)).off + 2, none⟩ = some (.int .i64 (rd_T39 xs i).f2) := by
 obtain ⟨ad, c, e, _, hK, hc0⟩ := Kd.C_get h z39 i h0 h1; have hc : ∀ j u, c[j]? = some u → w.cell? (ad.add (i.toNat * 3 + j)) = some u := hc0; obtain rfl := k39_open hK; exact ⟨ad, e, hc 0 _ rfl, by rw [← add_field _ _ 1 (by omega)]; exact hc 1 _ rfl, by rw [← add_field _ _ 2 (by omega)]; exact hc 2 _ rfl⟩
structure S79 where
 f0 : Int
 f1 : Int
 f2 : Bool
 f3 : (List Int)
 f4 : Bool
 f5 : (List Int)
def z79 : S79 := ⟨(0 : Int), (0 : Int), false, ([] : List Int), false, ([] : List Int)⟩
def k79 : Kd S79 := Kd.iso (Kd.pair (Kd.int .i64) (Kd.pair (Kd.int .i64) (Kd.pair Kd.bool (Kd.pair (Kd.slice 3 (Kd.int .i64)) (Kd.pair Kd.bool (Kd.slice 3 (Kd.int .i64))))))) (fun x : S79 => (x.f0, x.f1, x.f2, x.f3, x.f4, x.f5))
theorem k79_open {w : World} {x : S79} {cs : List Value} (h : k79.K w x cs) : ∃ A3 c3 A5 c5, cs = [.int .i64 x.f0, .int .i64 x.f1, .bool x.f2, .slice A3 x.f3.length c3, .bool x.f4, .slice A5 x.f5.length c5] ∧ x.f3.length ≤ c3 ∧ (Kd.int .i64).C w A3 x.f3.length x.f3 ∧ x.f5.length ≤ c5 ∧ (Kd.int .i64).C w A5 x.f5.length x.f5 := by
 obtain ⟨_, _, rfl, rfl, ⟨_, _, rfl, rfl, ⟨_, _, rfl, rfl, ⟨_, _, rfl, ⟨A3, c3, rfl, l3, g3⟩, ⟨_, _, rfl, rfl, ⟨A5, c5, rfl, l5, g5⟩⟩⟩⟩⟩⟩ := h; exact ⟨A3, c3, A5, c5, rfl, l3, g3, l5, g5⟩
theorem k79_openM {w : World} {base : Nat} {ok : Nat → Prop} {x : S79} {cs : List Value} (h : k79.M w base ok x cs) : ∃ v3 v5, cs = [.int .i64 x.f0, .int .i64 x.f1, .bool x.f2, v3, .bool x.f4, v5] ∧ (Kd.int .i64).R 3 w base ok v3 x.f3 ∧ (Kd.int .i64).R 3 w base ok v5 x.f5 := by
 obtain ⟨_, _, rfl, rfl, ⟨_, _, rfl, rfl, ⟨_, _, rfl, rfl, ⟨_, _, rfl, ⟨v3, rfl, g3⟩, ⟨_, _, rfl, rfl, ⟨v5, rfl, g5⟩⟩⟩⟩⟩⟩ := h; exact ⟨v3, v5, rfl, g3, g5⟩
theorem k79_mkM (w : World) (base : Nat) (ok : Nat → Prop) (x : S79) {v3 : Value} (g3 : (Kd.int .i64).R 3 w base ok v3 x.f3) {v5 : Value} (g5 : (Kd.int .i64).R 3 w base ok v5 x.f5) : k79.M w base ok x [.int .i64 x.f0, .int .i64 x.f1, .bool x.f2, v3, .bool x.f4, v5] := ⟨[.int .i64 x.f0], [.int .i64 x.f1, .bool x.f2, v3, .bool x.f4, v5], rfl, rfl, ⟨[.int .i64 x.f1], [.bool x.f2, v3, .bool x.f4, v5], rfl, rfl, ⟨[.bool x.f2], [v3, .bool x.f4, v5], rfl, rfl, ⟨[v3], [.bool x.f4, v5], rfl, ⟨v3, rfl, g3⟩, ⟨[.bool x.f4], [v5], rfl, rfl, ⟨v5, rfl, g5⟩⟩⟩⟩⟩⟩
def rd_T79 (xs : List S79) (i : Int) : S79 := xs.getD i.toNat z79
theorem at_T79 {w : World} {A : Option Addr} {n : Nat} {xs : List S79} (h : Kd.C k79 w A n xs) (i : Int) (h0 : 0 ≤ i) (h1 : i < n) : ∃ ad A3 c3 A5 c5, A = some ad ∧ w.cell? (ad.add (i.toNat * 6)) = some (.int .i64 (rd_T79 xs i).f0) ∧ w.cell? ⟨(ad.add (i.toNat * 6)).block, (ad.add (i.toNat * 6)).off + 1, none⟩ = some (.int .i64 (rd_T79 xs i).f1) ∧ w.cell? ⟨(ad.add (i.toNat * 6)).block, (ad.add (i.toNat * 6)).off + 2, none⟩ = some (.bool (rd_T79 xs i).f2) ∧ w.cell? ⟨(ad.add (i.toNat * 6)).block, (ad.add (i.toNat * 6)).off + 3, none⟩ = some (.slice A3 (rd_T79 xs i).f3.length c3) ∧ w.cell? ⟨(ad.add (i.toNat * 6)).block, (ad.add (i.toNat * 6)).off + 4, none⟩ = some (.bool (rd_T79 xs i).f4) ∧ w.cell? ⟨(ad.add (i.toNat * 6)).block, (ad.add (i.toNat * 6)).off + 5, none⟩ = some (.slice A5 (rd_T79 xs i).f5.length c5) ∧ (rd_T79 xs i).f3.length ≤ c3 ∧ (Kd.int .i64).C w A3 (rd_T79 xs i).f3.length (rd_T79 xs i).f3 ∧ (rd_T79 xs i).f5.length ≤ c5 ∧ (Kd.int .i64).C w A5 (rd_T79 xs i).f5.length (rd_T79 xs i).f5 := by
 obtain ⟨ad, c, e, _, hK, hc0⟩ := Kd.C_get h z79 i h0 h1; have hc : ∀ j u, c[j]? = some u → w.cell? (ad.add (i.toNat * 6 + j)) = some u := hc0; obtain ⟨A3, c3, A5, c5, rfl, l3, g3, l5, g5⟩ := k79_open hK; exact ⟨ad, A3, c3, A5, c5, e, hc 0 _ rfl, by rw [← add_field _ _ 1 (by omega)]; exact hc 1 _ rfl, by rw [← add_field _ _ 2 (by omega)]; exact hc 2 _ rfl, by rw [← add_field _ _ 3 (by omega)]; exact hc 3 _ rfl, by rw [← add_field _ _ 4 (by omega)]; exact hc 4 _ rfl, by rw [← add_field _ _ 5 (by omega)]; exact hc 5 _ rfl, l3, g3, l5, g5⟩
structure S72 where
 f0 : Int
 f1 : Int
 f2 : Int
def z72 : S72 := ⟨(0 : Int), (0 : Int), (0 : Int)⟩
def k72 : Kd S72 := Kd.iso (Kd.pair (Kd.int .i64) (Kd.pair (Kd.int .i64) (Kd.int .i64))) (fun x : S72 => (x.f0, x.f1, x.f2))
theorem k72_open {w : World} {x : S72} {cs : List Value} (h : k72.K w x cs) : cs = [.int .i64 x.f0, .int .i64 x.f1, .int .i64 x.f2] := by
 obtain ⟨_, _, rfl, rfl, ⟨_, _, rfl, rfl, rfl⟩⟩ := h; exact rfl
def rd_T72 (xs : List S72) (i : Int) : S72 := xs.getD i.toNat z72
theorem at_T72 {w : World} {A : Option Addr} {n : Nat} {xs : List S72} (h : Kd.C k72 w A n xs) (i : Int) (h0 : 0 ≤ i) (h1 : i < n) : ∃ ad , A = some ad ∧ w.cell? (ad.add (i.toNat * 3)) = some (.int .i64 (rd_T72 xs i).f0) ∧ w.cell? ⟨(ad.add (i.toNat * 3)).block, (ad.add (i.toNat * 3)).off + 1, none⟩ = some (.int .i64 (rd_T72 xs i).f1) ∧ w.cell? ⟨(ad.add (i.toNat * 3)).block, (ad.add (i.toNat * 3)).off + 2, none⟩ = some (.int .i64 (rd_T72 xs i).f2) := by
 obtain ⟨ad, c, e, _, hK, hc0⟩ := Kd.C_get h z72 i h0 h1; have hc : ∀ j u, c[j]? = some u → w.cell? (ad.add (i.toNat * 3 + j)) = some u := hc0; obtain rfl := k72_open hK; exact ⟨ad, e, hc 0 _ rfl, by rw [← add_field _ _ 1 (by omega)]; exact hc 1 _ rfl, by rw [← add_field _ _ 2 (by omega)]; exact hc 2 _ rfl⟩
structure S99 where
 f0 : Int
 f1 : Int
 f2 : Bool
 f3 : (List Int)
 f4 : Bool
 f5 : (List Int)
def z99 : S99 := ⟨(0 : Int), (0 : Int), false, ([] : List Int), false, ([] : List Int)⟩
def k99 : Kd S99 := Kd.iso (Kd.pair (Kd.int .i64) (Kd.pair (Kd.int .i64) (Kd.pair Kd.bool (Kd.pair (Kd.slice 3 (Kd.int .i64)) (Kd.pair Kd.bool (Kd.slice 3 (Kd.int .i64))))))) (fun x : S99 => (x.f0, x.f1, x.f2, x.f3, x.f4, x.f5))
theorem k99_open {w : World} {x : S99} {cs : List Value} (h : k99.K w x cs) : ∃ A3 c3 A5 c5, cs = [.int .i64 x.f0, .int .i64 x.f1, .bool x.f2, .slice A3 x.f3.length c3, .bool x.f4, .slice A5 x.f5.length c5] ∧ x.f3.length ≤ c3 ∧ (Kd.int .i64).C w A3 x.f3.length x.f3 ∧ x.f5.length ≤ c5 ∧ (Kd.int .i64).C w A5 x.f5.length x.f5 := by
 obtain ⟨_, _, rfl, rfl, ⟨_, _, rfl, rfl, ⟨_, _, rfl, rfl, ⟨_, _, rfl, ⟨A3, c3, rfl, l3, g3⟩, ⟨_, _, rfl, rfl, ⟨A5, c5, rfl, l5, g5⟩⟩⟩⟩⟩⟩ := h; exact ⟨A3, c3, A5, c5, rfl, l3, g3, l5, g5⟩
def rd_T99 (xs : List S99) (i : Int) : S99 := xs.getD i.toNat z99
theorem at_T99 {w : World} {A : Option Addr} {n : Nat} {xs : List S99} (h : Kd.C k99 w A n xs) (i : Int) (h0 : 0 ≤ i) (h1 : i < n) : ∃ ad A3 c3 A5 c5, A = some ad ∧ w.cell? (ad.add (i.toNat * 6)) = some (.int .i64 (rd_T99 xs i).f0) ∧ w.cell? ⟨(ad.add (i.toNat * 6)).block, (ad.add (i.toNat * 6)).off + 1, none⟩ = some (.int .i64 (rd_T99 xs i).f1) ∧ w.cell? ⟨(ad.add (i.toNat * 6)).block, (ad.add (i.toNat * 6)).off + 2, none⟩ = some (.bool (rd_T99 xs i).f2) ∧ w.cell? ⟨(ad.add (i.toNat * 6)).block, (ad.add (i.toNat * 6)).off + 3, none⟩ = some (.slice A3 (rd_T99 xs i).f3.length c3) ∧ w.cell? ⟨(ad.add (i.toNat * 6)).block, (ad.add (i.toNat * 6)).off + 4, none⟩ = some (.bool (rd_T99 xs i).f4) ∧ w.cell? ⟨(ad.add (i.toNat * 6)).block, (ad.add (i.toNat * 6)).off + 5, none⟩ = some (.slice A5 (rd_T99 xs i).f5.length c5) ∧ (rd_T99 xs i).f3.length ≤ c3 ∧ (Kd.int .i64).C w A3 (rd_T99 xs i).f3.length (rd_T99 xs i).f3 ∧ (rd_T99 xs i).f5.length ≤ c5 ∧ (Kd.int .i64).C w A5 (rd_T99 xs i).f5.length (rd_T99 xs i).f5 := by
 obtain ⟨ad, c, e, _, hK, hc0⟩ := Kd.C_get h z99 i h0 h1; have hc : ∀ j u, c[j]? = some u → w.cell? (ad.add (i.toNat * 6 + j)) = some u := hc0; obtain ⟨A3, c3, A5, c5, rfl, l3, g3, l5, g5⟩ := k99_open hK; exact ⟨ad, A3, c3, A5, c5, e, hc 0 _ rfl, by rw [← add_field _ _ 1 (by omega)]; exact hc 1 _ rfl, by rw [← add_field _ _ 2 (by omega)]; exact hc 2 _ rfl, by rw [← add_field _ _ 3 (by omega)]; exact hc 3 _ rfl, by rw [← add_field _ _ 4 (by omega)]; exact hc 4 _ rfl, by rw [← add_field _ _ 5 (by omega)]; exact hc 5 _ rfl, l3, g3, l5, g5⟩
structure S46 where
 f0 : Bool
 f1 : Bool
 f2 : Int
 f3 : Int
 f4 : Int
 f5 : (List S99)
def k46 : Kd S46 := Kd.iso (Kd.pair Kd.bool (Kd.pair Kd.bool (Kd.pair (Kd.int .i64) (Kd.pair (Kd.int .i64) (Kd.pair (Kd.int .i64) (Kd.slice 99 k99)))))) (fun x : S46 => (x.f0, x.f1, x.f2, x.f3, x.f4, x.f5))
theorem k46_open {w : World} {x : S46} {cs : List Value} (h : k46.K w x cs) : ∃ A5 c5, cs = [.bool x.f0, .bool x.f1, .int .i64 x.f2, .int .i64 x.f3, .int .i64 x.f4, .slice A5 x.f5.length c5] ∧ x.f5.length ≤ c5 ∧ k99.C w A5 x.f5.length x.f5 := by
 obtain ⟨_, _, rfl, rfl, ⟨_, _, rfl, rfl, ⟨_, _, rfl, rfl, ⟨_, _, rfl, rfl, ⟨_, _, rfl, rfl, ⟨A5, c5, rfl, l5, g5⟩⟩⟩⟩⟩⟩ := h; exact ⟨A5, c5, rfl, l5, g5⟩
end Go.Proofs.Ytkhmopmfbocokaa.T
namespace Go.Proofs.Ytkhmopmfbocokaa.T
open Go.RowKit Go.Proofs.YtkhmopmfbocokaaW.PrintWords Go.Proofs.YtkhmopmfbocokaaW.PrintLast Go.Proofs.YtkhmopmfbocokaaW.PrintMore

set_option linter.unusedVariables false
set_option linter.unusedSimpArgs false
end Go.Proofs.Ytkhmopmfbocokaa.T
namespace Go.Proofs.Ytkhmopmfbocokaa.T
open Go.RowKit Go.Proofs.YtkhmopmfbocokaaW.PrintWords Go.Proofs.YtkhmopmfbocokaaW.PrintLast Go.Proofs.YtkhmopmfbocokaaW.PrintMore

set_option linter.unusedVariables false
set_option linter.unusedSimpArgs false
end Go.Proofs.Ytkhmopmfbocokaa.T
namespace Go.Proofs.Ytkhmopmfbocokaa.T
open Go.RowKit Go.Proofs.YtkhmopmfbocokaaW.PrintWords Go.Proofs.YtkhmopmfbocokaaW.PrintLast Go.Proofs.YtkhmopmfbocokaaW.PrintMore

set_option linter.unusedVariables false
set_option linter.unusedSimpArgs false
end Go.Proofs.Ytkhmopmfbocokaa.T
namespace Go.Proofs.Ytkhmopmfbocokaa.T
open Go.RowKit Go.Proofs.YtkhmopmfbocokaaW.PrintWords Go.Proofs.YtkhmopmfbocokaaW.PrintLast Go.Proofs.YtkhmopmfbocokaaW.PrintMore

set_option linter.unusedVariables false
set_option linter.unusedSimpArgs false
end Go.Proofs.Ytkhmopmfbocokaa.T
namespace Go.Proofs.Ytkhmopmfbocokaa.T
open Go.RowKit Go.Proofs.YtkhmopmfbocokaaW.PrintWords Go.Proofs.YtkhmopmfbocokaaW.PrintLast Go.Proofs.YtkhmopmfbocokaaW.PrintMore

set_option linter.unusedVariables false
set_option linter.unusedSimpArgs false
end Go.Proofs.Ytkhmopmfbocokaa.T
namespace Go.Proofs.Ytkhmopmfbocokaa.T
open Go.RowKit Go.Proofs.YtkhmopmfbocokaaW.PrintWords Go.Proofs.YtkhmopmfbocokaaW.PrintLast Go.Proofs.YtkhmopmfbocokaaW.PrintMore

set_option linter.unusedVariables false
set_option linter.unusedSimpArgs false
end Go.Proofs.Ytkhmopmfbocokaa.T
namespace Go.Proofs.Ytkhmopmfbocokaa.T
open Go.RowKit Go.Proofs.YtkhmopmfbocokaaW.PrintWords Go.Proofs.YtkhmopmfbocokaaW.PrintLast Go.Proofs.YtkhmopmfbocokaaW.PrintMore

set_option linter.unusedVariables false
set_option linter.unusedSimpArgs false
end Go.Proofs.Ytkhmopmfbocokaa.T
namespace Go.Proofs.Ytkhmopmfbocokaa.T
open Go.RowKit Go.Proofs.YtkhmopmfbocokaaW.PrintWords Go.Proofs.YtkhmopmfbocokaaW.PrintLast Go.Proofs.YtkhmopmfbocokaaW.PrintMore

set_option linter.unusedVariables false
set_option linter.unusedSimpArgs false
def impl_within.f (a0 : Int) (a1 : Int) (a2 : Int) : Option (Bool) := if a0 ≥ a1 then (some (decide (a0 ≤ a2))) else (some false)
set_option maxHeartbeats 8000000 in
set_option maxRecDepth 100000 in
theorem impl_within.calls (a0 : Int) (a1 : Int) (a2 : Int) (r : Bool) (w : World) (h : impl_within.f a0 a1 a2 = some r) :
  Calls Try.prog 52 #[.int .i64 a0, .int .i64 a1, .int .i64 a2] w fun e w' => e = .returned (.bool r) ∧ Drawn0 w w' := by
 have H : (if a0 ≥ a1 then (some (decide (a0 ≤ a2))) else (some false)) = some r := h; clear h; by_cases c4 : a0 ≥ a1
 ·
  rw [if_pos c4] at H; have c4b0 : decide (a1 ≤ a0) = true := decide_eq_true c4; clear c4; obtain rfl := Option.some.inj H; go_enter Try.func52, Try.ntmps52; go_wp2; go_ret; exact ⟨by first | rfl | (simp; done) | (simp [*]; done), by repeat (first | exact Drawn0.refl _ | apply Drawn0.step)⟩
 ·
  rw [if_neg c4] at H; have c4b0 : decide (a1 ≤ a0) = false := decide_eq_false c4; clear c4; obtain rfl := Option.some.inj H; go_enter Try.func52, Try.ntmps52; go_wp2; go_ret; exact ⟨by first | rfl | (simp; done) | (simp [*]; done), by repeat (first | exact Drawn0.refl _ | apply Drawn0.step)⟩
def impl_idValid.f (a0 : Int) : Option (Bool) := (impl_within.f a0 0 254).bind fun t282 => (some t282)
set_option maxHeartbeats 8000000 in
set_option maxRecDepth 100000 in
theorem impl_idValid.calls (a0 : Int) (r : Bool) (w : World) (h : impl_idValid.f a0 = some r) :
  Calls Try.prog 51 #[.int .i64 a0] w fun e w' => e = .returned (.bool r) ∧ Drawn0 w w' := by
 have H : ((impl_within.f a0 0 254).bind fun t282 => (some t282)) = some r := h; clear h; replace H := Option.bind_eq_some_iff.mp H; obtain ⟨t282, A20, H⟩ := H; replace H : (some t282) = some r := H; have A2 := zzm A20; clear A20; obtain rfl := Option.some.inj H; go_enter Try.func51, Try.ntmps51; go_wp2_with (first | ((with_reducible refine gate_callee (f := 52) rfl ?_); refine goesL_ (some 4) rfl rfl Try.func52 (by kernel_rfl) rfl #[.int .i64 a0, .int .i64 0, .int .i64 254] rfl (by (try simp only [List.map_toArray, List.map_cons, List.map_nil]); first | done | rfl | (simp only [List.length_drop, List.length_take]; rfl)) ?_; (with_reducible refine (impl_within.calls a0 0 254 t282 _ A2.out).mono ?_); rintro e w' ⟨rfl, ⟨nd, rfl⟩⟩; refine ⟨_, rfl, ?_⟩)); go_ret; exact ⟨by first | rfl | (simp; done) | (simp [*]; done), by repeat (first | exact Drawn0.refl _ | apply Drawn0.step)⟩
end Go.Proofs.Ytkhmopmfbocokaa.T
namespace Go.Proofs.Ytkhmopmfbocokaa.T
open Go.RowKit Go.Proofs.YtkhmopmfbocokaaW.PrintWords Go.Proofs.YtkhmopmfbocokaaW.PrintLast Go.Proofs.YtkhmopmfbocokaaW.PrintMore

set_option linter.unusedVariables false
set_option linter.unusedSimpArgs false
theorem quiet_drawn {P : Program} {f : FuncId} {args : Array Value} {w : World} {n : Nat} {v : Value} (h : Calls P f args (w.drewN n) fun e w' => e = .returned v ∧ Drawn0 (w.drewN n) w') : Calls P f args (w.drewN n) fun e w'' => e = .returned v ∧ ∃ m, w'' = w.drewN m := Calls.quiet_of (h.mono fun _ _ h_ => ⟨h_.1, h_.2.out⟩)
def prodAt (l : List S39) (i : Nat) : Bool := decide (((0 ≤ (rd_T39 l (i : Int)).f0 ∧ (rd_T39 l (i : Int)).f0 ≤ 254) ∧ (0 ≤ (rd_T39 l (i : Int)).f1 ∧ (rd_T39 l (i : Int)).f1 ≤ 99) ∧ (0 ≤ (rd_T39 l (i : Int)).f2 ∧ (rd_T39 l (i : Int)).f2 ≤ 99999)) ∧ (0 < i → (rd_T39 l ((i : Int) - 1)).f0 < (rd_T39 l (i : Int)).f0))
def prodsAll (l : List S39) : Bool := decide (l.length ≤ 20) && decide (∀ i, i < l.length → prodAt l i = true)
theorem prodsAll_no {l : List S39} {k : Nat} (hk : k < l.length) (h : prodAt l k = false) : prodsAll l = false := by
 unfold prodsAll; rw [Bool.and_eq_false_iff]; exact .inr (by rw [decide_eq_false_iff_not]; intro h2; rw [h2 k hk] at h; cases h)
theorem prodsAll_long {l : List S39} (h : 20 < l.length) : prodsAll l = false := by
 unfold prodsAll; rw [decide_eq_false (by omega), Bool.false_and]
theorem within_eqT (a b c : Int) (r : Bool) (h : decide (b ≤ a ∧ a ≤ c) = r) : impl_within.f a b c = some r := by
 subst h; unfold impl_within.f; by_cases h : a ≥ b
 ·
  rw [if_pos h]; have : (b ≤ a ∧ a ≤ c) ↔ a ≤ c := ⟨fun h => h.2, fun h' => ⟨h, h'⟩⟩; simp [this]
 ·
  rw [if_neg h]; have : ¬ (b ≤ a ∧ a ≤ c) := fun h' => h h'.1; simp [this]
theorem idValid_eqT (a : Int) (r : Bool) (h : decide (0 ≤ a ∧ a ≤ 254) = r) : impl_idValid.f a = some r := by
 unfold impl_idValid.f; rw [within_eqT a 0 254 r h]; rfl
def impl_ProducersValid.f (k : Nat) (l0 : List S39) : Option Bool := some (prodsAll l0)
set_option maxHeartbeats 8000000 in
set_option maxRecDepth 100000 in
theorem impl_ProducersValid.calls (k : Nat) (A0 : Option Addr) (c0 : Nat) (l0 : List (S39)) (r : Bool) (w : World) (hr0 : Kd.C k39 w A0 l0.length l0) (hc0 : l0.length ≤ c0) (h : impl_ProducersValid.f k l0 = some r) :
  Calls Try.prog 19 #[.slice A0 l0.length c0] w fun e w' => e = .returned (.bool r) ∧ Below w.heap.size w w' := by
 obtain rfl := Option.some.inj h; clear h; have hmax : l0.length ≤ 9223372036854775807 := hr0.2.1; have HR := zzm hr0; have HB := zzm (Below.refl w.heap.size w); clear hr0; by_cases hlen : 20 < l0.length
 ·
  have HF := zzm (prodsAll_long hlen); have hlen2 : decide (20 < (l0.length : Int)) = true := decide_eq_true (by omega); go_enter Try.func19, Try.ntmps19; go_wp2; go_ret; exact ⟨by rw [HF.out]; rfl, HB.out⟩
 ·
  have hlen2 : decide (20 < (l0.length : Int)) = false := decide_eq_false (by omega); have hlen3 : decide (20 < l0.length) = false := decide_eq_false hlen; go_enter Try.func19, Try.ntmps19; go_wp2; go_loopw [10, 3, 4] (fun i i3 i4 W => ∃ k : Nat, k ≤ l0.length ∧ i = .int .i64 k ∧ Aside0 (∀ j, j < k → prodAt l0 j = true) ∧ Aside0 (Below w.heap.size w W)) (fun i _ _ _ => l0.length - (intOf i).toNat)
  case atStart => exact ⟨0, Nat.zero_le _, rfl, ⟨fun j hj => by omega⟩, HB⟩
  case round =>
   clear HB; obtain ⟨k, hk, rfl, HN, HB⟩ := hrel; by_cases hlt : k < l0.length
   ·
    obtain ⟨ad, he, hx0, hx1, hx2⟩ := at_T39 HR.out (k : Int) (by omega) (by omega); subst he; replace hx0 := (HB.out.cell (zzn w _ hx0)).trans hx0; replace hx1 := (HB.out.cell (zzn w _ hx1)).trans hx1; replace hx2 := (HB.out.cell (zzn w _ hx2)).trans hx2; simp only [Int.toNat_natCast] at hx0 hx1 hx2; have HP : Aside0 (prodAt l0 k = decide (((0 ≤ (rd_T39 l0 (k : Int)).f0 ∧ (rd_T39 l0 (k : Int)).f0 ≤ 254) ∧ (0 ≤ (rd_T39 l0 (k : Int)).f1 ∧ (rd_T39 l0 (k : Int)).f1 ≤ 99) ∧ (0 ≤ (rd_T39 l0 (k : Int)).f2 ∧ (rd_T39 l0 (k : Int)).f2 ≤ 99999)) ∧ (0 < k → (rd_T39 l0 ((k : Int) - 1)).f0 < (rd_T39 l0 (k : Int)).f0))) := ⟨rfl⟩; obtain ⟨p, hp⟩ : ∃ p, p = rd_T39 l0 (k : Int) := ⟨_, rfl⟩; simp only [← hp] at hx0 hx1 hx2; rw [← hp] at HP; clear hp; obtain ⟨x, y, z⟩ := p; have HNO := zzm (fun h => prodsAll_no (l := l0) hlt h); go_wp2_with ((with_reducible refine gate_dst (N := 4) rfl ?_); refine box_event ?hg (N := 4) ?hd (cs := #[.int .i64 0, .int .i64 0, .int .i64 0]) (t := 39) ?hr ?_; (case hd => rfl); (case hg => rfl); (case hr => first | (go_simp; done) | (go_simp; rfl)); intro gb hg w13 hbox hb; have HB13 := zzm (zzp HB.out hb); have BK := zzm hbox; have GE := zzm (show w.heap.size ≤ gb by rw [hg]; exact HB.out.size); clear hb hbox hg; have hcz0 := (zzk BK.out 0).trans rfl; have hcz1 := (zzk BK.out 1).trans rfl; have hcz2 := (zzk BK.out 2).trans rfl; have hf0 := zzl BK.out 0; have hf1 := zzl BK.out 1; have hf2 := zzl BK.out 2); have BK2 := zzm (blk_set (blk_set (blk_set BK.out 0 (.int .i64 x)) 1 (.int .i64 y)) 2 (.int .i64 z)); have HB2 := zzm (zzd (zzd (zzd HB13.out GE.out (j := 0) (v := .int .i64 x)) GE.out (j := 1) (v := .int .i64 y)) GE.out (j := 2) (v := .int .i64 z)); clear hcz0 hcz1 hcz2 hf0 hf1 hf2 BK HB13 hx0 hx1 hx2 HB; generalize ((w13.setCell ⟨gb, 0, none⟩ (.int .i64 x)).setCell ⟨gb, 1, none⟩ (.int .i64 y)).setCell ⟨gb, 2, none⟩ (.int .i64 z) = w14 at BK2 HB2 ⊢; have d0 : w14.cell? ⟨gb, 0, none⟩ = some (.int .i64 x) := (zzk BK2.out 0).trans rfl; have d1 : w14.cell? ⟨gb, 1, none⟩ = some (.int .i64 y) := (zzk BK2.out 1).trans rfl; have d2 : w14.cell? ⟨gb, 2, none⟩ = some (.int .i64 z) := (zzk BK2.out 2).trans rfl; by_cases k0 : 0 ≤ x ∧ x ≤ 254
    ·
     have e0 := idValid_eqT x true (decide_eq_true k0); by_cases k1 : 0 ≤ y ∧ y ≤ 99
     ·
      have e1 := within_eqT y 0 99 true (decide_eq_true k1); by_cases k2 : 0 ≤ z ∧ z ≤ 99999
      ·
       have e2 := within_eqT z 0 99999 true (decide_eq_true k2); by_cases h0 : 0 < k
       ·
        obtain ⟨ad', he, hy0, _, _⟩ := at_T39 HR.out ((k : Int) - 1) (by omega) (by omega); injection he with he; subst he; replace hy0 := (HB2.out.cell (zzn w _ hy0)).trans hy0; rw [show ((k : Int) - 1).toNat = k - 1 by omega] at hy0; generalize (rd_T39 l0 ((k : Int) - 1)).f0 = q at hy0 HP; have hk0 : decide (0 < (k : Int)) = true := decide_eq_true (by omega); have hk1 : decide (0 < k) = true := decide_eq_true h0; have hs1 : IntKind.i64.wrap ((k : Int) - 1) = (k : Int) - 1 := IntWalk.i64_in _ (by omega); have hs2 : ((k : Int) - 1).toNat = k - 1 := by omega
        have hs3 : (0 ≤ (k : Int) - 1) = True := eq_true (by omega); have hs5 : (1 ≤ (k : Int)) = True := eq_true (by omega); have hs4 : ((k : Int) - 1 < (l0.length : Int)) = True := eq_true (by omega); by_cases hge : x ≤ q
        ·
         have hge2 : decide (x ≤ q) = true := decide_eq_true hge; have HF := zzm (HNO.out (by rw [HP.out]; exact decide_eq_false (fun h => by have := h.2 h0; omega))); clear HNO HP k0 k1 k2; go_quiet ((first | (go_at_call 51; with_reducible exact quiet_drawn (impl_idValid.calls x true _ e0)) | (go_at_call 52; with_reducible exact quiet_drawn (impl_within.calls y 0 99 true _ e1)) | (go_at_call 52; with_reducible exact quiet_drawn (impl_within.calls z 0 99999 true _ e2))))
         go_wp2; go_ret; exact ⟨by rw [HF.out]; rfl, zzb HB2.out _⟩
        ·
         have hge2 : decide (x ≤ q) = false := decide_eq_false hge; have HY := zzm (show prodAt l0 k = true by rw [HP.out]; exact decide_eq_true ⟨⟨k0, k1, k2⟩, fun _ => by omega⟩); clear HNO HP k0 k1 k2; go_quiet ((first | (go_at_call 51; with_reducible exact quiet_drawn (impl_idValid.calls x true _ e0)) | (go_at_call 52; with_reducible exact quiet_drawn (impl_within.calls y 0 99 true _ e1)) | (go_at_call 52; with_reducible exact quiet_drawn (impl_within.calls z 0 99999 true _ e2))))
         clear hs1 hs2 hs3 hs4 hs5; go_wp2; go_roundw
         case rel => exact ⟨k + 1, by omega, by go_num, ⟨fun j hj => by by_cases e : j = k; (subst e; exact HY.out); exact HN.out j (by omega)⟩, ⟨zzb HB2.out _⟩⟩
         case measure => simp [intOf]; omega
       ·
        have hk0 : decide (0 < (k : Int)) = false := decide_eq_false (by omega); have hk1 : decide (0 < k) = false := decide_eq_false h0; have HY := zzm (show prodAt l0 k = true by rw [HP.out]; exact decide_eq_true ⟨⟨k0, k1, k2⟩, fun h => absurd h h0⟩); clear HNO HP k0 k1 k2; go_quiet ((first | (go_at_call 51; with_reducible exact quiet_drawn (impl_idValid.calls x true _ e0)) | (go_at_call 52; with_reducible exact quiet_drawn (impl_within.calls y 0 99 true _ e1)) | (go_at_call 52; with_reducible exact quiet_drawn (impl_within.calls z 0 99999 true _ e2))))
        go_wp2; go_roundw
        case rel => exact ⟨k + 1, by omega, by go_num, ⟨fun j hj => by by_cases e : j = k; (subst e; exact HY.out); exact HN.out j (by omega)⟩, ⟨zzb HB2.out _⟩⟩
        case measure => simp [intOf]; omega
      ·
       have e2 := within_eqT z 0 99999 false (decide_eq_false k2); have HF := zzm (HNO.out (by rw [HP.out]; exact decide_eq_false (fun h => k2 h.1.2.2))); clear HNO HP k0 k1 k2; go_quiet ((first | (go_at_call 51; with_reducible exact quiet_drawn (impl_idValid.calls x true _ e0)) | (go_at_call 52; with_reducible exact quiet_drawn (impl_within.calls y 0 99 true _ e1)) | (go_at_call 52; with_reducible exact quiet_drawn (impl_within.calls z 0 99999 false _ e2))))
       go_wp2; go_ret; exact ⟨by rw [HF.out]; rfl, zzb HB2.out _⟩
     ·
      have e1 := within_eqT y 0 99 false (decide_eq_false k1); have HF := zzm (HNO.out (by rw [HP.out]; exact decide_eq_false (fun h => k1 h.1.2.1))); clear HNO HP k0 k1; go_quiet ((first | (go_at_call 51; with_reducible exact quiet_drawn (impl_idValid.calls x true _ e0)) | (go_at_call 52; with_reducible exact quiet_drawn (impl_within.calls y 0 99 false _ e1))))
      go_wp2; go_ret; exact ⟨by rw [HF.out]; rfl, zzb HB2.out _⟩
    ·
     have e0 := idValid_eqT x false (decide_eq_false k0); have HF := zzm (HNO.out (by rw [HP.out]; exact decide_eq_false (fun h => k0 h.1.1))); clear HNO HP k0; go_quiet ((go_at_call 51; with_reducible exact quiet_drawn (impl_idValid.calls x false _ e0)))
     go_wp2; go_ret; exact ⟨by rw [HF.out]; rfl, zzb HB2.out _⟩
   ·
    have hk2 : k = l0.length := by omega
    have HF := zzm (show prodsAll l0 = true by unfold prodsAll; rw [decide_eq_true (show l0.length ≤ 20 by omega), Bool.true_and]; exact decide_eq_true (fun i hi => HN.out i (by omega))); go_wp2; go_ret; exact ⟨by rw [HF.out]; rfl, HB.out⟩
def impl_baseValid.f (a0 : Int) (a1 : Int) : Option (Bool) := (impl_within.f a0 0 99999).bind fun t283 => (if t283 = true then ((impl_within.f a1 0 99999).bind fun t284 => (some t284)) else (some false))
set_option maxHeartbeats 8000000 in
set_option maxRecDepth 100000 in
theorem impl_baseValid.calls (a0 : Int) (a1 : Int) (r : Bool) (w : World) (h : impl_baseValid.f a0 a1 = some r) :
  Calls Try.prog 72 #[.int .i64 a0, .int .i64 a1] w fun e w' => e = .returned (.bool r) ∧ Drawn0 w w' := by
 have H : ((impl_within.f a0 0 99999).bind fun t283 => (if t283 = true then ((impl_within.f a1 0 99999).bind fun t284 => (some t284)) else (some false))) = some r := h; clear h; replace H := Option.bind_eq_some_iff.mp H; obtain ⟨t283, A30, H⟩ := H; replace H : (if t283 = true then ((impl_within.f a1 0 99999).bind fun t284 => (some t284)) else (some false)) = some r := H; have A3 := zzm A30; clear A30; by_cases c4 : t283 = true
 ·
  subst c4; have H1 : ((impl_within.f a1 0 99999).bind fun t284 => (some t284)) = some r := by rw [if_pos rfl] at H; exact H
  clear H; have H := H1; clear H1; replace H := Option.bind_eq_some_iff.mp H; obtain ⟨t284, A50, H⟩ := H; replace H : (some t284) = some r := H; have A5 := zzm A50; clear A50; obtain rfl := Option.some.inj H; go_enter Try.func72, Try.ntmps72; go_wp2_with (first | ((with_reducible refine gate_callee (f := 52) rfl ?_); refine goesL_ (some 6) rfl rfl Try.func52 (by kernel_rfl) rfl #[.int .i64 a0, .int .i64 0, .int .i64 99999] rfl (by (try simp only [List.map_toArray, List.map_cons, List.map_nil]); first | done | rfl | (simp only [List.length_drop, List.length_take]; rfl)) ?_; (with_reducible refine (impl_within.calls a0 0 99999 true _ A3.out).mono ?_); rintro e w' ⟨rfl, ⟨nd, rfl⟩⟩; refine ⟨_, rfl, ?_⟩) | (go_at_call 52; (with_reducible refine (impl_within.calls a1 0 99999 t284 _ A5.out).mono ?_); rintro e w' ⟨rfl, ⟨nd, rfl⟩⟩)); go_ret; exact ⟨by first | rfl | (simp; done) | (simp [*]; done), by repeat (first | exact Drawn0.refl _ | apply Drawn0.step)⟩
 ·
  replace c4 := Bool.eq_false_iff.mpr c4; subst c4; have H1 : (some false) = some r := by rw [if_neg (show ¬ (false = true) by decide)] at H; exact H
  clear H; have H := H1; clear H1; obtain rfl := Option.some.inj H; go_enter Try.func72, Try.ntmps72; go_wp2_with (first | ((with_reducible refine gate_callee (f := 52) rfl ?_); refine goesL_ (some 6) rfl rfl Try.func52 (by kernel_rfl) rfl #[.int .i64 a0, .int .i64 0, .int .i64 99999] rfl (by (try simp only [List.map_toArray, List.map_cons, List.map_nil]); first | done | rfl | (simp only [List.length_drop, List.length_take]; rfl)) ?_; (with_reducible refine (impl_within.calls a0 0 99999 false _ A3.out).mono ?_); rintro e w' ⟨rfl, ⟨nd, rfl⟩⟩; refine ⟨_, rfl, ?_⟩)); go_ret; exact ⟨by first | rfl | (simp; done) | (simp [*]; done), by repeat (first | exact Drawn0.refl _ | apply Drawn0.step)⟩
end Go.Proofs.Ytkhmopmfbocokaa.T
namespace Go.Proofs.Ytkhmopmfbocokaa.T
open Go.RowKit Go.Proofs.YtkhmopmfbocokaaW.PrintWords Go.Proofs.YtkhmopmfbocokaaW.PrintLast Go.Proofs.YtkhmopmfbocokaaW.PrintMore

set_option linter.unusedVariables false
set_option linter.unusedSimpArgs false
def impl_isByte.f (a0 : Int) : Option (Bool) := if a0 ≥ 0 then (some (decide (a0 ≤ 255))) else (some false)
set_option maxHeartbeats 8000000 in
set_option maxRecDepth 100000 in
theorem impl_isByte.calls (a0 : Int) (r : Bool) (w : World) (h : impl_isByte.f a0 = some r) :
  Calls Try.prog 84 #[.int .i64 a0] w fun e w' => e = .returned (.bool r) ∧ Drawn0 w w' := by
 have H : (if a0 ≥ 0 then (some (decide (a0 ≤ 255))) else (some false)) = some r := h; clear h; by_cases c2 : a0 ≥ 0
 ·
  rw [if_pos c2] at H; have c2b0 : decide (0 ≤ a0) = true := decide_eq_true c2; clear c2; obtain rfl := Option.some.inj H; go_enter Try.func84, Try.ntmps84; go_wp2; go_ret; exact ⟨by first | rfl | (simp; done) | (simp [*]; done), by repeat (first | exact Drawn0.refl _ | apply Drawn0.step)⟩
 ·
  rw [if_neg c2] at H; have c2b0 : decide (0 ≤ a0) = false := decide_eq_false c2; clear c2; obtain rfl := Option.some.inj H; go_enter Try.func84, Try.ntmps84; go_wp2; go_ret; exact ⟨by first | rfl | (simp; done) | (simp [*]; done), by repeat (first | exact Drawn0.refl _ | apply Drawn0.step)⟩
def impl_allBytes.l0 : Nat → List Int → Int → Int → Option (Bool)
 | 0, _, _, _ => none
 | k + 1, x5, x6, x7 => if x7 < x6 then (if 0 ≤ x7 then (if x7 < (x5.length : Int) then ((impl_isByte.f (rd x5 x7)).bind fun t286 => (if t286 = true then (impl_allBytes.l0 k x5 x6 (wrap64 (x7 + 1))) else (some false))) else (none)) else (none)) else (some true)
def impl_allBytes.f (k : Nat) (l0 : List Int) : Option (Bool) := impl_allBytes.l0 k l0 (l0.length : Int) 0
set_option maxHeartbeats 8000000 in
set_option maxRecDepth 100000 in
theorem impl_allBytes.calls (k : Nat) (A0 : Option Addr) (c0 : Nat) (l0 : List Int) (r : Bool) (w : World) (hr0 : Kd.C (Kd.int .i64) w A0 l0.length l0) (hc0 : l0.length ≤ c0) (h : impl_allBytes.f k l0 = some r) :
  Calls Try.prog 79 #[.slice A0 l0.length c0] w fun e w' => e = .returned (.bool r) ∧ Drawn0 w w' := by
 have HR0 := zzm hr0; have HC0 := zzm hc0; clear hr0 hc0; have H : (impl_allBytes.l0 k l0 (l0.length : Int) 0) = some r := h; clear h; have H' := zzm H; clear H; go_enter Try.func79, Try.ntmps79; go_wp2; go_loopg [7] k (fun kq v7 w' => ∃ (x7_1 : Int), v7 = .int .i64 x7_1 ∧ Aside0 (impl_allBytes.l0 kq l0 (l0.length : Int) x7_1 = some r) ∧ Aside0 (kq ≤ k) ∧ Drawn0 w w')
 case atStart => exact ⟨(0), (by first | rfl | (simp; done) | (simp [*]; done)), H', ⟨Nat.le_refl _⟩, by repeat (first | exact Drawn0.refl _ | apply Drawn0.step)⟩
 case round =>
  clear H'; obtain ⟨x7_1, rfl, HA, HK1, ⟨m1, rfl⟩⟩ := hrel; cases gk with
  | zero => exact absurd HA.out (by simp [impl_allBytes.l0])
  | succ k1 =>
   have H := HA.out; clear HA; simp only [impl_allBytes.l0] at H; by_cases c2 : x7_1 < (l0.length : Int)
   ·
    rw [if_pos c2] at H; have c2b0 : decide (x7_1 < (l0.length : Int)) = true := decide_eq_true c2; clear c2; by_cases c3 : 0 ≤ x7_1
    ·
     rw [if_pos c3] at H; have c3b0 : decide (0 ≤ x7_1) = true := decide_eq_true c3; clear c3; by_cases c4 : x7_1 < (l0.length : Int)
     ·
      rw [if_pos c4] at H; have c4b0 : decide (x7_1 < (l0.length : Int)) = true := decide_eq_true c4; clear c4; replace H := Option.bind_eq_some_iff.mp H; obtain ⟨t286, A50, H⟩ := H; replace H : (if t286 = true then (impl_allBytes.l0 k1 l0 (l0.length : Int) (wrap64 (x7_1 + 1))) else (some false)) = some r := H; have A5 := zzm A50; clear A50; by_cases c6 : t286 = true
      ·
       subst c6; have H1 : (impl_allBytes.l0 k1 l0 (l0.length : Int) (wrap64 (x7_1 + 1))) = some r := by rw [if_pos rfl] at H; exact H
       clear H; have H := H1; clear H1; have H' := zzm H; clear H; have p285 : 0 ≤ (x7_1 : Int) := of_decide_eq_true (by first | (with_reducible assumption) | assumption); have q285 : x7_1 < (l0.length : Int) := of_decide_eq_true (by first | (with_reducible assumption) | assumption); obtain ⟨ad285, e285, hx285_0⟩ := Kd.at_int HR0.out x7_1 p285 q285; cases e285; replace p285 := eq_true p285; replace q285 := eq_true q285; go_wp2_with (first | ((with_reducible refine gate_callee (f := 84) rfl ?_); refine goesL_ (some 12) rfl rfl Try.func84 (by kernel_rfl) rfl #[.int .i64 (rd l0 x7_1)] rfl (by (try simp only [List.map_toArray, List.map_cons, List.map_nil]); first | done | rfl | (simp only [List.length_drop, List.length_take]; rfl)) ?_; (with_reducible refine (impl_isByte.calls (rd l0 x7_1) true _ A5.out).mono ?_); rintro e w' ⟨rfl, ⟨nd, rfl⟩⟩; refine ⟨_, rfl, ?_⟩)); go_roundg k1
       case measure => have := HK1.out; omega
       case rel => exact ⟨(wrap64 (x7_1 + 1)), (by first | rfl | (simp; done) | (simp [*]; done)), H', ⟨by have := HK1.out; omega⟩, by repeat (first | exact Drawn0.refl _ | apply Drawn0.step)⟩
      ·
       replace c6 := Bool.eq_false_iff.mpr c6; subst c6; have H1 : (some false) = some r := by rw [if_neg (show ¬ (false = true) by decide)] at H; exact H
       clear H; have H := H1; clear H1; obtain rfl := Option.some.inj H; have p285 : 0 ≤ (x7_1 : Int) := of_decide_eq_true (by first | (with_reducible assumption) | assumption); have q285 : x7_1 < (l0.length : Int) := of_decide_eq_true (by first | (with_reducible assumption) | assumption); obtain ⟨ad285, e285, hx285_0⟩ := Kd.at_int HR0.out x7_1 p285 q285; cases e285; replace p285 := eq_true p285; replace q285 := eq_true q285; go_wp2_with (first | ((with_reducible refine gate_callee (f := 84) rfl ?_); refine goesL_ (some 12) rfl rfl Try.func84 (by kernel_rfl) rfl #[.int .i64 (rd l0 x7_1)] rfl (by (try simp only [List.map_toArray, List.map_cons, List.map_nil]); first | done | rfl | (simp only [List.length_drop, List.length_take]; rfl)) ?_; (with_reducible refine (impl_isByte.calls (rd l0 x7_1) false _ A5.out).mono ?_); rintro e w' ⟨rfl, ⟨nd, rfl⟩⟩; refine ⟨_, rfl, ?_⟩)); go_ret; exact ⟨by first | rfl | (simp; done) | (simp [*]; done), by repeat (first | exact Drawn0.refl _ | apply Drawn0.step)⟩
     ·
      rw [if_neg c4] at H; exact absurd H (by simp)
    ·
     rw [if_neg c3] at H; exact absurd H (by simp)
   ·
    rw [if_neg c2] at H; have c2b0 : decide (x7_1 < (l0.length : Int)) = false := decide_eq_false c2; clear c2; obtain rfl := Option.some.inj H; go_wp2; go_ret; exact ⟨by first | rfl | (simp; done) | (simp [*]; done), by repeat (first | exact Drawn0.refl _ | apply Drawn0.step)⟩
end Go.Proofs.Ytkhmopmfbocokaa.T
namespace Go.Proofs.Ytkhmopmfbocokaa.T
open Go.RowKit Go.Proofs.YtkhmopmfbocokaaW.PrintWords Go.Proofs.YtkhmopmfbocokaaW.PrintLast Go.Proofs.YtkhmopmfbocokaaW.PrintMore

set_option linter.unusedVariables false
set_option linter.unusedSimpArgs false
def impl_partValid.f (k : Nat) (a0 : Bool) (l1 : List Int) : Option (Bool) := if a0 = true then (if (l1.length : Int) ≤ 12 then ((impl_allBytes.f k l1).bind fun t287 => (some t287)) else (some false)) else (some ((l1.length : Int) == 0))
set_option maxHeartbeats 8000000 in
set_option maxRecDepth 100000 in
theorem impl_partValid.calls (k : Nat) (a0 : Bool) (A1 : Option Addr) (c1 : Nat) (l1 : List Int) (r : Bool) (w : World) (hr1 : Kd.C (Kd.int .i64) w A1 l1.length l1) (hc1 : l1.length ≤ c1) (h : impl_partValid.f k a0 l1 = some r) :
  Calls Try.prog 73 #[.bool a0, .slice A1 l1.length c1] w fun e w' => e = .returned (.bool r) ∧ Drawn0 w w' := by
 have HR1 := zzm hr1; have HC1 := zzm hc1; clear hr1 hc1; have H : (if a0 = true then (if (l1.length : Int) ≤ 12 then ((impl_allBytes.f k l1).bind fun t287 => (some t287)) else (some false)) else (some ((l1.length : Int) == 0))) = some r := h; clear h; by_cases c3 : a0 = true
 ·
  subst c3; have H1 : (if (l1.length : Int) ≤ 12 then ((impl_allBytes.f k l1).bind fun t287 => (some t287)) else (some false)) = some r := by rw [if_pos rfl] at H; exact H
  clear H; have H := H1; clear H1; by_cases c4 : (l1.length : Int) ≤ 12
  ·
   rw [if_pos c4] at H; have c4b0 : decide ((l1.length : Int) ≤ 12) = true := decide_eq_true c4; have c4b1 : decide (l1.length ≤ 12) = true := decide_eq_true (by omega); clear c4; replace H := Option.bind_eq_some_iff.mp H; obtain ⟨t287, A50, H⟩ := H; replace H : (some t287) = some r := H; have A5 := zzm A50; clear A50; obtain rfl := Option.some.inj H; go_enter Try.func73, Try.ntmps73; go_wp2_with (first | (go_at_call 79; (with_reducible refine (impl_allBytes.calls k _ _ l1 t287 _ ?side1 ?side2 A5.out).mono ?_); (case side1 => repeat (first | exact HR1.out | (with_reducible refine Kd.C_alloc ?_ _) | (with_reducible refine Kd.C_drewN ?_ _) | (with_reducible refine Kd.C_drew ?_))); (case side2 => exact HC1.out); rintro e w' ⟨rfl, ⟨nd, rfl⟩⟩)); go_ret; exact ⟨by first | rfl | (simp; done) | (simp [*]; done), by repeat (first | exact Drawn0.refl _ | apply Drawn0.step)⟩
  ·
   rw [if_neg c4] at H; have c4b0 : decide ((l1.length : Int) ≤ 12) = false := decide_eq_false c4; have c4b1 : decide (l1.length ≤ 12) = false := decide_eq_false (by omega); clear c4; obtain rfl := Option.some.inj H; go_enter Try.func73, Try.ntmps73; go_wp2; go_ret; exact ⟨by first | rfl | (simp; done) | (simp [*]; done), by repeat (first | exact Drawn0.refl _ | apply Drawn0.step)⟩
 ·
  replace c3 := Bool.eq_false_iff.mpr c3; subst c3; have H1 : (some ((l1.length : Int) == 0)) = some r := by rw [if_neg (show ¬ (false = true) by decide)] at H; exact H
  clear H; have H := H1; clear H1; obtain rfl := Option.some.inj H; go_enter Try.func73, Try.ntmps73; go_wp2; go_ret; exact ⟨by first | rfl | (simp; done) | (simp [*]; done), by repeat (first | exact Drawn0.refl _ | apply Drawn0.step)⟩
def impl_RecordValid.f (k : Nat) (a0_0 : Int) (a0_1 : Int) (a0_2 : Bool) (l0_3 : List Int) (a0_4 : Bool) (l0_5 : List Int) : Option (Bool) := (impl_baseValid.f a0_0 a0_1).bind fun t289 => (if t289 = true then ((impl_partValid.f k a0_2 l0_3).bind fun t290 => (if t290 = true then ((impl_partValid.f k a0_4 l0_5).bind fun t291 => (some t291)) else (some false))) else (some false))
set_option maxHeartbeats 8000000 in
set_option maxRecDepth 100000 in
theorem impl_RecordValid.calls (k : Nat) (a0_0 : Int) (a0_1 : Int) (a0_2 : Bool) (A0_3 : Option Addr) (c0_3 : Nat) (l0_3 : List Int) (a0_4 : Bool) (A0_5 : Option Addr) (c0_5 : Nat) (l0_5 : List Int) (r : Bool) (w : World) (hr0_3 : Kd.C (Kd.int .i64) w A0_3 l0_3.length l0_3) (hc0_3 : l0_3.length ≤ c0_3) (hr0_5 : Kd.C (Kd.int .i64) w A0_5 l0_5.length l0_5) (hc0_5 : l0_5.length ≤ c0_5) (h : impl_RecordValid.f k a0_0 a0_1 a0_2 l0_3 a0_4 l0_5 = some r) :
  Calls Try.prog 61 #[.agg #[.int .i64 a0_0, .int .i64 a0_1, .bool a0_2, .slice A0_3 l0_3.length c0_3, .bool a0_4, .slice A0_5 l0_5.length c0_5]] w fun e w' => e = .returned (.bool r) ∧ Below w.heap.size w w' := by
 have hu79 := Try.underlying79; have HR0_3 := zzm hr0_3; have HC0_3 := zzm hc0_3; clear hr0_3 hc0_3; have HR0_5 := zzm hr0_5; have HC0_5 := zzm hc0_5; clear hr0_5 hc0_5; have HB := zzm (Below.refl w.heap.size w); have H : ((impl_baseValid.f a0_0 a0_1).bind fun t289 => (if t289 = true then ((impl_partValid.f k a0_2 l0_3).bind fun t290 => (if t290 = true then ((impl_partValid.f k a0_4 l0_5).bind fun t291 => (some t291)) else (some false))) else (some false))) = some r := h; clear h; replace H := Option.bind_eq_some_iff.mp H; obtain ⟨t289, A20, H⟩ := H; replace H : (if t289 = true then ((impl_partValid.f k a0_2 l0_3).bind fun t290 => (if t290 = true then ((impl_partValid.f k a0_4 l0_5).bind fun t291 => (some t291)) else (some false))) else (some false)) = some r := H; have A2 := zzm A20; clear A20; by_cases c3 : t289 = true
 ·
  subst c3; have H1 : ((impl_partValid.f k a0_2 l0_3).bind fun t290 => (if t290 = true then ((impl_partValid.f k a0_4 l0_5).bind fun t291 => (some t291)) else (some false))) = some r := by rw [if_pos rfl] at H; exact H
  clear H; have H := H1; clear H1; replace H := Option.bind_eq_some_iff.mp H; obtain ⟨t290, A40, H⟩ := H; replace H : (if t290 = true then ((impl_partValid.f k a0_4 l0_5).bind fun t291 => (some t291)) else (some false)) = some r := H; have A4 := zzm A40; clear A40; by_cases c5 : t290 = true
  ·
   subst c5; have H1 : ((impl_partValid.f k a0_4 l0_5).bind fun t291 => (some t291)) = some r := by rw [if_pos rfl] at H; exact H
   clear H; have H := H1; clear H1; replace H := Option.bind_eq_some_iff.mp H; obtain ⟨t291, A60, H⟩ := H; replace H : (some t291) = some r := H; have A6 := zzm A60; clear A60; obtain rfl := Option.some.inj H; go_enter Try.func61, Try.ntmps61; go_wp2_with (first | ((with_reducible refine gate_dst (N := 1) rfl ?_); refine box_event ?hg (N := 1) ?hd (cs := #[.int .i64 a0_0, .int .i64 a0_1, .bool a0_2, .slice A0_3 l0_3.length c0_3, .bool a0_4, .slice A0_5 l0_5.length c0_5]) (t := 79) ?hr ?_; (case hd => rfl); (case hg => rfl); (case hr => first | (go_simp; done) | (go_simp; rfl)); intro gb288 hg w7 hbox hb; have n0_ := zzm (zzp (by repeat (first | (with_reducible first | exact HB.out | apply zza | apply zzb | apply zzc) | exact HB.out)) hb); have n1_ := zzm (hbox); have n2_ := zzm ((by rw [hg]; exact (zzo (by repeat (first | (with_reducible first | exact HB.out | apply zza | apply zzb | apply zzc) | exact HB.out))) : w.heap.size ≤ gb288)); have n3_ := zzm ((by rw [hg]; exact (zzo (by repeat (first | (with_reducible first | exact HB.out | apply zza | apply zzb | apply zzc) | exact HB.out))) : w.heap.size ≤ gb288)); clear HB; have HB := n0_; have BK288 := n1_; have GW288 := n2_; have GE288 := n3_; clear n0_ n1_ n2_ n3_ hb hbox hg; obtain ⟨hcz8_0, hcz8_1, hcz8_2, hcz8_3, hcz8_4, hcz8_5, hfz8_0, hfz8_1, hfz8_2, hfz8_3, hfz8_4, hfz8_5⟩ := zzc6 BK288.out) | ((with_reducible refine gate_callee (f := 72) rfl ?_); refine goesL_ (some 7) rfl rfl Try.func72 (by kernel_rfl) rfl #[.int .i64 a0_0, .int .i64 a0_1] rfl (by (try simp only [List.map_toArray, List.map_cons, List.map_nil]); first | done | rfl | (simp only [List.length_drop, List.length_take]; rfl)) ?_; (with_reducible refine (impl_baseValid.calls a0_0 a0_1 true _ A2.out).mono ?_); rintro e w' ⟨rfl, ⟨nd, rfl⟩⟩; refine ⟨_, rfl, ?_⟩) | (go_at_call 73; (with_reducible refine (impl_partValid.calls k a0_2 _ _ l0_3 true _ ?side1 ?side2 A4.out).mono ?_); (case side1 => repeat (first | exact (Kd.C_below HR0_3.out (by repeat (first | (with_reducible first | exact HB.out | apply zza | apply zzb | apply zzc | refine zzd ?_ GE288.out) | exact HB.out))) | (with_reducible refine Kd.C_alloc ?_ _) | (with_reducible refine Kd.C_drewN ?_ _) | (with_reducible refine Kd.C_drew ?_))); (case side2 => exact HC0_3.out); rintro e w' ⟨rfl, ⟨nd, rfl⟩⟩) | (go_at_call 73; (with_reducible refine (impl_partValid.calls k a0_4 _ _ l0_5 t291 _ ?side1 ?side2 A6.out).mono ?_); (case side1 => repeat (first | exact (Kd.C_below HR0_5.out (by repeat (first | (with_reducible first | exact HB.out | apply zza | apply zzb | apply zzc | refine zzd ?_ GE288.out) | exact HB.out))) | (with_reducible refine Kd.C_alloc ?_ _) | (with_reducible refine Kd.C_drewN ?_ _) | (with_reducible refine Kd.C_drew ?_))); (case side2 => exact HC0_5.out); rintro e w' ⟨rfl, ⟨nd, rfl⟩⟩)); go_ret; exact ⟨by first | rfl | (simp [errW_none, errW_some] <;> rfl) | (simp [*, errW_none, errW_some] <;> rfl), by repeat (first | (with_reducible first | exact HB.out | apply zza | apply zzb | apply zzc | refine zzd ?_ GE288.out) | exact HB.out)⟩
  ·
   replace c5 := Bool.eq_false_iff.mpr c5; subst c5; have H1 : (some false) = some r := by rw [if_neg (show ¬ (false = true) by decide)] at H; exact H
   clear H; have H := H1; clear H1; obtain rfl := Option.some.inj H; go_enter Try.func61, Try.ntmps61; go_wp2_with (first | ((with_reducible refine gate_dst (N := 1) rfl ?_); refine box_event ?hg (N := 1) ?hd (cs := #[.int .i64 a0_0, .int .i64 a0_1, .bool a0_2, .slice A0_3 l0_3.length c0_3, .bool a0_4, .slice A0_5 l0_5.length c0_5]) (t := 79) ?hr ?_; (case hd => rfl); (case hg => rfl); (case hr => first | (go_simp; done) | (go_simp; rfl)); intro gb288 hg w9 hbox hb; have n0_ := zzm (zzp (by repeat (first | (with_reducible first | exact HB.out | apply zza | apply zzb | apply zzc) | exact HB.out)) hb); have n1_ := zzm (hbox); have n2_ := zzm ((by rw [hg]; exact (zzo (by repeat (first | (with_reducible first | exact HB.out | apply zza | apply zzb | apply zzc) | exact HB.out))) : w.heap.size ≤ gb288)); have n3_ := zzm ((by rw [hg]; exact (zzo (by repeat (first | (with_reducible first | exact HB.out | apply zza | apply zzb | apply zzc) | exact HB.out))) : w.heap.size ≤ gb288)); clear HB; have HB := n0_; have BK288 := n1_; have GW288 := n2_; have GE288 := n3_; clear n0_ n1_ n2_ n3_ hb hbox hg; obtain ⟨hcz10_0, hcz10_1, hcz10_2, hcz10_3, hcz10_4, hcz10_5, hfz10_0, hfz10_1, hfz10_2, hfz10_3, hfz10_4, hfz10_5⟩ := zzc6 BK288.out) | ((with_reducible refine gate_callee (f := 72) rfl ?_); refine goesL_ (some 7) rfl rfl Try.func72 (by kernel_rfl) rfl #[.int .i64 a0_0, .int .i64 a0_1] rfl (by (try simp only [List.map_toArray, List.map_cons, List.map_nil]); first | done | rfl | (simp only [List.length_drop, List.length_take]; rfl)) ?_; (with_reducible refine (impl_baseValid.calls a0_0 a0_1 true _ A2.out).mono ?_); rintro e w' ⟨rfl, ⟨nd, rfl⟩⟩; refine ⟨_, rfl, ?_⟩) | (go_at_call 73; (with_reducible refine (impl_partValid.calls k a0_2 _ _ l0_3 false _ ?side1 ?side2 A4.out).mono ?_); (case side1 => repeat (first | exact (Kd.C_below HR0_3.out (by repeat (first | (with_reducible first | exact HB.out | apply zza | apply zzb | apply zzc | refine zzd ?_ GE288.out) | exact HB.out))) | (with_reducible refine Kd.C_alloc ?_ _) | (with_reducible refine Kd.C_drewN ?_ _) | (with_reducible refine Kd.C_drew ?_))); (case side2 => exact HC0_3.out); rintro e w' ⟨rfl, ⟨nd, rfl⟩⟩)); go_ret; exact ⟨by first | rfl | (simp [errW_none, errW_some] <;> rfl) | (simp [*, errW_none, errW_some] <;> rfl), by repeat (first | (with_reducible first | exact HB.out | apply zza | apply zzb | apply zzc | refine zzd ?_ GE288.out) | exact HB.out)⟩
 ·
  replace c3 := Bool.eq_false_iff.mpr c3; subst c3; have H1 : (some false) = some r := by rw [if_neg (show ¬ (false = true) by decide)] at H; exact H
  clear H; have H := H1; clear H1; obtain rfl := Option.some.inj H; go_enter Try.func61, Try.ntmps61; go_wp2_with (first | ((with_reducible refine gate_dst (N := 1) rfl ?_); refine box_event ?hg (N := 1) ?hd (cs := #[.int .i64 a0_0, .int .i64 a0_1, .bool a0_2, .slice A0_3 l0_3.length c0_3, .bool a0_4, .slice A0_5 l0_5.length c0_5]) (t := 79) ?hr ?_; (case hd => rfl); (case hg => rfl); (case hr => first | (go_simp; done) | (go_simp; rfl)); intro gb288 hg w11 hbox hb; have n0_ := zzm (zzp (by repeat (first | (with_reducible first | exact HB.out | apply zza | apply zzb | apply zzc) | exact HB.out)) hb); have n1_ := zzm (hbox); have n2_ := zzm ((by rw [hg]; exact (zzo (by repeat (first | (with_reducible first | exact HB.out | apply zza | apply zzb | apply zzc) | exact HB.out))) : w.heap.size ≤ gb288)); have n3_ := zzm ((by rw [hg]; exact (zzo (by repeat (first | (with_reducible first | exact HB.out | apply zza | apply zzb | apply zzc) | exact HB.out))) : w.heap.size ≤ gb288)); clear HB; have HB := n0_; have BK288 := n1_; have GW288 := n2_; have GE288 := n3_; clear n0_ n1_ n2_ n3_ hb hbox hg; obtain ⟨hcz12_0, hcz12_1, hcz12_2, hcz12_3, hcz12_4, hcz12_5, hfz12_0, hfz12_1, hfz12_2, hfz12_3, hfz12_4, hfz12_5⟩ := zzc6 BK288.out) | ((with_reducible refine gate_callee (f := 72) rfl ?_); refine goesL_ (some 7) rfl rfl Try.func72 (by kernel_rfl) rfl #[.int .i64 a0_0, .int .i64 a0_1] rfl (by (try simp only [List.map_toArray, List.map_cons, List.map_nil]); first | done | rfl | (simp only [List.length_drop, List.length_take]; rfl)) ?_; (with_reducible refine (impl_baseValid.calls a0_0 a0_1 false _ A2.out).mono ?_); rintro e w' ⟨rfl, ⟨nd, rfl⟩⟩; refine ⟨_, rfl, ?_⟩)); go_ret; exact ⟨by first | rfl | (simp [errW_none, errW_some] <;> rfl) | (simp [*, errW_none, errW_some] <;> rfl), by repeat (first | (with_reducible first | exact HB.out | apply zza | apply zzb | apply zzc | refine zzd ?_ GE288.out) | exact HB.out)⟩
end Go.Proofs.Ytkhmopmfbocokaa.T
namespace Go.Proofs.Ytkhmopmfbocokaa.T
open Go.RowKit Go.Proofs.YtkhmopmfbocokaaW.PrintWords Go.Proofs.YtkhmopmfbocokaaW.PrintLast Go.Proofs.YtkhmopmfbocokaaW.PrintMore

set_option linter.unusedVariables false
set_option linter.unusedSimpArgs false
mutual
def impl_BatchValid.j0 : Nat → Bool → Bool → Int → Int → Int → List (S79) → Option (Bool)
 | 0, _, _, _, _, _, _ => none
 | k + 1, x293000, x293001, x293002, x293003, x293004, x293005 => (impl_within.f (x293005.length : Int) 1 6).bind fun t296 => (if t296 = true then (if x293001 = true then (impl_BatchValid.j1 k ((x293005.length : Int) != 1) x293000 x293001 x293002 x293003 x293004 x293005) else (impl_BatchValid.j1 k false x293000 x293001 x293002 x293003 x293004 x293005)) else (impl_BatchValid.j1 k true x293000 x293001 x293002 x293003 x293004 x293005))
def impl_BatchValid.j1 : Nat → Bool → Bool → Bool → Int → Int → Int → List (S79) → Option (Bool)
 | 0, _, _, _, _, _, _, _ => none
 | k + 1, x50, x293000, x293001, x293002, x293003, x293004, x293005 => if x50 = true then (some false) else (impl_BatchValid.l0 k x293005 (x293005.length : Int) 0 x293000 x293001 x293002 x293003 x293004 x293005)
def impl_BatchValid.l0 : Nat → List (S79) → Int → Int → Bool → Bool → Int → Int → Int → List (S79) → Option (Bool)
 | 0, _, _, _, _, _, _, _, _, _ => none
 | k + 1, x52, x53, x54, x293000, x293001, x293002, x293003, x293004, x293005 => if x54 < x53 then (if 0 ≤ x54 then (if x54 < (x52.length : Int) then ((impl_RecordValid.f k ((rd_T79 x52 x54).f0) ((rd_T79 x52 x54).f1) ((rd_T79 x52 x54).f2) ((rd_T79 x52 x54).f3) ((rd_T79 x52 x54).f4) ((rd_T79 x52 x54).f5)).bind fun t299 => (if t299 = true then (if x54 > 0 then (if 0 ≤ (wrap64 (x54 - 1)) then (if (wrap64 (x54 - 1)) < (x293005.length : Int) then (if ((rd_T79 x293005 (wrap64 (x54 - 1))).f0) ≥ ((rd_T79 x52 x54).f0) then (some false) else (impl_BatchValid.l0 k x52 x53 (wrap64 (x54 + 1)) x293000 x293001 x293002 x293003 x293004 x293005)) else (none)) else (none)) else (impl_BatchValid.l0 k x52 x53 (wrap64 (x54 + 1)) x293000 x293001 x293002 x293003 x293004 x293005)) else (some false))) else (none)) else (none)) else (some true)
end
def impl_BatchValid.f (k : Nat) (a0_0 : Bool) (a0_1 : Bool) (a0_2 : Int) (a0_3 : Int) (a0_4 : Int) (l0_5 : List (S79)) : Option (Bool) := if a0_2 = 255 then (if a0_3 = 0 then (if a0_4 = 0 then (if a0_1 = true then (some false) else (impl_BatchValid.j0 k a0_0 a0_1 a0_2 a0_3 a0_4 l0_5)) else (some false)) else (some false)) else ((impl_idValid.f a0_2).bind fun t293 => (if t293 = true then ((impl_within.f a0_3 0 99).bind fun t294 => (if t294 = true then ((impl_within.f a0_4 0 9999).bind fun t295 => (if t295 = true then (impl_BatchValid.j0 k a0_0 a0_1 a0_2 a0_3 a0_4 l0_5) else (some false))) else (some false))) else (some false)))
def impl_BatchValid.T11 : Bool × List (List Nat × List Nat) := (true, [([], []), ([0], [0]), ([1], [1]), ([2, 1], [2]), ([3], [3]), ([4, 3], [3, 4]), ([5, 3, 3], [3, 5]), ([6], [6]), ([7, 6], [6, 7]), ([6], [6]), ([9, 6], [6, 9]), ([8, 10, 6], [6, 8, 10]), ([11, 6], [6, 11]), ([12, 6], [6, 12]), ([6], [6]), ([14, 6], [6, 14]), ([13, 15, 6], [6, 13, 15]), ([6, 16, 3], [3, 6, 16]), ([3, 17], [3, 17])])
def impl_BatchValid.B11 : List Nat := [0, 1, 3, 7, 15, 31, 63, 127, 255, 127, 639, 2047, 4095, 8191, 127, 16511, 65535, 131071, 262143]
theorem impl_BatchValid.tab11 : rtab .any (opsOf Try.f27 11) = impl_BatchValid.T11 := by kernel_rfl
theorem impl_BatchValid.bits11 : waitsOk impl_BatchValid.T11.2 impl_BatchValid.B11 = true := by kernel_rfl
set_option maxHeartbeats 8000000 in
set_option maxRecDepth 100000 in
theorem impl_BatchValid.calls (k : Nat) (a0_0 : Bool) (a0_1 : Bool) (a0_2 : Int) (a0_3 : Int) (a0_4 : Int) (A0_5 : Option Addr) (c0_5 : Nat) (l0_5 : List (S79)) (r : Bool) (w : World) (hr0_5 : Kd.C k79 w A0_5 l0_5.length l0_5) (hc0_5 : l0_5.length ≤ c0_5) (h : impl_BatchValid.f k a0_0 a0_1 a0_2 a0_3 a0_4 l0_5 = some r) :
  Calls Try.prog 27 #[.agg #[.bool a0_0, .bool a0_1, .int .i64 a0_2, .int .i64 a0_3, .int .i64 a0_4, .slice A0_5 l0_5.length c0_5]] w fun e w' => e = .returned (.bool r) ∧ Below w.heap.size w w' := by
 have hu34 := Try.underlying34; have hu79 := Try.underlying79; have HR0_5 := zzm hr0_5; have HC0_5 := zzm hc0_5; clear hr0_5 hc0_5; have HB := zzm (Below.refl w.heap.size w); have H : (if a0_2 = 255 then (if a0_3 = 0 then (if a0_4 = 0 then (if a0_1 = true then (some false) else (impl_BatchValid.j0 k a0_0 a0_1 a0_2 a0_3 a0_4 l0_5)) else (some false)) else (some false)) else ((impl_idValid.f a0_2).bind fun t293 => (if t293 = true then ((impl_within.f a0_3 0 99).bind fun t294 => (if t294 = true then ((impl_within.f a0_4 0 9999).bind fun t295 => (if t295 = true then (impl_BatchValid.j0 k a0_0 a0_1 a0_2 a0_3 a0_4 l0_5) else (some false))) else (some false))) else (some false)))) = some r := h; clear h; have HC2 := zzm H; clear H; go_enter Try.func27, Try.ntmps27; go_upto_if 7 with (first | ((with_reducible refine gate_dst (N := 1) rfl ?_); (try (refine gate_guard (by rfl) ?_; dsimp only)); refine box_event ?hg (N := 1) ?hd (cs := #[.bool a0_0, .bool a0_1, .int .i64 a0_2, .int .i64 a0_3, .int .i64 a0_4, .slice A0_5 l0_5.length c0_5]) (t := 34) ?hr ?_; (case hd => rfl); (case hg => rfl); (case hr => first | (go_simp; done) | (go_simp; rfl)); intro gb292 hg w3 hbox hb; have n0_ := zzm (zzp (by repeat (first | (with_reducible first | exact HB.out | apply zza | apply zzb | apply zzc) | exact HB.out)) hb); have n1_ := zzm (hbox); have n2_ := zzm ((by rw [hg]; exact (zzo (by repeat (first | (with_reducible first | exact HB.out | apply zza | apply zzb | apply zzc) | exact HB.out))) : w.heap.size ≤ gb292)); have n3_ := zzm ((by rw [hg]; exact (zzo (by repeat (first | (with_reducible first | exact HB.out | apply zza | apply zzb | apply zzc) | exact HB.out))) : w.heap.size ≤ gb292)); clear HB; have HB := n0_; have BK292 := n1_; have GW292 := n2_; have GE292 := n3_; clear n0_ n1_ n2_ n3_ hb hbox hg; obtain ⟨hcz4_0, hcz4_1, hcz4_2, hcz4_3, hcz4_4, hcz4_5, hfz4_0, hfz4_1, hfz4_2, hfz4_3, hfz4_4, hfz4_5⟩ := zzc6 BK292.out)); (try simp only [Act.put, zzq, zzr, zzs]); go_cut [] (fun wc => ∃ (kq : Nat), Aside0 (impl_BatchValid.j0 kq a0_0 a0_1 a0_2 a0_3 a0_4 l0_5 = some r) ∧ Aside0 (kq ≤ k) ∧ Aside0 (wc.heap[gb292]? = some (.cells #[.bool a0_0, .bool a0_1, .int .i64 a0_2, .int .i64 a0_3, .int .i64 a0_4, (.slice A0_5 l0_5.length c0_5)] 34 (0, 0))) ∧ Aside0 (Below w.heap.size w wc))
 case first =>
  have H := HC2.out; clear HC2; by_cases c5 : a0_2 = 255
  ·
   rw [if_pos c5] at H; have c5b0 : (a0_2 == 255) = true := beq_iff_eq.mpr c5; have c5b1 : (a0_2 != 255) = false := bne_eq_false_iff_eq.mpr c5; clear c5; (first | rw [c5b0] | (simp only [i64_w, i32_w]; rw [c5b0]) | skip); by_cases c6 : a0_3 = 0
   ·
    rw [if_pos c6] at H; have c6b0 : (a0_3 == 0) = true := beq_iff_eq.mpr c6; have c6b1 : (a0_3 != 0) = false := bne_eq_false_iff_eq.mpr c6; clear c6; by_cases c7 : a0_4 = 0
    ·
     rw [if_pos c7] at H; have c7b0 : (a0_4 == 0) = true := beq_iff_eq.mpr c7; have c7b1 : (a0_4 != 0) = false := bne_eq_false_iff_eq.mpr c7; clear c7; by_cases c8 : a0_1 = true
     ·
      subst c8; have H1 : (some false) = some r := by rw [if_pos rfl] at H; exact H
      clear H; have H := H1; clear H1; obtain rfl := Option.some.inj H; obtain ⟨hcz9_0, hcz9_1, hcz9_2, hcz9_3, hcz9_4, hcz9_5, hfz9_0, hfz9_1, hfz9_2, hfz9_3, hfz9_4, hfz9_5⟩ := zzc6 BK292.out; go_wp2; go_ret; exact ⟨by first | rfl | (simp [errW_none, errW_some] <;> rfl) | (simp [*, errW_none, errW_some] <;> rfl), by repeat (first | (with_reducible first | exact HB.out | apply zza | apply zzb | apply zzc | refine zzd ?_ GE292.out) | exact HB.out)⟩
     ·
      replace c8 := Bool.eq_false_iff.mpr c8; subst c8; have H1 : (impl_BatchValid.j0 k a0_0 false a0_2 a0_3 a0_4 l0_5) = some r := by rw [if_neg (show ¬ (false = true) by decide)] at H; exact H
      clear H; have H := H1; clear H1; have H' := zzm H; clear H; obtain ⟨hcz10_0, hcz10_1, hcz10_2, hcz10_3, hcz10_4, hcz10_5, hfz10_0, hfz10_1, hfz10_2, hfz10_3, hfz10_4, hfz10_5⟩ := zzc6 BK292.out; go_wp2; go_meet
      case rel => exact ⟨_, H', ⟨by first | omega | exact Nat.le_refl _⟩, ⟨by (with_reducible repeat (first | refine zzf ?_ _ | refine zzg ?_ | refine zze ?_ _)); exact BK292.out⟩, ⟨by repeat (first | (with_reducible first | exact HB.out | apply zza | apply zzb | apply zzc | refine zzd ?_ GE292.out) | exact HB.out)⟩⟩
    ·
     rw [if_neg c7] at H; have c7b0 : (a0_4 == 0) = false := beq_eq_false_iff_ne.mpr c7; have c7b1 : (a0_4 != 0) = true := bne_iff_ne.mpr c7; obtain rfl := Option.some.inj H; obtain ⟨hcz11_0, hcz11_1, hcz11_2, hcz11_3, hcz11_4, hcz11_5, hfz11_0, hfz11_1, hfz11_2, hfz11_3, hfz11_4, hfz11_5⟩ := zzc6 BK292.out; go_wp2; go_ret; exact ⟨by first | rfl | (simp [errW_none, errW_some] <;> rfl) | (simp [*, errW_none, errW_some] <;> rfl), by repeat (first | (with_reducible first | exact HB.out | apply zza | apply zzb | apply zzc | refine zzd ?_ GE292.out) | exact HB.out)⟩
   ·
    rw [if_neg c6] at H; have c6b0 : (a0_3 == 0) = false := beq_eq_false_iff_ne.mpr c6; have c6b1 : (a0_3 != 0) = true := bne_iff_ne.mpr c6; obtain rfl := Option.some.inj H; obtain ⟨hcz12_0, hcz12_1, hcz12_2, hcz12_3, hcz12_4, hcz12_5, hfz12_0, hfz12_1, hfz12_2, hfz12_3, hfz12_4, hfz12_5⟩ := zzc6 BK292.out; go_wp2; go_ret; exact ⟨by first | rfl | (simp [errW_none, errW_some] <;> rfl) | (simp [*, errW_none, errW_some] <;> rfl), by repeat (first | (with_reducible first | exact HB.out | apply zza | apply zzb | apply zzc | refine zzd ?_ GE292.out) | exact HB.out)⟩
  ·
   rw [if_neg c5] at H; have c5b0 : (a0_2 == 255) = false := beq_eq_false_iff_ne.mpr c5; have c5b1 : (a0_2 != 255) = true := bne_iff_ne.mpr c5; (first | rw [c5b0] | (simp only [i64_w, i32_w]; rw [c5b0]) | skip); replace H := Option.bind_eq_some_iff.mp H; obtain ⟨t293, A130, H⟩ := H; replace H : (if t293 = true then ((impl_within.f a0_3 0 99).bind fun t294 => (if t294 = true then ((impl_within.f a0_4 0 9999).bind fun t295 => (if t295 = true then (impl_BatchValid.j0 k a0_0 a0_1 a0_2 a0_3 a0_4 l0_5) else (some false))) else (some false))) else (some false)) = some r := H; have A13 := zzm A130; clear A130; by_cases c14 : t293 = true
   ·
    subst c14; have H1 : ((impl_within.f a0_3 0 99).bind fun t294 => (if t294 = true then ((impl_within.f a0_4 0 9999).bind fun t295 => (if t295 = true then (impl_BatchValid.j0 k a0_0 a0_1 a0_2 a0_3 a0_4 l0_5) else (some false))) else (some false))) = some r := by rw [if_pos rfl] at H; exact H
    clear H; have H := H1; clear H1; replace H := Option.bind_eq_some_iff.mp H; obtain ⟨t294, A150, H⟩ := H; replace H : (if t294 = true then ((impl_within.f a0_4 0 9999).bind fun t295 => (if t295 = true then (impl_BatchValid.j0 k a0_0 a0_1 a0_2 a0_3 a0_4 l0_5) else (some false))) else (some false)) = some r := H; have A15 := zzm A150; clear A150; by_cases c16 : t294 = true
    ·
     subst c16; have H1 : ((impl_within.f a0_4 0 9999).bind fun t295 => (if t295 = true then (impl_BatchValid.j0 k a0_0 a0_1 a0_2 a0_3 a0_4 l0_5) else (some false))) = some r := by rw [if_pos rfl] at H; exact H
     clear H; have H := H1; clear H1; replace H := Option.bind_eq_some_iff.mp H; obtain ⟨t295, A170, H⟩ := H; replace H : (if t295 = true then (impl_BatchValid.j0 k a0_0 a0_1 a0_2 a0_3 a0_4 l0_5) else (some false)) = some r := H; have A17 := zzm A170; clear A170; by_cases c18 : t295 = true
     ·
      subst c18; have H1 : (impl_BatchValid.j0 k a0_0 a0_1 a0_2 a0_3 a0_4 l0_5) = some r := by rw [if_pos rfl] at H; exact H
      clear H; have H := H1; clear H1; have H' := zzm H; clear H; obtain ⟨hcz19_0, hcz19_1, hcz19_2, hcz19_3, hcz19_4, hcz19_5, hfz19_0, hfz19_1, hfz19_2, hfz19_3, hfz19_4, hfz19_5⟩ := zzc6 BK292.out; go_wp2_with (first | ((with_reducible refine gate_callee (f := 51) rfl ?_); refine goesL_ (some 22) rfl rfl Try.func51 (by kernel_rfl) rfl #[.int .i64 a0_2] rfl (by (try simp only [List.map_toArray, List.map_cons, List.map_nil]); first | done | rfl | (simp only [List.length_drop, List.length_take]; rfl)) ?_; (with_reducible refine (impl_idValid.calls a0_2 true _ A13.out).mono ?_); rintro e w' ⟨rfl, ⟨nd, rfl⟩⟩; refine ⟨_, rfl, ?_⟩) | (go_at_call 52; (with_reducible refine (impl_within.calls a0_3 0 99 true _ A15.out).mono ?_); rintro e w' ⟨rfl, ⟨nd, rfl⟩⟩) | (go_at_call 52; (with_reducible refine (impl_within.calls a0_4 0 9999 true _ A17.out).mono ?_); rintro e w' ⟨rfl, ⟨nd, rfl⟩⟩)); go_meet
      case rel => exact ⟨_, H', ⟨by first | omega | exact Nat.le_refl _⟩, ⟨by (with_reducible repeat (first | refine zzf ?_ _ | refine zzg ?_ | refine zze ?_ _)); exact BK292.out⟩, ⟨by repeat (first | (with_reducible first | exact HB.out | apply zza | apply zzb | apply zzc | refine zzd ?_ GE292.out) | exact HB.out)⟩⟩
     ·
      replace c18 := Bool.eq_false_iff.mpr c18; subst c18; have H1 : (some false) = some r := by rw [if_neg (show ¬ (false = true) by decide)] at H; exact H
      clear H; have H := H1; clear H1; obtain rfl := Option.some.inj H; obtain ⟨hcz20_0, hcz20_1, hcz20_2, hcz20_3, hcz20_4, hcz20_5, hfz20_0, hfz20_1, hfz20_2, hfz20_3, hfz20_4, hfz20_5⟩ := zzc6 BK292.out; go_wp2_with (first | ((with_reducible refine gate_callee (f := 51) rfl ?_); refine goesL_ (some 22) rfl rfl Try.func51 (by kernel_rfl) rfl #[.int .i64 a0_2] rfl (by (try simp only [List.map_toArray, List.map_cons, List.map_nil]); first | done | rfl | (simp only [List.length_drop, List.length_take]; rfl)) ?_; (with_reducible refine (impl_idValid.calls a0_2 true _ A13.out).mono ?_); rintro e w' ⟨rfl, ⟨nd, rfl⟩⟩; refine ⟨_, rfl, ?_⟩) | (go_at_call 52; (with_reducible refine (impl_within.calls a0_3 0 99 true _ A15.out).mono ?_); rintro e w' ⟨rfl, ⟨nd, rfl⟩⟩) | (go_at_call 52; (with_reducible refine (impl_within.calls a0_4 0 9999 false _ A17.out).mono ?_); rintro e w' ⟨rfl, ⟨nd, rfl⟩⟩)); go_ret; exact ⟨by first | rfl | (simp [errW_none, errW_some] <;> rfl) | (simp [*, errW_none, errW_some] <;> rfl), by repeat (first | (with_reducible first | exact HB.out | apply zza | apply zzb | apply zzc | refine zzd ?_ GE292.out) | exact HB.out)⟩
    ·
     replace c16 := Bool.eq_false_iff.mpr c16; subst c16; have H1 : (some false) = some r := by rw [if_neg (show ¬ (false = true) by decide)] at H; exact H
     clear H; have H := H1; clear H1; obtain rfl := Option.some.inj H; obtain ⟨hcz21_0, hcz21_1, hcz21_2, hcz21_3, hcz21_4, hcz21_5, hfz21_0, hfz21_1, hfz21_2, hfz21_3, hfz21_4, hfz21_5⟩ := zzc6 BK292.out; go_wp2_with (first | ((with_reducible refine gate_callee (f := 51) rfl ?_); refine goesL_ (some 22) rfl rfl Try.func51 (by kernel_rfl) rfl #[.int .i64 a0_2] rfl (by (try simp only [List.map_toArray, List.map_cons, List.map_nil]); first | done | rfl | (simp only [List.length_drop, List.length_take]; rfl)) ?_; (with_reducible refine (impl_idValid.calls a0_2 true _ A13.out).mono ?_); rintro e w' ⟨rfl, ⟨nd, rfl⟩⟩; refine ⟨_, rfl, ?_⟩) | (go_at_call 52; (with_reducible refine (impl_within.calls a0_3 0 99 false _ A15.out).mono ?_); rintro e w' ⟨rfl, ⟨nd, rfl⟩⟩)); go_ret; exact ⟨by first | rfl | (simp [errW_none, errW_some] <;> rfl) | (simp [*, errW_none, errW_some] <;> rfl), by repeat (first | (with_reducible first | exact HB.out | apply zza | apply zzb | apply zzc | refine zzd ?_ GE292.out) | exact HB.out)⟩
   ·
    replace c14 := Bool.eq_false_iff.mpr c14; subst c14; have H1 : (some false) = some r := by rw [if_neg (show ¬ (false = true) by decide)] at H; exact H
    clear H; have H := H1; clear H1; obtain rfl := Option.some.inj H; obtain ⟨hcz22_0, hcz22_1, hcz22_2, hcz22_3, hcz22_4, hcz22_5, hfz22_0, hfz22_1, hfz22_2, hfz22_3, hfz22_4, hfz22_5⟩ := zzc6 BK292.out; go_wp2_with (first | ((with_reducible refine gate_callee (f := 51) rfl ?_); refine goesL_ (some 22) rfl rfl Try.func51 (by kernel_rfl) rfl #[.int .i64 a0_2] rfl (by (try simp only [List.map_toArray, List.map_cons, List.map_nil]); first | done | rfl | (simp only [List.length_drop, List.length_take]; rfl)) ?_; (with_reducible refine (impl_idValid.calls a0_2 false _ A13.out).mono ?_); rintro e w' ⟨rfl, ⟨nd, rfl⟩⟩; refine ⟨_, rfl, ?_⟩)); go_ret; exact ⟨by first | rfl | (simp [errW_none, errW_some] <;> rfl) | (simp [*, errW_none, errW_some] <;> rfl), by repeat (first | (with_reducible first | exact HB.out | apply zza | apply zzb | apply zzc | refine zzd ?_ GE292.out) | exact HB.out)⟩
 case rest =>
  clear HC2; try clear c1
  try clear c2
  try clear p2
  try clear c5
  try clear c5b0
  try clear c5b1
  try clear c6
  try clear c6b0
  try clear c6b1
  try clear c7
  try clear c7b0
  try clear c7b1
  try clear c8
  try clear c14
  try clear c16
  try clear c18
  try clear hcz10_0
  try clear hcz10_1
  try clear hcz10_2
  try clear hcz10_3
  try clear hcz10_4
  try clear hcz10_5
  try clear hcz11_0
  try clear hcz11_1
  try clear hcz11_2
  try clear hcz11_3
  try clear hcz11_4
  try clear hcz11_5
  try clear hcz12_0
  try clear hcz12_1
  try clear hcz12_2
  try clear hcz12_3
  try clear hcz12_4
  try clear hcz12_5
  try clear hcz19_0
  try clear hcz19_1
  try clear hcz19_2
  try clear hcz19_3
  try clear hcz19_4
  try clear hcz19_5
  try clear hcz20_0
  try clear hcz20_1
  try clear hcz20_2
  try clear hcz20_3
  try clear hcz20_4
  try clear hcz20_5
  try clear hcz21_0
  try clear hcz21_1
  try clear hcz21_2
  try clear hcz21_3
  try clear hcz21_4
  try clear hcz21_5
  try clear hcz22_0
  try clear hcz22_1
  try clear hcz22_2
  try clear hcz22_3
  try clear hcz22_4
  try clear hcz22_5
  try clear hcz4_0
  try clear hcz4_1
  try clear hcz4_2
  try clear hcz4_3
  try clear hcz4_4
  try clear hcz4_5
  try clear hcz9_0
  try clear hcz9_1
  try clear hcz9_2
  try clear hcz9_3
  try clear hcz9_4
  try clear hcz9_5
  try clear hfz10_0
  try clear hfz10_1
  try clear hfz10_2
  try clear hfz10_3
  try clear hfz10_4
  try clear hfz10_5
  try clear hfz11_0
  try clear hfz11_1
  try clear hfz11_2
  try clear hfz11_3
  try clear hfz11_4
  try clear hfz11_5
  try clear hfz12_0
  try clear hfz12_1
  try clear hfz12_2
  try clear hfz12_3
  try clear hfz12_4
  try clear hfz12_5
  try clear hfz19_0
  try clear hfz19_1
  try clear hfz19_2
  try clear hfz19_3
  try clear hfz19_4
  try clear hfz19_5
  try clear hfz20_0
  try clear hfz20_1
  try clear hfz20_2
  try clear hfz20_3
  try clear hfz20_4
  try clear hfz20_5
  try clear hfz21_0
  try clear hfz21_1
  try clear hfz21_2
  try clear hfz21_3
  try clear hfz21_4
  try clear hfz21_5
  try clear hfz22_0
  try clear hfz22_1
  try clear hfz22_2
  try clear hfz22_3
  try clear hfz22_4
  try clear hfz22_5
  try clear hfz4_0
  try clear hfz4_1
  try clear hfz4_2
  try clear hfz4_3
  try clear hfz4_4
  try clear hfz4_5
  try clear hfz9_0
  try clear hfz9_1
  try clear hfz9_2
  try clear hfz9_3
  try clear hfz9_4
  try clear hfz9_5
  obtain ⟨kq, HA, HJ1, BK292, HB⟩ := hcut; cases kq with
  | zero => exact absurd HA.out (by simp [impl_BatchValid.j0])
  | succ kj1 =>
   have H := HA.out; clear HA; simp only [impl_BatchValid.j0] at H; have HC23 := zzm H; clear H; go_upto_region 6 with (fail); go_cut [50] (fun v50 wc => ∃ (kq : Nat) (x50_22 : Bool), v50 = .bool x50_22 ∧ Aside0 (impl_BatchValid.j1 kq x50_22 a0_0 a0_1 a0_2 a0_3 a0_4 l0_5 = some r) ∧ Aside0 (kq ≤ kj1) ∧ Aside0 (wc.heap[gb292]? = some (.cells #[.bool a0_0, .bool a0_1, .int .i64 a0_2, .int .i64 a0_3, .int .i64 a0_4, (.slice A0_5 l0_5.length c0_5)] 34 (0, 0))) ∧ Aside0 (Below w.heap.size w wc))
   case first =>
    have H := HC23.out; clear HC23; replace H := Option.bind_eq_some_iff.mp H; obtain ⟨t296, A240, H⟩ := H; replace H : (if t296 = true then (if a0_1 = true then (impl_BatchValid.j1 kj1 ((l0_5.length : Int) != 1) a0_0 a0_1 a0_2 a0_3 a0_4 l0_5) else (impl_BatchValid.j1 kj1 false a0_0 a0_1 a0_2 a0_3 a0_4 l0_5)) else (impl_BatchValid.j1 kj1 true a0_0 a0_1 a0_2 a0_3 a0_4 l0_5)) = some r := H; have A24 := zzm A240; clear A240; by_cases c25 : t296 = true
    ·
     subst c25; have H1 : (if a0_1 = true then (impl_BatchValid.j1 kj1 ((l0_5.length : Int) != 1) a0_0 a0_1 a0_2 a0_3 a0_4 l0_5) else (impl_BatchValid.j1 kj1 false a0_0 a0_1 a0_2 a0_3 a0_4 l0_5)) = some r := by rw [if_pos rfl] at H; exact H
     clear H; have H := H1; clear H1; by_cases c26 : a0_1 = true
     ·
      subst c26; have H1 : (impl_BatchValid.j1 kj1 ((l0_5.length : Int) != 1) a0_0 true a0_2 a0_3 a0_4 l0_5) = some r := by rw [if_pos rfl] at H; exact H
      clear H; have H := H1; clear H1; have H' := zzm H; clear H; obtain ⟨hcz27_0, hcz27_1, hcz27_2, hcz27_3, hcz27_4, hcz27_5, hfz27_0, hfz27_1, hfz27_2, hfz27_3, hfz27_4, hfz27_5⟩ := zzc6 BK292.out; go_wp2_with (first | ((with_reducible refine gate_callee (f := 52) rfl ?_); refine goesL_ (some 39) rfl rfl Try.func52 (by kernel_rfl) rfl #[.int .i64 (l0_5.length : Int), .int .i64 1, .int .i64 6] rfl (by (try simp only [List.map_toArray, List.map_cons, List.map_nil]); first | done | rfl | (simp only [List.length_drop, List.length_take]; rfl)) ?_; (with_reducible refine (impl_within.calls (l0_5.length : Int) 1 6 true _ A24.out).mono ?_); rintro e w' ⟨rfl, ⟨nd, rfl⟩⟩; refine ⟨_, rfl, ?_⟩)); go_meet
      case rel => exact ⟨_, (((l0_5.length : Int) != 1)), (by first | rfl | (simp; done) | (simp [*]; done)), H', ⟨by have := HJ1.out; first | omega | exact Nat.le_refl _⟩, ⟨by (with_reducible repeat (first | refine zzf ?_ _ | refine zzg ?_ | refine zze ?_ _)); exact BK292.out⟩, ⟨by repeat (first | (with_reducible first | exact HB.out | apply zza | apply zzb | apply zzc | refine zzd ?_ GE292.out) | exact HB.out)⟩⟩
     ·
      replace c26 := Bool.eq_false_iff.mpr c26; subst c26; have H1 : (impl_BatchValid.j1 kj1 false a0_0 false a0_2 a0_3 a0_4 l0_5) = some r := by rw [if_neg (show ¬ (false = true) by decide)] at H; exact H
      clear H; have H := H1; clear H1; have H' := zzm H; clear H; obtain ⟨hcz28_0, hcz28_1, hcz28_2, hcz28_3, hcz28_4, hcz28_5, hfz28_0, hfz28_1, hfz28_2, hfz28_3, hfz28_4, hfz28_5⟩ := zzc6 BK292.out; go_wp2_with (first | ((with_reducible refine gate_callee (f := 52) rfl ?_); refine goesL_ (some 39) rfl rfl Try.func52 (by kernel_rfl) rfl #[.int .i64 (l0_5.length : Int), .int .i64 1, .int .i64 6] rfl (by (try simp only [List.map_toArray, List.map_cons, List.map_nil]); first | done | rfl | (simp only [List.length_drop, List.length_take]; rfl)) ?_; (with_reducible refine (impl_within.calls (l0_5.length : Int) 1 6 true _ A24.out).mono ?_); rintro e w' ⟨rfl, ⟨nd, rfl⟩⟩; refine ⟨_, rfl, ?_⟩)); go_meet
      case rel => exact ⟨_, (false), (by first | rfl | (simp; done) | (simp [*]; done)), H', ⟨by have := HJ1.out; first | omega | exact Nat.le_refl _⟩, ⟨by (with_reducible repeat (first | refine zzf ?_ _ | refine zzg ?_ | refine zze ?_ _)); exact BK292.out⟩, ⟨by repeat (first | (with_reducible first | exact HB.out | apply zza | apply zzb | apply zzc | refine zzd ?_ GE292.out) | exact HB.out)⟩⟩
    ·
     replace c25 := Bool.eq_false_iff.mpr c25; subst c25; have H1 : (impl_BatchValid.j1 kj1 true a0_0 a0_1 a0_2 a0_3 a0_4 l0_5) = some r := by rw [if_neg (show ¬ (false = true) by decide)] at H; exact H
     clear H; have H := H1; clear H1; have H' := zzm H; clear H; obtain ⟨hcz29_0, hcz29_1, hcz29_2, hcz29_3, hcz29_4, hcz29_5, hfz29_0, hfz29_1, hfz29_2, hfz29_3, hfz29_4, hfz29_5⟩ := zzc6 BK292.out; go_wp2_with (first | ((with_reducible refine gate_callee (f := 52) rfl ?_); refine goesL_ (some 39) rfl rfl Try.func52 (by kernel_rfl) rfl #[.int .i64 (l0_5.length : Int), .int .i64 1, .int .i64 6] rfl (by (try simp only [List.map_toArray, List.map_cons, List.map_nil]); first | done | rfl | (simp only [List.length_drop, List.length_take]; rfl)) ?_; (with_reducible refine (impl_within.calls (l0_5.length : Int) 1 6 false _ A24.out).mono ?_); rintro e w' ⟨rfl, ⟨nd, rfl⟩⟩; refine ⟨_, rfl, ?_⟩)); go_meet
     case rel => exact ⟨_, (true), (by first | rfl | (simp; done) | (simp [*]; done)), H', ⟨by have := HJ1.out; first | omega | exact Nat.le_refl _⟩, ⟨by (with_reducible repeat (first | refine zzf ?_ _ | refine zzg ?_ | refine zze ?_ _)); exact BK292.out⟩, ⟨by repeat (first | (with_reducible first | exact HB.out | apply zza | apply zzb | apply zzc | refine zzd ?_ GE292.out) | exact HB.out)⟩⟩
   case rest =>
    clear HC23; try clear c1
    try clear c2
    try clear p2
    try clear c5
    try clear c5b0
    try clear c5b1
    try clear c6
    try clear c6b0
    try clear c6b1
    try clear c7
    try clear c7b0
    try clear c7b1
    try clear c8
    try clear c14
    try clear c16
    try clear c18
    try clear c25
    try clear c26
    try clear c27
    try clear hcz10_0
    try clear hcz10_1
    try clear hcz10_2
    try clear hcz10_3
    try clear hcz10_4
    try clear hcz10_5
    try clear hcz11_0
    try clear hcz11_1
    try clear hcz11_2
    try clear hcz11_3
    try clear hcz11_4
    try clear hcz11_5
    try clear hcz12_0
    try clear hcz12_1
    try clear hcz12_2
    try clear hcz12_3
    try clear hcz12_4
    try clear hcz12_5
    try clear hcz19_0
    try clear hcz19_1
    try clear hcz19_2
    try clear hcz19_3
    try clear hcz19_4
    try clear hcz19_5
    try clear hcz20_0
    try clear hcz20_1
    try clear hcz20_2
    try clear hcz20_3
    try clear hcz20_4
    try clear hcz20_5
    try clear hcz21_0
    try clear hcz21_1
    try clear hcz21_2
    try clear hcz21_3
    try clear hcz21_4
    try clear hcz21_5
    try clear hcz22_0
    try clear hcz22_1
    try clear hcz22_2
    try clear hcz22_3
    try clear hcz22_4
    try clear hcz22_5
    try clear hcz27_0
    try clear hcz27_1
    try clear hcz27_2
    try clear hcz27_3
    try clear hcz27_4
    try clear hcz27_5
    try clear hcz28_0
    try clear hcz28_1
    try clear hcz28_2
    try clear hcz28_3
    try clear hcz28_4
    try clear hcz28_5
    try clear hcz29_0
    try clear hcz29_1
    try clear hcz29_2
    try clear hcz29_3
    try clear hcz29_4
    try clear hcz29_5
    try clear hcz4_0
    try clear hcz4_1
    try clear hcz4_2
    try clear hcz4_3
    try clear hcz4_4
    try clear hcz4_5
    try clear hcz9_0
    try clear hcz9_1
    try clear hcz9_2
    try clear hcz9_3
    try clear hcz9_4
    try clear hcz9_5
    try clear hfz10_0
    try clear hfz10_1
    try clear hfz10_2
    try clear hfz10_3
    try clear hfz10_4
    try clear hfz10_5
    try clear hfz11_0
    try clear hfz11_1
    try clear hfz11_2
    try clear hfz11_3
    try clear hfz11_4
    try clear hfz11_5
    try clear hfz12_0
    try clear hfz12_1
    try clear hfz12_2
    try clear hfz12_3
    try clear hfz12_4
    try clear hfz12_5
    try clear hfz19_0
    try clear hfz19_1
    try clear hfz19_2
    try clear hfz19_3
    try clear hfz19_4
    try clear hfz19_5
    try clear hfz20_0
    try clear hfz20_1
    try clear hfz20_2
    try clear hfz20_3
    try clear hfz20_4
    try clear hfz20_5
    try clear hfz21_0
    try clear hfz21_1
    try clear hfz21_2
    try clear hfz21_3
    try clear hfz21_4
    try clear hfz21_5
    try clear hfz22_0
    try clear hfz22_1
    try clear hfz22_2
    try clear hfz22_3
    try clear hfz22_4
    try clear hfz22_5
    try clear hfz27_0
    try clear hfz27_1
    try clear hfz27_2
    try clear hfz27_3
    try clear hfz27_4
    try clear hfz27_5
    try clear hfz28_0
    try clear hfz28_1
    try clear hfz28_2
    try clear hfz28_3
    try clear hfz28_4
    try clear hfz28_5
    try clear hfz29_0
    try clear hfz29_1
    try clear hfz29_2
    try clear hfz29_3
    try clear hfz29_4
    try clear hfz29_5
    try clear hfz4_0
    try clear hfz4_1
    try clear hfz4_2
    try clear hfz4_3
    try clear hfz4_4
    try clear hfz4_5
    try clear hfz9_0
    try clear hfz9_1
    try clear hfz9_2
    try clear hfz9_3
    try clear hfz9_4
    try clear hfz9_5
    try clear p2
    obtain ⟨kq, x50_22, rfl, HA, HJ22, BK292, HB⟩ := hcut; cases kq with
    | zero => exact absurd HA.out (by simp [impl_BatchValid.j1])
    | succ kj22 =>
     have H := HA.out; clear HA; simp only [impl_BatchValid.j1] at H; by_cases c30 : x50_22 = true
     ·
      subst c30; have H1 : (some false) = some r := by rw [if_pos rfl] at H; exact H
      clear H; have H := H1; clear H1; obtain rfl := Option.some.inj H; go_wp2; go_ret; exact ⟨by first | rfl | (simp [errW_none, errW_some] <;> rfl) | (simp [*, errW_none, errW_some] <;> rfl), by repeat (first | (with_reducible first | exact HB.out | apply zza | apply zzb | apply zzc | refine zzd ?_ GE292.out) | exact HB.out)⟩
     ·
      replace c30 := Bool.eq_false_iff.mpr c30; subst c30; have H1 : (impl_BatchValid.l0 kj22 l0_5 (l0_5.length : Int) 0 a0_0 a0_1 a0_2 a0_3 a0_4 l0_5) = some r := by rw [if_neg (show ¬ (false = true) by decide)] at H; exact H
      clear H; have H := H1; clear H1; have H' := zzm H; clear H; obtain ⟨hcz31_0, hcz31_1, hcz31_2, hcz31_3, hcz31_4, hcz31_5, hfz31_0, hfz31_1, hfz31_2, hfz31_3, hfz31_4, hfz31_5⟩ := zzc6 BK292.out; go_wp2; go_loopg [54] kj22 (fun kq v54 w' => ∃ (x54_3 : Int), v54 = .int .i64 x54_3 ∧ Aside0 (impl_BatchValid.l0 kq l0_5 (l0_5.length : Int) x54_3 a0_0 a0_1 a0_2 a0_3 a0_4 l0_5 = some r) ∧ Aside0 (kq ≤ kj22) ∧ Aside0 (w'.heap[gb292]? = some (.cells #[.bool a0_0, .bool a0_1, .int .i64 a0_2, .int .i64 a0_3, .int .i64 a0_4, (.slice A0_5 l0_5.length c0_5)] 34 (0, 0))) ∧ Aside0 (Below w.heap.size w w'))
      case atStart => exact ⟨(0), (by first | rfl | (simp; done) | (simp [*]; done)), H', ⟨Nat.le_refl _⟩, ⟨by (with_reducible repeat (first | refine zzf ?_ _ | refine zzg ?_ | refine zze ?_ _)); exact BK292.out⟩, ⟨by repeat (first | (with_reducible first | exact HB.out | apply zza | apply zzb | apply zzc | refine zzd ?_ GE292.out) | exact HB.out)⟩⟩
      case round =>
       clear H'; try clear c1
       try clear c2
       try clear p2
       try clear c3
       try clear c5
       try clear c5b0
       try clear c5b1
       try clear c6
       try clear c6b0
       try clear c6b1
       try clear c7
       try clear c7b0
       try clear c7b1
       try clear c8
       try clear c14
       try clear c16
       try clear c18
       try clear c25
       try clear c26
       try clear c27
       try clear c30
       try clear hcz10_0
       try clear hcz10_1
       try clear hcz10_2
       try clear hcz10_3
       try clear hcz10_4
       try clear hcz10_5
       try clear hcz11_0
       try clear hcz11_1
       try clear hcz11_2
       try clear hcz11_3
       try clear hcz11_4
       try clear hcz11_5
       try clear hcz12_0
       try clear hcz12_1
       try clear hcz12_2
       try clear hcz12_3
       try clear hcz12_4
       try clear hcz12_5
       try clear hcz19_0
       try clear hcz19_1
       try clear hcz19_2
       try clear hcz19_3
       try clear hcz19_4
       try clear hcz19_5
       try clear hcz20_0
       try clear hcz20_1
       try clear hcz20_2
       try clear hcz20_3
       try clear hcz20_4
       try clear hcz20_5
       try clear hcz21_0
       try clear hcz21_1
       try clear hcz21_2
       try clear hcz21_3
       try clear hcz21_4
       try clear hcz21_5
       try clear hcz22_0
       try clear hcz22_1
       try clear hcz22_2
       try clear hcz22_3
       try clear hcz22_4
       try clear hcz22_5
       try clear hcz27_0
       try clear hcz27_1
       try clear hcz27_2
       try clear hcz27_3
       try clear hcz27_4
       try clear hcz27_5
       try clear hcz28_0
       try clear hcz28_1
       try clear hcz28_2
       try clear hcz28_3
       try clear hcz28_4
       try clear hcz28_5
       try clear hcz29_0
       try clear hcz29_1
       try clear hcz29_2
       try clear hcz29_3
       try clear hcz29_4
       try clear hcz29_5
       try clear hcz31_0
       try clear hcz31_1
       try clear hcz31_2
       try clear hcz31_3
       try clear hcz31_4
       try clear hcz31_5
       try clear hcz4_0
       try clear hcz4_1
       try clear hcz4_2
       try clear hcz4_3
       try clear hcz4_4
       try clear hcz4_5
       try clear hcz9_0
       try clear hcz9_1
       try clear hcz9_2
       try clear hcz9_3
       try clear hcz9_4
       try clear hcz9_5
       try clear hfz10_0
       try clear hfz10_1
       try clear hfz10_2
       try clear hfz10_3
       try clear hfz10_4
       try clear hfz10_5
       try clear hfz11_0
       try clear hfz11_1
       try clear hfz11_2
       try clear hfz11_3
       try clear hfz11_4
       try clear hfz11_5
       try clear hfz12_0
       try clear hfz12_1
       try clear hfz12_2
       try clear hfz12_3
       try clear hfz12_4
       try clear hfz12_5
       try clear hfz19_0
       try clear hfz19_1
       try clear hfz19_2
       try clear hfz19_3
       try clear hfz19_4
       try clear hfz19_5
       try clear hfz20_0
       try clear hfz20_1
       try clear hfz20_2
       try clear hfz20_3
       try clear hfz20_4
       try clear hfz20_5
       try clear hfz21_0
       try clear hfz21_1
       try clear hfz21_2
       try clear hfz21_3
       try clear hfz21_4
       try clear hfz21_5
       try clear hfz22_0
       try clear hfz22_1
       try clear hfz22_2
       try clear hfz22_3
       try clear hfz22_4
       try clear hfz22_5
       try clear hfz27_0
       try clear hfz27_1
       try clear hfz27_2
       try clear hfz27_3
       try clear hfz27_4
       try clear hfz27_5
       try clear hfz28_0
       try clear hfz28_1
       try clear hfz28_2
       try clear hfz28_3
       try clear hfz28_4
       try clear hfz28_5
       try clear hfz29_0
       try clear hfz29_1
       try clear hfz29_2
       try clear hfz29_3
       try clear hfz29_4
       try clear hfz29_5
       try clear hfz31_0
       try clear hfz31_1
       try clear hfz31_2
       try clear hfz31_3
       try clear hfz31_4
       try clear hfz31_5
       try clear hfz4_0
       try clear hfz4_1
       try clear hfz4_2
       try clear hfz4_3
       try clear hfz4_4
       try clear hfz4_5
       try clear hfz9_0
       try clear hfz9_1
       try clear hfz9_2
       try clear hfz9_3
       try clear hfz9_4
       try clear hfz9_5
       try clear p2
       obtain ⟨x54_3, rfl, HA, HK3, BK292, HB⟩ := hrel; cases gk with
       | zero => exact absurd HA.out (by simp [impl_BatchValid.l0])
       | succ k3 =>
        have H := HA.out; clear HA; simp only [impl_BatchValid.l0] at H; by_cases c32 : x54_3 < (l0_5.length : Int)
        ·
         rw [if_pos c32] at H; have c32b0 : decide (x54_3 < (l0_5.length : Int)) = true := decide_eq_true c32; clear c32; by_cases c33 : 0 ≤ x54_3
         ·
          rw [if_pos c33] at H; have c33b0 : decide (0 ≤ x54_3) = true := decide_eq_true c33; clear c33; by_cases c34 : x54_3 < (l0_5.length : Int)
          ·
           rw [if_pos c34] at H; have c34b0 : decide (x54_3 < (l0_5.length : Int)) = true := decide_eq_true c34; clear c34; replace H := Option.bind_eq_some_iff.mp H; obtain ⟨t299, A350, H⟩ := H; replace H : (if t299 = true then (if x54_3 > 0 then (if 0 ≤ (wrap64 (x54_3 - 1)) then (if (wrap64 (x54_3 - 1)) < (l0_5.length : Int) then (if ((rd_T79 l0_5 (wrap64 (x54_3 - 1))).f0) ≥ ((rd_T79 l0_5 x54_3).f0) then (some false) else (impl_BatchValid.l0 k3 l0_5 (l0_5.length : Int) (wrap64 (x54_3 + 1)) a0_0 a0_1 a0_2 a0_3 a0_4 l0_5)) else (none)) else (none)) else (impl_BatchValid.l0 k3 l0_5 (l0_5.length : Int) (wrap64 (x54_3 + 1)) a0_0 a0_1 a0_2 a0_3 a0_4 l0_5)) else (some false)) = some r := H; have A35 := zzm A350; clear A350; by_cases c36 : t299 = true
           ·
            subst c36; have H1 : (if x54_3 > 0 then (if 0 ≤ (wrap64 (x54_3 - 1)) then (if (wrap64 (x54_3 - 1)) < (l0_5.length : Int) then (if ((rd_T79 l0_5 (wrap64 (x54_3 - 1))).f0) ≥ ((rd_T79 l0_5 x54_3).f0) then (some false) else (impl_BatchValid.l0 k3 l0_5 (l0_5.length : Int) (wrap64 (x54_3 + 1)) a0_0 a0_1 a0_2 a0_3 a0_4 l0_5)) else (none)) else (none)) else (impl_BatchValid.l0 k3 l0_5 (l0_5.length : Int) (wrap64 (x54_3 + 1)) a0_0 a0_1 a0_2 a0_3 a0_4 l0_5)) = some r := by rw [if_pos rfl] at H; exact H
            clear H; have H := H1; clear H1; by_cases c37 : x54_3 > 0
            ·
             rw [if_pos c37] at H; have c37b0 : decide (0 < x54_3) = true := decide_eq_true c37; clear c37; obtain ⟨ji38, hji38⟩ : ∃ j_ : Int, (wrap64 (x54_3 - 1)) = j_ := ⟨_, rfl⟩; replace H : (if 0 ≤ (ji38) then (if (ji38) < (l0_5.length : Int) then (if ((rd_T79 l0_5 (ji38)).f0) ≥ ((rd_T79 l0_5 x54_3).f0) then (some false) else (impl_BatchValid.l0 k3 l0_5 (l0_5.length : Int) (wrap64 (x54_3 + 1)) a0_0 a0_1 a0_2 a0_3 a0_4 l0_5)) else (none)) else (none)) = some r := by first | (rw [hji38] at H; exact H) | (simp only [hji38] at H ⊢; exact H)
             (try rw [hji38] at A35); have hji38w : (IntKind.i64.wrap (x54_3 - 1)) = ji38 := (i64_w _).trans hji38; by_cases c39 : 0 ≤ (ji38)
             ·
              rw [if_pos c39] at H; have c39b0 : decide (0 ≤ (ji38)) = true := decide_eq_true c39; clear c39; by_cases c40 : (ji38) < (l0_5.length : Int)
              ·
               rw [if_pos c40] at H; have c40b0 : decide ((ji38) < (l0_5.length : Int)) = true := decide_eq_true c40; clear c40; by_cases c41 : ((rd_T79 l0_5 (ji38)).f0) ≥ ((rd_T79 l0_5 x54_3).f0)
               ·
                rw [if_pos c41] at H; have c41b0 : decide (((rd_T79 l0_5 x54_3).f0) ≤ ((rd_T79 l0_5 (ji38)).f0)) = true := decide_eq_true c41; clear c41; obtain rfl := Option.some.inj H; have p297 : 0 ≤ (x54_3 : Int) := of_decide_eq_true (by first | (with_reducible assumption) | assumption); have q297 : x54_3 < (l0_5.length : Int) := of_decide_eq_true (by first | (with_reducible assumption) | assumption); obtain ⟨ad297, A297_3, c297_3, A297_5, c297_5, e297, hx297_0, hx297_1, hx297_2, hx297_3, hx297_4, hx297_5, hl297_3, hi297_3, hl297_5, hi297_5⟩ := at_T79 HR0_5.out x54_3 p297 q297; cases e297; replace hx297_0 := (HB.out.cell (zzn w _ hx297_0)).trans hx297_0; replace hx297_1 := (HB.out.cell (zzn w _ hx297_1)).trans hx297_1; replace hx297_2 := (HB.out.cell (zzn w _ hx297_2)).trans hx297_2; replace hx297_3 := (HB.out.cell (zzn w _ hx297_3)).trans hx297_3; replace hx297_4 := (HB.out.cell (zzn w _ hx297_4)).trans hx297_4; replace hx297_5 := (HB.out.cell (zzn w _ hx297_5)).trans hx297_5; have HR297_3 := zzm hi297_3; have HC297_3 := zzm hl297_3; clear hi297_3 hl297_3; have HR297_5 := zzm hi297_5; have HC297_5 := zzm hl297_5; clear hi297_5 hl297_5; replace p297 := eq_true p297; replace q297 := eq_true q297; try go_wp2_with (first | ((with_reducible refine gate_dst (N := 4) rfl ?_); (try (refine gate_guard (by rfl) ?_; dsimp only)); refine box_event ?hg (N := 4) ?hd (cs := #[.int .i64 0, .int .i64 0, .bool false, .slice none 0 0, .bool false, .slice none 0 0]) (t := 79) ?hr ?_; (case hd => rfl); (case hg => rfl); (case hr => first | (go_simp; done) | (go_simp; rfl)); intro gb298 hg w42 hbox hb; have n0_ := zzm (zzh (g := gb292) (o := .cells #[.bool a0_0, .bool a0_1, .int .i64 a0_2, .int .i64 a0_3, .int .i64 a0_4, .slice (some ad297) l0_5.length c0_5] 34 (0, 0)) (by (with_reducible repeat (first | refine zzf ?_ _ | refine zzg ?_ | refine zze ?_ _)); exact BK292.out) hb); have n1_ := zzm (zzp (by repeat (first | (with_reducible first | exact HB.out | apply zza | apply zzb | apply zzc | refine zzd ?_ GE292.out) | exact HB.out)) hb); have n2_ := zzm (hbox); have n3_ := zzm ((by rw [hg]; exact (zzo (by repeat (first | (with_reducible first | exact HB.out | apply zza | apply zzb | apply zzc | refine zzd ?_ GE292.out) | exact HB.out))) : w.heap.size ≤ gb298)); have n4_ := zzm ((by rw [hg]; exact (zzo (by repeat (first | (with_reducible first | exact HB.out | apply zza | apply zzb | apply zzc | refine zzd ?_ GE292.out) | exact HB.out))) : w.heap.size ≤ gb298)); have n5_ := zzm ((by rw [hg]; exact Nat.ne_of_lt (blk_lt (g := gb292) (o := .cells #[.bool a0_0, .bool a0_1, .int .i64 a0_2, .int .i64 a0_3, .int .i64 a0_4, .slice (some ad297) l0_5.length c0_5] 34 (0, 0)) (by (with_reducible repeat (first | refine zzf ?_ _ | refine zzg ?_ | refine zze ?_ _)); exact BK292.out)) : gb292 ≠ gb298)); have n6_ := zzm ((by rw [hg]; exact Nat.ne_of_gt (blk_lt (g := gb292) (o := .cells #[.bool a0_0, .bool a0_1, .int .i64 a0_2, .int .i64 a0_3, .int .i64 a0_4, .slice (some ad297) l0_5.length c0_5] 34 (0, 0)) (by (with_reducible repeat (first | refine zzf ?_ _ | refine zzg ?_ | refine zze ?_ _)); exact BK292.out)) : gb298 ≠ gb292)); clear BK292 HB; have BK292 := n0_; have HB := n1_; have BK298 := n2_; have GW298 := n3_; have GE298 := n4_; have NB292_298 := n5_; have NB298_292 := n6_; clear n0_ n1_ n2_ n3_ n4_ n5_ n6_ hb hbox hg; have hnb43 := NB298_292.out; have hnc43 := NB292_298.out; obtain ⟨hcz44_0, hcz44_1, hcz44_2, hcz44_3, hcz44_4, hcz44_5, hfz44_0, hfz44_1, hfz44_2, hfz44_3, hfz44_4, hfz44_5⟩ := zzc6 BK298.out))
                have n0_ : Aside0 (((((((w42.setCell ⟨gb298, 0, none⟩ (.int .i64 ((rd_T79 l0_5 x54_3).f0))).setCell ⟨gb298, 1, none⟩ (.int .i64 ((rd_T79 l0_5 x54_3).f1))).setCell ⟨gb298, 2, none⟩ (.bool ((rd_T79 l0_5 x54_3).f2))).setCell ⟨gb298, 3, none⟩ (.slice A297_3 ((rd_T79 l0_5 x54_3).f3).length c297_3)).setCell ⟨gb298, 4, none⟩ (.bool ((rd_T79 l0_5 x54_3).f4))).setCell ⟨gb298, 5, none⟩ (.slice A297_5 ((rd_T79 l0_5 x54_3).f5).length c297_5)).heap[gb292]? = some (.cells #[.bool a0_0, .bool a0_1, .int .i64 a0_2, .int .i64 a0_3, .int .i64 a0_4, .slice (some ad297) l0_5.length c0_5] 34 (0, 0))) := ⟨by (with_reducible repeat (first | refine zzf ?_ _ | refine zzg ?_ | refine zze ?_ _)); refine zzj ?_ NB292_298.out _; (with_reducible repeat (first | refine zzf ?_ _ | refine zzg ?_ | refine zze ?_ _)); refine zzj ?_ NB292_298.out _; (with_reducible repeat (first | refine zzf ?_ _ | refine zzg ?_ | refine zze ?_ _)); refine zzj ?_ NB292_298.out _; (with_reducible repeat (first | refine zzf ?_ _ | refine zzg ?_ | refine zze ?_ _)); refine zzj ?_ NB292_298.out _; (with_reducible repeat (first | refine zzf ?_ _ | refine zzg ?_ | refine zze ?_ _)); refine zzj ?_ NB292_298.out _; (with_reducible repeat (first | refine zzf ?_ _ | refine zzg ?_ | refine zze ?_ _)); refine zzj ?_ NB292_298.out _; (with_reducible repeat (first | refine zzf ?_ _ | refine zzg ?_ | refine zze ?_ _)); exact BK292.out⟩; have n1_ : Aside0 (((((((w42.setCell ⟨gb298, 0, none⟩ (.int .i64 ((rd_T79 l0_5 x54_3).f0))).setCell ⟨gb298, 1, none⟩ (.int .i64 ((rd_T79 l0_5 x54_3).f1))).setCell ⟨gb298, 2, none⟩ (.bool ((rd_T79 l0_5 x54_3).f2))).setCell ⟨gb298, 3, none⟩ (.slice A297_3 ((rd_T79 l0_5 x54_3).f3).length c297_3)).setCell ⟨gb298, 4, none⟩ (.bool ((rd_T79 l0_5 x54_3).f4))).setCell ⟨gb298, 5, none⟩ (.slice A297_5 ((rd_T79 l0_5 x54_3).f5).length c297_5)).heap[gb298]? = some (.cells #[.int .i64 ((rd_T79 l0_5 x54_3).f0), .int .i64 ((rd_T79 l0_5 x54_3).f1), .bool ((rd_T79 l0_5 x54_3).f2), .slice A297_3 ((rd_T79 l0_5 x54_3).f3).length c297_3, .bool ((rd_T79 l0_5 x54_3).f4), .slice A297_5 ((rd_T79 l0_5 x54_3).f5).length c297_5] 79 (0, 0))) := ⟨by (with_reducible repeat (first | refine zzf ?_ _ | refine zzg ?_ | refine zze ?_ _)); refine zzi (cs := #[.int .i64 ((rd_T79 l0_5 x54_3).f0), .int .i64 ((rd_T79 l0_5 x54_3).f1), .bool ((rd_T79 l0_5 x54_3).f2), .slice A297_3 ((rd_T79 l0_5 x54_3).f3).length c297_3, .bool ((rd_T79 l0_5 x54_3).f4), .slice none 0 0]) ?_ 5 _ rfl; (with_reducible repeat (first | refine zzf ?_ _ | refine zzg ?_ | refine zze ?_ _)); refine zzi (cs := #[.int .i64 ((rd_T79 l0_5 x54_3).f0), .int .i64 ((rd_T79 l0_5 x54_3).f1), .bool ((rd_T79 l0_5 x54_3).f2), .slice A297_3 ((rd_T79 l0_5 x54_3).f3).length c297_3, .bool false, .slice none 0 0]) ?_ 4 _ rfl; (with_reducible repeat (first | refine zzf ?_ _ | refine zzg ?_ | refine zze ?_ _)); refine zzi (cs := #[.int .i64 ((rd_T79 l0_5 x54_3).f0), .int .i64 ((rd_T79 l0_5 x54_3).f1), .bool ((rd_T79 l0_5 x54_3).f2), .slice none 0 0, .bool false, .slice none 0 0]) ?_ 3 _ rfl; (with_reducible repeat (first | refine zzf ?_ _ | refine zzg ?_ | refine zze ?_ _)); refine zzi (cs := #[.int .i64 ((rd_T79 l0_5 x54_3).f0), .int .i64 ((rd_T79 l0_5 x54_3).f1), .bool false, .slice none 0 0, .bool false, .slice none 0 0]) ?_ 2 _ rfl; (with_reducible repeat (first | refine zzf ?_ _ | refine zzg ?_ | refine zze ?_ _)); refine zzi (cs := #[.int .i64 ((rd_T79 l0_5 x54_3).f0), .int .i64 0, .bool false, .slice none 0 0, .bool false, .slice none 0 0]) ?_ 1 _ rfl; (with_reducible repeat (first | refine zzf ?_ _ | refine zzg ?_ | refine zze ?_ _)); refine zzi (cs := #[.int .i64 0, .int .i64 0, .bool false, .slice none 0 0, .bool false, .slice none 0 0]) ?_ 0 _ rfl; (with_reducible repeat (first | refine zzf ?_ _ | refine zzg ?_ | refine zze ?_ _)); exact BK298.out⟩; have n2_ : Aside0 (Below w.heap.size w ((((((w42.setCell ⟨gb298, 0, none⟩ (.int .i64 ((rd_T79 l0_5 x54_3).f0))).setCell ⟨gb298, 1, none⟩ (.int .i64 ((rd_T79 l0_5 x54_3).f1))).setCell ⟨gb298, 2, none⟩ (.bool ((rd_T79 l0_5 x54_3).f2))).setCell ⟨gb298, 3, none⟩ (.slice A297_3 ((rd_T79 l0_5 x54_3).f3).length c297_3)).setCell ⟨gb298, 4, none⟩ (.bool ((rd_T79 l0_5 x54_3).f4))).setCell ⟨gb298, 5, none⟩ (.slice A297_5 ((rd_T79 l0_5 x54_3).f5).length c297_5))) := ⟨by repeat (first | (with_reducible first | exact HB.out | apply zza | apply zzb | apply zzc | refine zzd ?_ GE292.out | refine zzd ?_ GE298.out) | exact HB.out)⟩; (try clear BK292); (try clear BK298); (try clear HB); generalize ((((((w42.setCell ⟨gb298, 0, none⟩ (.int .i64 ((rd_T79 l0_5 x54_3).f0))).setCell ⟨gb298, 1, none⟩ (.int .i64 ((rd_T79 l0_5 x54_3).f1))).setCell ⟨gb298, 2, none⟩ (.bool ((rd_T79 l0_5 x54_3).f2))).setCell ⟨gb298, 3, none⟩ (.slice A297_3 ((rd_T79 l0_5 x54_3).f3).length c297_3)).setCell ⟨gb298, 4, none⟩ (.bool ((rd_T79 l0_5 x54_3).f4))).setCell ⟨gb298, 5, none⟩ (.slice A297_5 ((rd_T79 l0_5 x54_3).f5).length c297_5)) = w45 at n0_ n1_ n2_ ⊢; have BK292 := n0_; have BK298 := n1_; have HB := n2_; clear n0_ n1_ n2_; have n0_ := zzm (zzg BK292.out); have n1_ := zzm (zzg BK298.out); have n2_ := zzm (zzc HB.out); clear BK292; clear BK298; clear HB; have BK292 := n0_; have BK298 := n1_; have HB := n2_; clear n0_ n1_ n2_; have p300 : 0 ≤ ((ji38) : Int) := of_decide_eq_true (by first | (with_reducible assumption) | assumption); have q300 : (ji38) < (l0_5.length : Int) := of_decide_eq_true (by first | (with_reducible assumption) | assumption); obtain ⟨ad300, A300_3, c300_3, A300_5, c300_5, e300, hx300_0, hx300_1, hx300_2, hx300_3, hx300_4, hx300_5, hl300_3, hi300_3, hl300_5, hi300_5⟩ := at_T79 HR0_5.out (ji38) p300 q300; have hw300_5 := hx300_5; have hw300_4 := hx300_4; have hw300_3 := hx300_3; have hw300_2 := hx300_2; have hw300_1 := hx300_1; have hw300_0 := hx300_0; obtain rfl : ad297 = ad300 := (by injection e300); replace hx300_0 := (HB.out.cell (zzn w _ hx300_0)).trans hx300_0; replace hx300_1 := (HB.out.cell (zzn w _ hx300_1)).trans hx300_1; replace hx300_2 := (HB.out.cell (zzn w _ hx300_2)).trans hx300_2; replace hx300_3 := (HB.out.cell (zzn w _ hx300_3)).trans hx300_3; replace hx300_4 := (HB.out.cell (zzn w _ hx300_4)).trans hx300_4; replace hx300_5 := (HB.out.cell (zzn w _ hx300_5)).trans hx300_5; have HR300_3 := zzm hi300_3; have HC300_3 := zzm hl300_3; clear hi300_3 hl300_3; have HR300_5 := zzm hi300_5; have HC300_5 := zzm hl300_5; clear hi300_5 hl300_5; replace p300 := eq_true p300; replace q300 := eq_true q300; refine start_ (n := 19) (S := fun w' => w'.cell? ⟨gb298, 0, none⟩ = some (.int .i64 ((rd_T79 l0_5 x54_3).f0)) ∧ w'.cell? ⟨gb298, 1, none⟩ = some (.int .i64 ((rd_T79 l0_5 x54_3).f1)) ∧ w'.cell? ⟨gb298, 2, none⟩ = some (.bool ((rd_T79 l0_5 x54_3).f2)) ∧ w'.cell? ⟨gb298, 3, none⟩ = some (.slice A297_3 ((rd_T79 l0_5 x54_3).f3).length c297_3) ∧ w'.cell? ⟨gb298, 4, none⟩ = some (.bool ((rd_T79 l0_5 x54_3).f4)) ∧ w'.cell? ⟨gb298, 5, none⟩ = some (.slice A297_5 ((rd_T79 l0_5 x54_3).f5).length c297_5) ∧ w'.cell? ⟨gb292, 0, none⟩ = some (.bool a0_0) ∧ w'.cell? ⟨gb292, 1, none⟩ = some (.bool a0_1) ∧ w'.cell? ⟨gb292, 2, none⟩ = some (.int .i64 a0_2) ∧ w'.cell? ⟨gb292, 3, none⟩ = some (.int .i64 a0_3) ∧ w'.cell? ⟨gb292, 4, none⟩ = some (.int .i64 a0_4) ∧ w'.cell? ⟨gb292, 5, none⟩ = some (.slice (some ad297) l0_5.length c0_5) ∧ w'.cell? (ad297.add (((ji38)).toNat * 6)) = some (.int .i64 ((rd_T79 l0_5 (ji38)).f0)) ∧ w'.cell? ⟨(ad297.add (((ji38)).toNat * 6)).block, (ad297.add (((ji38)).toNat * 6)).off + 1, none⟩ = some (.int .i64 ((rd_T79 l0_5 (ji38)).f1)) ∧ w'.cell? ⟨(ad297.add (((ji38)).toNat * 6)).block, (ad297.add (((ji38)).toNat * 6)).off + 2, none⟩ = some (.bool ((rd_T79 l0_5 (ji38)).f2)) ∧ w'.cell? ⟨(ad297.add (((ji38)).toNat * 6)).block, (ad297.add (((ji38)).toNat * 6)).off + 3, none⟩ = some (.slice A300_3 ((rd_T79 l0_5 (ji38)).f3).length c300_3) ∧ w'.cell? ⟨(ad297.add (((ji38)).toNat * 6)).block, (ad297.add (((ji38)).toNat * 6)).off + 4, none⟩ = some (.bool ((rd_T79 l0_5 (ji38)).f4)) ∧ w'.cell? ⟨(ad297.add (((ji38)).toNat * 6)).block, (ad297.add (((ji38)).toNat * 6)).off + 5, none⟩ = some (.slice A300_5 ((rd_T79 l0_5 (ji38)).f5).length c300_5)) (ds := []) (zzB 19 0) (by kernel_rfl) rfl rfl ⟨(zzk BK298.out 0).trans rfl, (zzk BK298.out 1).trans rfl, (zzk BK298.out 2).trans rfl, (zzk BK298.out 3).trans rfl, (zzk BK298.out 4).trans rfl, (zzk BK298.out 5).trans rfl, (zzk BK292.out 0).trans rfl, (zzk BK292.out 1).trans rfl, (zzk BK292.out 2).trans rfl, (zzk BK292.out 3).trans rfl, (zzk BK292.out 4).trans rfl, (zzk BK292.out 5).trans rfl, ((HB.out.cell (zzn w _ hw300_0)).trans hw300_0), ((HB.out.cell (zzn w _ hw300_1)).trans hw300_1), ((HB.out.cell (zzn w _ hw300_2)).trans hw300_2), ((HB.out.cell (zzn w _ hw300_3)).trans hw300_3), ((HB.out.cell (zzn w _ hw300_4)).trans hw300_4), ((HB.out.cell (zzn w _ hw300_5)).trans hw300_5)⟩ (fun hHeld => ?_); refine with_tabW impl_BatchValid.tab11 impl_BatchValid.bits11 (fun HT_ HW_ => ?_); generalize w45.drew = w46 at BK292 BK298 HB HR300_3 HR300_5 hx300_0 hx300_1 hx300_2 hx300_3 hx300_4 hx300_5 hHeld ⊢; refine take_ (i := 0) (N := some 59) (v := ?_) (a' := ?_) (zzB 19 1) rfl rfl (take_ofW HT_.out HW_.out (by kernel_rfl)) (fun _ _ _ h => h) (Or.inl ⟨by rfl, ?_⟩) hHeld ?_ ?_; rotate_left
                ·
                 rintro w' ⟨s0, s1, s2, s3, s4, s5, s6, s7, s8, s9, s10, s11, s12, s13, s14, s15, s16, s17⟩; go_simp; with_reducible rfl
                rotate_left
                ·
                 simp only [Act.put, zzq, zzr, zzs, i64_w, i32_w]; rfl
                refine one_ (i := 1) (N := some 60) (zzB 19 3) rfl rfl (one_of HT_.out (by kernel_rfl)) (by decide) (fun K hK => ?_); refine goes_ Try.func61 (by kernel_rfl) rfl #[.agg #[.int .i64 ((rd_T79 l0_5 x54_3).f0), .int .i64 ((rd_T79 l0_5 x54_3).f1), .bool ((rd_T79 l0_5 x54_3).f2), .slice A297_3 ((rd_T79 l0_5 x54_3).f3).length c297_3, .bool ((rd_T79 l0_5 x54_3).f4), .slice A297_5 ((rd_T79 l0_5 x54_3).f5).length c297_5]] (by rfl) rfl rfl (by (try simp only [List.map_toArray, List.map_cons, List.map_nil]); first | done | rfl | (simp only [List.length_drop, List.length_take]; rfl)) ?_; with_reducible refine (impl_RecordValid.calls k3 ((rd_T79 l0_5 x54_3).f0) ((rd_T79 l0_5 x54_3).f1) ((rd_T79 l0_5 x54_3).f2) _ _ ((rd_T79 l0_5 x54_3).f3) ((rd_T79 l0_5 x54_3).f4) _ _ ((rd_T79 l0_5 x54_3).f5) true _ ?side1 ?side2 ?side3 ?side4 A35.out).mono ?_; (case side1 => repeat (first | exact (Kd.C_below HR297_3.out HB.out) | (with_reducible refine Kd.C_alloc ?_ _) | (with_reducible refine Kd.C_drewN ?_ _) | (with_reducible refine Kd.C_drew ?_))); (case side2 => exact HC297_3.out); (case side3 => repeat (first | exact (Kd.C_below HR297_5.out HB.out) | (with_reducible refine Kd.C_alloc ?_ _) | (with_reducible refine Kd.C_drewN ?_ _) | (with_reducible refine Kd.C_drew ?_))); (case side4 => exact HC297_5.out); rintro e w47 ⟨rfl, hb⟩; refine ⟨_, rfl, ?_⟩; have n0_ := zzm (zzh (g := gb292) (o := .cells #[.bool a0_0, .bool a0_1, .int .i64 a0_2, .int .i64 a0_3, .int .i64 a0_4, .slice (some ad297) l0_5.length c0_5] 34 (0, 0)) (by (with_reducible repeat (first | refine zzf ?_ _ | refine zzg ?_ | refine zze ?_ _)); exact BK292.out) hb); have n1_ := zzm (zzh (g := gb298) (o := .cells #[.int .i64 ((rd_T79 l0_5 x54_3).f0), .int .i64 ((rd_T79 l0_5 x54_3).f1), .bool ((rd_T79 l0_5 x54_3).f2), .slice A297_3 ((rd_T79 l0_5 x54_3).f3).length c297_3, .bool ((rd_T79 l0_5 x54_3).f4), .slice A297_5 ((rd_T79 l0_5 x54_3).f5).length c297_5] 79 (0, 0)) (by (with_reducible repeat (first | refine zzf ?_ _ | refine zzg ?_ | refine zze ?_ _)); exact BK298.out) hb); have n2_ := zzm (zzp (by repeat (first | (with_reducible first | exact HB.out | apply zza | apply zzb | apply zzc | refine zzd ?_ GE292.out | refine zzd ?_ GE298.out) | exact HB.out)) hb); clear BK292; clear BK298; clear HB; have BK292 := n0_; have BK298 := n1_; have HB := n2_; clear n0_ n1_ n2_; (try clear hb); (try clear hb2); (try clear hk); (try clear hi); refine hK.out _ _ ⟨(zzk BK298.out 0).trans rfl, (zzk BK298.out 1).trans rfl, (zzk BK298.out 2).trans rfl, (zzk BK298.out 3).trans rfl, (zzk BK298.out 4).trans rfl, (zzk BK298.out 5).trans rfl, (zzk BK292.out 0).trans rfl, (zzk BK292.out 1).trans rfl, (zzk BK292.out 2).trans rfl, (zzk BK292.out 3).trans rfl, (zzk BK292.out 4).trans rfl, (zzk BK292.out 5).trans rfl, ((HB.out.cell (zzn w _ hw300_0)).trans hw300_0), ((HB.out.cell (zzn w _ hw300_1)).trans hw300_1), ((HB.out.cell (zzn w _ hw300_2)).trans hw300_2), ((HB.out.cell (zzn w _ hw300_3)).trans hw300_3), ((HB.out.cell (zzn w _ hw300_4)).trans hw300_4), ((HB.out.cell (zzn w _ hw300_5)).trans hw300_5)⟩ (fun hHeld => ?_); clear hK K; refine norm_ (a' := ?_) ?_ ?_; rotate_left
                ·
                 show Act.put _ (some 60) _ = _; simp only [Act.put, zzq, zzr, zzs, i64_w, i32_w]; rfl
                refine pure_ (i := 2) (N := some 61) (v := ?_) (a' := ?_) (zzB 19 7) rfl rfl (any_of HT_.out (by kernel_rfl)) (fun _ _ _ h => h) (Or.inl ⟨by rfl, ?_⟩) ?_ ?_; rotate_left
                ·
                 intro w'; go_simp; with_reducible rfl
                rotate_left
                ·
                 simp only [Act.put, zzq, zzr, zzs, i64_w, i32_w]; rfl
                refine pure_ (i := 3) (N := some 62) (v := ?_) (a' := ?_) (zzB 19 15) rfl rfl (any_of HT_.out (by kernel_rfl)) (fun _ _ _ h => h) (Or.inl ⟨by rfl, ?_⟩) ?_ ?_; rotate_left
                ·
                 intro w'; go_simp; with_reducible rfl
                rotate_left
                ·
                 simp only [Act.put, zzq, zzr, zzs, i64_w, i32_w]; rfl
                refine pure_ (i := 4) (N := some 63) (v := ?_) (a' := ?_) (zzB 19 31) rfl rfl (any_of HT_.out (by kernel_rfl)) (fun _ _ _ h => h) (Or.inl ⟨by rfl, ?_⟩) ?_ ?_; rotate_left
                ·
                 intro w'; go_simp; with_reducible rfl
                rotate_left
                ·
                 simp only [Act.put, zzq, zzr, zzs, i64_w, i32_w]; rfl
                refine pure_ (i := 5) (N := some 64) (v := ?_) (a' := ?_) (zzB 19 63) rfl rfl (any_of HT_.out (by kernel_rfl)) (fun _ _ _ h => h) (Or.inl ⟨by rfl, ?_⟩) ?_ ?_; rotate_left
                ·
                 intro w'; go_simp; with_reducible rfl
                rotate_left
                ·
                 simp only [Act.put, zzq, zzr, zzs, i64_w, i32_w]; rfl
                refine pure_ (i := 6) (N := some 65) (v := ?_) (a' := ?_) (zzB 19 127) rfl rfl (any_of HT_.out (by kernel_rfl)) (fun _ _ _ h => h) (Or.inl ⟨by rfl, ?_⟩) ?_ ?_; rotate_left
                ·
                 intro w'; go_simp; with_reducible rfl
                rotate_left
                ·
                 simp only [Act.put, zzq, zzr, zzs, i64_w, i32_w]; rfl
                refine pure_ (i := 7) (N := some 66) (v := ?_) (a' := ?_) (zzB 19 255) rfl rfl (any_of HT_.out (by kernel_rfl)) (fun _ _ _ h => h) (Or.inl ⟨by rfl, ?_⟩) ?_ ?_; rotate_left
                ·
                 intro w'; go_simp; with_reducible rfl
                rotate_left
                ·
                 simp only [Act.put, zzq, zzr, zzs, i64_w, i32_w]; rfl
                refine pure_ (i := 9) (N := some 68) (v := ?_) (a' := ?_) (zzB 19 767) rfl rfl (any_of HT_.out (by kernel_rfl)) (fun _ _ _ h => h) (Or.inl ⟨by rfl, ?_⟩) ?_ ?_; rotate_left
                ·
                 intro w'; go_simp; with_reducible rfl
                rotate_left
                ·
                 simp only [Act.put, zzq, zzr, zzs, i64_w, i32_w]; rfl
                refine pure_ (i := 10) (N := some 69) (v := ?_) (a' := ?_) (zzB 19 1791) rfl rfl (any_of HT_.out (by kernel_rfl)) (fun _ _ _ h => h) (Or.inl ⟨by rfl, ?_⟩) ?_ ?_; rotate_left
                ·
                 intro w'; go_simp; with_reducible rfl
                rotate_left
                ·
                 simp only [Act.put, zzq, zzr, zzs, i64_w, i32_w]; rfl
                refine pure_ (i := 14) (N := some 73) (v := ?_) (a' := ?_) (zzB 19 18175) rfl rfl (any_of HT_.out (by kernel_rfl)) (fun _ _ _ h => h) (Or.inl ⟨by rfl, ?_⟩) ?_ ?_; rotate_left
                ·
                 intro w'; go_simp; with_reducible rfl
                rotate_left
                ·
                 simp only [Act.put, zzq, zzr, zzs, i64_w, i32_w]; rfl
                refine take_ (i := 8) (N := some 67) (v := ?_) (a' := ?_) (zzB 19 18431) rfl rfl (take_ofW HT_.out HW_.out (by kernel_rfl)) (fun _ _ _ h => h) (Or.inl ⟨by rfl, ?_⟩) hHeld ?_ ?_; rotate_left
                ·
                 rintro w' ⟨s0, s1, s2, s3, s4, s5, s6, s7, s8, s9, s10, s11, s12, s13, s14, s15, s16, s17⟩; go_simp; with_reducible rfl
                rotate_left
                ·
                 simp only [Act.put, zzq, zzr, zzs, i64_w, i32_w]; rfl
                refine pure_ (i := 11) (N := some 70) (v := ?_) (a' := ?_) (zzB 19 20479) rfl rfl (any_of HT_.out (by kernel_rfl)) (fun _ _ _ h => h) (Or.inl ⟨by rfl, ?_⟩) ?_ ?_; rotate_left
                ·
                 intro w'; go_simp; with_reducible rfl
                rotate_left
                ·
                 simp only [Act.put, zzq, zzr, zzs, i64_w, i32_w]; rfl
                refine pure_ (i := 12) (N := some 71) (v := ?_) (a' := ?_) (zzB 19 24575) rfl rfl (any_of HT_.out (by kernel_rfl)) (fun _ _ _ h => h) (Or.inl ⟨by rfl, ?_⟩) ?_ ?_; rotate_left
                ·
                 intro w'; go_simp; with_reducible rfl
                rotate_left
                ·
                 simp only [Act.put, zzq, zzr, zzs, i64_w, i32_w]; rfl
                refine take_ (i := 13) (N := some 72) (v := ?_) (a' := ?_) (zzB 19 32767) rfl rfl (take_ofW HT_.out HW_.out (by kernel_rfl)) (fun _ _ _ h => h) (Or.inl ⟨by rfl, ?_⟩) hHeld ?_ ?_; rotate_left
                ·
                 rintro w' ⟨s0, s1, s2, s3, s4, s5, s6, s7, s8, s9, s10, s11, s12, s13, s14, s15, s16, s17⟩; go_simp; with_reducible rfl
                rotate_left
                ·
                 simp only [Act.put, zzq, zzr, zzs, i64_w, i32_w]; rfl
                refine take_ (i := 15) (N := some 74) (v := ?_) (a' := ?_) (zzB 19 65535) rfl rfl (take_ofW HT_.out HW_.out (by kernel_rfl)) (fun _ _ _ h => h) (Or.inl ⟨by rfl, ?_⟩) hHeld ?_ ?_; rotate_left
                ·
                 rintro w' ⟨s0, s1, s2, s3, s4, s5, s6, s7, s8, s9, s10, s11, s12, s13, s14, s15, s16, s17⟩; go_simp; with_reducible rfl
                rotate_left
                ·
                 simp only [Act.put, zzq, zzr, zzs, i64_w, i32_w]; rfl
                refine pure_ (i := 16) (N := some 75) (v := ?_) (a' := ?_) (zzB 19 131071) rfl rfl (any_of HT_.out (by kernel_rfl)) (fun _ _ _ h => h) (Or.inl ⟨by rfl, ?_⟩) ?_ ?_; rotate_left
                ·
                 intro w'; go_simp; with_reducible rfl
                rotate_left
                ·
                 simp only [Act.put, zzq, zzr, zzs, i64_w, i32_w]; rfl
                refine pure_ (i := 17) (N := some 76) (v := ?_) (a' := ?_) (zzB 19 262143) rfl rfl (any_of HT_.out (by kernel_rfl)) (fun _ _ _ h => h) (Or.inl ⟨by rfl, ?_⟩) ?_ ?_; rotate_left
                ·
                 intro w'; go_simp; with_reducible rfl
                rotate_left
                ·
                 simp only [Act.put, zzq, zzr, zzs, i64_w, i32_w]; rfl
                refine pure_ (i := 18) (N := some 77) (v := ?_) (a' := ?_) (zzB 19 524287) rfl rfl (any_of HT_.out (by kernel_rfl)) (fun _ _ _ h => h) (Or.inl ⟨by rfl, ?_⟩) ?_ ?_; rotate_left
                ·
                 intro w'; go_simp; with_reducible rfl
                rotate_left
                ·
                 simp only [Act.put, zzq, zzr, zzs, i64_w, i32_w]; rfl
                refine done_ (done_of HT_.out (by kernel_rfl)) ?_; try go_wp2
                go_ret; exact ⟨by first | rfl | (simp [errW_none, errW_some] <;> rfl) | (simp only [← hji38]; first | rfl | (simp [errW_none, errW_some] <;> rfl)) | (simp [*, errW_none, errW_some] <;> rfl), by repeat (first | (with_reducible first | exact HB.out | apply zza | apply zzb | apply zzc | refine zzd ?_ GE292.out | refine zzd ?_ GE298.out) | exact HB.out)⟩
               ·
                rw [if_neg c41] at H; have c41b0 : decide (((rd_T79 l0_5 x54_3).f0) ≤ ((rd_T79 l0_5 (ji38)).f0)) = false := decide_eq_false c41; clear c41; have H' := zzm H; clear H; have p297 : 0 ≤ (x54_3 : Int) := of_decide_eq_true (by first | (with_reducible assumption) | assumption); have q297 : x54_3 < (l0_5.length : Int) := of_decide_eq_true (by first | (with_reducible assumption) | assumption); obtain ⟨ad297, A297_3, c297_3, A297_5, c297_5, e297, hx297_0, hx297_1, hx297_2, hx297_3, hx297_4, hx297_5, hl297_3, hi297_3, hl297_5, hi297_5⟩ := at_T79 HR0_5.out x54_3 p297 q297; cases e297; replace hx297_0 := (HB.out.cell (zzn w _ hx297_0)).trans hx297_0; replace hx297_1 := (HB.out.cell (zzn w _ hx297_1)).trans hx297_1; replace hx297_2 := (HB.out.cell (zzn w _ hx297_2)).trans hx297_2; replace hx297_3 := (HB.out.cell (zzn w _ hx297_3)).trans hx297_3; replace hx297_4 := (HB.out.cell (zzn w _ hx297_4)).trans hx297_4; replace hx297_5 := (HB.out.cell (zzn w _ hx297_5)).trans hx297_5; have HR297_3 := zzm hi297_3; have HC297_3 := zzm hl297_3; clear hi297_3 hl297_3; have HR297_5 := zzm hi297_5; have HC297_5 := zzm hl297_5; clear hi297_5 hl297_5; replace p297 := eq_true p297; replace q297 := eq_true q297; try go_wp2_with (first | ((with_reducible refine gate_dst (N := 4) rfl ?_); (try (refine gate_guard (by rfl) ?_; dsimp only)); refine box_event ?hg (N := 4) ?hd (cs := #[.int .i64 0, .int .i64 0, .bool false, .slice none 0 0, .bool false, .slice none 0 0]) (t := 79) ?hr ?_; (case hd => rfl); (case hg => rfl); (case hr => first | (go_simp; done) | (go_simp; rfl)); intro gb298 hg w48 hbox hb; have n0_ := zzm (zzh (g := gb292) (o := .cells #[.bool a0_0, .bool a0_1, .int .i64 a0_2, .int .i64 a0_3, .int .i64 a0_4, .slice (some ad297) l0_5.length c0_5] 34 (0, 0)) (by (with_reducible repeat (first | refine zzf ?_ _ | refine zzg ?_ | refine zze ?_ _)); exact BK292.out) hb); have n1_ := zzm (zzp (by repeat (first | (with_reducible first | exact HB.out | apply zza | apply zzb | apply zzc | refine zzd ?_ GE292.out) | exact HB.out)) hb); have n2_ := zzm (hbox); have n3_ := zzm ((by rw [hg]; exact (zzo (by repeat (first | (with_reducible first | exact HB.out | apply zza | apply zzb | apply zzc | refine zzd ?_ GE292.out) | exact HB.out))) : w.heap.size ≤ gb298)); have n4_ := zzm ((by rw [hg]; exact (zzo (by repeat (first | (with_reducible first | exact HB.out | apply zza | apply zzb | apply zzc | refine zzd ?_ GE292.out) | exact HB.out))) : w.heap.size ≤ gb298)); have n5_ := zzm ((by rw [hg]; exact Nat.ne_of_lt (blk_lt (g := gb292) (o := .cells #[.bool a0_0, .bool a0_1, .int .i64 a0_2, .int .i64 a0_3, .int .i64 a0_4, .slice (some ad297) l0_5.length c0_5] 34 (0, 0)) (by (with_reducible repeat (first | refine zzf ?_ _ | refine zzg ?_ | refine zze ?_ _)); exact BK292.out)) : gb292 ≠ gb298)); have n6_ := zzm ((by rw [hg]; exact Nat.ne_of_gt (blk_lt (g := gb292) (o := .cells #[.bool a0_0, .bool a0_1, .int .i64 a0_2, .int .i64 a0_3, .int .i64 a0_4, .slice (some ad297) l0_5.length c0_5] 34 (0, 0)) (by (with_reducible repeat (first | refine zzf ?_ _ | refine zzg ?_ | refine zze ?_ _)); exact BK292.out)) : gb298 ≠ gb292)); clear BK292 HB; have BK292 := n0_; have HB := n1_; have BK298 := n2_; have GW298 := n3_; have GE298 := n4_; have NB292_298 := n5_; have NB298_292 := n6_; clear n0_ n1_ n2_ n3_ n4_ n5_ n6_ hb hbox hg; have hnb49 := NB298_292.out; have hnc49 := NB292_298.out; obtain ⟨hcz50_0, hcz50_1, hcz50_2, hcz50_3, hcz50_4, hcz50_5, hfz50_0, hfz50_1, hfz50_2, hfz50_3, hfz50_4, hfz50_5⟩ := zzc6 BK298.out))
                have n0_ : Aside0 (((((((w48.setCell ⟨gb298, 0, none⟩ (.int .i64 ((rd_T79 l0_5 x54_3).f0))).setCell ⟨gb298, 1, none⟩ (.int .i64 ((rd_T79 l0_5 x54_3).f1))).setCell ⟨gb298, 2, none⟩ (.bool ((rd_T79 l0_5 x54_3).f2))).setCell ⟨gb298, 3, none⟩ (.slice A297_3 ((rd_T79 l0_5 x54_3).f3).length c297_3)).setCell ⟨gb298, 4, none⟩ (.bool ((rd_T79 l0_5 x54_3).f4))).setCell ⟨gb298, 5, none⟩ (.slice A297_5 ((rd_T79 l0_5 x54_3).f5).length c297_5)).heap[gb292]? = some (.cells #[.bool a0_0, .bool a0_1, .int .i64 a0_2, .int .i64 a0_3, .int .i64 a0_4, .slice (some ad297) l0_5.length c0_5] 34 (0, 0))) := ⟨by (with_reducible repeat (first | refine zzf ?_ _ | refine zzg ?_ | refine zze ?_ _)); refine zzj ?_ NB292_298.out _; (with_reducible repeat (first | refine zzf ?_ _ | refine zzg ?_ | refine zze ?_ _)); refine zzj ?_ NB292_298.out _; (with_reducible repeat (first | refine zzf ?_ _ | refine zzg ?_ | refine zze ?_ _)); refine zzj ?_ NB292_298.out _; (with_reducible repeat (first | refine zzf ?_ _ | refine zzg ?_ | refine zze ?_ _)); refine zzj ?_ NB292_298.out _; (with_reducible repeat (first | refine zzf ?_ _ | refine zzg ?_ | refine zze ?_ _)); refine zzj ?_ NB292_298.out _; (with_reducible repeat (first | refine zzf ?_ _ | refine zzg ?_ | refine zze ?_ _)); refine zzj ?_ NB292_298.out _; (with_reducible repeat (first | refine zzf ?_ _ | refine zzg ?_ | refine zze ?_ _)); exact BK292.out⟩; have n1_ : Aside0 (((((((w48.setCell ⟨gb298, 0, none⟩ (.int .i64 ((rd_T79 l0_5 x54_3).f0))).setCell ⟨gb298, 1, none⟩ (.int .i64 ((rd_T79 l0_5 x54_3).f1))).setCell ⟨gb298, 2, none⟩ (.bool ((rd_T79 l0_5 x54_3).f2))).setCell ⟨gb298, 3, none⟩ (.slice A297_3 ((rd_T79 l0_5 x54_3).f3).length c297_3)).setCell ⟨gb298, 4, none⟩ (.bool ((rd_T79 l0_5 x54_3).f4))).setCell ⟨gb298, 5, none⟩ (.slice A297_5 ((rd_T79 l0_5 x54_3).f5).length c297_5)).heap[gb298]? = some (.cells #[.int .i64 ((rd_T79 l0_5 x54_3).f0), .int .i64 ((rd_T79 l0_5 x54_3).f1), .bool ((rd_T79 l0_5 x54_3).f2), .slice A297_3 ((rd_T79 l0_5 x54_3).f3).length c297_3, .bool ((rd_T79 l0_5 x54_3).f4), .slice A297_5 ((rd_T79 l0_5 x54_3).f5).length c297_5] 79 (0, 0))) := ⟨by (with_reducible repeat (first | refine zzf ?_ _ | refine zzg ?_ | refine zze ?_ _)); refine zzi (cs := #[.int .i64 ((rd_T79 l0_5 x54_3).f0), .int .i64 ((rd_T79 l0_5 x54_3).f1), .bool ((rd_T79 l0_5 x54_3).f2), .slice A297_3 ((rd_T79 l0_5 x54_3).f3).length c297_3, .bool ((rd_T79 l0_5 x54_3).f4), .slice none 0 0]) ?_ 5 _ rfl; (with_reducible repeat (first | refine zzf ?_ _ | refine zzg ?_ | refine zze ?_ _)); refine zzi (cs := #[.int .i64 ((rd_T79 l0_5 x54_3).f0), .int .i64 ((rd_T79 l0_5 x54_3).f1), .bool ((rd_T79 l0_5 x54_3).f2), .slice A297_3 ((rd_T79 l0_5 x54_3).f3).length c297_3, .bool false, .slice none 0 0]) ?_ 4 _ rfl; (with_reducible repeat (first | refine zzf ?_ _ | refine zzg ?_ | refine zze ?_ _)); refine zzi (cs := #[.int .i64 ((rd_T79 l0_5 x54_3).f0), .int .i64 ((rd_T79 l0_5 x54_3).f1), .bool ((rd_T79 l0_5 x54_3).f2), .slice none 0 0, .bool false, .slice none 0 0]) ?_ 3 _ rfl; (with_reducible repeat (first | refine zzf ?_ _ | refine zzg ?_ | refine zze ?_ _)); refine zzi (cs := #[.int .i64 ((rd_T79 l0_5 x54_3).f0), .int .i64 ((rd_T79 l0_5 x54_3).f1), .bool false, .slice none 0 0, .bool false, .slice none 0 0]) ?_ 2 _ rfl; (with_reducible repeat (first | refine zzf ?_ _ | refine zzg ?_ | refine zze ?_ _)); refine zzi (cs := #[.int .i64 ((rd_T79 l0_5 x54_3).f0), .int .i64 0, .bool false, .slice none 0 0, .bool false, .slice none 0 0]) ?_ 1 _ rfl; (with_reducible repeat (first | refine zzf ?_ _ | refine zzg ?_ | refine zze ?_ _)); refine zzi (cs := #[.int .i64 0, .int .i64 0, .bool false, .slice none 0 0, .bool false, .slice none 0 0]) ?_ 0 _ rfl; (with_reducible repeat (first | refine zzf ?_ _ | refine zzg ?_ | refine zze ?_ _)); exact BK298.out⟩; have n2_ : Aside0 (Below w.heap.size w ((((((w48.setCell ⟨gb298, 0, none⟩ (.int .i64 ((rd_T79 l0_5 x54_3).f0))).setCell ⟨gb298, 1, none⟩ (.int .i64 ((rd_T79 l0_5 x54_3).f1))).setCell ⟨gb298, 2, none⟩ (.bool ((rd_T79 l0_5 x54_3).f2))).setCell ⟨gb298, 3, none⟩ (.slice A297_3 ((rd_T79 l0_5 x54_3).f3).length c297_3)).setCell ⟨gb298, 4, none⟩ (.bool ((rd_T79 l0_5 x54_3).f4))).setCell ⟨gb298, 5, none⟩ (.slice A297_5 ((rd_T79 l0_5 x54_3).f5).length c297_5))) := ⟨by repeat (first | (with_reducible first | exact HB.out | apply zza | apply zzb | apply zzc | refine zzd ?_ GE292.out | refine zzd ?_ GE298.out) | exact HB.out)⟩; (try clear BK292); (try clear BK298); (try clear HB); generalize ((((((w48.setCell ⟨gb298, 0, none⟩ (.int .i64 ((rd_T79 l0_5 x54_3).f0))).setCell ⟨gb298, 1, none⟩ (.int .i64 ((rd_T79 l0_5 x54_3).f1))).setCell ⟨gb298, 2, none⟩ (.bool ((rd_T79 l0_5 x54_3).f2))).setCell ⟨gb298, 3, none⟩ (.slice A297_3 ((rd_T79 l0_5 x54_3).f3).length c297_3)).setCell ⟨gb298, 4, none⟩ (.bool ((rd_T79 l0_5 x54_3).f4))).setCell ⟨gb298, 5, none⟩ (.slice A297_5 ((rd_T79 l0_5 x54_3).f5).length c297_5)) = w51 at n0_ n1_ n2_ ⊢; have BK292 := n0_; have BK298 := n1_; have HB := n2_; clear n0_ n1_ n2_; have n0_ := zzm (zzg BK292.out); have n1_ := zzm (zzg BK298.out); have n2_ := zzm (zzc HB.out); clear BK292; clear BK298; clear HB; have BK292 := n0_; have BK298 := n1_; have HB := n2_; clear n0_ n1_ n2_; have p300 : 0 ≤ ((ji38) : Int) := of_decide_eq_true (by first | (with_reducible assumption) | assumption); have q300 : (ji38) < (l0_5.length : Int) := of_decide_eq_true (by first | (with_reducible assumption) | assumption); obtain ⟨ad300, A300_3, c300_3, A300_5, c300_5, e300, hx300_0, hx300_1, hx300_2, hx300_3, hx300_4, hx300_5, hl300_3, hi300_3, hl300_5, hi300_5⟩ := at_T79 HR0_5.out (ji38) p300 q300; have hw300_5 := hx300_5; have hw300_4 := hx300_4; have hw300_3 := hx300_3; have hw300_2 := hx300_2; have hw300_1 := hx300_1; have hw300_0 := hx300_0; obtain rfl : ad297 = ad300 := (by injection e300); replace hx300_0 := (HB.out.cell (zzn w _ hx300_0)).trans hx300_0; replace hx300_1 := (HB.out.cell (zzn w _ hx300_1)).trans hx300_1; replace hx300_2 := (HB.out.cell (zzn w _ hx300_2)).trans hx300_2; replace hx300_3 := (HB.out.cell (zzn w _ hx300_3)).trans hx300_3; replace hx300_4 := (HB.out.cell (zzn w _ hx300_4)).trans hx300_4; replace hx300_5 := (HB.out.cell (zzn w _ hx300_5)).trans hx300_5; have HR300_3 := zzm hi300_3; have HC300_3 := zzm hl300_3; clear hi300_3 hl300_3; have HR300_5 := zzm hi300_5; have HC300_5 := zzm hl300_5; clear hi300_5 hl300_5; replace p300 := eq_true p300; replace q300 := eq_true q300; refine start_ (n := 19) (S := fun w' => w'.cell? ⟨gb298, 0, none⟩ = some (.int .i64 ((rd_T79 l0_5 x54_3).f0)) ∧ w'.cell? ⟨gb298, 1, none⟩ = some (.int .i64 ((rd_T79 l0_5 x54_3).f1)) ∧ w'.cell? ⟨gb298, 2, none⟩ = some (.bool ((rd_T79 l0_5 x54_3).f2)) ∧ w'.cell? ⟨gb298, 3, none⟩ = some (.slice A297_3 ((rd_T79 l0_5 x54_3).f3).length c297_3) ∧ w'.cell? ⟨gb298, 4, none⟩ = some (.bool ((rd_T79 l0_5 x54_3).f4)) ∧ w'.cell? ⟨gb298, 5, none⟩ = some (.slice A297_5 ((rd_T79 l0_5 x54_3).f5).length c297_5) ∧ w'.cell? ⟨gb292, 0, none⟩ = some (.bool a0_0) ∧ w'.cell? ⟨gb292, 1, none⟩ = some (.bool a0_1) ∧ w'.cell? ⟨gb292, 2, none⟩ = some (.int .i64 a0_2) ∧ w'.cell? ⟨gb292, 3, none⟩ = some (.int .i64 a0_3) ∧ w'.cell? ⟨gb292, 4, none⟩ = some (.int .i64 a0_4) ∧ w'.cell? ⟨gb292, 5, none⟩ = some (.slice (some ad297) l0_5.length c0_5) ∧ w'.cell? (ad297.add (((ji38)).toNat * 6)) = some (.int .i64 ((rd_T79 l0_5 (ji38)).f0)) ∧ w'.cell? ⟨(ad297.add (((ji38)).toNat * 6)).block, (ad297.add (((ji38)).toNat * 6)).off + 1, none⟩ = some (.int .i64 ((rd_T79 l0_5 (ji38)).f1)) ∧ w'.cell? ⟨(ad297.add (((ji38)).toNat * 6)).block, (ad297.add (((ji38)).toNat * 6)).off + 2, none⟩ = some (.bool ((rd_T79 l0_5 (ji38)).f2)) ∧ w'.cell? ⟨(ad297.add (((ji38)).toNat * 6)).block, (ad297.add (((ji38)).toNat * 6)).off + 3, none⟩ = some (.slice A300_3 ((rd_T79 l0_5 (ji38)).f3).length c300_3) ∧ w'.cell? ⟨(ad297.add (((ji38)).toNat * 6)).block, (ad297.add (((ji38)).toNat * 6)).off + 4, none⟩ = some (.bool ((rd_T79 l0_5 (ji38)).f4)) ∧ w'.cell? ⟨(ad297.add (((ji38)).toNat * 6)).block, (ad297.add (((ji38)).toNat * 6)).off + 5, none⟩ = some (.slice A300_5 ((rd_T79 l0_5 (ji38)).f5).length c300_5)) (ds := []) (zzB 19 0) (by kernel_rfl) rfl rfl ⟨(zzk BK298.out 0).trans rfl, (zzk BK298.out 1).trans rfl, (zzk BK298.out 2).trans rfl, (zzk BK298.out 3).trans rfl, (zzk BK298.out 4).trans rfl, (zzk BK298.out 5).trans rfl, (zzk BK292.out 0).trans rfl, (zzk BK292.out 1).trans rfl, (zzk BK292.out 2).trans rfl, (zzk BK292.out 3).trans rfl, (zzk BK292.out 4).trans rfl, (zzk BK292.out 5).trans rfl, ((HB.out.cell (zzn w _ hw300_0)).trans hw300_0), ((HB.out.cell (zzn w _ hw300_1)).trans hw300_1), ((HB.out.cell (zzn w _ hw300_2)).trans hw300_2), ((HB.out.cell (zzn w _ hw300_3)).trans hw300_3), ((HB.out.cell (zzn w _ hw300_4)).trans hw300_4), ((HB.out.cell (zzn w _ hw300_5)).trans hw300_5)⟩ (fun hHeld => ?_); refine with_tabW impl_BatchValid.tab11 impl_BatchValid.bits11 (fun HT_ HW_ => ?_); generalize w51.drew = w52 at BK292 BK298 HB HR300_3 HR300_5 hx300_0 hx300_1 hx300_2 hx300_3 hx300_4 hx300_5 hHeld ⊢; refine take_ (i := 0) (N := some 59) (v := ?_) (a' := ?_) (zzB 19 1) rfl rfl (take_ofW HT_.out HW_.out (by kernel_rfl)) (fun _ _ _ h => h) (Or.inl ⟨by rfl, ?_⟩) hHeld ?_ ?_; rotate_left
                ·
                 rintro w' ⟨s0, s1, s2, s3, s4, s5, s6, s7, s8, s9, s10, s11, s12, s13, s14, s15, s16, s17⟩; go_simp; with_reducible rfl
                rotate_left
                ·
                 simp only [Act.put, zzq, zzr, zzs, i64_w, i32_w]; rfl
                refine one_ (i := 1) (N := some 60) (zzB 19 3) rfl rfl (one_of HT_.out (by kernel_rfl)) (by decide) (fun K hK => ?_); refine goes_ Try.func61 (by kernel_rfl) rfl #[.agg #[.int .i64 ((rd_T79 l0_5 x54_3).f0), .int .i64 ((rd_T79 l0_5 x54_3).f1), .bool ((rd_T79 l0_5 x54_3).f2), .slice A297_3 ((rd_T79 l0_5 x54_3).f3).length c297_3, .bool ((rd_T79 l0_5 x54_3).f4), .slice A297_5 ((rd_T79 l0_5 x54_3).f5).length c297_5]] (by rfl) rfl rfl (by (try simp only [List.map_toArray, List.map_cons, List.map_nil]); first | done | rfl | (simp only [List.length_drop, List.length_take]; rfl)) ?_; with_reducible refine (impl_RecordValid.calls k3 ((rd_T79 l0_5 x54_3).f0) ((rd_T79 l0_5 x54_3).f1) ((rd_T79 l0_5 x54_3).f2) _ _ ((rd_T79 l0_5 x54_3).f3) ((rd_T79 l0_5 x54_3).f4) _ _ ((rd_T79 l0_5 x54_3).f5) true _ ?side1 ?side2 ?side3 ?side4 A35.out).mono ?_; (case side1 => repeat (first | exact (Kd.C_below HR297_3.out HB.out) | (with_reducible refine Kd.C_alloc ?_ _) | (with_reducible refine Kd.C_drewN ?_ _) | (with_reducible refine Kd.C_drew ?_))); (case side2 => exact HC297_3.out); (case side3 => repeat (first | exact (Kd.C_below HR297_5.out HB.out) | (with_reducible refine Kd.C_alloc ?_ _) | (with_reducible refine Kd.C_drewN ?_ _) | (with_reducible refine Kd.C_drew ?_))); (case side4 => exact HC297_5.out); rintro e w53 ⟨rfl, hb⟩; refine ⟨_, rfl, ?_⟩; have n0_ := zzm (zzh (g := gb292) (o := .cells #[.bool a0_0, .bool a0_1, .int .i64 a0_2, .int .i64 a0_3, .int .i64 a0_4, .slice (some ad297) l0_5.length c0_5] 34 (0, 0)) (by (with_reducible repeat (first | refine zzf ?_ _ | refine zzg ?_ | refine zze ?_ _)); exact BK292.out) hb); have n1_ := zzm (zzh (g := gb298) (o := .cells #[.int .i64 ((rd_T79 l0_5 x54_3).f0), .int .i64 ((rd_T79 l0_5 x54_3).f1), .bool ((rd_T79 l0_5 x54_3).f2), .slice A297_3 ((rd_T79 l0_5 x54_3).f3).length c297_3, .bool ((rd_T79 l0_5 x54_3).f4), .slice A297_5 ((rd_T79 l0_5 x54_3).f5).length c297_5] 79 (0, 0)) (by (with_reducible repeat (first | refine zzf ?_ _ | refine zzg ?_ | refine zze ?_ _)); exact BK298.out) hb); have n2_ := zzm (zzp (by repeat (first | (with_reducible first | exact HB.out | apply zza | apply zzb | apply zzc | refine zzd ?_ GE292.out | refine zzd ?_ GE298.out) | exact HB.out)) hb); clear BK292; clear BK298; clear HB; have BK292 := n0_; have BK298 := n1_; have HB := n2_; clear n0_ n1_ n2_; (try clear hb); (try clear hb2); (try clear hk); (try clear hi); refine hK.out _ _ ⟨(zzk BK298.out 0).trans rfl, (zzk BK298.out 1).trans rfl, (zzk BK298.out 2).trans rfl, (zzk BK298.out 3).trans rfl, (zzk BK298.out 4).trans rfl, (zzk BK298.out 5).trans rfl, (zzk BK292.out 0).trans rfl, (zzk BK292.out 1).trans rfl, (zzk BK292.out 2).trans rfl, (zzk BK292.out 3).trans rfl, (zzk BK292.out 4).trans rfl, (zzk BK292.out 5).trans rfl, ((HB.out.cell (zzn w _ hw300_0)).trans hw300_0), ((HB.out.cell (zzn w _ hw300_1)).trans hw300_1), ((HB.out.cell (zzn w _ hw300_2)).trans hw300_2), ((HB.out.cell (zzn w _ hw300_3)).trans hw300_3), ((HB.out.cell (zzn w _ hw300_4)).trans hw300_4), ((HB.out.cell (zzn w _ hw300_5)).trans hw300_5)⟩ (fun hHeld => ?_); clear hK K; refine norm_ (a' := ?_) ?_ ?_; rotate_left
                ·
                 show Act.put _ (some 60) _ = _; simp only [Act.put, zzq, zzr, zzs, i64_w, i32_w]; rfl
                refine pure_ (i := 2) (N := some 61) (v := ?_) (a' := ?_) (zzB 19 7) rfl rfl (any_of HT_.out (by kernel_rfl)) (fun _ _ _ h => h) (Or.inl ⟨by rfl, ?_⟩) ?_ ?_; rotate_left
                ·
                 intro w'; go_simp; with_reducible rfl
                rotate_left
                ·
                 simp only [Act.put, zzq, zzr, zzs, i64_w, i32_w]; rfl
                refine pure_ (i := 3) (N := some 62) (v := ?_) (a' := ?_) (zzB 19 15) rfl rfl (any_of HT_.out (by kernel_rfl)) (fun _ _ _ h => h) (Or.inl ⟨by rfl, ?_⟩) ?_ ?_; rotate_left
                ·
                 intro w'; go_simp; with_reducible rfl
                rotate_left
                ·
                 simp only [Act.put, zzq, zzr, zzs, i64_w, i32_w]; rfl
                refine pure_ (i := 4) (N := some 63) (v := ?_) (a' := ?_) (zzB 19 31) rfl rfl (any_of HT_.out (by kernel_rfl)) (fun _ _ _ h => h) (Or.inl ⟨by rfl, ?_⟩) ?_ ?_; rotate_left
                ·
                 intro w'; go_simp; with_reducible rfl
                rotate_left
                ·
                 simp only [Act.put, zzq, zzr, zzs, i64_w, i32_w]; rfl
                refine pure_ (i := 5) (N := some 64) (v := ?_) (a' := ?_) (zzB 19 63) rfl rfl (any_of HT_.out (by kernel_rfl)) (fun _ _ _ h => h) (Or.inl ⟨by rfl, ?_⟩) ?_ ?_; rotate_left
                ·
                 intro w'; go_simp; with_reducible rfl
                rotate_left
                ·
                 simp only [Act.put, zzq, zzr, zzs, i64_w, i32_w]; rfl
                refine pure_ (i := 6) (N := some 65) (v := ?_) (a' := ?_) (zzB 19 127) rfl rfl (any_of HT_.out (by kernel_rfl)) (fun _ _ _ h => h) (Or.inl ⟨by rfl, ?_⟩) ?_ ?_; rotate_left
                ·
                 intro w'; go_simp; with_reducible rfl
                rotate_left
                ·
                 simp only [Act.put, zzq, zzr, zzs, i64_w, i32_w]; rfl
                refine pure_ (i := 7) (N := some 66) (v := ?_) (a' := ?_) (zzB 19 255) rfl rfl (any_of HT_.out (by kernel_rfl)) (fun _ _ _ h => h) (Or.inl ⟨by rfl, ?_⟩) ?_ ?_; rotate_left
                ·
                 intro w'; go_simp; with_reducible rfl
                rotate_left
                ·
                 simp only [Act.put, zzq, zzr, zzs, i64_w, i32_w]; rfl
                refine pure_ (i := 9) (N := some 68) (v := ?_) (a' := ?_) (zzB 19 767) rfl rfl (any_of HT_.out (by kernel_rfl)) (fun _ _ _ h => h) (Or.inl ⟨by rfl, ?_⟩) ?_ ?_; rotate_left
                ·
                 intro w'; go_simp; with_reducible rfl
                rotate_left
                ·
                 simp only [Act.put, zzq, zzr, zzs, i64_w, i32_w]; rfl
                refine pure_ (i := 10) (N := some 69) (v := ?_) (a' := ?_) (zzB 19 1791) rfl rfl (any_of HT_.out (by kernel_rfl)) (fun _ _ _ h => h) (Or.inl ⟨by rfl, ?_⟩) ?_ ?_; rotate_left
                ·
                 intro w'; go_simp; with_reducible rfl
                rotate_left
                ·
                 simp only [Act.put, zzq, zzr, zzs, i64_w, i32_w]; rfl
                refine pure_ (i := 14) (N := some 73) (v := ?_) (a' := ?_) (zzB 19 18175) rfl rfl (any_of HT_.out (by kernel_rfl)) (fun _ _ _ h => h) (Or.inl ⟨by rfl, ?_⟩) ?_ ?_; rotate_left
                ·
                 intro w'; go_simp; with_reducible rfl
                rotate_left
                ·
                 simp only [Act.put, zzq, zzr, zzs, i64_w, i32_w]; rfl
                refine take_ (i := 8) (N := some 67) (v := ?_) (a' := ?_) (zzB 19 18431) rfl rfl (take_ofW HT_.out HW_.out (by kernel_rfl)) (fun _ _ _ h => h) (Or.inl ⟨by rfl, ?_⟩) hHeld ?_ ?_; rotate_left
                ·
                 rintro w' ⟨s0, s1, s2, s3, s4, s5, s6, s7, s8, s9, s10, s11, s12, s13, s14, s15, s16, s17⟩; go_simp; with_reducible rfl
                rotate_left
                ·
                 simp only [Act.put, zzq, zzr, zzs, i64_w, i32_w]; rfl
                refine pure_ (i := 11) (N := some 70) (v := ?_) (a' := ?_) (zzB 19 20479) rfl rfl (any_of HT_.out (by kernel_rfl)) (fun _ _ _ h => h) (Or.inl ⟨by rfl, ?_⟩) ?_ ?_; rotate_left
                ·
                 intro w'; go_simp; with_reducible rfl
                rotate_left
                ·
                 simp only [Act.put, zzq, zzr, zzs, i64_w, i32_w]; rfl
                refine pure_ (i := 12) (N := some 71) (v := ?_) (a' := ?_) (zzB 19 24575) rfl rfl (any_of HT_.out (by kernel_rfl)) (fun _ _ _ h => h) (Or.inl ⟨by rfl, ?_⟩) ?_ ?_; rotate_left
                ·
                 intro w'; go_simp; with_reducible rfl
                rotate_left
                ·
                 simp only [Act.put, zzq, zzr, zzs, i64_w, i32_w]; rfl
                refine take_ (i := 13) (N := some 72) (v := ?_) (a' := ?_) (zzB 19 32767) rfl rfl (take_ofW HT_.out HW_.out (by kernel_rfl)) (fun _ _ _ h => h) (Or.inl ⟨by rfl, ?_⟩) hHeld ?_ ?_; rotate_left
                ·
                 rintro w' ⟨s0, s1, s2, s3, s4, s5, s6, s7, s8, s9, s10, s11, s12, s13, s14, s15, s16, s17⟩; go_simp; with_reducible rfl
                rotate_left
                ·
                 simp only [Act.put, zzq, zzr, zzs, i64_w, i32_w]; rfl
                refine take_ (i := 15) (N := some 74) (v := ?_) (a' := ?_) (zzB 19 65535) rfl rfl (take_ofW HT_.out HW_.out (by kernel_rfl)) (fun _ _ _ h => h) (Or.inl ⟨by rfl, ?_⟩) hHeld ?_ ?_; rotate_left
                ·
                 rintro w' ⟨s0, s1, s2, s3, s4, s5, s6, s7, s8, s9, s10, s11, s12, s13, s14, s15, s16, s17⟩; go_simp; with_reducible rfl
                rotate_left
                ·
                 simp only [Act.put, zzq, zzr, zzs, i64_w, i32_w]; rfl
                refine pure_ (i := 16) (N := some 75) (v := ?_) (a' := ?_) (zzB 19 131071) rfl rfl (any_of HT_.out (by kernel_rfl)) (fun _ _ _ h => h) (Or.inl ⟨by rfl, ?_⟩) ?_ ?_; rotate_left
                ·
                 intro w'; go_simp; with_reducible rfl
                rotate_left
                ·
                 simp only [Act.put, zzq, zzr, zzs, i64_w, i32_w]; rfl
                refine pure_ (i := 17) (N := some 76) (v := ?_) (a' := ?_) (zzB 19 262143) rfl rfl (any_of HT_.out (by kernel_rfl)) (fun _ _ _ h => h) (Or.inl ⟨by rfl, ?_⟩) ?_ ?_; rotate_left
                ·
                 intro w'; go_simp; with_reducible rfl
                rotate_left
                ·
                 simp only [Act.put, zzq, zzr, zzs, i64_w, i32_w]; rfl
                refine pure_ (i := 18) (N := some 77) (v := ?_) (a' := ?_) (zzB 19 524287) rfl rfl (any_of HT_.out (by kernel_rfl)) (fun _ _ _ h => h) (Or.inl ⟨by rfl, ?_⟩) ?_ ?_; rotate_left
                ·
                 intro w'; go_simp; with_reducible rfl
                rotate_left
                ·
                 simp only [Act.put, zzq, zzr, zzs, i64_w, i32_w]; rfl
                refine done_ (done_of HT_.out (by kernel_rfl)) ?_; try go_wp2
                go_roundg k3
                case measure => have := HJ1.out; have := HJ22.out; have := HK3.out; omega
                case rel => exact ⟨(wrap64 (x54_3 + 1)), (by first | rfl | (simp; done) | (simp [*]; done)), H', ⟨by have := HJ1.out; have := HJ22.out; have := HK3.out; omega⟩, ⟨by (with_reducible repeat (first | refine zzf ?_ _ | refine zzg ?_ | refine zze ?_ _)); exact BK292.out⟩, ⟨by repeat (first | (with_reducible first | exact HB.out | apply zza | apply zzb | apply zzc | refine zzd ?_ GE292.out | refine zzd ?_ GE298.out) | exact HB.out)⟩⟩
              ·
               rw [if_neg c40] at H; exact absurd H (by simp)
             ·
              rw [if_neg c39] at H; exact absurd H (by simp)
            ·
             rw [if_neg c37] at H; have c37b0 : decide (0 < x54_3) = false := decide_eq_false c37; clear c37; have H' := zzm H; clear H; have p297 : 0 ≤ (x54_3 : Int) := of_decide_eq_true (by first | (with_reducible assumption) | assumption); have q297 : x54_3 < (l0_5.length : Int) := of_decide_eq_true (by first | (with_reducible assumption) | assumption); obtain ⟨ad297, A297_3, c297_3, A297_5, c297_5, e297, hx297_0, hx297_1, hx297_2, hx297_3, hx297_4, hx297_5, hl297_3, hi297_3, hl297_5, hi297_5⟩ := at_T79 HR0_5.out x54_3 p297 q297; cases e297; replace hx297_0 := (HB.out.cell (zzn w _ hx297_0)).trans hx297_0; replace hx297_1 := (HB.out.cell (zzn w _ hx297_1)).trans hx297_1; replace hx297_2 := (HB.out.cell (zzn w _ hx297_2)).trans hx297_2; replace hx297_3 := (HB.out.cell (zzn w _ hx297_3)).trans hx297_3; replace hx297_4 := (HB.out.cell (zzn w _ hx297_4)).trans hx297_4; replace hx297_5 := (HB.out.cell (zzn w _ hx297_5)).trans hx297_5; have HR297_3 := zzm hi297_3; have HC297_3 := zzm hl297_3; clear hi297_3 hl297_3; have HR297_5 := zzm hi297_5; have HC297_5 := zzm hl297_5; clear hi297_5 hl297_5; replace p297 := eq_true p297; replace q297 := eq_true q297; try go_wp2_with (first | ((with_reducible refine gate_dst (N := 4) rfl ?_); (try (refine gate_guard (by rfl) ?_; dsimp only)); refine box_event ?hg (N := 4) ?hd (cs := #[.int .i64 0, .int .i64 0, .bool false, .slice none 0 0, .bool false, .slice none 0 0]) (t := 79) ?hr ?_; (case hd => rfl); (case hg => rfl); (case hr => first | (go_simp; done) | (go_simp; rfl)); intro gb298 hg w54 hbox hb; have n0_ := zzm (zzh (g := gb292) (o := .cells #[.bool a0_0, .bool a0_1, .int .i64 a0_2, .int .i64 a0_3, .int .i64 a0_4, .slice (some ad297) l0_5.length c0_5] 34 (0, 0)) (by (with_reducible repeat (first | refine zzf ?_ _ | refine zzg ?_ | refine zze ?_ _)); exact BK292.out) hb); have n1_ := zzm (zzp (by repeat (first | (with_reducible first | exact HB.out | apply zza | apply zzb | apply zzc | refine zzd ?_ GE292.out) | exact HB.out)) hb); have n2_ := zzm (hbox); have n3_ := zzm ((by rw [hg]; exact (zzo (by repeat (first | (with_reducible first | exact HB.out | apply zza | apply zzb | apply zzc | refine zzd ?_ GE292.out) | exact HB.out))) : w.heap.size ≤ gb298)); have n4_ := zzm ((by rw [hg]; exact (zzo (by repeat (first | (with_reducible first | exact HB.out | apply zza | apply zzb | apply zzc | refine zzd ?_ GE292.out) | exact HB.out))) : w.heap.size ≤ gb298)); have n5_ := zzm ((by rw [hg]; exact Nat.ne_of_lt (blk_lt (g := gb292) (o := .cells #[.bool a0_0, .bool a0_1, .int .i64 a0_2, .int .i64 a0_3, .int .i64 a0_4, .slice (some ad297) l0_5.length c0_5] 34 (0, 0)) (by (with_reducible repeat (first | refine zzf ?_ _ | refine zzg ?_ | refine zze ?_ _)); exact BK292.out)) : gb292 ≠ gb298)); have n6_ := zzm ((by rw [hg]; exact Nat.ne_of_gt (blk_lt (g := gb292) (o := .cells #[.bool a0_0, .bool a0_1, .int .i64 a0_2, .int .i64 a0_3, .int .i64 a0_4, .slice (some ad297) l0_5.length c0_5] 34 (0, 0)) (by (with_reducible repeat (first | refine zzf ?_ _ | refine zzg ?_ | refine zze ?_ _)); exact BK292.out)) : gb298 ≠ gb292)); clear BK292 HB; have BK292 := n0_; have HB := n1_; have BK298 := n2_; have GW298 := n3_; have GE298 := n4_; have NB292_298 := n5_; have NB298_292 := n6_; clear n0_ n1_ n2_ n3_ n4_ n5_ n6_ hb hbox hg; have hnb55 := NB298_292.out; have hnc55 := NB292_298.out; obtain ⟨hcz56_0, hcz56_1, hcz56_2, hcz56_3, hcz56_4, hcz56_5, hfz56_0, hfz56_1, hfz56_2, hfz56_3, hfz56_4, hfz56_5⟩ := zzc6 BK298.out))
             have n0_ : Aside0 (((((((w54.setCell ⟨gb298, 0, none⟩ (.int .i64 ((rd_T79 l0_5 x54_3).f0))).setCell ⟨gb298, 1, none⟩ (.int .i64 ((rd_T79 l0_5 x54_3).f1))).setCell ⟨gb298, 2, none⟩ (.bool ((rd_T79 l0_5 x54_3).f2))).setCell ⟨gb298, 3, none⟩ (.slice A297_3 ((rd_T79 l0_5 x54_3).f3).length c297_3)).setCell ⟨gb298, 4, none⟩ (.bool ((rd_T79 l0_5 x54_3).f4))).setCell ⟨gb298, 5, none⟩ (.slice A297_5 ((rd_T79 l0_5 x54_3).f5).length c297_5)).heap[gb292]? = some (.cells #[.bool a0_0, .bool a0_1, .int .i64 a0_2, .int .i64 a0_3, .int .i64 a0_4, .slice (some ad297) l0_5.length c0_5] 34 (0, 0))) := ⟨by (with_reducible repeat (first | refine zzf ?_ _ | refine zzg ?_ | refine zze ?_ _)); refine zzj ?_ NB292_298.out _; (with_reducible repeat (first | refine zzf ?_ _ | refine zzg ?_ | refine zze ?_ _)); refine zzj ?_ NB292_298.out _; (with_reducible repeat (first | refine zzf ?_ _ | refine zzg ?_ | refine zze ?_ _)); refine zzj ?_ NB292_298.out _; (with_reducible repeat (first | refine zzf ?_ _ | refine zzg ?_ | refine zze ?_ _)); refine zzj ?_ NB292_298.out _; (with_reducible repeat (first | refine zzf ?_ _ | refine zzg ?_ | refine zze ?_ _)); refine zzj ?_ NB292_298.out _; (with_reducible repeat (first | refine zzf ?_ _ | refine zzg ?_ | refine zze ?_ _)); refine zzj ?_ NB292_298.out _; (with_reducible repeat (first | refine zzf ?_ _ | refine zzg ?_ | refine zze ?_ _)); exact BK292.out⟩; have n1_ : Aside0 (((((((w54.setCell ⟨gb298, 0, none⟩ (.int .i64 ((rd_T79 l0_5 x54_3).f0))).setCell ⟨gb298, 1, none⟩ (.int .i64 ((rd_T79 l0_5 x54_3).f1))).setCell ⟨gb298, 2, none⟩ (.bool ((rd_T79 l0_5 x54_3).f2))).setCell ⟨gb298, 3, none⟩ (.slice A297_3 ((rd_T79 l0_5 x54_3).f3).length c297_3)).setCell ⟨gb298, 4, none⟩ (.bool ((rd_T79 l0_5 x54_3).f4))).setCell ⟨gb298, 5, none⟩ (.slice A297_5 ((rd_T79 l0_5 x54_3).f5).length c297_5)).heap[gb298]? = some (.cells #[.int .i64 ((rd_T79 l0_5 x54_3).f0), .int .i64 ((rd_T79 l0_5 x54_3).f1), .bool ((rd_T79 l0_5 x54_3).f2), .slice A297_3 ((rd_T79 l0_5 x54_3).f3).length c297_3, .bool ((rd_T79 l0_5 x54_3).f4), .slice A297_5 ((rd_T79 l0_5 x54_3).f5).length c297_5] 79 (0, 0))) := ⟨by (with_reducible repeat (first | refine zzf ?_ _ | refine zzg ?_ | refine zze ?_ _)); refine zzi (cs := #[.int .i64 ((rd_T79 l0_5 x54_3).f0), .int .i64 ((rd_T79 l0_5 x54_3).f1), .bool ((rd_T79 l0_5 x54_3).f2), .slice A297_3 ((rd_T79 l0_5 x54_3).f3).length c297_3, .bool ((rd_T79 l0_5 x54_3).f4), .slice none 0 0]) ?_ 5 _ rfl; (with_reducible repeat (first | refine zzf ?_ _ | refine zzg ?_ | refine zze ?_ _)); refine zzi (cs := #[.int .i64 ((rd_T79 l0_5 x54_3).f0), .int .i64 ((rd_T79 l0_5 x54_3).f1), .bool ((rd_T79 l0_5 x54_3).f2), .slice A297_3 ((rd_T79 l0_5 x54_3).f3).length c297_3, .bool false, .slice none 0 0]) ?_ 4 _ rfl; (with_reducible repeat (first | refine zzf ?_ _ | refine zzg ?_ | refine zze ?_ _)); refine zzi (cs := #[.int .i64 ((rd_T79 l0_5 x54_3).f0), .int .i64 ((rd_T79 l0_5 x54_3).f1), .bool ((rd_T79 l0_5 x54_3).f2), .slice none 0 0, .bool false, .slice none 0 0]) ?_ 3 _ rfl; (with_reducible repeat (first | refine zzf ?_ _ | refine zzg ?_ | refine zze ?_ _)); refine zzi (cs := #[.int .i64 ((rd_T79 l0_5 x54_3).f0), .int .i64 ((rd_T79 l0_5 x54_3).f1), .bool false, .slice none 0 0, .bool false, .slice none 0 0]) ?_ 2 _ rfl; (with_reducible repeat (first | refine zzf ?_ _ | refine zzg ?_ | refine zze ?_ _)); refine zzi (cs := #[.int .i64 ((rd_T79 l0_5 x54_3).f0), .int .i64 0, .bool false, .slice none 0 0, .bool false, .slice none 0 0]) ?_ 1 _ rfl; (with_reducible repeat (first | refine zzf ?_ _ | refine zzg ?_ | refine zze ?_ _)); refine zzi (cs := #[.int .i64 0, .int .i64 0, .bool false, .slice none 0 0, .bool false, .slice none 0 0]) ?_ 0 _ rfl; (with_reducible repeat (first | refine zzf ?_ _ | refine zzg ?_ | refine zze ?_ _)); exact BK298.out⟩; have n2_ : Aside0 (Below w.heap.size w ((((((w54.setCell ⟨gb298, 0, none⟩ (.int .i64 ((rd_T79 l0_5 x54_3).f0))).setCell ⟨gb298, 1, none⟩ (.int .i64 ((rd_T79 l0_5 x54_3).f1))).setCell ⟨gb298, 2, none⟩ (.bool ((rd_T79 l0_5 x54_3).f2))).setCell ⟨gb298, 3, none⟩ (.slice A297_3 ((rd_T79 l0_5 x54_3).f3).length c297_3)).setCell ⟨gb298, 4, none⟩ (.bool ((rd_T79 l0_5 x54_3).f4))).setCell ⟨gb298, 5, none⟩ (.slice A297_5 ((rd_T79 l0_5 x54_3).f5).length c297_5))) := ⟨by repeat (first | (with_reducible first | exact HB.out | apply zza | apply zzb | apply zzc | refine zzd ?_ GE292.out | refine zzd ?_ GE298.out) | exact HB.out)⟩; (try clear BK292); (try clear BK298); (try clear HB); generalize ((((((w54.setCell ⟨gb298, 0, none⟩ (.int .i64 ((rd_T79 l0_5 x54_3).f0))).setCell ⟨gb298, 1, none⟩ (.int .i64 ((rd_T79 l0_5 x54_3).f1))).setCell ⟨gb298, 2, none⟩ (.bool ((rd_T79 l0_5 x54_3).f2))).setCell ⟨gb298, 3, none⟩ (.slice A297_3 ((rd_T79 l0_5 x54_3).f3).length c297_3)).setCell ⟨gb298, 4, none⟩ (.bool ((rd_T79 l0_5 x54_3).f4))).setCell ⟨gb298, 5, none⟩ (.slice A297_5 ((rd_T79 l0_5 x54_3).f5).length c297_5)) = w57 at n0_ n1_ n2_ ⊢; have BK292 := n0_; have BK298 := n1_; have HB := n2_; clear n0_ n1_ n2_; have n0_ := zzm (zzg BK292.out); have n1_ := zzm (zzg BK298.out); have n2_ := zzm (zzc HB.out); clear BK292; clear BK298; clear HB; have BK292 := n0_; have BK298 := n1_; have HB := n2_; clear n0_ n1_ n2_; refine start_ (n := 19) (S := fun w' => w'.cell? ⟨gb298, 0, none⟩ = some (.int .i64 ((rd_T79 l0_5 x54_3).f0)) ∧ w'.cell? ⟨gb298, 1, none⟩ = some (.int .i64 ((rd_T79 l0_5 x54_3).f1)) ∧ w'.cell? ⟨gb298, 2, none⟩ = some (.bool ((rd_T79 l0_5 x54_3).f2)) ∧ w'.cell? ⟨gb298, 3, none⟩ = some (.slice A297_3 ((rd_T79 l0_5 x54_3).f3).length c297_3) ∧ w'.cell? ⟨gb298, 4, none⟩ = some (.bool ((rd_T79 l0_5 x54_3).f4)) ∧ w'.cell? ⟨gb298, 5, none⟩ = some (.slice A297_5 ((rd_T79 l0_5 x54_3).f5).length c297_5)) (ds := []) (zzB 19 0) (by kernel_rfl) rfl rfl ⟨(zzk BK298.out 0).trans rfl, (zzk BK298.out 1).trans rfl, (zzk BK298.out 2).trans rfl, (zzk BK298.out 3).trans rfl, (zzk BK298.out 4).trans rfl, (zzk BK298.out 5).trans rfl⟩ (fun hHeld => ?_); refine with_tabW impl_BatchValid.tab11 impl_BatchValid.bits11 (fun HT_ HW_ => ?_); generalize w57.drew = w58 at BK292 BK298 HB hHeld ⊢; refine take_ (i := 0) (N := some 59) (v := ?_) (a' := ?_) (zzB 19 1) rfl rfl (take_ofW HT_.out HW_.out (by kernel_rfl)) (fun _ _ _ h => h) (Or.inl ⟨by rfl, ?_⟩) hHeld ?_ ?_; rotate_left
             ·
              rintro w' ⟨s0, s1, s2, s3, s4, s5⟩; go_simp; with_reducible rfl
             rotate_left
             ·
              simp only [Act.put, zzq, zzr, zzs, i64_w, i32_w]; rfl
             refine one_ (i := 1) (N := some 60) (zzB 19 3) rfl rfl (one_of HT_.out (by kernel_rfl)) (by decide) (fun K hK => ?_); refine goes_ Try.func61 (by kernel_rfl) rfl #[.agg #[.int .i64 ((rd_T79 l0_5 x54_3).f0), .int .i64 ((rd_T79 l0_5 x54_3).f1), .bool ((rd_T79 l0_5 x54_3).f2), .slice A297_3 ((rd_T79 l0_5 x54_3).f3).length c297_3, .bool ((rd_T79 l0_5 x54_3).f4), .slice A297_5 ((rd_T79 l0_5 x54_3).f5).length c297_5]] (by rfl) rfl rfl (by (try simp only [List.map_toArray, List.map_cons, List.map_nil]); first | done | rfl | (simp only [List.length_drop, List.length_take]; rfl)) ?_; with_reducible refine (impl_RecordValid.calls k3 ((rd_T79 l0_5 x54_3).f0) ((rd_T79 l0_5 x54_3).f1) ((rd_T79 l0_5 x54_3).f2) _ _ ((rd_T79 l0_5 x54_3).f3) ((rd_T79 l0_5 x54_3).f4) _ _ ((rd_T79 l0_5 x54_3).f5) true _ ?side1 ?side2 ?side3 ?side4 A35.out).mono ?_; (case side1 => repeat (first | exact (Kd.C_below HR297_3.out HB.out) | (with_reducible refine Kd.C_alloc ?_ _) | (with_reducible refine Kd.C_drewN ?_ _) | (with_reducible refine Kd.C_drew ?_))); (case side2 => exact HC297_3.out); (case side3 => repeat (first | exact (Kd.C_below HR297_5.out HB.out) | (with_reducible refine Kd.C_alloc ?_ _) | (with_reducible refine Kd.C_drewN ?_ _) | (with_reducible refine Kd.C_drew ?_))); (case side4 => exact HC297_5.out); rintro e w59 ⟨rfl, hb⟩; refine ⟨_, rfl, ?_⟩; have n0_ := zzm (zzh (g := gb292) (o := .cells #[.bool a0_0, .bool a0_1, .int .i64 a0_2, .int .i64 a0_3, .int .i64 a0_4, .slice (some ad297) l0_5.length c0_5] 34 (0, 0)) (by (with_reducible repeat (first | refine zzf ?_ _ | refine zzg ?_ | refine zze ?_ _)); exact BK292.out) hb); have n1_ := zzm (zzh (g := gb298) (o := .cells #[.int .i64 ((rd_T79 l0_5 x54_3).f0), .int .i64 ((rd_T79 l0_5 x54_3).f1), .bool ((rd_T79 l0_5 x54_3).f2), .slice A297_3 ((rd_T79 l0_5 x54_3).f3).length c297_3, .bool ((rd_T79 l0_5 x54_3).f4), .slice A297_5 ((rd_T79 l0_5 x54_3).f5).length c297_5] 79 (0, 0)) (by (with_reducible repeat (first | refine zzf ?_ _ | refine zzg ?_ | refine zze ?_ _)); exact BK298.out) hb); have n2_ := zzm (zzp (by repeat (first | (with_reducible first | exact HB.out | apply zza | apply zzb | apply zzc | refine zzd ?_ GE292.out | refine zzd ?_ GE298.out) | exact HB.out)) hb); clear BK292; clear BK298; clear HB; have BK292 := n0_; have BK298 := n1_; have HB := n2_; clear n0_ n1_ n2_; (try clear hb); (try clear hb2); (try clear hk); (try clear hi); refine hK.out _ _ ⟨(zzk BK298.out 0).trans rfl, (zzk BK298.out 1).trans rfl, (zzk BK298.out 2).trans rfl, (zzk BK298.out 3).trans rfl, (zzk BK298.out 4).trans rfl, (zzk BK298.out 5).trans rfl⟩ (fun hHeld => ?_); clear hK K; refine norm_ (a' := ?_) ?_ ?_; rotate_left
             ·
              show Act.put _ (some 60) _ = _; simp only [Act.put, zzq, zzr, zzs, i64_w, i32_w]; rfl
             refine pure_ (i := 2) (N := some 61) (v := ?_) (a' := ?_) (zzB 19 7) rfl rfl (any_of HT_.out (by kernel_rfl)) (fun _ _ _ h => h) (Or.inl ⟨by rfl, ?_⟩) ?_ ?_; rotate_left
             ·
              intro w'; go_simp; with_reducible rfl
             rotate_left
             ·
              simp only [Act.put, zzq, zzr, zzs, i64_w, i32_w]; rfl
             refine pure_ (i := 3) (N := some 62) (v := ?_) (a' := ?_) (zzB 19 15) rfl rfl (any_of HT_.out (by kernel_rfl)) (fun _ _ _ h => h) (Or.inl ⟨by rfl, ?_⟩) ?_ ?_; rotate_left
             ·
              intro w'; go_simp; with_reducible rfl
             rotate_left
             ·
              simp only [Act.put, zzq, zzr, zzs, i64_w, i32_w]; rfl
             refine pure_ (i := 4) (N := some 63) (v := ?_) (a' := ?_) (zzB 19 31) rfl rfl (any_of HT_.out (by kernel_rfl)) (fun _ _ _ h => h) (Or.inl ⟨by rfl, ?_⟩) ?_ ?_; rotate_left
             ·
              intro w'; go_simp; with_reducible rfl
             rotate_left
             ·
              simp only [Act.put, zzq, zzr, zzs, i64_w, i32_w]; rfl
             refine pure_ (i := 5) (N := some 64) (v := ?_) (a' := ?_) (zzB 19 63) rfl rfl (any_of HT_.out (by kernel_rfl)) (fun _ _ _ h => h) (Or.inl ⟨by rfl, ?_⟩) ?_ ?_; rotate_left
             ·
              intro w'; go_simp; with_reducible rfl
             rotate_left
             ·
              simp only [Act.put, zzq, zzr, zzs, i64_w, i32_w]; rfl
             refine pure_ (i := 6) (N := some 65) (v := ?_) (a' := ?_) (zzB 19 127) rfl rfl (any_of HT_.out (by kernel_rfl)) (fun _ _ _ h => h) (Or.inl ⟨by rfl, ?_⟩) ?_ ?_; rotate_left
             ·
              intro w'; go_simp; with_reducible rfl
             rotate_left
             ·
              simp only [Act.put, zzq, zzr, zzs, i64_w, i32_w]; rfl
             refine pure_ (i := 7) (N := some 66) (v := undef) (a' := ?_) (zzB 19 255) rfl rfl (any_of HT_.out (by kernel_rfl)) (fun _ _ _ h => h) (Or.inr ⟨by rfl, rfl⟩) ?_ ?_; rotate_left
             ·
              simp only [Act.put, zzq, zzr, zzs, i64_w, i32_w]; rfl
             refine pure_ (i := 8) (N := some 67) (v := undef) (a' := ?_) (zzB 19 511) rfl rfl (any_of HT_.out (by kernel_rfl)) (fun _ _ _ h => h) (Or.inr ⟨by rfl, rfl⟩) ?_ ?_; rotate_left
             ·
              simp only [Act.put, zzq, zzr, zzs, i64_w, i32_w]; rfl
             refine pure_ (i := 9) (N := some 68) (v := undef) (a' := ?_) (zzB 19 1023) rfl rfl (any_of HT_.out (by kernel_rfl)) (fun _ _ _ h => h) (Or.inr ⟨by rfl, rfl⟩) ?_ ?_; rotate_left
             ·
              simp only [Act.put, zzq, zzr, zzs, i64_w, i32_w]; rfl
             refine pure_ (i := 10) (N := some 69) (v := undef) (a' := ?_) (zzB 19 2047) rfl rfl (any_of HT_.out (by kernel_rfl)) (fun _ _ _ h => h) (Or.inr ⟨by rfl, rfl⟩) ?_ ?_; rotate_left
             ·
              simp only [Act.put, zzq, zzr, zzs, i64_w, i32_w]; rfl
             refine pure_ (i := 11) (N := some 70) (v := undef) (a' := ?_) (zzB 19 4095) rfl rfl (any_of HT_.out (by kernel_rfl)) (fun _ _ _ h => h) (Or.inr ⟨by rfl, rfl⟩) ?_ ?_; rotate_left
             ·
              simp only [Act.put, zzq, zzr, zzs, i64_w, i32_w]; rfl
             refine pure_ (i := 12) (N := some 71) (v := undef) (a' := ?_) (zzB 19 8191) rfl rfl (any_of HT_.out (by kernel_rfl)) (fun _ _ _ h => h) (Or.inr ⟨by rfl, rfl⟩) ?_ ?_; rotate_left
             ·
              simp only [Act.put, zzq, zzr, zzs, i64_w, i32_w]; rfl
             refine pure_ (i := 13) (N := some 72) (v := undef) (a' := ?_) (zzB 19 16383) rfl rfl (any_of HT_.out (by kernel_rfl)) (fun _ _ _ h => h) (Or.inr ⟨by rfl, rfl⟩) ?_ ?_; rotate_left
             ·
              simp only [Act.put, zzq, zzr, zzs, i64_w, i32_w]; rfl
             refine pure_ (i := 14) (N := some 73) (v := undef) (a' := ?_) (zzB 19 32767) rfl rfl (any_of HT_.out (by kernel_rfl)) (fun _ _ _ h => h) (Or.inr ⟨by rfl, rfl⟩) ?_ ?_; rotate_left
             ·
              simp only [Act.put, zzq, zzr, zzs, i64_w, i32_w]; rfl
             refine pure_ (i := 15) (N := some 74) (v := undef) (a' := ?_) (zzB 19 65535) rfl rfl (any_of HT_.out (by kernel_rfl)) (fun _ _ _ h => h) (Or.inr ⟨by rfl, rfl⟩) ?_ ?_; rotate_left
             ·
              simp only [Act.put, zzq, zzr, zzs, i64_w, i32_w]; rfl
             refine pure_ (i := 16) (N := some 75) (v := undef) (a' := ?_) (zzB 19 131071) rfl rfl (any_of HT_.out (by kernel_rfl)) (fun _ _ _ h => h) (Or.inr ⟨by rfl, rfl⟩) ?_ ?_; rotate_left
             ·
              simp only [Act.put, zzq, zzr, zzs, i64_w, i32_w]; rfl
             refine pure_ (i := 17) (N := some 76) (v := ?_) (a' := ?_) (zzB 19 262143) rfl rfl (any_of HT_.out (by kernel_rfl)) (fun _ _ _ h => h) (Or.inl ⟨by rfl, ?_⟩) ?_ ?_; rotate_left
             ·
              intro w'; go_simp; with_reducible rfl
             rotate_left
             ·
              simp only [Act.put, zzq, zzr, zzs, i64_w, i32_w]; rfl
             refine pure_ (i := 18) (N := some 77) (v := ?_) (a' := ?_) (zzB 19 524287) rfl rfl (any_of HT_.out (by kernel_rfl)) (fun _ _ _ h => h) (Or.inl ⟨by rfl, ?_⟩) ?_ ?_; rotate_left
             ·
              intro w'; go_simp; with_reducible rfl
             rotate_left
             ·
              simp only [Act.put, zzq, zzr, zzs, i64_w, i32_w]; rfl
             refine done_ (done_of HT_.out (by kernel_rfl)) ?_; try go_wp2
             go_roundg k3
             case measure => have := HJ1.out; have := HJ22.out; have := HK3.out; omega
             case rel => exact ⟨(wrap64 (x54_3 + 1)), (by first | rfl | (simp; done) | (simp [*]; done)), H', ⟨by have := HJ1.out; have := HJ22.out; have := HK3.out; omega⟩, ⟨by (with_reducible repeat (first | refine zzf ?_ _ | refine zzg ?_ | refine zze ?_ _)); exact BK292.out⟩, ⟨by repeat (first | (with_reducible first | exact HB.out | apply zza | apply zzb | apply zzc | refine zzd ?_ GE292.out | refine zzd ?_ GE298.out) | exact HB.out)⟩⟩
           ·
            replace c36 := Bool.eq_false_iff.mpr c36; subst c36; have H1 : (some false) = some r := by rw [if_neg (show ¬ (false = true) by decide)] at H; exact H
            clear H; have H := H1; clear H1; obtain rfl := Option.some.inj H; have p297 : 0 ≤ (x54_3 : Int) := of_decide_eq_true (by first | (with_reducible assumption) | assumption); have q297 : x54_3 < (l0_5.length : Int) := of_decide_eq_true (by first | (with_reducible assumption) | assumption); obtain ⟨ad297, A297_3, c297_3, A297_5, c297_5, e297, hx297_0, hx297_1, hx297_2, hx297_3, hx297_4, hx297_5, hl297_3, hi297_3, hl297_5, hi297_5⟩ := at_T79 HR0_5.out x54_3 p297 q297; cases e297; replace hx297_0 := (HB.out.cell (zzn w _ hx297_0)).trans hx297_0; replace hx297_1 := (HB.out.cell (zzn w _ hx297_1)).trans hx297_1; replace hx297_2 := (HB.out.cell (zzn w _ hx297_2)).trans hx297_2; replace hx297_3 := (HB.out.cell (zzn w _ hx297_3)).trans hx297_3; replace hx297_4 := (HB.out.cell (zzn w _ hx297_4)).trans hx297_4; replace hx297_5 := (HB.out.cell (zzn w _ hx297_5)).trans hx297_5; have HR297_3 := zzm hi297_3; have HC297_3 := zzm hl297_3; clear hi297_3 hl297_3; have HR297_5 := zzm hi297_5; have HC297_5 := zzm hl297_5; clear hi297_5 hl297_5; replace p297 := eq_true p297; replace q297 := eq_true q297; try go_wp2_with (first | ((with_reducible refine gate_dst (N := 4) rfl ?_); (try (refine gate_guard (by rfl) ?_; dsimp only)); refine box_event ?hg (N := 4) ?hd (cs := #[.int .i64 0, .int .i64 0, .bool false, .slice none 0 0, .bool false, .slice none 0 0]) (t := 79) ?hr ?_; (case hd => rfl); (case hg => rfl); (case hr => first | (go_simp; done) | (go_simp; rfl)); intro gb298 hg w60 hbox hb; have n0_ := zzm (zzh (g := gb292) (o := .cells #[.bool a0_0, .bool a0_1, .int .i64 a0_2, .int .i64 a0_3, .int .i64 a0_4, .slice (some ad297) l0_5.length c0_5] 34 (0, 0)) (by (with_reducible repeat (first | refine zzf ?_ _ | refine zzg ?_ | refine zze ?_ _)); exact BK292.out) hb); have n1_ := zzm (zzp (by repeat (first | (with_reducible first | exact HB.out | apply zza | apply zzb | apply zzc | refine zzd ?_ GE292.out) | exact HB.out)) hb); have n2_ := zzm (hbox); have n3_ := zzm ((by rw [hg]; exact (zzo (by repeat (first | (with_reducible first | exact HB.out | apply zza | apply zzb | apply zzc | refine zzd ?_ GE292.out) | exact HB.out))) : w.heap.size ≤ gb298)); have n4_ := zzm ((by rw [hg]; exact (zzo (by repeat (first | (with_reducible first | exact HB.out | apply zza | apply zzb | apply zzc | refine zzd ?_ GE292.out) | exact HB.out))) : w.heap.size ≤ gb298)); have n5_ := zzm ((by rw [hg]; exact Nat.ne_of_lt (blk_lt (g := gb292) (o := .cells #[.bool a0_0, .bool a0_1, .int .i64 a0_2, .int .i64 a0_3, .int .i64 a0_4, .slice (some ad297) l0_5.length c0_5] 34 (0, 0)) (by (with_reducible repeat (first | refine zzf ?_ _ | refine zzg ?_ | refine zze ?_ _)); exact BK292.out)) : gb292 ≠ gb298)); have n6_ := zzm ((by rw [hg]; exact Nat.ne_of_gt (blk_lt (g := gb292) (o := .cells #[.bool a0_0, .bool a0_1, .int .i64 a0_2, .int .i64 a0_3, .int .i64 a0_4, .slice (some ad297) l0_5.length c0_5] 34 (0, 0)) (by (with_reducible repeat (first | refine zzf ?_ _ | refine zzg ?_ | refine zze ?_ _)); exact BK292.out)) : gb298 ≠ gb292)); clear BK292 HB; have BK292 := n0_; have HB := n1_; have BK298 := n2_; have GW298 := n3_; have GE298 := n4_; have NB292_298 := n5_; have NB298_292 := n6_; clear n0_ n1_ n2_ n3_ n4_ n5_ n6_ hb hbox hg; have hnb61 := NB298_292.out; have hnc61 := NB292_298.out; obtain ⟨hcz62_0, hcz62_1, hcz62_2, hcz62_3, hcz62_4, hcz62_5, hfz62_0, hfz62_1, hfz62_2, hfz62_3, hfz62_4, hfz62_5⟩ := zzc6 BK298.out))
            have n0_ : Aside0 (((((((w60.setCell ⟨gb298, 0, none⟩ (.int .i64 ((rd_T79 l0_5 x54_3).f0))).setCell ⟨gb298, 1, none⟩ (.int .i64 ((rd_T79 l0_5 x54_3).f1))).setCell ⟨gb298, 2, none⟩ (.bool ((rd_T79 l0_5 x54_3).f2))).setCell ⟨gb298, 3, none⟩ (.slice A297_3 ((rd_T79 l0_5 x54_3).f3).length c297_3)).setCell ⟨gb298, 4, none⟩ (.bool ((rd_T79 l0_5 x54_3).f4))).setCell ⟨gb298, 5, none⟩ (.slice A297_5 ((rd_T79 l0_5 x54_3).f5).length c297_5)).heap[gb292]? = some (.cells #[.bool a0_0, .bool a0_1, .int .i64 a0_2, .int .i64 a0_3, .int .i64 a0_4, .slice (some ad297) l0_5.length c0_5] 34 (0, 0))) := ⟨by (with_reducible repeat (first | refine zzf ?_ _ | refine zzg ?_ | refine zze ?_ _)); refine zzj ?_ NB292_298.out _; (with_reducible repeat (first | refine zzf ?_ _ | refine zzg ?_ | refine zze ?_ _)); refine zzj ?_ NB292_298.out _; (with_reducible repeat (first | refine zzf ?_ _ | refine zzg ?_ | refine zze ?_ _)); refine zzj ?_ NB292_298.out _; (with_reducible repeat (first | refine zzf ?_ _ | refine zzg ?_ | refine zze ?_ _)); refine zzj ?_ NB292_298.out _; (with_reducible repeat (first | refine zzf ?_ _ | refine zzg ?_ | refine zze ?_ _)); refine zzj ?_ NB292_298.out _; (with_reducible repeat (first | refine zzf ?_ _ | refine zzg ?_ | refine zze ?_ _)); refine zzj ?_ NB292_298.out _; (with_reducible repeat (first | refine zzf ?_ _ | refine zzg ?_ | refine zze ?_ _)); exact BK292.out⟩; have n1_ : Aside0 (((((((w60.setCell ⟨gb298, 0, none⟩ (.int .i64 ((rd_T79 l0_5 x54_3).f0))).setCell ⟨gb298, 1, none⟩ (.int .i64 ((rd_T79 l0_5 x54_3).f1))).setCell ⟨gb298, 2, none⟩ (.bool ((rd_T79 l0_5 x54_3).f2))).setCell ⟨gb298, 3, none⟩ (.slice A297_3 ((rd_T79 l0_5 x54_3).f3).length c297_3)).setCell ⟨gb298, 4, none⟩ (.bool ((rd_T79 l0_5 x54_3).f4))).setCell ⟨gb298, 5, none⟩ (.slice A297_5 ((rd_T79 l0_5 x54_3).f5).length c297_5)).heap[gb298]? = some (.cells #[.int .i64 ((rd_T79 l0_5 x54_3).f0), .int .i64 ((rd_T79 l0_5 x54_3).f1), .bool ((rd_T79 l0_5 x54_3).f2), .slice A297_3 ((rd_T79 l0_5 x54_3).f3).length c297_3, .bool ((rd_T79 l0_5 x54_3).f4), .slice A297_5 ((rd_T79 l0_5 x54_3).f5).length c297_5] 79 (0, 0))) := ⟨by (with_reducible repeat (first | refine zzf ?_ _ | refine zzg ?_ | refine zze ?_ _)); refine zzi (cs := #[.int .i64 ((rd_T79 l0_5 x54_3).f0), .int .i64 ((rd_T79 l0_5 x54_3).f1), .bool ((rd_T79 l0_5 x54_3).f2), .slice A297_3 ((rd_T79 l0_5 x54_3).f3).length c297_3, .bool ((rd_T79 l0_5 x54_3).f4), .slice none 0 0]) ?_ 5 _ rfl; (with_reducible repeat (first | refine zzf ?_ _ | refine zzg ?_ | refine zze ?_ _)); refine zzi (cs := #[.int .i64 ((rd_T79 l0_5 x54_3).f0), .int .i64 ((rd_T79 l0_5 x54_3).f1), .bool ((rd_T79 l0_5 x54_3).f2), .slice A297_3 ((rd_T79 l0_5 x54_3).f3).length c297_3, .bool false, .slice none 0 0]) ?_ 4 _ rfl; (with_reducible repeat (first | refine zzf ?_ _ | refine zzg ?_ | refine zze ?_ _)); refine zzi (cs := #[.int .i64 ((rd_T79 l0_5 x54_3).f0), .int .i64 ((rd_T79 l0_5 x54_3).f1), .bool ((rd_T79 l0_5 x54_3).f2), .slice none 0 0, .bool false, .slice none 0 0]) ?_ 3 _ rfl; (with_reducible repeat (first | refine zzf ?_ _ | refine zzg ?_ | refine zze ?_ _)); refine zzi (cs := #[.int .i64 ((rd_T79 l0_5 x54_3).f0), .int .i64 ((rd_T79 l0_5 x54_3).f1), .bool false, .slice none 0 0, .bool false, .slice none 0 0]) ?_ 2 _ rfl; (with_reducible repeat (first | refine zzf ?_ _ | refine zzg ?_ | refine zze ?_ _)); refine zzi (cs := #[.int .i64 ((rd_T79 l0_5 x54_3).f0), .int .i64 0, .bool false, .slice none 0 0, .bool false, .slice none 0 0]) ?_ 1 _ rfl; (with_reducible repeat (first | refine zzf ?_ _ | refine zzg ?_ | refine zze ?_ _)); refine zzi (cs := #[.int .i64 0, .int .i64 0, .bool false, .slice none 0 0, .bool false, .slice none 0 0]) ?_ 0 _ rfl; (with_reducible repeat (first | refine zzf ?_ _ | refine zzg ?_ | refine zze ?_ _)); exact BK298.out⟩; have n2_ : Aside0 (Below w.heap.size w ((((((w60.setCell ⟨gb298, 0, none⟩ (.int .i64 ((rd_T79 l0_5 x54_3).f0))).setCell ⟨gb298, 1, none⟩ (.int .i64 ((rd_T79 l0_5 x54_3).f1))).setCell ⟨gb298, 2, none⟩ (.bool ((rd_T79 l0_5 x54_3).f2))).setCell ⟨gb298, 3, none⟩ (.slice A297_3 ((rd_T79 l0_5 x54_3).f3).length c297_3)).setCell ⟨gb298, 4, none⟩ (.bool ((rd_T79 l0_5 x54_3).f4))).setCell ⟨gb298, 5, none⟩ (.slice A297_5 ((rd_T79 l0_5 x54_3).f5).length c297_5))) := ⟨by repeat (first | (with_reducible first | exact HB.out | apply zza | apply zzb | apply zzc | refine zzd ?_ GE292.out | refine zzd ?_ GE298.out) | exact HB.out)⟩; (try clear BK292); (try clear BK298); (try clear HB); generalize ((((((w60.setCell ⟨gb298, 0, none⟩ (.int .i64 ((rd_T79 l0_5 x54_3).f0))).setCell ⟨gb298, 1, none⟩ (.int .i64 ((rd_T79 l0_5 x54_3).f1))).setCell ⟨gb298, 2, none⟩ (.bool ((rd_T79 l0_5 x54_3).f2))).setCell ⟨gb298, 3, none⟩ (.slice A297_3 ((rd_T79 l0_5 x54_3).f3).length c297_3)).setCell ⟨gb298, 4, none⟩ (.bool ((rd_T79 l0_5 x54_3).f4))).setCell ⟨gb298, 5, none⟩ (.slice A297_5 ((rd_T79 l0_5 x54_3).f5).length c297_5)) = w63 at n0_ n1_ n2_ ⊢; have BK292 := n0_; have BK298 := n1_; have HB := n2_; clear n0_ n1_ n2_; have n0_ := zzm (zzg BK292.out); have n1_ := zzm (zzg BK298.out); have n2_ := zzm (zzc HB.out); clear BK292; clear BK298; clear HB; have BK292 := n0_; have BK298 := n1_; have HB := n2_; clear n0_ n1_ n2_; refine start_ (n := 19) (S := fun w' => w'.cell? ⟨gb298, 0, none⟩ = some (.int .i64 ((rd_T79 l0_5 x54_3).f0)) ∧ w'.cell? ⟨gb298, 1, none⟩ = some (.int .i64 ((rd_T79 l0_5 x54_3).f1)) ∧ w'.cell? ⟨gb298, 2, none⟩ = some (.bool ((rd_T79 l0_5 x54_3).f2)) ∧ w'.cell? ⟨gb298, 3, none⟩ = some (.slice A297_3 ((rd_T79 l0_5 x54_3).f3).length c297_3) ∧ w'.cell? ⟨gb298, 4, none⟩ = some (.bool ((rd_T79 l0_5 x54_3).f4)) ∧ w'.cell? ⟨gb298, 5, none⟩ = some (.slice A297_5 ((rd_T79 l0_5 x54_3).f5).length c297_5)) (ds := []) (zzB 19 0) (by kernel_rfl) rfl rfl ⟨(zzk BK298.out 0).trans rfl, (zzk BK298.out 1).trans rfl, (zzk BK298.out 2).trans rfl, (zzk BK298.out 3).trans rfl, (zzk BK298.out 4).trans rfl, (zzk BK298.out 5).trans rfl⟩ (fun hHeld => ?_); refine with_tabW impl_BatchValid.tab11 impl_BatchValid.bits11 (fun HT_ HW_ => ?_); generalize w63.drew = w64 at BK292 BK298 HB hHeld ⊢; refine take_ (i := 0) (N := some 59) (v := ?_) (a' := ?_) (zzB 19 1) rfl rfl (take_ofW HT_.out HW_.out (by kernel_rfl)) (fun _ _ _ h => h) (Or.inl ⟨by rfl, ?_⟩) hHeld ?_ ?_; rotate_left
            ·
             rintro w' ⟨s0, s1, s2, s3, s4, s5⟩; go_simp; with_reducible rfl
            rotate_left
            ·
             simp only [Act.put, zzq, zzr, zzs, i64_w, i32_w]; rfl
            refine one_ (i := 1) (N := some 60) (zzB 19 3) rfl rfl (one_of HT_.out (by kernel_rfl)) (by decide) (fun K hK => ?_); refine goes_ Try.func61 (by kernel_rfl) rfl #[.agg #[.int .i64 ((rd_T79 l0_5 x54_3).f0), .int .i64 ((rd_T79 l0_5 x54_3).f1), .bool ((rd_T79 l0_5 x54_3).f2), .slice A297_3 ((rd_T79 l0_5 x54_3).f3).length c297_3, .bool ((rd_T79 l0_5 x54_3).f4), .slice A297_5 ((rd_T79 l0_5 x54_3).f5).length c297_5]] (by rfl) rfl rfl (by (try simp only [List.map_toArray, List.map_cons, List.map_nil]); first | done | rfl | (simp only [List.length_drop, List.length_take]; rfl)) ?_; with_reducible refine (impl_RecordValid.calls k3 ((rd_T79 l0_5 x54_3).f0) ((rd_T79 l0_5 x54_3).f1) ((rd_T79 l0_5 x54_3).f2) _ _ ((rd_T79 l0_5 x54_3).f3) ((rd_T79 l0_5 x54_3).f4) _ _ ((rd_T79 l0_5 x54_3).f5) false _ ?side1 ?side2 ?side3 ?side4 A35.out).mono ?_; (case side1 => repeat (first | exact (Kd.C_below HR297_3.out HB.out) | (with_reducible refine Kd.C_alloc ?_ _) | (with_reducible refine Kd.C_drewN ?_ _) | (with_reducible refine Kd.C_drew ?_))); (case side2 => exact HC297_3.out); (case side3 => repeat (first | exact (Kd.C_below HR297_5.out HB.out) | (with_reducible refine Kd.C_alloc ?_ _) | (with_reducible refine Kd.C_drewN ?_ _) | (with_reducible refine Kd.C_drew ?_))); (case side4 => exact HC297_5.out); rintro e w65 ⟨rfl, hb⟩; refine ⟨_, rfl, ?_⟩; have n0_ := zzm (zzh (g := gb292) (o := .cells #[.bool a0_0, .bool a0_1, .int .i64 a0_2, .int .i64 a0_3, .int .i64 a0_4, .slice (some ad297) l0_5.length c0_5] 34 (0, 0)) (by (with_reducible repeat (first | refine zzf ?_ _ | refine zzg ?_ | refine zze ?_ _)); exact BK292.out) hb); have n1_ := zzm (zzh (g := gb298) (o := .cells #[.int .i64 ((rd_T79 l0_5 x54_3).f0), .int .i64 ((rd_T79 l0_5 x54_3).f1), .bool ((rd_T79 l0_5 x54_3).f2), .slice A297_3 ((rd_T79 l0_5 x54_3).f3).length c297_3, .bool ((rd_T79 l0_5 x54_3).f4), .slice A297_5 ((rd_T79 l0_5 x54_3).f5).length c297_5] 79 (0, 0)) (by (with_reducible repeat (first | refine zzf ?_ _ | refine zzg ?_ | refine zze ?_ _)); exact BK298.out) hb); have n2_ := zzm (zzp (by repeat (first | (with_reducible first | exact HB.out | apply zza | apply zzb | apply zzc | refine zzd ?_ GE292.out | refine zzd ?_ GE298.out) | exact HB.out)) hb); clear BK292; clear BK298; clear HB; have BK292 := n0_; have BK298 := n1_; have HB := n2_; clear n0_ n1_ n2_; (try clear hb); (try clear hb2); (try clear hk); (try clear hi); refine hK.out _ _ ⟨(zzk BK298.out 0).trans rfl, (zzk BK298.out 1).trans rfl, (zzk BK298.out 2).trans rfl, (zzk BK298.out 3).trans rfl, (zzk BK298.out 4).trans rfl, (zzk BK298.out 5).trans rfl⟩ (fun hHeld => ?_); clear hK K; refine norm_ (a' := ?_) ?_ ?_; rotate_left
            ·
             show Act.put _ (some 60) _ = _; simp only [Act.put, zzq, zzr, zzs, i64_w, i32_w]; rfl
            refine pure_ (i := 2) (N := some 61) (v := ?_) (a' := ?_) (zzB 19 7) rfl rfl (any_of HT_.out (by kernel_rfl)) (fun _ _ _ h => h) (Or.inl ⟨by rfl, ?_⟩) ?_ ?_; rotate_left
            ·
             intro w'; go_simp; with_reducible rfl
            rotate_left
            ·
             simp only [Act.put, zzq, zzr, zzs, i64_w, i32_w]; rfl
            refine pure_ (i := 3) (N := some 62) (v := ?_) (a' := ?_) (zzB 19 15) rfl rfl (any_of HT_.out (by kernel_rfl)) (fun _ _ _ h => h) (Or.inl ⟨by rfl, ?_⟩) ?_ ?_; rotate_left
            ·
             intro w'; go_simp; with_reducible rfl
            rotate_left
            ·
             simp only [Act.put, zzq, zzr, zzs, i64_w, i32_w]; rfl
            refine pure_ (i := 4) (N := some 63) (v := undef) (a' := ?_) (zzB 19 31) rfl rfl (any_of HT_.out (by kernel_rfl)) (fun _ _ _ h => h) (Or.inr ⟨by rfl, rfl⟩) ?_ ?_; rotate_left
            ·
             simp only [Act.put, zzq, zzr, zzs, i64_w, i32_w]; rfl
            refine pure_ (i := 5) (N := some 64) (v := undef) (a' := ?_) (zzB 19 63) rfl rfl (any_of HT_.out (by kernel_rfl)) (fun _ _ _ h => h) (Or.inr ⟨by rfl, rfl⟩) ?_ ?_; rotate_left
            ·
             simp only [Act.put, zzq, zzr, zzs, i64_w, i32_w]; rfl
            refine pure_ (i := 6) (N := some 65) (v := undef) (a' := ?_) (zzB 19 127) rfl rfl (any_of HT_.out (by kernel_rfl)) (fun _ _ _ h => h) (Or.inr ⟨by rfl, rfl⟩) ?_ ?_; rotate_left
            ·
             simp only [Act.put, zzq, zzr, zzs, i64_w, i32_w]; rfl
            refine pure_ (i := 7) (N := some 66) (v := undef) (a' := ?_) (zzB 19 255) rfl rfl (any_of HT_.out (by kernel_rfl)) (fun _ _ _ h => h) (Or.inr ⟨by rfl, rfl⟩) ?_ ?_; rotate_left
            ·
             simp only [Act.put, zzq, zzr, zzs, i64_w, i32_w]; rfl
            refine pure_ (i := 8) (N := some 67) (v := undef) (a' := ?_) (zzB 19 511) rfl rfl (any_of HT_.out (by kernel_rfl)) (fun _ _ _ h => h) (Or.inr ⟨by rfl, rfl⟩) ?_ ?_; rotate_left
            ·
             simp only [Act.put, zzq, zzr, zzs, i64_w, i32_w]; rfl
            refine pure_ (i := 9) (N := some 68) (v := undef) (a' := ?_) (zzB 19 1023) rfl rfl (any_of HT_.out (by kernel_rfl)) (fun _ _ _ h => h) (Or.inr ⟨by rfl, rfl⟩) ?_ ?_; rotate_left
            ·
             simp only [Act.put, zzq, zzr, zzs, i64_w, i32_w]; rfl
            refine pure_ (i := 10) (N := some 69) (v := undef) (a' := ?_) (zzB 19 2047) rfl rfl (any_of HT_.out (by kernel_rfl)) (fun _ _ _ h => h) (Or.inr ⟨by rfl, rfl⟩) ?_ ?_; rotate_left
            ·
             simp only [Act.put, zzq, zzr, zzs, i64_w, i32_w]; rfl
            refine pure_ (i := 11) (N := some 70) (v := undef) (a' := ?_) (zzB 19 4095) rfl rfl (any_of HT_.out (by kernel_rfl)) (fun _ _ _ h => h) (Or.inr ⟨by rfl, rfl⟩) ?_ ?_; rotate_left
            ·
             simp only [Act.put, zzq, zzr, zzs, i64_w, i32_w]; rfl
            refine pure_ (i := 12) (N := some 71) (v := undef) (a' := ?_) (zzB 19 8191) rfl rfl (any_of HT_.out (by kernel_rfl)) (fun _ _ _ h => h) (Or.inr ⟨by rfl, rfl⟩) ?_ ?_; rotate_left
            ·
             simp only [Act.put, zzq, zzr, zzs, i64_w, i32_w]; rfl
            refine pure_ (i := 13) (N := some 72) (v := undef) (a' := ?_) (zzB 19 16383) rfl rfl (any_of HT_.out (by kernel_rfl)) (fun _ _ _ h => h) (Or.inr ⟨by rfl, rfl⟩) ?_ ?_; rotate_left
            ·
             simp only [Act.put, zzq, zzr, zzs, i64_w, i32_w]; rfl
            refine pure_ (i := 14) (N := some 73) (v := undef) (a' := ?_) (zzB 19 32767) rfl rfl (any_of HT_.out (by kernel_rfl)) (fun _ _ _ h => h) (Or.inr ⟨by rfl, rfl⟩) ?_ ?_; rotate_left
            ·
             simp only [Act.put, zzq, zzr, zzs, i64_w, i32_w]; rfl
            refine pure_ (i := 15) (N := some 74) (v := undef) (a' := ?_) (zzB 19 65535) rfl rfl (any_of HT_.out (by kernel_rfl)) (fun _ _ _ h => h) (Or.inr ⟨by rfl, rfl⟩) ?_ ?_; rotate_left
            ·
             simp only [Act.put, zzq, zzr, zzs, i64_w, i32_w]; rfl
            refine pure_ (i := 16) (N := some 75) (v := undef) (a' := ?_) (zzB 19 131071) rfl rfl (any_of HT_.out (by kernel_rfl)) (fun _ _ _ h => h) (Or.inr ⟨by rfl, rfl⟩) ?_ ?_; rotate_left
            ·
             simp only [Act.put, zzq, zzr, zzs, i64_w, i32_w]; rfl
            refine pure_ (i := 17) (N := some 76) (v := undef) (a' := ?_) (zzB 19 262143) rfl rfl (any_of HT_.out (by kernel_rfl)) (fun _ _ _ h => h) (Or.inr ⟨by rfl, rfl⟩) ?_ ?_; rotate_left
            ·
             simp only [Act.put, zzq, zzr, zzs, i64_w, i32_w]; rfl
            refine pure_ (i := 18) (N := some 77) (v := ?_) (a' := ?_) (zzB 19 524287) rfl rfl (any_of HT_.out (by kernel_rfl)) (fun _ _ _ h => h) (Or.inl ⟨by rfl, ?_⟩) ?_ ?_; rotate_left
            ·
             intro w'; go_simp; with_reducible rfl
            rotate_left
            ·
             simp only [Act.put, zzq, zzr, zzs, i64_w, i32_w]; rfl
            refine done_ (done_of HT_.out (by kernel_rfl)) ?_; try go_wp2
            go_ret; exact ⟨by first | rfl | (simp [errW_none, errW_some] <;> rfl) | (simp [*, errW_none, errW_some] <;> rfl), by repeat (first | (with_reducible first | exact HB.out | apply zza | apply zzb | apply zzc | refine zzd ?_ GE292.out | refine zzd ?_ GE298.out) | exact HB.out)⟩
          ·
           rw [if_neg c34] at H; exact absurd H (by simp)
         ·
          rw [if_neg c33] at H; exact absurd H (by simp)
        ·
         rw [if_neg c32] at H; have c32b0 : decide (x54_3 < (l0_5.length : Int)) = false := decide_eq_false c32; clear c32; obtain rfl := Option.some.inj H; go_wp2; go_ret; exact ⟨by first | rfl | (simp [errW_none, errW_some] <;> rfl) | (simp [*, errW_none, errW_some] <;> rfl), by repeat (first | (with_reducible first | exact HB.out | apply zza | apply zzb | apply zzc | refine zzd ?_ GE292.out) | exact HB.out)⟩
end Go.Proofs.Ytkhmopmfbocokaa.T
namespace Go.Proofs.Ytkhmopmfbocokaa.T
open Go.RowKit Go.Proofs.YtkhmopmfbocokaaW.PrintWords Go.Proofs.YtkhmopmfbocokaaW.PrintLast Go.Proofs.YtkhmopmfbocokaaW.PrintMore

set_option linter.unusedVariables false
set_option linter.unusedSimpArgs false
structure SlotV where
 u : Bool
 a : Int
 b : Int
 c : Int
def slot0 : SlotV := ⟨false, 0, 0, 0⟩
def HasSlots (w : World) (g : Nat) (f : Nat → SlotV) : Prop := ∃ cells : Array Value, w.heap[g]? = some (.cells cells 94 (0, 0)) ∧ cells.size = 1020 ∧
 ∀ i, i < 255 → cells[i * 4]? = some (.bool (f i).u) ∧ cells[i * 4 + 1]? = some (.int .i64 (f i).a) ∧ cells[i * 4 + 2]? = some (.int .i64 (f i).b) ∧ cells[i * 4 + 3]? = some (.int .i64 (f i).c)
theorem HasSlots.lt {w : World} {g : Nat} {f : Nat → SlotV} (h : HasSlots w g f) : g < w.heap.size := by
 obtain ⟨cells, h1, _⟩ := h; exact blk_lt h1
theorem HasSlots.below {w w1 : World} {g : Nat} {f : Nat → SlotV} (h : HasSlots w g f) (hb : Below w.heap.size w w1) : HasSlots w1 g f := by
 obtain ⟨cells, h1, h2⟩ := h; exact ⟨cells, zzh h1 hb, h2⟩
theorem HasSlots.at_ {w : World} {g : Nat} {f : Nat → SlotV} (h : HasSlots w g f) (i : Nat) (hi : i < 255) :
  w.cell? ⟨g, i * 4, none⟩ = some (.bool (f i).u) ∧ w.cell? ⟨g, i * 4 + 1, none⟩ = some (.int .i64 (f i).a) ∧ w.cell? ⟨g, i * 4 + 2, none⟩ = some (.int .i64 (f i).b) ∧ w.cell? ⟨g, i * 4 + 3, none⟩ = some (.int .i64 (f i).c) := by
 obtain ⟨cells, h1, _, h3⟩ := h; obtain ⟨k0, k1, k2, k3⟩ := h3 i hi; exact ⟨(zzk h1 _).trans k0, (zzk h1 _).trans k1, (zzk h1 _).trans k2, (zzk h1 _).trans k3⟩
theorem HasSlots.free {w : World} {g : Nat} {f : Nat → SlotV} (h : HasSlots w g f) (j : Nat) : w.frozen? ⟨g, j, none⟩ = false := by
 obtain ⟨cells, h1, _⟩ := h; exact zzl h1 j
theorem HasSlots.put {w : World} {g : Nat} {f : Nat → SlotV} (h : HasSlots w g f) (i : Nat) (hi : i < 255) (u : Bool) (a b c : Int) :
  HasSlots ((((w.setCell ⟨g, i * 4, none⟩ (.bool u)).setCell ⟨g, i * 4 + 1, none⟩ (.int .i64 a)).setCell ⟨g, i * 4 + 2, none⟩ (.int .i64 b)).setCell ⟨g, i * 4 + 3, none⟩ (.int .i64 c)) g (fun k => if k = i then ⟨u, a, b, c⟩ else f k) := by
 obtain ⟨cells, h1, h2, h3⟩ := h; refine ⟨(((cells.setIfInBounds (i * 4) (.bool u)).setIfInBounds (i * 4 + 1) (.int .i64 a)).setIfInBounds (i * 4 + 2) (.int .i64 b)).setIfInBounds (i * 4 + 3) (.int .i64 c), blk_set (blk_set (blk_set (blk_set h1 _ _) _ _) _ _) _ _, by simp [h2], ?_⟩; intro j hj; by_cases hji : j = i
 ·
  subst hji; simp only [if_true]; refine ⟨?_, ?_, ?_, ?_⟩
  ·
   rw [Array.getElem?_setIfInBounds_ne (by omega), Array.getElem?_setIfInBounds_ne (by omega), Array.getElem?_setIfInBounds_ne (by omega), Array.getElem?_setIfInBounds_self_of_lt (by omega)]
  ·
   rw [Array.getElem?_setIfInBounds_ne (by omega), Array.getElem?_setIfInBounds_ne (by omega), Array.getElem?_setIfInBounds_self_of_lt (by simp; omega)]
  ·
   rw [Array.getElem?_setIfInBounds_ne (by omega), Array.getElem?_setIfInBounds_self_of_lt (by simp; omega)]
  ·
   rw [Array.getElem?_setIfInBounds_self_of_lt (by simp; omega)]
 ·
  simp only [if_neg hji]; obtain ⟨k0, k1, k2, k3⟩ := h3 j hj; refine ⟨?_, ?_, ?_, ?_⟩
  ·
   rw [Array.getElem?_setIfInBounds_ne (by omega), Array.getElem?_setIfInBounds_ne (by omega), Array.getElem?_setIfInBounds_ne (by omega), Array.getElem?_setIfInBounds_ne (by omega)]; exact k0
  ·
   rw [Array.getElem?_setIfInBounds_ne (by omega), Array.getElem?_setIfInBounds_ne (by omega), Array.getElem?_setIfInBounds_ne (by omega), Array.getElem?_setIfInBounds_ne (by omega)]; exact k1
  ·
   rw [Array.getElem?_setIfInBounds_ne (by omega), Array.getElem?_setIfInBounds_ne (by omega), Array.getElem?_setIfInBounds_ne (by omega), Array.getElem?_setIfInBounds_ne (by omega)]; exact k2
  ·
   rw [Array.getElem?_setIfInBounds_ne (by omega), Array.getElem?_setIfInBounds_ne (by omega), Array.getElem?_setIfInBounds_ne (by omega), Array.getElem?_setIfInBounds_ne (by omega)]; exact k3
def zeroSlots : Array Value := (List.flatten (List.replicate 255 [Value.bool false, .int .i64 0, .int .i64 0, .int .i64 0])).toArray
theorem flat_at {x0 x1 x2 x3 : Value} : ∀ (n i : Nat), i < n → (List.flatten (List.replicate n [x0, x1, x2, x3]))[i * 4]? = some x0 ∧ (List.flatten (List.replicate n [x0, x1, x2, x3]))[i * 4 + 1]? = some x1 ∧ (List.flatten (List.replicate n [x0, x1, x2, x3]))[i * 4 + 2]? = some x2 ∧ (List.flatten (List.replicate n [x0, x1, x2, x3]))[i * 4 + 3]? = some x3
 | 0, i, h => by omega
 | n + 1, 0, h => by
  rw [List.replicate_succ, List.flatten_cons]
  exact ⟨rfl, rfl, rfl, rfl⟩
 | n + 1, i + 1, h => by
  obtain ⟨k0, k1, k2, k3⟩ := flat_at (x0 := x0) (x1 := x1) (x2 := x2) (x3 := x3) n i (by omega)
  rw [List.replicate_succ, List.flatten_cons]
  refine ⟨?_, ?_, ?_, ?_⟩
  ·
   rw [List.getElem?_append_right (by simp; omega), show (i + 1) * 4 - [x0, x1, x2, x3].length = i * 4 by simp; omega]; exact k0
  ·
   rw [List.getElem?_append_right (by simp; omega), show (i + 1) * 4 + 1 - [x0, x1, x2, x3].length = i * 4 + 1 by simp; omega]; exact k1
  ·
   rw [List.getElem?_append_right (by simp; omega), show (i + 1) * 4 + 2 - [x0, x1, x2, x3].length = i * 4 + 2 by simp; omega]; exact k2
  ·
   rw [List.getElem?_append_right (by simp; omega), show (i + 1) * 4 + 3 - [x0, x1, x2, x3].length = i * 4 + 3 by simp; omega]; exact k3
theorem flat_len {x0 x1 x2 x3 : Value} : ∀ n : Nat, (List.flatten (List.replicate n [x0, x1, x2, x3])).length = n * 4
 | 0 => rfl
 | n + 1 => by rw [List.replicate_succ, List.flatten_cons, List.length_append, flat_len n]; simp; omega
theorem HasSlots.zero {w : World} {g : Nat} (h : w.heap[g]? = some (.cells zeroSlots 94 (0, 0))) : HasSlots w g (fun _ => slot0) := by
 refine ⟨zeroSlots, h, by unfold zeroSlots; rw [List.size_toArray, flat_len], fun i hi => ?_⟩; obtain ⟨k0, k1, k2, k3⟩ := flat_at (x0 := Value.bool false) (x1 := .int .i64 0) (x2 := .int .i64 0) (x3 := .int .i64 0) 255 i hi; unfold zeroSlots; simp only [List.getElem?_toArray]; exact ⟨k0, k1, k2, k3⟩
def slotPut (f : Nat → SlotV) (p : S39) : Nat → SlotV := fun k => if k = p.f0.toNat then ⟨true, p.f0, p.f1, p.f2⟩ else f k
def slotFn (l : List S39) : Nat → SlotV := l.foldl slotPut (fun _ => slot0)
theorem slotFn_snoc (l : List S39) (p : S39) : slotFn (l ++ [p]) = slotPut (slotFn l) p := by simp [slotFn]
theorem slotFn_take (l : List S39) (k : Nat) (h : k < l.length) : slotFn (l.take (k + 1)) = slotPut (slotFn (l.take k)) (rd_T39 l (k : Int)) := by
 rw [List.take_succ_eq_append_getElem h, slotFn_snoc]; congr 1; simp [rd_T39, List.getD_eq_getElem?_getD, List.getElem?_eq_getElem h]
theorem infoAT : (Try.prog.info? 94).map (fun i => (i.zero, i.size, i.bytes)) = some (some (.agg zeroSlots), 1020, 8160) := by kernel_rfl
theorem alloc_slots {o : Oper} (ρ : Operand → Value) (ho : o.op = .alloc 94) (W : World) : (execOp ρ o).run Try.prog W = .ok (.value (.pointer (some ⟨W.heap.size, 0, none⟩))) (W.alloc (.cells zeroSlots 94 (0, 0))) := by
 obtain ⟨i0, hi, hz0, hz1, hz2⟩ := info_parts infoAT; have hz : (zeroValue 94).run Try.prog W = .ok (.agg zeroSlots) W := by simp [zeroValue, typeInfo, hi, hz0, go_sem]
 obtain ⟨op, dst, guard, pos, x1, x2⟩ := o; subst ho; simp [execOp, Instr.alloc, hz, newVar, newRow, go_sem]
theorem HasSlots.far {w : World} {g : Nat} {f : Nat → SlotV} (h : HasSlots w g f) {p : Addr} (hp : g ≠ p.block) (v : Value) : HasSlots (w.setCell p v) g f := by
 obtain ⟨cells, h1, h2⟩ := h; exact ⟨cells, zzj h1 hp v, h2⟩
theorem HasSlots.drew {w : World} {g : Nat} {f : Nat → SlotV} (h : HasSlots w g f) : HasSlots w.drew g f := h
set_option maxHeartbeats 8000000 in
set_option maxRecDepth 100000 in
theorem impl_slotsOf.calls (A0 : Option Addr) (c0 : Nat) (l0 : List S39) (w : World) (hr0 : Kd.C k39 w A0 l0.length l0) (hid : ∀ j : Nat, j < l0.length → 0 ≤ (rd_T39 l0 (j : Int)).f0 ∧ (rd_T39 l0 (j : Int)).f0 < 255) :
  Calls Try.prog 57 #[.slice A0 l0.length c0] w fun e w' => ∃ g : Nat, e = .returned (.pointer (some ⟨g, 0, none⟩)) ∧ w.heap.size ≤ g ∧ HasSlots w' g (slotFn l0) ∧ Below w.heap.size w w' := by
 have hmax : l0.length ≤ 9223372036854775807 := hr0.2.1; have HR := zzm hr0; have HI := zzm hid; clear hr0 hid; go_enter Try.func57, Try.ntmps57; go_wp2_with ((with_reducible refine gate_dst (N := 6) rfl ?_); refine box_event ?hg (N := 6) ?hd (cs := zeroSlots) (t := 94) ?hr ?_; (case hd => rfl); (case hg => rfl); (case hr => exact alloc_slots _ rfl _); intro g hg w1 hbox hb; have HS0 := zzm (HasSlots.zero hbox); have HB0 := zzm hb; have HG := zzm (show w.heap.size ≤ g from Nat.le_of_eq hg.symm); clear hb hbox hg); go_loopw [9, 5] (fun i i5 W => ∃ k : Nat, k ≤ l0.length ∧ i = .int .i64 k ∧ Aside0 (HasSlots W g (slotFn (l0.take k))) ∧ Aside0 (Below w.heap.size w W)) (fun i _ _ => l0.length - (intOf i).toNat)
 case atStart => exact ⟨0, Nat.zero_le _, rfl, HS0, HB0⟩
 case round =>
  obtain ⟨k, hk, rfl, HS, HB⟩ := hrel; by_cases hlt : k < l0.length
  ·
   obtain ⟨ad, he, hx0, hx1, hx2⟩ := at_T39 HR.out (k : Int) (by omega) (by omega); subst he; replace hx0 := (HB.out.cell (zzn w _ hx0)).trans hx0; replace hx1 := (HB.out.cell (zzn w _ hx1)).trans hx1; replace hx2 := (HB.out.cell (zzn w _ hx2)).trans hx2; simp only [Int.toNat_natCast] at hx0 hx1 hx2; have HN := zzm (slotFn_take l0 k hlt); obtain ⟨hi0, hi1⟩ := HI.out k hlt; obtain ⟨p, hp⟩ : ∃ p, p = rd_T39 l0 (k : Int) := ⟨_, rfl⟩; simp only [← hp] at hx0 hx1 hx2 hi0 hi1; rw [← hp] at HN; clear hp; obtain ⟨m, hm⟩ : ∃ m : Nat, p.f0 = (m : Int) := ⟨p.f0.toNat, by omega⟩; have hm2 : m < 255 := by omega
   go_wp2_with ((with_reducible refine gate_dst (N := 5) rfl ?_); refine box_event ?hg (N := 5) ?hd (cs := #[.int .i64 0, .int .i64 0, .int .i64 0]) (t := 39) ?hr ?_; (case hd => rfl); (case hg => rfl); (case hr => first | (go_simp; done) | (go_simp; rfl)); intro gb hg w13 hbox hb; have HS13 := zzm (HS.out.below hb); have HB13 := zzm (zzp HB.out hb); have BK := zzm hbox; have GE := zzm (show w.heap.size ≤ gb by rw [hg]; exact HB.out.size); have NE := zzm (show g ≠ gb by have := HS.out.lt; omega); clear hb hbox hg; have hcz0 : w13.cell? ⟨gb, 0, none⟩ = some (.int .i64 0) := (zzk BK.out 0).trans rfl; have hcz1 : w13.cell? ⟨gb, 1, none⟩ = some (.int .i64 0) := (zzk BK.out 1).trans rfl; have hcz2 : w13.cell? ⟨gb, 2, none⟩ = some (.int .i64 0) := (zzk BK.out 2).trans rfl; have hf0 := zzl BK.out 0; have hf1 := zzl BK.out 1; have hf2 := zzl BK.out 2); have BK2 := zzm (blk_set (blk_set (blk_set BK.out 0 (.int .i64 (m : Int))) 1 (.int .i64 p.f1)) 2 (.int .i64 p.f2)); have HS2 := zzm (((HS13.out.far (p := ⟨gb, 0, none⟩) NE.out (.int .i64 (m : Int))).far (p := ⟨gb, 1, none⟩) NE.out (.int .i64 p.f1)).far (p := ⟨gb, 2, none⟩) NE.out (.int .i64 p.f2)); have HB2 := zzm (zzd (zzd (zzd HB13.out GE.out (j := 0) (v := .int .i64 (m : Int))) GE.out (j := 1) (v := .int .i64 p.f1)) GE.out (j := 2) (v := .int .i64 p.f2)); clear hcz0 hcz1 hcz2 hf0 hf1 hf2 BK HS13 HB13 hx0 hx1 hx2; generalize ((w13.setCell ⟨gb, 0, none⟩ (.int .i64 (m : Int))).setCell ⟨gb, 1, none⟩ (.int .i64 p.f1)).setCell ⟨gb, 2, none⟩ (.int .i64 p.f2) = w14 at BK2 HS2 HB2 ⊢; have hc0 : w14.cell? ⟨gb, 0, none⟩ = some (.int .i64 (m : Int)) := (zzk BK2.out 0).trans rfl; have hc1 : w14.cell? ⟨gb, 1, none⟩ = some (.int .i64 p.f1) := (zzk BK2.out 1).trans rfl; have hc2 : w14.cell? ⟨gb, 2, none⟩ = some (.int .i64 p.f2) := (zzk BK2.out 2).trans rfl; have fz : ∀ j, w14.frozen? ⟨g, j, none⟩ = false := HS2.out.free; have fz0 := fz (m * 4); have fz1 := fz (m * 4 + 1); have fz2 := fz (m * 4 + 2); have fz3 := fz (m * 4 + 3); clear fz; obtain ⟨vz0, hz0⟩ : ∃ v, w14.cell? ⟨g, m * 4, none⟩ = some v := ⟨_, (HS2.out.at_ m hm2).1⟩; obtain ⟨vz1, hz1⟩ : ∃ v, w14.cell? ⟨g, m * 4 + 1, none⟩ = some v := ⟨_, (HS2.out.at_ m hm2).2.1⟩; obtain ⟨vz2, hz2⟩ : ∃ v, w14.cell? ⟨g, m * 4 + 2, none⟩ = some v := ⟨_, (HS2.out.at_ m hm2).2.2.1⟩; obtain ⟨vz3, hz3⟩ : ∃ v, w14.cell? ⟨g, m * 4 + 3, none⟩ = some v := ⟨_, (HS2.out.at_ m hm2).2.2.2⟩; have hmi : (m : Int) < 255 := by omega
   have hmi0 : 0 ≤ (m : Int) := by omega
   go_region; have HSF := HasSlots.drew (HS2.out.put m hm2 true (m : Int) p.f1 p.f2); have HBF := zzc (zzd (zzd (zzd (zzd HB2.out HG.out (j := m * 4) (v := .bool true)) HG.out (j := m * 4 + 1) (v := .int .i64 (m : Int))) HG.out (j := m * 4 + 2) (v := .int .i64 p.f1)) HG.out (j := m * 4 + 3) (v := .int .i64 p.f2)); have heq : slotFn (l0.take (k + 1)) = fun k' => if k' = m then ⟨true, (m : Int), p.f1, p.f2⟩ else slotFn (l0.take k) k' := by
    rw [HN.out]; unfold slotPut; rw [hm, Int.toNat_natCast]
   rw [← heq] at HSF; have HSF' := zzm HSF; have HBF' := zzm HBF; clear HSF HBF heq hz0 hz1 hz2 hz3 fz0 fz1 fz2 fz3 hc0 hc1 hc2 hm; go_wp2; go_roundw
   case rel => exact ⟨k + 1, by omega, by go_num, HSF', HBF'⟩
   case measure => simp [intOf]; omega
  ·
   have hk2 : k = l0.length := by omega
   subst hk2; rw [List.take_length] at HS; go_wp2; go_ret; exact ⟨g, rfl, HG.out, HS.out, HB.out⟩
def seqCode (s n : Int) : Int := if s < n then 1 else if s > n then 2 else 0
def codeAt (f : Nat → SlotV) (p e s : Int) : Int :=
 if p = 255 then 4 else if (f p.toNat).u = true then (if (f p.toNat).b > e then 3 else if (f p.toNat).b = e then seqCode s (f p.toNat).c else seqCode s 0) else seqCode s 0
set_option maxHeartbeats 8000000 in
set_option maxRecDepth 100000 in
theorem impl_slots_check.calls (g : Nat) (f : Nat → SlotV) (b0 b1 : Bool) (b2 b3 b4 : Int) (v5 : Value) (hv5 : v5.oneCell' = true) (w : World) (hs : HasSlots w g f) (hb0 : 0 ≤ b2) (hb1 : b2 ≤ 255) :
  Calls Try.prog 58 #[.pointer (some ⟨g, 0, none⟩), .agg #[.bool b0, .bool b1, .int .i64 b2, .int .i64 b3, .int .i64 b4, v5]] w fun e w' => e = .returned (.int .i64 (codeAt f b2 b3 b4)) ∧ Below w.heap.size w w' := by
 have HS := zzm hs; have HB := zzm (Below.refl w.heap.size w); obtain ⟨m, rfl⟩ : ∃ m : Nat, b2 = (m : Int) := ⟨b2.toNat, by omega⟩; clear hs hb0; by_cases h255 : m = 255
 ·
  subst h255; have hcode : codeAt f ((255 : Nat) : Int) b3 b4 = 4 := rfl; have HC := zzm hcode; clear hcode; go_enter Try.func58, Try.ntmps58; go_wp2_with ((with_reducible refine gate_dst (N := 3) rfl ?_); refine box_event ?hg (N := 3) ?hd (cs := #[.bool b0, .bool b1, .int .i64 ((255 : Nat) : Int), .int .i64 b3, .int .i64 b4, v5]) (t := 34) ?hr ?_; (case hd => rfl); (case hg => rfl); (case hr => first | (go_simp; done) | (go_simp; rfl)); intro gb hg w8 hbox hb; have HB1 := zzm (zzp HB.out hb); have hcz2 : w8.cell? ⟨gb, 2, none⟩ = some (.int .i64 255) := (zzk hbox 2).trans rfl; have hf2 := zzl hbox 2; clear hb hbox hg); go_ret; exact ⟨by rw [HC.out]; rfl, HB1.out⟩
 ·
  have hm2 : m < 255 := by omega
  have hne : ((m : Int) == 255) = false := by simp; omega
  go_enter Try.func58, Try.ntmps58; go_wp2_with ((with_reducible refine gate_dst (N := 3) rfl ?_); refine box_event ?hg (N := 3) ?hd (cs := #[.bool b0, .bool b1, .int .i64 (m : Int), .int .i64 b3, .int .i64 b4, v5]) (t := 34) ?hr ?_; (case hd => rfl); (case hg => rfl); (case hr => first | (go_simp; done) | (go_simp; rfl)); intro gb hg w8 hbox hb; have HB1 := zzm (zzp HB.out hb); have HS1 := zzm (HS.out.below hb); have BK := zzm hbox; have hcz2 : w8.cell? ⟨gb, 2, none⟩ = some (.int .i64 (m : Int)) := (zzk hbox 2).trans rfl; have hf2 := zzl hbox 2; clear hb hbox hg); obtain ⟨hc0, hc1, hc2, hc3⟩ := HS1.out.at_ m hm2; have hg8 := HS1.out.lt; have hgb := blk_lt BK.out; have hmi : (m : Int) < 255 := by omega
  have hmi0 : 0 ≤ (m : Int) := by omega
  go_region; have HB9 := zzm (zzc (zza HB1.out (.cells #[.bool (f m).u, .int .i64 (f m).a, .int .i64 (f m).b, .int .i64 (f m).c] 82))); have BK9 := zzm (zzg (blk_new w8 (.cells #[.bool (f m).u, .int .i64 (f m).a, .int .i64 (f m).b, .int .i64 (f m).c] 82))); have BG9 := zzm (zzg (zzh BK.out (zza (Below.refl _ _) (.cells #[.bool (f m).u, .int .i64 (f m).a, .int .i64 (f m).b, .int .i64 (f m).c] 82)))); clear hc0 hc1 hc2 hc3 hcz2 hf2 hg8 hgb HB1 HS1 BK; generalize (w8.alloc (.cells #[.bool (f m).u, .int .i64 (f m).a, .int .i64 (f m).b, .int .i64 (f m).c] 82)).drew = w9 at HB9 BK9 BG9 ⊢; generalize w8.heap.size = gs at BK9 ⊢; have HC : ∀ r, codeAt f (m : Int) b3 b4 = r → Aside0 (codeAt f (m : Int) b3 b4 = r) := fun r h => ⟨h⟩; have HF : codeAt f (m : Int) b3 b4 = if (f m).u = true then (if (f m).b > b3 then 3 else if (f m).b = b3 then seqCode b4 (f m).c else seqCode b4 0) else seqCode b4 0 := by
   unfold codeAt; rw [if_neg (by omega), Int.toNat_natCast]
  clear HC; obtain ⟨r, hr0⟩ : ∃ r, r = codeAt f (m : Int) b3 b4 := ⟨_, rfl⟩; rw [← hr0] at HF; have HR0 := zzm hr0; clear hr0; obtain ⟨x, hx⟩ : ∃ x, x = f m := ⟨_, rfl⟩; rw [← hx] at BK9 HF; try rw [← hx]
  clear hx; obtain ⟨u, a, b, c⟩ := x; have HF' := zzm HF; clear HF; have d0 : w9.cell? ⟨gs, 0, none⟩ = some (.bool u) := (zzk BK9.out 0).trans rfl; have d2 : w9.cell? ⟨gs, 2, none⟩ = some (.int .i64 b) := (zzk BK9.out 2).trans rfl; have d3 : w9.cell? ⟨gs, 3, none⟩ = some (.int .i64 c) := (zzk BK9.out 3).trans rfl; have e3 : w9.cell? ⟨gb, 3, none⟩ = some (.int .i64 b3) := (zzk BG9.out 3).trans rfl; have e4 : w9.cell? ⟨gb, 4, none⟩ = some (.int .i64 b4) := (zzk BG9.out 4).trans rfl; have fin : ∀ n : Int, seqCode b4 n = if b4 < n then 1 else if b4 > n then 2 else 0 := fun n => rfl; cases u with
  | false =>
   have hr : r = if b4 < 0 then 1 else if b4 > 0 then 2 else 0 := by have := HF'.out; simpa [seqCode] using this
   have HR := zzm hr; clear hr HF' fin; rcases Int.lt_trichotomy b4 0 with h | h | h
   ·
    have HE := zzm (show r = 1 by have := HR.out; rw [if_pos h] at this; exact this); go_wp2; go_ret; exact ⟨by rw [← HR0.out, HE.out]; rfl, HB9.out⟩
   ·
    subst h; have HE := zzm (show r = 0 by have := HR.out; simpa using this); go_wp2; go_ret; exact ⟨by rw [← HR0.out, HE.out]; rfl, HB9.out⟩
   ·
    have HE := zzm (show r = 2 by have := HR.out; rw [if_neg (by omega), if_pos h] at this; exact this); have h1 : decide (b4 < 0) = false := by simp; omega
    have h2 : decide (0 < b4) = true := by simp; omega
    go_wp2; go_ret; exact ⟨by rw [← HR0.out, HE.out]; rfl, HB9.out⟩
  | true =>
   by_cases hgt : b3 < b
   ·
    have HE := zzm (show r = 3 by have := HF'.out; simpa [hgt] using this); clear HF' fin; go_wp2; go_ret; exact ⟨by rw [← HR0.out, HE.out]; rfl, HB9.out⟩
   ·
    have hgt' : decide (b3 < b) = false := by simp; omega
    by_cases heq : b = b3
    ·
     subst heq; have hr : r = if b4 < c then 1 else if b4 > c then 2 else 0 := by have := HF'.out; simpa [seqCode] using this
     have HR := zzm hr; clear hr HF' fin hgt hgt'; rcases Int.lt_trichotomy b4 c with h | h | h
     ·
      have HE := zzm (show r = 1 by have := HR.out; rw [if_pos h] at this; exact this); go_wp2; go_ret; exact ⟨by rw [← HR0.out, HE.out]; rfl, HB9.out⟩
     ·
      subst h; have HE := zzm (show r = 0 by have := HR.out; simpa using this); go_wp2; go_ret; exact ⟨by rw [← HR0.out, HE.out]; rfl, HB9.out⟩
     ·
      have HE := zzm (show r = 2 by have := HR.out; rw [if_neg (by omega), if_pos h] at this; exact this); have h1 : decide (b4 < c) = false := by simp; omega
      have h2 : decide (c < b4) = true := by simp; omega
      go_wp2; go_ret; exact ⟨by rw [← HR0.out, HE.out]; rfl, HB9.out⟩
    ·
     have heq' : (b == b3) = false := by simpa using heq
     have hr : r = if b4 < 0 then 1 else if b4 > 0 then 2 else 0 := by have := HF'.out; simpa [seqCode, hgt, heq] using this
     have HR := zzm hr; clear hr HF' fin heq; rcases Int.lt_trichotomy b4 0 with h | h | h
     ·
      have HE := zzm (show r = 1 by have := HR.out; rw [if_pos h] at this; exact this); go_wp2; go_ret; exact ⟨by rw [← HR0.out, HE.out]; rfl, HB9.out⟩
     ·
      subst h; have HE := zzm (show r = 0 by have := HR.out; simpa using this); go_wp2; go_ret; exact ⟨by rw [← HR0.out, HE.out]; rfl, HB9.out⟩
     ·
      have HE := zzm (show r = 2 by have := HR.out; rw [if_neg (by omega), if_pos h] at this; exact this); have h1 : decide (b4 < 0) = false := by simp; omega
      have h2 : decide (0 < b4) = true := by simp; omega
      go_wp2; go_ret; exact ⟨by rw [← HR0.out, HE.out]; rfl, HB9.out⟩
def idsOk (l : List S39) : Bool := l.all fun t => decide (0 ≤ t.f0 ∧ t.f0 < 255)
theorem idsOk_at {l : List S39} (h : idsOk l = true) (j : Nat) (hj : j < l.length) : 0 ≤ (rd_T39 l (j : Int)).f0 ∧ (rd_T39 l (j : Int)).f0 < 255 := by
 have h1 := List.all_eq_true.mp h _ (List.getElem_mem hj); have h2 : rd_T39 l (j : Int) = l[j] := by simp [rd_T39, List.getD_eq_getElem?_getD, List.getElem?_eq_getElem hj]
 rw [h2]; simpa using h1
def prodOk (l : List S39) (p : Int) : Bool := idsOk l && decide (0 ≤ p ∧ p ≤ 255)
theorem prodOk_at {l : List S39} {p : Int} (h : prodOk l p = true) : idsOk l = true ∧ 0 ≤ p ∧ p ≤ 255 := by
 simpa [prodOk] using h
def impl_ProducersCheck.f (k : Nat) (l0 : List S39) (a1_0 : Bool) (a1_1 : Bool) (a1_2 : Int) (a1_3 : Int) (a1_4 : Int) (l1_5 : List S79) : Option Int := (impl_ProducersValid.f k l0).bind fun t1 => (if t1 = true then ((impl_BatchValid.f k a1_0 a1_1 a1_2 a1_3 a1_4 l1_5).bind fun t2 => (if t2 = true then (if prodOk l0 a1_2 = true then some (codeAt (slotFn l0) a1_2 a1_3 a1_4) else none) else some 5)) else some 5)
set_option maxHeartbeats 8000000 in
set_option maxRecDepth 100000 in
theorem impl_ProducersCheck.calls (k : Nat) (A0 : Option Addr) (c0 : Nat) (l0 : List (S39)) (a1_0 : Bool) (a1_1 : Bool) (a1_2 : Int) (a1_3 : Int) (a1_4 : Int) (A1_5 : Option Addr) (c1_5 : Nat) (l1_5 : List (S79)) (r : Int) (w : World) (hr0 : Kd.C k39 w A0 l0.length l0) (hc0 : l0.length ≤ c0) (hr1_5 : Kd.C k79 w A1_5 l1_5.length l1_5) (hc1_5 : l1_5.length ≤ c1_5) (h : impl_ProducersCheck.f k l0 a1_0 a1_1 a1_2 a1_3 a1_4 l1_5 = some r) :
  Calls Try.prog 25 #[.slice A0 l0.length c0, .agg #[.bool a1_0, .bool a1_1, .int .i64 a1_2, .int .i64 a1_3, .int .i64 a1_4, .slice A1_5 l1_5.length c1_5]] w fun e w' => e = .returned (.int .i64 r) ∧ Below w.heap.size w w' := by
 have HR0 := zzm hr0; have HC0 := zzm hc0; clear hr0 hc0; have HR1_5 := zzm hr1_5; have HC1_5 := zzm hc1_5; clear hr1_5 hc1_5; have HB := zzm (Below.refl w.heap.size w); unfold impl_ProducersCheck.f at h; replace h := Option.bind_eq_some_iff.mp h; obtain ⟨t1, A30, h⟩ := h; have A3 := zzm A30; clear A30; cases t1 with
 | false =>
  have hr : r = 5 := by simpa using h.symm
  have HE := zzm hr; clear hr h; go_enter Try.func25, Try.ntmps25; go_wp2_with (first | ((with_reducible refine gate_dst (N := 3) rfl ?_); refine box_event ?hg (N := 3) ?hd (cs := #[.bool a1_0, .bool a1_1, .int .i64 a1_2, .int .i64 a1_3, .int .i64 a1_4, .slice A1_5 l1_5.length c1_5]) (t := 34) ?hr ?_; (case hd => rfl); (case hg => rfl); (case hr => first | (go_simp; done) | (go_simp; rfl)); intro gb hg w8 hbox hb; have HB1 := zzm (zzp HB.out hb); clear hb hbox hg) | ((with_reducible refine gate_callee (f := 19) rfl ?_); refine goesL_ (some 6) rfl rfl Try.func19 (by kernel_rfl) rfl #[.slice A0 l0.length c0] rfl (by (try simp only [List.map_toArray, List.map_cons, List.map_nil]); first | done | rfl | (simp only [List.length_drop, List.length_take]; rfl)) ?_; (with_reducible refine (impl_ProducersValid.calls k _ _ l0 false _ ?side1 ?side2 A3.out).mono ?_); (case side1 => exact Kd.C_below HR0.out HB1.out); (case side2 => exact HC0.out); rintro e w9 ⟨rfl, hb⟩; refine ⟨_, rfl, ?_⟩; have HB2 := zzm (zzp HB1.out hb); clear hb)); go_ret; exact ⟨by rw [HE.out]; rfl, HB2.out⟩
 | true =>
  rw [if_pos rfl] at h; replace h := Option.bind_eq_some_iff.mp h; obtain ⟨t2, A50, h⟩ := h; have A5 := zzm A50; clear A50; cases t2 with
  | false =>
   have hr : r = 5 := by simpa using h.symm
   have HE := zzm hr; clear hr h; go_enter Try.func25, Try.ntmps25; go_wp2_with (first | ((with_reducible refine gate_dst (N := 3) rfl ?_); refine box_event ?hg (N := 3) ?hd (cs := #[.bool a1_0, .bool a1_1, .int .i64 a1_2, .int .i64 a1_3, .int .i64 a1_4, .slice A1_5 l1_5.length c1_5]) (t := 34) ?hr ?_; (case hd => rfl); (case hg => rfl); (case hr => first | (go_simp; done) | (go_simp; rfl)); intro gb hg w8 hbox hb; have HB1 := zzm (zzp HB.out hb); have BK := zzm hbox; clear hb hbox hg) | ((with_reducible refine gate_callee (f := 19) rfl ?_); refine goesL_ (some 6) rfl rfl Try.func19 (by kernel_rfl) rfl #[.slice A0 l0.length c0] rfl (by (try simp only [List.map_toArray, List.map_cons, List.map_nil]); first | done | rfl | (simp only [List.length_drop, List.length_take]; rfl)) ?_; (with_reducible refine (impl_ProducersValid.calls k _ _ l0 true _ ?side1 ?side2 A3.out).mono ?_); (case side1 => exact Kd.C_below HR0.out HB1.out); (case side2 => exact HC0.out); rintro e w9 ⟨rfl, hb⟩; refine ⟨_, rfl, ?_⟩; have HB2 := zzm (zzp HB1.out hb); have BK2 := zzm (zzh BK.out hb); clear hb; have z0 := (zzk BK2.out 0).trans rfl; have z1 := (zzk BK2.out 1).trans rfl; have z2 := (zzk BK2.out 2).trans rfl; have z3 := (zzk BK2.out 3).trans rfl; have z4 := (zzk BK2.out 4).trans rfl; have z5 := (zzk BK2.out 5).trans rfl) | (go_at_call 27; (with_reducible refine (impl_BatchValid.calls k a1_0 a1_1 a1_2 a1_3 a1_4 _ _ l1_5 false _ ?side1 ?side2 A5.out).mono ?_); (case side1 => exact Kd.C_below HR1_5.out HB2.out); (case side2 => exact HC1_5.out); rintro e w11 ⟨rfl, hb⟩; have HB3 := zzm (zzp HB2.out hb); clear hb)); go_ret; exact ⟨by rw [HE.out]; rfl, HB3.out⟩
  | true =>
   rw [if_pos rfl] at h; by_cases hok : prodOk l0 a1_2 = true
   ·
    rw [if_pos hok] at h; obtain ⟨hids, hp0, hp1⟩ := prodOk_at hok; have hr : r = codeAt (slotFn l0) a1_2 a1_3 a1_4 := (Option.some.inj h).symm; have HE := zzm hr; have HI := zzm hids; have HP0 := zzm hp0; have HP1 := zzm hp1; clear hr h hok hids hp0 hp1; go_enter Try.func25, Try.ntmps25; go_wp2_with (first | ((with_reducible refine gate_dst (N := 3) rfl ?_); refine box_event ?hg (N := 3) ?hd (cs := #[.bool a1_0, .bool a1_1, .int .i64 a1_2, .int .i64 a1_3, .int .i64 a1_4, .slice A1_5 l1_5.length c1_5]) (t := 34) ?hr ?_; (case hd => rfl); (case hg => rfl); (case hr => first | (go_simp; done) | (go_simp; rfl)); intro gb hg w8 hbox hb; have HB1 := zzm (zzp HB.out hb); have BK := zzm hbox; clear hb hbox hg) | ((with_reducible refine gate_callee (f := 19) rfl ?_); refine goesL_ (some 6) rfl rfl Try.func19 (by kernel_rfl) rfl #[.slice A0 l0.length c0] rfl (by (try simp only [List.map_toArray, List.map_cons, List.map_nil]); first | done | rfl | (simp only [List.length_drop, List.length_take]; rfl)) ?_; (with_reducible refine (impl_ProducersValid.calls k _ _ l0 true _ ?side1 ?side2 A3.out).mono ?_); (case side1 => exact Kd.C_below HR0.out HB1.out); (case side2 => exact HC0.out); rintro e w9 ⟨rfl, hb⟩; refine ⟨_, rfl, ?_⟩; have HB2 := zzm (zzp HB1.out hb); have BK2 := zzm (zzh BK.out hb); clear hb; have z0 := (zzk BK2.out 0).trans rfl; have z1 := (zzk BK2.out 1).trans rfl; have z2 := (zzk BK2.out 2).trans rfl; have z3 := (zzk BK2.out 3).trans rfl; have z4 := (zzk BK2.out 4).trans rfl; have z5 := (zzk BK2.out 5).trans rfl) | (go_at_call 27; (with_reducible refine (impl_BatchValid.calls k a1_0 a1_1 a1_2 a1_3 a1_4 _ _ l1_5 true _ ?side1 ?side2 A5.out).mono ?_); (case side1 => exact Kd.C_below HR1_5.out HB2.out); (case side2 => exact HC1_5.out); rintro e w11 ⟨rfl, hb⟩; have HB3 := zzm (zzp HB2.out hb); have BK3 := zzm (zzh BK2.out hb); clear hb z0 z1 z2 z3 z4 z5)); refine start_ (n := 5) (S := fun w' => w'.cell? ⟨gb, 0, none⟩ = some (.bool a1_0) ∧ w'.cell? ⟨gb, 1, none⟩ = some (.bool a1_1) ∧ w'.cell? ⟨gb, 2, none⟩ = some (.int .i64 a1_2) ∧ w'.cell? ⟨gb, 3, none⟩ = some (.int .i64 a1_3) ∧ w'.cell? ⟨gb, 4, none⟩ = some (.int .i64 a1_4) ∧ w'.cell? ⟨gb, 5, none⟩ = some (.slice A1_5 l1_5.length c1_5)) (ds := []) (zzB 5 0) (by kernel_rfl) rfl rfl ⟨(zzk (zzg BK3.out) 0).trans rfl, (zzk (zzg BK3.out) 1).trans rfl, (zzk (zzg BK3.out) 2).trans rfl, (zzk (zzg BK3.out) 3).trans rfl, (zzk (zzg BK3.out) 4).trans rfl, (zzk (zzg BK3.out) 5).trans rfl⟩ (fun hHeld => ?_); have HB4 := zzm (zzc HB3.out); have BK4 := zzm (zzg BK3.out); clear HB3 BK3; generalize w11.drew = w12 at HB4 BK4 hHeld ⊢; refine pure_ (i := 0) (N := some 13) (v := ?_) (a' := ?_) (zzB 5 1) rfl rfl (by kernel_rfl) (fun _ _ _ h => h) (Or.inl ⟨by rfl, ?_⟩) ?_ ?_; rotate_left
    ·
     intro w'; go_simp; with_reducible rfl
    rotate_left
    ·
     simp only [Act.put, zzq, zzr, zzs, i64_w, i32_w]; rfl
    refine take_ (i := 2) (N := some 15) (v := ?_) (a' := ?_) (zzB 5 5) rfl rfl (by kernel_rfl) (fun _ _ _ h => h) (Or.inl ⟨by rfl, ?_⟩) hHeld ?_ ?_; rotate_left
    ·
     rintro w' ⟨s0, s1, s2, s3, s4, s5⟩; go_simp; with_reducible rfl
    rotate_left
    ·
     simp only [Act.put, zzq, zzr, zzs, i64_w, i32_w]; rfl
    refine one_ (i := 1) (N := some 14) (zzB 5 7) rfl rfl (by kernel_rfl) (by decide) (fun K hK => ?_); refine goes_ Try.func57 (by kernel_rfl) rfl #[.slice A0 l0.length c0] (by rfl) rfl rfl (by (try simp only [List.map_toArray, List.map_cons, List.map_nil]); first | done | rfl | (simp only [List.length_drop, List.length_take]; rfl)) ?_; with_reducible refine (impl_slotsOf.calls _ _ l0 _ ?side1 ?side2).mono ?_; (case side1 => exact Kd.C_below HR0.out HB4.out); (case side2 => exact fun j hj => idsOk_at HI.out j hj); rintro e w13 ⟨g, rfl, hge, hs, hb⟩; refine ⟨_, rfl, ?_⟩; have HB5 := zzm (zzp HB4.out hb); have BK5 := zzm (zzh BK4.out hb); have HS5 := zzm hs; clear hb hge hs; refine hK.out _ _ ⟨(zzk BK5.out 0).trans rfl, (zzk BK5.out 1).trans rfl, (zzk BK5.out 2).trans rfl, (zzk BK5.out 3).trans rfl, (zzk BK5.out 4).trans rfl, (zzk BK5.out 5).trans rfl⟩ (fun hHeld => ?_); clear hK K; refine norm_ (a' := ?_) ?_ ?_; rotate_left
    ·
     show Act.put _ (some 14) _ = _; simp only [Act.put, zzq, zzr, zzs, i64_w, i32_w]; rfl
    refine one_ (i := 3) (N := some 16) (zzB 5 15) rfl rfl (by kernel_rfl) (by decide) (fun K hK => ?_); refine goes_ Try.func58 (by kernel_rfl) rfl #[.pointer (some ⟨g, 0, none⟩), .agg #[.bool a1_0, .bool a1_1, .int .i64 a1_2, .int .i64 a1_3, .int .i64 a1_4, .slice A1_5 l1_5.length c1_5]] (by rfl) rfl rfl (by (try simp only [List.map_toArray, List.map_cons, List.map_nil]); first | done | rfl | (simp only [List.length_drop, List.length_take]; rfl)) ?_; with_reducible refine (impl_slots_check.calls g _ a1_0 a1_1 a1_2 a1_3 a1_4 _ rfl _ HS5.out HP0.out HP1.out).mono ?_; rintro e w14 ⟨rfl, hb⟩; refine ⟨_, rfl, ?_⟩; have HB6 := zzm (zzp HB5.out hb); have BK6 := zzm (zzh BK5.out hb); clear hb; refine hK.out _ _ ⟨(zzk BK6.out 0).trans rfl, (zzk BK6.out 1).trans rfl, (zzk BK6.out 2).trans rfl, (zzk BK6.out 3).trans rfl, (zzk BK6.out 4).trans rfl, (zzk BK6.out 5).trans rfl⟩ (fun hHeld => ?_); clear hK K; refine norm_ (a' := ?_) ?_ ?_; rotate_left
    ·
     show Act.put _ (some 16) _ = _; simp only [Act.put, zzq, zzr, zzs, i64_w, i32_w]; rfl
    refine pure_ (i := 4) (N := some 4) (v := ?_) (a' := ?_) (zzB 5 31) rfl rfl (by kernel_rfl) (fun _ _ _ h => h) (Or.inl ⟨by rfl, ?_⟩) ?_ ?_; rotate_left
    ·
     intro w'; go_simp; with_reducible rfl
    rotate_left
    ·
     simp only [Act.put, zzq, zzr, zzs, i64_w, i32_w]; rfl
    refine done_ (by kernel_rfl) ?_; try go_wp2
    go_ret; exact ⟨by rw [HE.out]; rfl, HB6.out⟩
   ·
    rw [if_neg hok] at h; cases h
end Go.Proofs.Ytkhmopmfbocokaa.T
namespace Go.Proofs.Ytkhmopmfbocokaa.T
open Go.RowKit Go.Proofs.YtkhmopmfbocokaaW.PrintWords Go.Proofs.YtkhmopmfbocokaaW.PrintLast Go.Proofs.YtkhmopmfbocokaaW.PrintMore

set_option linter.unusedVariables false
set_option linter.unusedSimpArgs false
def spec_l6In.f (a0 : Int) (a1 : Int) (a2 : Int) : Option (Bool) := if a0 ≥ a1 then (some (decide (a0 ≤ a2))) else (some false)
set_option maxHeartbeats 8000000 in
set_option maxRecDepth 100000 in
theorem spec_l6In.calls (a0 : Int) (a1 : Int) (a2 : Int) (r : Bool) (w : World) (h : spec_l6In.f a0 a1 a2 = some r) :
  Calls Try.prog 53 #[.int .i64 a0, .int .i64 a1, .int .i64 a2] w fun e w' => e = .returned (.bool r) ∧ Drawn0 w w' := by
 have H : (if a0 ≥ a1 then (some (decide (a0 ≤ a2))) else (some false)) = some r := h; clear h; by_cases c4 : a0 ≥ a1
 ·
  rw [if_pos c4] at H; have c4b0 : decide (a1 ≤ a0) = true := decide_eq_true c4; clear c4; obtain rfl := Option.some.inj H; go_enter Try.func53, Try.ntmps53; go_wp2; go_ret; exact ⟨by first | rfl | (simp; done) | (simp [*]; done), by repeat (first | exact Drawn0.refl _ | apply Drawn0.step)⟩
 ·
  rw [if_neg c4] at H; have c4b0 : decide (a1 ≤ a0) = false := decide_eq_false c4; clear c4; obtain rfl := Option.some.inj H; go_enter Try.func53, Try.ntmps53; go_wp2; go_ret; exact ⟨by first | rfl | (simp; done) | (simp [*]; done), by repeat (first | exact Drawn0.refl _ | apply Drawn0.step)⟩
theorem l6In_eqT (a b c : Int) (r : Bool) (h : decide (b ≤ a ∧ a ≤ c) = r) : spec_l6In.f a b c = some r := by
 subst h; unfold spec_l6In.f; by_cases h : a ≥ b
 ·
  rw [if_pos h]; have : (b ≤ a ∧ a ≤ c) ↔ a ≤ c := ⟨fun h => h.2, fun h' => ⟨h, h'⟩⟩; simp [this]
 ·
  rw [if_neg h]; have : ¬ (b ≤ a ∧ a ≤ c) := fun h' => h h'.1; simp [this]
theorem l6In_id (a : Int) (r : Bool) (h : decide (0 ≤ a ∧ a ≤ 254) = r) : spec_l6In.f a 0 254 = some r := l6In_eqT a 0 254 r h
def spec_ProducersValid.f (k : Nat) (l0 : List S39) : Option Bool := some (prodsAll l0)
set_option maxHeartbeats 8000000 in
set_option maxRecDepth 100000 in
theorem spec_ProducersValid.calls (k : Nat) (A0 : Option Addr) (c0 : Nat) (l0 : List (S39)) (r : Bool) (w : World) (hr0 : Kd.C k39 w A0 l0.length l0) (hc0 : l0.length ≤ c0) (h : spec_ProducersValid.f k l0 = some r) :
  Calls Try.prog 20 #[.slice A0 l0.length c0] w fun e w' => e = .returned (.bool r) ∧ Below w.heap.size w w' := by
 obtain rfl := Option.some.inj h; clear h; have hmax : l0.length ≤ 9223372036854775807 := hr0.2.1; have HR := zzm hr0; have HB := zzm (Below.refl w.heap.size w); clear hr0; go_enter Try.func20, Try.ntmps20; go_wp2; go_loopw [3, 4] (fun i i4 W => ∃ k : Nat, k ≤ l0.length ∧ i = .int .i64 k ∧ Aside0 (∀ j, j < k → prodAt l0 j = true) ∧ Aside0 (Below w.heap.size w W)) (fun i _ _ => l0.length - (intOf i).toNat)
 case atStart => exact ⟨0, Nat.zero_le _, rfl, ⟨fun j hj => by omega⟩, HB⟩
 case round =>
  clear HB; obtain ⟨k, hk, rfl, HN, HB⟩ := hrel; by_cases hlt : k < l0.length
  ·
   obtain ⟨ad, he, hx0, hx1, hx2⟩ := at_T39 HR.out (k : Int) (by omega) (by omega); subst he; replace hx0 := (HB.out.cell (zzn w _ hx0)).trans hx0; replace hx1 := (HB.out.cell (zzn w _ hx1)).trans hx1; replace hx2 := (HB.out.cell (zzn w _ hx2)).trans hx2; simp only [Int.toNat_natCast] at hx0 hx1 hx2; have HP : Aside0 (prodAt l0 k = decide (((0 ≤ (rd_T39 l0 (k : Int)).f0 ∧ (rd_T39 l0 (k : Int)).f0 ≤ 254) ∧ (0 ≤ (rd_T39 l0 (k : Int)).f1 ∧ (rd_T39 l0 (k : Int)).f1 ≤ 99) ∧ (0 ≤ (rd_T39 l0 (k : Int)).f2 ∧ (rd_T39 l0 (k : Int)).f2 ≤ 99999)) ∧ (0 < k → (rd_T39 l0 ((k : Int) - 1)).f0 < (rd_T39 l0 (k : Int)).f0))) := ⟨rfl⟩; obtain ⟨p, hp⟩ : ∃ p, p = rd_T39 l0 (k : Int) := ⟨_, rfl⟩; simp only [← hp] at hx0 hx1 hx2; rw [← hp] at HP; clear hp; obtain ⟨x, y, z⟩ := p; have HNO := zzm (fun h => prodsAll_no (l := l0) hlt h); go_wp2_with ((with_reducible refine gate_dst (N := 4) rfl ?_); refine box_event ?hg (N := 4) ?hd (cs := #[.int .i64 0, .int .i64 0, .int .i64 0]) (t := 39) ?hr ?_; (case hd => rfl); (case hg => rfl); (case hr => first | (go_simp; done) | (go_simp; rfl)); intro gb hg w13 hbox hb; have HB13 := zzm (zzp HB.out hb); have BK := zzm hbox; have GE := zzm (show w.heap.size ≤ gb by rw [hg]; exact HB.out.size); clear hb hbox hg; have hcz0 := (zzk BK.out 0).trans rfl; have hcz1 := (zzk BK.out 1).trans rfl; have hcz2 := (zzk BK.out 2).trans rfl; have hf0 := zzl BK.out 0; have hf1 := zzl BK.out 1; have hf2 := zzl BK.out 2); have BK2 := zzm (blk_set (blk_set (blk_set BK.out 0 (.int .i64 x)) 1 (.int .i64 y)) 2 (.int .i64 z)); have HB2 := zzm (zzd (zzd (zzd HB13.out GE.out (j := 0) (v := .int .i64 x)) GE.out (j := 1) (v := .int .i64 y)) GE.out (j := 2) (v := .int .i64 z)); clear hcz0 hcz1 hcz2 hf0 hf1 hf2 BK HB13 hx0 hx1 hx2 HB; generalize ((w13.setCell ⟨gb, 0, none⟩ (.int .i64 x)).setCell ⟨gb, 1, none⟩ (.int .i64 y)).setCell ⟨gb, 2, none⟩ (.int .i64 z) = w14 at BK2 HB2 ⊢; have d0 : w14.cell? ⟨gb, 0, none⟩ = some (.int .i64 x) := (zzk BK2.out 0).trans rfl; have d1 : w14.cell? ⟨gb, 1, none⟩ = some (.int .i64 y) := (zzk BK2.out 1).trans rfl; have d2 : w14.cell? ⟨gb, 2, none⟩ = some (.int .i64 z) := (zzk BK2.out 2).trans rfl; by_cases k0 : 0 ≤ x ∧ x ≤ 254
   ·
    have e0 := l6In_id x true (decide_eq_true k0); by_cases k1 : 0 ≤ y ∧ y ≤ 99
    ·
     have e1 := l6In_eqT y 0 99 true (decide_eq_true k1); by_cases k2 : 0 ≤ z ∧ z ≤ 99999
     ·
      have e2 := l6In_eqT z 0 99999 true (decide_eq_true k2); by_cases h0 : 0 < k
      ·
       obtain ⟨ad', he, hy0, _, _⟩ := at_T39 HR.out ((k : Int) - 1) (by omega) (by omega); injection he with he; subst he; replace hy0 := (HB2.out.cell (zzn w _ hy0)).trans hy0; rw [show ((k : Int) - 1).toNat = k - 1 by omega] at hy0; generalize (rd_T39 l0 ((k : Int) - 1)).f0 = q at hy0 HP; have hk0 : decide (0 < (k : Int)) = true := decide_eq_true (by omega); have hk1 : decide (0 < k) = true := decide_eq_true h0; have hs1 : IntKind.i64.wrap ((k : Int) - 1) = (k : Int) - 1 := IntWalk.i64_in _ (by omega); have hs2 : ((k : Int) - 1).toNat = k - 1 := by omega
       have hs3 : (0 ≤ (k : Int) - 1) = True := eq_true (by omega); have hs5 : (1 ≤ (k : Int)) = True := eq_true (by omega); have hs4 : ((k : Int) - 1 < (l0.length : Int)) = True := eq_true (by omega); by_cases hge : x ≤ q
       ·
        have hge2 : decide (x ≤ q) = true := decide_eq_true hge; have HF := zzm (HNO.out (by rw [HP.out]; exact decide_eq_false (fun h => by have := h.2 h0; omega))); clear HNO HP k0 k1 k2; go_quiet ((first | (go_at_call 53; with_reducible exact quiet_drawn (spec_l6In.calls x 0 254 true _ e0)) | (go_at_call 53; with_reducible exact quiet_drawn (spec_l6In.calls y 0 99 true _ e1)) | (go_at_call 53; with_reducible exact quiet_drawn (spec_l6In.calls z 0 99999 true _ e2))))
        go_wp2; go_ret; exact ⟨by rw [HF.out]; rfl, zzb HB2.out _⟩
       ·
        have hge2 : decide (x ≤ q) = false := decide_eq_false hge; have HY := zzm (show prodAt l0 k = true by rw [HP.out]; exact decide_eq_true ⟨⟨k0, k1, k2⟩, fun _ => by omega⟩); clear HNO HP k0 k1 k2; go_quiet ((first | (go_at_call 53; with_reducible exact quiet_drawn (spec_l6In.calls x 0 254 true _ e0)) | (go_at_call 53; with_reducible exact quiet_drawn (spec_l6In.calls y 0 99 true _ e1)) | (go_at_call 53; with_reducible exact quiet_drawn (spec_l6In.calls z 0 99999 true _ e2))))
        clear hs1 hs2 hs3 hs4 hs5; go_wp2; go_roundw
        case rel => exact ⟨k + 1, by omega, by go_num, ⟨fun j hj => by by_cases e : j = k; (subst e; exact HY.out); exact HN.out j (by omega)⟩, ⟨zzb HB2.out _⟩⟩
        case measure => simp [intOf]; omega
      ·
       have hk0 : decide (0 < (k : Int)) = false := decide_eq_false (by omega); have hk1 : decide (0 < k) = false := decide_eq_false h0; have HY := zzm (show prodAt l0 k = true by rw [HP.out]; exact decide_eq_true ⟨⟨k0, k1, k2⟩, fun h => absurd h h0⟩); clear HNO HP k0 k1 k2; go_quiet ((first | (go_at_call 53; with_reducible exact quiet_drawn (spec_l6In.calls x 0 254 true _ e0)) | (go_at_call 53; with_reducible exact quiet_drawn (spec_l6In.calls y 0 99 true _ e1)) | (go_at_call 53; with_reducible exact quiet_drawn (spec_l6In.calls z 0 99999 true _ e2))))
       go_wp2; go_roundw
       case rel => exact ⟨k + 1, by omega, by go_num, ⟨fun j hj => by by_cases e : j = k; (subst e; exact HY.out); exact HN.out j (by omega)⟩, ⟨zzb HB2.out _⟩⟩
       case measure => simp [intOf]; omega
     ·
      have e2 := l6In_eqT z 0 99999 false (decide_eq_false k2); have HF := zzm (HNO.out (by rw [HP.out]; exact decide_eq_false (fun h => k2 h.1.2.2))); clear HNO HP k0 k1 k2; go_quiet ((first | (go_at_call 53; with_reducible exact quiet_drawn (spec_l6In.calls x 0 254 true _ e0)) | (go_at_call 53; with_reducible exact quiet_drawn (spec_l6In.calls y 0 99 true _ e1)) | (go_at_call 53; with_reducible exact quiet_drawn (spec_l6In.calls z 0 99999 false _ e2))))
      go_wp2; go_ret; exact ⟨by rw [HF.out]; rfl, zzb HB2.out _⟩
    ·
     have e1 := l6In_eqT y 0 99 false (decide_eq_false k1); have HF := zzm (HNO.out (by rw [HP.out]; exact decide_eq_false (fun h => k1 h.1.2.1))); clear HNO HP k0 k1; go_quiet ((first | (go_at_call 53; with_reducible exact quiet_drawn (spec_l6In.calls x 0 254 true _ e0)) | (go_at_call 53; with_reducible exact quiet_drawn (spec_l6In.calls y 0 99 false _ e1))))
     go_wp2; go_ret; exact ⟨by rw [HF.out]; rfl, zzb HB2.out _⟩
   ·
    have e0 := l6In_id x false (decide_eq_false k0); have HF := zzm (HNO.out (by rw [HP.out]; exact decide_eq_false (fun h => k0 h.1.1))); clear HNO HP k0; go_quiet ((go_at_call 53; with_reducible exact quiet_drawn (spec_l6In.calls x 0 254 false _ e0)))
    go_wp2; go_ret; exact ⟨by rw [HF.out]; rfl, zzb HB2.out _⟩
  ·
   have hk2 : k = l0.length := by omega
   have HA : Aside0 (∀ i, i < l0.length → prodAt l0 i = true) := ⟨fun i hi => HN.out i (by omega)⟩; by_cases hlen : l0.length ≤ 20
   ·
    have HF := zzm (show prodsAll l0 = true by unfold prodsAll; rw [decide_eq_true hlen, Bool.true_and]; exact decide_eq_true HA.out); have hlen2 : decide ((l0.length : Int) ≤ 20) = true := decide_eq_true (by omega); go_wp2; go_ret; exact ⟨by rw [HF.out]; rfl, HB.out⟩
   ·
    have HF := zzm (prodsAll_long (l := l0) (by omega)); have hlen2 : decide ((l0.length : Int) ≤ 20) = false := decide_eq_false (by omega); go_wp2; go_ret; exact ⟨by rw [HF.out]; rfl, HB.out⟩
end Go.Proofs.Ytkhmopmfbocokaa.T
namespace Go.Proofs.Ytkhmopmfbocokaa.T
open Go.RowKit Go.Proofs.YtkhmopmfbocokaaW.PrintWords Go.Proofs.YtkhmopmfbocokaaW.PrintLast Go.Proofs.YtkhmopmfbocokaaW.PrintMore

set_option linter.unusedVariables false
set_option linter.unusedSimpArgs false
def spec_l1Ok.l0 : Nat → List Int → Int → Option (Bool)
 | 0, _, _ => none
 | k + 1, x0, x3 => if x3 < (x0.length : Int) then (if 0 ≤ x3 then ((spec_l6In.f (rd x0 x3) 0 255).bind fun t302 => (if t302 = true then (spec_l1Ok.l0 k x0 (wrap64 (x3 + 1))) else (some false))) else (none)) else (some true)
def spec_l1Ok.f (k : Nat) (l0 : List Int) : Option (Bool) := spec_l1Ok.l0 k l0 0
set_option maxHeartbeats 8000000 in
set_option maxRecDepth 100000 in
theorem spec_l1Ok.calls (k : Nat) (A0 : Option Addr) (c0 : Nat) (l0 : List Int) (r : Bool) (w : World) (hr0 : Kd.C (Kd.int .i64) w A0 l0.length l0) (hc0 : l0.length ≤ c0) (h : spec_l1Ok.f k l0 = some r) :
  Calls Try.prog 85 #[.slice A0 l0.length c0] w fun e w' => e = .returned (.bool r) ∧ Drawn0 w w' := by
 have HR0 := zzm hr0; have HC0 := zzm hc0; clear hr0 hc0; have H : (spec_l1Ok.l0 k l0 0) = some r := h; clear h; have H' := zzm H; clear H; go_enter Try.func85, Try.ntmps85; go_wp2; go_loopg [3] k (fun kq v3 w' => ∃ (x3_1 : Int), v3 = .int .i64 x3_1 ∧ Aside0 (spec_l1Ok.l0 kq l0 x3_1 = some r) ∧ Aside0 (kq ≤ k) ∧ Drawn0 w w')
 case atStart => exact ⟨(0), (by first | rfl | (simp; done) | (simp [*]; done)), H', ⟨Nat.le_refl _⟩, by repeat (first | exact Drawn0.refl _ | apply Drawn0.step)⟩
 case round =>
  clear H'; obtain ⟨x3_1, rfl, HA, HK1, ⟨m1, rfl⟩⟩ := hrel; cases gk with
  | zero => exact absurd HA.out (by simp [spec_l1Ok.l0])
  | succ k1 =>
   have H := HA.out; clear HA; simp only [spec_l1Ok.l0] at H; by_cases c2 : x3_1 < (l0.length : Int)
   ·
    rw [if_pos c2] at H; have c2b0 : decide (x3_1 < (l0.length : Int)) = true := decide_eq_true c2; clear c2; by_cases c3 : 0 ≤ x3_1
    ·
     rw [if_pos c3] at H; have c3b0 : decide (0 ≤ x3_1) = true := decide_eq_true c3; clear c3; replace H := Option.bind_eq_some_iff.mp H; obtain ⟨t302, A40, H⟩ := H; replace H : (if t302 = true then (spec_l1Ok.l0 k1 l0 (wrap64 (x3_1 + 1))) else (some false)) = some r := H; have A4 := zzm A40; clear A40; by_cases c5 : t302 = true
     ·
      subst c5; have H1 : (spec_l1Ok.l0 k1 l0 (wrap64 (x3_1 + 1))) = some r := by rw [if_pos rfl] at H; exact H
      clear H; have H := H1; clear H1; have H' := zzm H; clear H; have p301 : 0 ≤ (x3_1 : Int) := of_decide_eq_true (by first | (with_reducible assumption) | assumption); have q301 : x3_1 < (l0.length : Int) := of_decide_eq_true (by first | (with_reducible assumption) | assumption); obtain ⟨ad301, e301, hx301_0⟩ := Kd.at_int HR0.out x3_1 p301 q301; cases e301; replace p301 := eq_true p301; replace q301 := eq_true q301; go_wp2_with (first | ((with_reducible refine gate_callee (f := 53) rfl ?_); refine goesL_ (some 14) rfl rfl Try.func53 (by kernel_rfl) rfl #[.int .i64 (rd l0 x3_1), .int .i64 0, .int .i64 255] rfl (by (try simp only [List.map_toArray, List.map_cons, List.map_nil]); first | done | rfl | (simp only [List.length_drop, List.length_take]; rfl)) ?_; (with_reducible refine (spec_l6In.calls (rd l0 x3_1) 0 255 true _ A4.out).mono ?_); rintro e w' ⟨rfl, ⟨nd, rfl⟩⟩; refine ⟨_, rfl, ?_⟩)); go_roundg k1
      case measure => have := HK1.out; omega
      case rel => exact ⟨(wrap64 (x3_1 + 1)), (by first | rfl | (simp; done) | (simp [*]; done)), H', ⟨by have := HK1.out; omega⟩, by repeat (first | exact Drawn0.refl _ | apply Drawn0.step)⟩
     ·
      replace c5 := Bool.eq_false_iff.mpr c5; subst c5; have H1 : (some false) = some r := by rw [if_neg (show ¬ (false = true) by decide)] at H; exact H
      clear H; have H := H1; clear H1; obtain rfl := Option.some.inj H; have p301 : 0 ≤ (x3_1 : Int) := of_decide_eq_true (by first | (with_reducible assumption) | assumption); have q301 : x3_1 < (l0.length : Int) := of_decide_eq_true (by first | (with_reducible assumption) | assumption); obtain ⟨ad301, e301, hx301_0⟩ := Kd.at_int HR0.out x3_1 p301 q301; cases e301; replace p301 := eq_true p301; replace q301 := eq_true q301; go_wp2_with (first | ((with_reducible refine gate_callee (f := 53) rfl ?_); refine goesL_ (some 14) rfl rfl Try.func53 (by kernel_rfl) rfl #[.int .i64 (rd l0 x3_1), .int .i64 0, .int .i64 255] rfl (by (try simp only [List.map_toArray, List.map_cons, List.map_nil]); first | done | rfl | (simp only [List.length_drop, List.length_take]; rfl)) ?_; (with_reducible refine (spec_l6In.calls (rd l0 x3_1) 0 255 false _ A4.out).mono ?_); rintro e w' ⟨rfl, ⟨nd, rfl⟩⟩; refine ⟨_, rfl, ?_⟩)); go_ret; exact ⟨by first | rfl | (simp; done) | (simp [*]; done), by repeat (first | exact Drawn0.refl _ | apply Drawn0.step)⟩
    ·
     rw [if_neg c3] at H; exact absurd H (by simp)
   ·
    rw [if_neg c2] at H; have c2b0 : decide (x3_1 < (l0.length : Int)) = false := decide_eq_false c2; clear c2; obtain rfl := Option.some.inj H; go_wp2; go_ret; exact ⟨by first | rfl | (simp; done) | (simp [*]; done), by repeat (first | exact Drawn0.refl _ | apply Drawn0.step)⟩
end Go.Proofs.Ytkhmopmfbocokaa.T
namespace Go.Proofs.Ytkhmopmfbocokaa.T
open Go.RowKit Go.Proofs.YtkhmopmfbocokaaW.PrintWords Go.Proofs.YtkhmopmfbocokaaW.PrintLast Go.Proofs.YtkhmopmfbocokaaW.PrintMore

set_option linter.unusedVariables false
set_option linter.unusedSimpArgs false
def spec_l3Part.f (k : Nat) (a0 : Bool) (l1 : List Int) : Option (Bool) := if a0 = true then ((spec_l1Ok.f k l1).bind fun t303 => (if t303 = true then (some (decide ((l1.length : Int) ≤ 12))) else (some false))) else (if (l1.length : Int) = 0 then ((spec_l1Ok.f k l1).bind fun t304 => (if t304 = true then (some (decide ((l1.length : Int) ≤ 12))) else (some false))) else (some false))
set_option maxHeartbeats 8000000 in
set_option maxRecDepth 100000 in
theorem spec_l3Part.calls (k : Nat) (a0 : Bool) (A1 : Option Addr) (c1 : Nat) (l1 : List Int) (r : Bool) (w : World) (hr1 : Kd.C (Kd.int .i64) w A1 l1.length l1) (hc1 : l1.length ≤ c1) (h : spec_l3Part.f k a0 l1 = some r) :
  Calls Try.prog 83 #[.bool a0, .slice A1 l1.length c1] w fun e w' => e = .returned (.bool r) ∧ Drawn0 w w' := by
 have HR1 := zzm hr1; have HC1 := zzm hc1; clear hr1 hc1; have H : (if a0 = true then ((spec_l1Ok.f k l1).bind fun t303 => (if t303 = true then (some (decide ((l1.length : Int) ≤ 12))) else (some false))) else (if (l1.length : Int) = 0 then ((spec_l1Ok.f k l1).bind fun t304 => (if t304 = true then (some (decide ((l1.length : Int) ≤ 12))) else (some false))) else (some false))) = some r := h; clear h; by_cases c3 : a0 = true
 ·
  subst c3; have H1 : ((spec_l1Ok.f k l1).bind fun t303 => (if t303 = true then (some (decide ((l1.length : Int) ≤ 12))) else (some false))) = some r := by rw [if_pos rfl] at H; exact H
  clear H; have H := H1; clear H1; replace H := Option.bind_eq_some_iff.mp H; obtain ⟨t303, A40, H⟩ := H; replace H : (if t303 = true then (some (decide ((l1.length : Int) ≤ 12))) else (some false)) = some r := H; have A4 := zzm A40; clear A40; by_cases c5 : t303 = true
  ·
   subst c5; have H1 : (some (decide ((l1.length : Int) ≤ 12))) = some r := by rw [if_pos rfl] at H; exact H
   clear H; have H := H1; clear H1; obtain rfl := Option.some.inj H; go_enter Try.func83, Try.ntmps83; go_wp2_with (first | (go_at_call 85; (with_reducible refine (spec_l1Ok.calls k _ _ l1 true _ ?side1 ?side2 A4.out).mono ?_); (case side1 => repeat (first | exact HR1.out | (with_reducible refine Kd.C_alloc ?_ _) | (with_reducible refine Kd.C_drewN ?_ _) | (with_reducible refine Kd.C_drew ?_))); (case side2 => exact HC1.out); rintro e w' ⟨rfl, ⟨nd, rfl⟩⟩)); go_ret; exact ⟨by first | rfl | (simp; done) | (simp [*]; done), by repeat (first | exact Drawn0.refl _ | apply Drawn0.step)⟩
  ·
   replace c5 := Bool.eq_false_iff.mpr c5; subst c5; have H1 : (some false) = some r := by rw [if_neg (show ¬ (false = true) by decide)] at H; exact H
   clear H; have H := H1; clear H1; obtain rfl := Option.some.inj H; go_enter Try.func83, Try.ntmps83; go_wp2_with (first | (go_at_call 85; (with_reducible refine (spec_l1Ok.calls k _ _ l1 false _ ?side1 ?side2 A4.out).mono ?_); (case side1 => repeat (first | exact HR1.out | (with_reducible refine Kd.C_alloc ?_ _) | (with_reducible refine Kd.C_drewN ?_ _) | (with_reducible refine Kd.C_drew ?_))); (case side2 => exact HC1.out); rintro e w' ⟨rfl, ⟨nd, rfl⟩⟩)); go_ret; exact ⟨by first | rfl | (simp; done) | (simp [*]; done), by repeat (first | exact Drawn0.refl _ | apply Drawn0.step)⟩
 ·
  replace c3 := Bool.eq_false_iff.mpr c3; subst c3; have H1 : (if (l1.length : Int) = 0 then ((spec_l1Ok.f k l1).bind fun t304 => (if t304 = true then (some (decide ((l1.length : Int) ≤ 12))) else (some false))) else (some false)) = some r := by rw [if_neg (show ¬ (false = true) by decide)] at H; exact H
  clear H; have H := H1; clear H1; by_cases c6 : (l1.length : Int) = 0
  ·
   rw [if_pos c6] at H; have c6b0 : ((l1.length : Int) == 0) = true := beq_iff_eq.mpr c6; have c6b1 : ((l1.length : Int) != 0) = false := bne_eq_false_iff_eq.mpr c6; clear c6; replace H := Option.bind_eq_some_iff.mp H; obtain ⟨t304, A70, H⟩ := H; replace H : (if t304 = true then (some (decide ((l1.length : Int) ≤ 12))) else (some false)) = some r := H; have A7 := zzm A70; clear A70; by_cases c8 : t304 = true
   ·
    subst c8; have H1 : (some (decide ((l1.length : Int) ≤ 12))) = some r := by rw [if_pos rfl] at H; exact H
    clear H; have H := H1; clear H1; obtain rfl := Option.some.inj H; go_enter Try.func83, Try.ntmps83; go_wp2_with (first | (go_at_call 85; (with_reducible refine (spec_l1Ok.calls k _ _ l1 true _ ?side1 ?side2 A7.out).mono ?_); (case side1 => repeat (first | exact HR1.out | (with_reducible refine Kd.C_alloc ?_ _) | (with_reducible refine Kd.C_drewN ?_ _) | (with_reducible refine Kd.C_drew ?_))); (case side2 => exact HC1.out); rintro e w' ⟨rfl, ⟨nd, rfl⟩⟩)); go_ret; exact ⟨by first | rfl | (simp; done) | (simp [*]; done), by repeat (first | exact Drawn0.refl _ | apply Drawn0.step)⟩
   ·
    replace c8 := Bool.eq_false_iff.mpr c8; subst c8; have H1 : (some false) = some r := by rw [if_neg (show ¬ (false = true) by decide)] at H; exact H
    clear H; have H := H1; clear H1; obtain rfl := Option.some.inj H; go_enter Try.func83, Try.ntmps83; go_wp2_with (first | (go_at_call 85; (with_reducible refine (spec_l1Ok.calls k _ _ l1 false _ ?side1 ?side2 A7.out).mono ?_); (case side1 => repeat (first | exact HR1.out | (with_reducible refine Kd.C_alloc ?_ _) | (with_reducible refine Kd.C_drewN ?_ _) | (with_reducible refine Kd.C_drew ?_))); (case side2 => exact HC1.out); rintro e w' ⟨rfl, ⟨nd, rfl⟩⟩)); go_ret; exact ⟨by first | rfl | (simp; done) | (simp [*]; done), by repeat (first | exact Drawn0.refl _ | apply Drawn0.step)⟩
  ·
   rw [if_neg c6] at H; have c6b0 : ((l1.length : Int) == 0) = false := beq_eq_false_iff_ne.mpr c6; have c6b1 : ((l1.length : Int) != 0) = true := bne_iff_ne.mpr c6; have c6b2 : ¬ (l1 = []) := fun h_ => c6 (by rw [h_]; rfl); obtain rfl := Option.some.inj H; go_enter Try.func83, Try.ntmps83; go_wp2; go_ret; exact ⟨by first | rfl | (simp; done) | (simp [*]; done), by repeat (first | exact Drawn0.refl _ | apply Drawn0.step)⟩
end Go.Proofs.Ytkhmopmfbocokaa.T
namespace Go.Proofs.Ytkhmopmfbocokaa.T
open Go.RowKit Go.Proofs.YtkhmopmfbocokaaW.PrintWords Go.Proofs.YtkhmopmfbocokaaW.PrintLast Go.Proofs.YtkhmopmfbocokaaW.PrintMore

set_option linter.unusedVariables false
set_option linter.unusedSimpArgs false
def spec_RecordValid.f (k : Nat) (a0_0 : Int) (a0_1 : Int) (a0_2 : Bool) (l0_3 : List Int) (a0_4 : Bool) (l0_5 : List Int) : Option (Bool) := (spec_l6In.f a0_0 0 99999).bind fun t306 => (if t306 = true then ((spec_l6In.f a0_1 0 99999).bind fun t307 => (if t307 = true then ((spec_l3Part.f k a0_2 l0_3).bind fun t308 => (if t308 = true then ((spec_l3Part.f k a0_4 l0_5).bind fun t309 => (some t309)) else (some false))) else (some false))) else (some false))
set_option maxHeartbeats 8000000 in
set_option maxRecDepth 100000 in
theorem spec_RecordValid.calls (k : Nat) (a0_0 : Int) (a0_1 : Int) (a0_2 : Bool) (A0_3 : Option Addr) (c0_3 : Nat) (l0_3 : List Int) (a0_4 : Bool) (A0_5 : Option Addr) (c0_5 : Nat) (l0_5 : List Int) (r : Bool) (w : World) (hr0_3 : Kd.C (Kd.int .i64) w A0_3 l0_3.length l0_3) (hc0_3 : l0_3.length ≤ c0_3) (hr0_5 : Kd.C (Kd.int .i64) w A0_5 l0_5.length l0_5) (hc0_5 : l0_5.length ≤ c0_5) (h : spec_RecordValid.f k a0_0 a0_1 a0_2 l0_3 a0_4 l0_5 = some r) :
  Calls Try.prog 78 #[.agg #[.int .i64 a0_0, .int .i64 a0_1, .bool a0_2, .slice A0_3 l0_3.length c0_3, .bool a0_4, .slice A0_5 l0_5.length c0_5]] w fun e w' => e = .returned (.bool r) ∧ Below w.heap.size w w' := by
 have hu79 := Try.underlying79; have HR0_3 := zzm hr0_3; have HC0_3 := zzm hc0_3; clear hr0_3 hc0_3; have HR0_5 := zzm hr0_5; have HC0_5 := zzm hc0_5; clear hr0_5 hc0_5; have HB := zzm (Below.refl w.heap.size w); have H : ((spec_l6In.f a0_0 0 99999).bind fun t306 => (if t306 = true then ((spec_l6In.f a0_1 0 99999).bind fun t307 => (if t307 = true then ((spec_l3Part.f k a0_2 l0_3).bind fun t308 => (if t308 = true then ((spec_l3Part.f k a0_4 l0_5).bind fun t309 => (some t309)) else (some false))) else (some false))) else (some false))) = some r := h; clear h; replace H := Option.bind_eq_some_iff.mp H; obtain ⟨t306, A20, H⟩ := H; replace H : (if t306 = true then ((spec_l6In.f a0_1 0 99999).bind fun t307 => (if t307 = true then ((spec_l3Part.f k a0_2 l0_3).bind fun t308 => (if t308 = true then ((spec_l3Part.f k a0_4 l0_5).bind fun t309 => (some t309)) else (some false))) else (some false))) else (some false)) = some r := H; have A2 := zzm A20; clear A20; by_cases c3 : t306 = true
 ·
  subst c3; have H1 : ((spec_l6In.f a0_1 0 99999).bind fun t307 => (if t307 = true then ((spec_l3Part.f k a0_2 l0_3).bind fun t308 => (if t308 = true then ((spec_l3Part.f k a0_4 l0_5).bind fun t309 => (some t309)) else (some false))) else (some false))) = some r := by rw [if_pos rfl] at H; exact H
  clear H; have H := H1; clear H1; replace H := Option.bind_eq_some_iff.mp H; obtain ⟨t307, A40, H⟩ := H; replace H : (if t307 = true then ((spec_l3Part.f k a0_2 l0_3).bind fun t308 => (if t308 = true then ((spec_l3Part.f k a0_4 l0_5).bind fun t309 => (some t309)) else (some false))) else (some false)) = some r := H; have A4 := zzm A40; clear A40; by_cases c5 : t307 = true
  ·
   subst c5; have H1 : ((spec_l3Part.f k a0_2 l0_3).bind fun t308 => (if t308 = true then ((spec_l3Part.f k a0_4 l0_5).bind fun t309 => (some t309)) else (some false))) = some r := by rw [if_pos rfl] at H; exact H
   clear H; have H := H1; clear H1; replace H := Option.bind_eq_some_iff.mp H; obtain ⟨t308, A60, H⟩ := H; replace H : (if t308 = true then ((spec_l3Part.f k a0_4 l0_5).bind fun t309 => (some t309)) else (some false)) = some r := H; have A6 := zzm A60; clear A60; by_cases c7 : t308 = true
   ·
    subst c7; have H1 : ((spec_l3Part.f k a0_4 l0_5).bind fun t309 => (some t309)) = some r := by rw [if_pos rfl] at H; exact H
    clear H; have H := H1; clear H1; replace H := Option.bind_eq_some_iff.mp H; obtain ⟨t309, A80, H⟩ := H; replace H : (some t309) = some r := H; have A8 := zzm A80; clear A80; obtain rfl := Option.some.inj H; go_enter Try.func78, Try.ntmps78; go_wp2_with (first | ((with_reducible refine gate_dst (N := 1) rfl ?_); refine box_event ?hg (N := 1) ?hd (cs := #[.int .i64 a0_0, .int .i64 a0_1, .bool a0_2, .slice A0_3 l0_3.length c0_3, .bool a0_4, .slice A0_5 l0_5.length c0_5]) (t := 79) ?hr ?_; (case hd => rfl); (case hg => rfl); (case hr => first | (go_simp; done) | (go_simp; rfl)); intro gb305 hg w9 hbox hb; have n0_ := zzm (zzp (by repeat (first | (with_reducible first | exact HB.out | apply zza | apply zzb | apply zzc) | exact HB.out)) hb); have n1_ := zzm (hbox); have n2_ := zzm ((by rw [hg]; exact (zzo (by repeat (first | (with_reducible first | exact HB.out | apply zza | apply zzb | apply zzc) | exact HB.out))) : w.heap.size ≤ gb305)); have n3_ := zzm ((by rw [hg]; exact (zzo (by repeat (first | (with_reducible first | exact HB.out | apply zza | apply zzb | apply zzc) | exact HB.out))) : w.heap.size ≤ gb305)); clear HB; have HB := n0_; have BK305 := n1_; have GW305 := n2_; have GE305 := n3_; clear n0_ n1_ n2_ n3_ hb hbox hg; obtain ⟨hcz10_0, hcz10_1, hcz10_2, hcz10_3, hcz10_4, hcz10_5, hfz10_0, hfz10_1, hfz10_2, hfz10_3, hfz10_4, hfz10_5⟩ := zzc6 BK305.out) | ((with_reducible refine gate_callee (f := 53) rfl ?_); refine goesL_ (some 5) rfl rfl Try.func53 (by kernel_rfl) rfl #[.int .i64 a0_0, .int .i64 0, .int .i64 99999] rfl (by (try simp only [List.map_toArray, List.map_cons, List.map_nil]); first | done | rfl | (simp only [List.length_drop, List.length_take]; rfl)) ?_; (with_reducible refine (spec_l6In.calls a0_0 0 99999 true _ A2.out).mono ?_); rintro e w' ⟨rfl, ⟨nd, rfl⟩⟩; refine ⟨_, rfl, ?_⟩) | (go_at_call 53; (with_reducible refine (spec_l6In.calls a0_1 0 99999 true _ A4.out).mono ?_); rintro e w' ⟨rfl, ⟨nd, rfl⟩⟩) | (go_at_call 83; (with_reducible refine (spec_l3Part.calls k a0_2 _ _ l0_3 true _ ?side1 ?side2 A6.out).mono ?_); (case side1 => repeat (first | exact (Kd.C_below HR0_3.out (by repeat (first | (with_reducible first | exact HB.out | apply zza | apply zzb | apply zzc | refine zzd ?_ GE305.out) | exact HB.out))) | (with_reducible refine Kd.C_alloc ?_ _) | (with_reducible refine Kd.C_drewN ?_ _) | (with_reducible refine Kd.C_drew ?_))); (case side2 => exact HC0_3.out); rintro e w' ⟨rfl, ⟨nd, rfl⟩⟩) | (go_at_call 83; (with_reducible refine (spec_l3Part.calls k a0_4 _ _ l0_5 t309 _ ?side1 ?side2 A8.out).mono ?_); (case side1 => repeat (first | exact (Kd.C_below HR0_5.out (by repeat (first | (with_reducible first | exact HB.out | apply zza | apply zzb | apply zzc | refine zzd ?_ GE305.out) | exact HB.out))) | (with_reducible refine Kd.C_alloc ?_ _) | (with_reducible refine Kd.C_drewN ?_ _) | (with_reducible refine Kd.C_drew ?_))); (case side2 => exact HC0_5.out); rintro e w' ⟨rfl, ⟨nd, rfl⟩⟩)); go_ret; exact ⟨by first | rfl | (simp [errW_none, errW_some] <;> rfl) | (simp [*, errW_none, errW_some] <;> rfl), by repeat (first | (with_reducible first | exact HB.out | apply zza | apply zzb | apply zzc | refine zzd ?_ GE305.out) | exact HB.out)⟩
   ·
    replace c7 := Bool.eq_false_iff.mpr c7; subst c7; have H1 : (some false) = some r := by rw [if_neg (show ¬ (false = true) by decide)] at H; exact H
    clear H; have H := H1; clear H1; obtain rfl := Option.some.inj H; go_enter Try.func78, Try.ntmps78; go_wp2_with (first | ((with_reducible refine gate_dst (N := 1) rfl ?_); refine box_event ?hg (N := 1) ?hd (cs := #[.int .i64 a0_0, .int .i64 a0_1, .bool a0_2, .slice A0_3 l0_3.length c0_3, .bool a0_4, .slice A0_5 l0_5.length c0_5]) (t := 79) ?hr ?_; (case hd => rfl); (case hg => rfl); (case hr => first | (go_simp; done) | (go_simp; rfl)); intro gb305 hg w11 hbox hb; have n0_ := zzm (zzp (by repeat (first | (with_reducible first | exact HB.out | apply zza | apply zzb | apply zzc) | exact HB.out)) hb); have n1_ := zzm (hbox); have n2_ := zzm ((by rw [hg]; exact (zzo (by repeat (first | (with_reducible first | exact HB.out | apply zza | apply zzb | apply zzc) | exact HB.out))) : w.heap.size ≤ gb305)); have n3_ := zzm ((by rw [hg]; exact (zzo (by repeat (first | (with_reducible first | exact HB.out | apply zza | apply zzb | apply zzc) | exact HB.out))) : w.heap.size ≤ gb305)); clear HB; have HB := n0_; have BK305 := n1_; have GW305 := n2_; have GE305 := n3_; clear n0_ n1_ n2_ n3_ hb hbox hg; obtain ⟨hcz12_0, hcz12_1, hcz12_2, hcz12_3, hcz12_4, hcz12_5, hfz12_0, hfz12_1, hfz12_2, hfz12_3, hfz12_4, hfz12_5⟩ := zzc6 BK305.out) | ((with_reducible refine gate_callee (f := 53) rfl ?_); refine goesL_ (some 5) rfl rfl Try.func53 (by kernel_rfl) rfl #[.int .i64 a0_0, .int .i64 0, .int .i64 99999] rfl (by (try simp only [List.map_toArray, List.map_cons, List.map_nil]); first | done | rfl | (simp only [List.length_drop, List.length_take]; rfl)) ?_; (with_reducible refine (spec_l6In.calls a0_0 0 99999 true _ A2.out).mono ?_); rintro e w' ⟨rfl, ⟨nd, rfl⟩⟩; refine ⟨_, rfl, ?_⟩) | (go_at_call 53; (with_reducible refine (spec_l6In.calls a0_1 0 99999 true _ A4.out).mono ?_); rintro e w' ⟨rfl, ⟨nd, rfl⟩⟩) | (go_at_call 83; (with_reducible refine (spec_l3Part.calls k a0_2 _ _ l0_3 false _ ?side1 ?side2 A6.out).mono ?_); (case side1 => repeat (first | exact (Kd.C_below HR0_3.out (by repeat (first | (with_reducible first | exact HB.out | apply zza | apply zzb | apply zzc | refine zzd ?_ GE305.out) | exact HB.out))) | (with_reducible refine Kd.C_alloc ?_ _) | (with_reducible refine Kd.C_drewN ?_ _) | (with_reducible refine Kd.C_drew ?_))); (case side2 => exact HC0_3.out); rintro e w' ⟨rfl, ⟨nd, rfl⟩⟩)); go_ret; exact ⟨by first | rfl | (simp [errW_none, errW_some] <;> rfl) | (simp [*, errW_none, errW_some] <;> rfl), by repeat (first | (with_reducible first | exact HB.out | apply zza | apply zzb | apply zzc | refine zzd ?_ GE305.out) | exact HB.out)⟩
  ·
   replace c5 := Bool.eq_false_iff.mpr c5; subst c5; have H1 : (some false) = some r := by rw [if_neg (show ¬ (false = true) by decide)] at H; exact H
   clear H; have H := H1; clear H1; obtain rfl := Option.some.inj H; go_enter Try.func78, Try.ntmps78; go_wp2_with (first | ((with_reducible refine gate_dst (N := 1) rfl ?_); refine box_event ?hg (N := 1) ?hd (cs := #[.int .i64 a0_0, .int .i64 a0_1, .bool a0_2, .slice A0_3 l0_3.length c0_3, .bool a0_4, .slice A0_5 l0_5.length c0_5]) (t := 79) ?hr ?_; (case hd => rfl); (case hg => rfl); (case hr => first | (go_simp; done) | (go_simp; rfl)); intro gb305 hg w13 hbox hb; have n0_ := zzm (zzp (by repeat (first | (with_reducible first | exact HB.out | apply zza | apply zzb | apply zzc) | exact HB.out)) hb); have n1_ := zzm (hbox); have n2_ := zzm ((by rw [hg]; exact (zzo (by repeat (first | (with_reducible first | exact HB.out | apply zza | apply zzb | apply zzc) | exact HB.out))) : w.heap.size ≤ gb305)); have n3_ := zzm ((by rw [hg]; exact (zzo (by repeat (first | (with_reducible first | exact HB.out | apply zza | apply zzb | apply zzc) | exact HB.out))) : w.heap.size ≤ gb305)); clear HB; have HB := n0_; have BK305 := n1_; have GW305 := n2_; have GE305 := n3_; clear n0_ n1_ n2_ n3_ hb hbox hg; obtain ⟨hcz14_0, hcz14_1, hcz14_2, hcz14_3, hcz14_4, hcz14_5, hfz14_0, hfz14_1, hfz14_2, hfz14_3, hfz14_4, hfz14_5⟩ := zzc6 BK305.out) | ((with_reducible refine gate_callee (f := 53) rfl ?_); refine goesL_ (some 5) rfl rfl Try.func53 (by kernel_rfl) rfl #[.int .i64 a0_0, .int .i64 0, .int .i64 99999] rfl (by (try simp only [List.map_toArray, List.map_cons, List.map_nil]); first | done | rfl | (simp only [List.length_drop, List.length_take]; rfl)) ?_; (with_reducible refine (spec_l6In.calls a0_0 0 99999 true _ A2.out).mono ?_); rintro e w' ⟨rfl, ⟨nd, rfl⟩⟩; refine ⟨_, rfl, ?_⟩) | (go_at_call 53; (with_reducible refine (spec_l6In.calls a0_1 0 99999 false _ A4.out).mono ?_); rintro e w' ⟨rfl, ⟨nd, rfl⟩⟩)); go_ret; exact ⟨by first | rfl | (simp [errW_none, errW_some] <;> rfl) | (simp [*, errW_none, errW_some] <;> rfl), by repeat (first | (with_reducible first | exact HB.out | apply zza | apply zzb | apply zzc | refine zzd ?_ GE305.out) | exact HB.out)⟩
 ·
  replace c3 := Bool.eq_false_iff.mpr c3; subst c3; have H1 : (some false) = some r := by rw [if_neg (show ¬ (false = true) by decide)] at H; exact H
  clear H; have H := H1; clear H1; obtain rfl := Option.some.inj H; go_enter Try.func78, Try.ntmps78; go_wp2_with (first | ((with_reducible refine gate_dst (N := 1) rfl ?_); refine box_event ?hg (N := 1) ?hd (cs := #[.int .i64 a0_0, .int .i64 a0_1, .bool a0_2, .slice A0_3 l0_3.length c0_3, .bool a0_4, .slice A0_5 l0_5.length c0_5]) (t := 79) ?hr ?_; (case hd => rfl); (case hg => rfl); (case hr => first | (go_simp; done) | (go_simp; rfl)); intro gb305 hg w15 hbox hb; have n0_ := zzm (zzp (by repeat (first | (with_reducible first | exact HB.out | apply zza | apply zzb | apply zzc) | exact HB.out)) hb); have n1_ := zzm (hbox); have n2_ := zzm ((by rw [hg]; exact (zzo (by repeat (first | (with_reducible first | exact HB.out | apply zza | apply zzb | apply zzc) | exact HB.out))) : w.heap.size ≤ gb305)); have n3_ := zzm ((by rw [hg]; exact (zzo (by repeat (first | (with_reducible first | exact HB.out | apply zza | apply zzb | apply zzc) | exact HB.out))) : w.heap.size ≤ gb305)); clear HB; have HB := n0_; have BK305 := n1_; have GW305 := n2_; have GE305 := n3_; clear n0_ n1_ n2_ n3_ hb hbox hg; obtain ⟨hcz16_0, hcz16_1, hcz16_2, hcz16_3, hcz16_4, hcz16_5, hfz16_0, hfz16_1, hfz16_2, hfz16_3, hfz16_4, hfz16_5⟩ := zzc6 BK305.out) | ((with_reducible refine gate_callee (f := 53) rfl ?_); refine goesL_ (some 5) rfl rfl Try.func53 (by kernel_rfl) rfl #[.int .i64 a0_0, .int .i64 0, .int .i64 99999] rfl (by (try simp only [List.map_toArray, List.map_cons, List.map_nil]); first | done | rfl | (simp only [List.length_drop, List.length_take]; rfl)) ?_; (with_reducible refine (spec_l6In.calls a0_0 0 99999 false _ A2.out).mono ?_); rintro e w' ⟨rfl, ⟨nd, rfl⟩⟩; refine ⟨_, rfl, ?_⟩)); go_ret; exact ⟨by first | rfl | (simp [errW_none, errW_some] <;> rfl) | (simp [*, errW_none, errW_some] <;> rfl), by repeat (first | (with_reducible first | exact HB.out | apply zza | apply zzb | apply zzc | refine zzd ?_ GE305.out) | exact HB.out)⟩
end Go.Proofs.Ytkhmopmfbocokaa.T
