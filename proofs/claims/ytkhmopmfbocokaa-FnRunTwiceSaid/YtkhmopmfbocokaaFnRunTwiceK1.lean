/- FnRunTwice, part 2 of 6: merged by wip/tools/pack2.py out of the texts that the row reaches; the pure statement is the session's own. -/
import Derived.Test.YtkhmopmfbocokaaRows
import Derived.JoinedOf
import Derived.KernelRfl
import Derived.Test.YtkhmopmfbocokaaProg
import Derived.Below
import Derived.Deep.Draws
import Derived.Deep.AppendLies
import Derived.Maps.AppendAt
import Derived.OwnWalk
import Derived.Laws.BytesArg
import Derived.Laws.MakeOwn
import Derived.Laws.OwnMore
import Derived.Deep.OwnRows
import Derived.Tactics
import Derived.Lib.ConvBytes
import Derived.Laws.Slices
import Derived.WalkKit
import Derived.RowKit3
import Derived.Deep.LoopGhost
import Derived.Deep.QuietTactic
import Derived.BigQuiet
import Derived.WideLaws
import Derived.Deep.DeepCutAuto
import Derived.Deep.CutBlock
import Derived.Deep.RegionHeld3
import Derived.Laws.Rows
import Derived.Lib.AppendStr
import Derived.ArgAppend
import Derived.Laws.IdiomCopy
import Derived.OrdersHeld
import Derived.Laws.BitsLemmas
import Derived.RowKit
import Derived.Test.YtkhmopmfbocokaaFnRunTwiceK0
open List (setIfInBounds_toArray set_cons_zero set_cons_succ map_toArray map_cons map_nil length_drop length_take)
namespace Go.Proofs.Ytkhmopmfbocokaa.Head
open Go
theorem make_of (P : Program) (w : List Char) (R : List (List Char)) (h : behindMainWord (wordsSigns P.initOrder.toList) = w :: R) (h1 : (w == "gc".toList || w == "spec".toList) = false) (h2 : (w == "cut".toList) = true) : P.make = some .cut := by
 unfold Program.make
 rw [h]
 simp only [h1,h2,Bool.true_or,if_true,Bool.false_eq_true,if_false]
theorem enter_of (P : Program) (w : List Char) (R : List (List Char)) (h : behindMainWord (wordsSigns P.initOrder.toList) = w :: R) (h2 : stripLifts liftWords (w :: R) = ([], w :: R)) (h3 : ((w :: R).head? == some "cut".toList) = true)
  (h4:P.laysLater=false) (h5:P.bearsReflect=false) (h6:P.doorFits []=true):P.mayEnter=true:=by
 unfold Program.mayEnter
 rw [h]
 simp only [h2,h3,h4,h5,h6,List.contains_nil,Bool.not_false,Bool.and_self,Bool.or_true]
theorem lifts_of (P : Program) (w : List Char) (R : List (List Char)) (h : behindMainWord (wordsSigns P.initOrder.toList) = w :: R) (h2 : stripLifts liftWords (w :: R) = ([], w :: R)) (h3 : ((w :: R).head? == some "carried".toList) = false) : P.liftsFinal = false := by
 unfold Program.liftsFinal Program.headLifts
 rw [h]
 simp only [h2,h3,Bool.false_and,Bool.false_or,List.contains_nil,ite_self]
def chs (l:List Nat):List Char:=l.map Char.ofNat
theorem wordsSigns_word:∀ (w r:List Char),(∀ c ∈ w,c ≠ Char.ofNat 32)→wordsSigns (w ++ Char.ofNat 32 :: r)=w :: wordsSigns r
 | [],r,_=>rfl
 | c :: w,r,h=>by
  have ih:=wordsSigns_word w r (fun x hx=>h x (List.mem_cons_of_mem _ hx))
  have hc:c ≠ Char.ofNat 32:=h c List.mem_cons_self
  rw [List.cons_append,wordsSigns,ih]
  exact hc
def word1:List Nat:=[104,97,114,110,101,115,115]
def word2:List Nat:=[48,97,56,50,98,100,48,100,51,54,48,55,49,56,56,54,54,97,100,97,54,49,48,99,52,52,101,50,54,54,49,53,55,54,54,101,56,55,99,101,52,50,99,50,52,52,99,50,51,56,100,97,99,53,52,100,101,55,49,102,97,49,49,56]
def word3:List Nat:=[99,117,116]
def signs:List Nat:=[97,116,32,108,111,111,112,46,101,120,97,109,112,108,101,47,114,101,99,111,114,100,98,97,116,99,104,101,115,47,108,97,119,115,46,70,110,80,114,111,100,117,99,101,114,115,80,97,114,116,32,108,111,111,112,46,101,120,97,109,112,108,101,47,114,101,99,111,114,100,98,97,116,99,104,101,115,47,108,97,119,115,46,70,110,69,120,97,99,116,80,114,111,100,117,99,101,114,115,86,97,108,105,100,32,108,111,111,112,46,101,120,97,109,112,108,101,47,114,101,99,111,114,100,98,97,116,99,104,101,115,47,108,97,119,115,46,70,110,67,104,101,99,107,32,108,111,111,112,46,101,120,97,109,112,108,101,47,114,101,99,111,114,100,98,97,116,99,104,101,115,47,108,97,119,115,46,70,110,67,104,101,99,107,70,114,101,101,32,108,111,111,112,46,101,120,97,109,112,108,101,47,114,101,99,111,114,100,98,97,116,99,104,101,115,47,108,97,119,115,46,70,110,67,104,101,99,107,71,97,112,32,108,111,111,112,46,101,120,97,109,112,108,101,47,114,101,99,111,114,100,98,97,116,99,104,101,115,47,108,97,119,115,46,70,110,67,104,101,99,107,79,108,100,32,108,111,111,112,46,101,120,97,109,112,108,101,47,114,101,99,111,114,100,98,97,116,99,104,101,115,47,108,97,119,115,46,70,110,80,117,116,75,101,101,112,32,108,111,111,112,46,101,120,97,109,112,108,101,47,114,101,99,111,114,100,98,97,116,99,104,101,115,47,108,97,119,115,46,70,110,80,117,116,79,116,104,101,114,115,32,108,111,111,112,46,101,120,97,109,112,108,101,47,114,101,99,111,114,100,98,97,116,99,104,101,115,47,108,97,119,115,46,70,110,80,117,116,70,105,110,101,32,108,111,111,112,46,101,120,97,109,112,108,101,47,114,101,99,111,114,100,98,97,116,99,104,101,115,47,108,97,119,115,46,70,110,80,117,116,78,101,120,116,32,108,111,111,112,46,101,120,97,109,112,108,101,47,114,101,99,111,114,100,98,97,116,99,104,101,115,47,108,97,119,115,46,70,110,69,120,97,99,116,80,114,111,100,117,99,101,114,115,67,104,101,99,107,32,108,111,111,112,46,101,120,97,109,112,108,101,47,114,101,99,111,114,100,98,97,116,99,104,101,115,47,108,97,119,115,46,70,110,82,117,110,80,114,111,100,117,99,101,114,115,32,108,111,111,112,46,101,120,97,109,112,108,101,47,114,101,99,111,114,100,98,97,116,99,104,101,115,47,108,97,119,115,46,70,110,82,117,110,84,119,105,99,101,32,108,111,111,112,46,101,120,97,109,112,108,101,47,114,101,99,111,114,100,98,97,116,99,104,101,115,47,108,97,119,115,46,70,110,69,120,97,99,116,80,114,111,100,117,99,101,114,115,80,117,116,32,108,111,111,112,46,101,120,97,109,112,108,101,47,114,101,99,111,114,100,98,97,116,99,104,101,115,47,108,97,119,115,46,70,110,69,120,97,99,116,80,114,111,100,117,99,101,114,115,82,117,110]
theorem init_is:Try.prog.initOrder=String.ofList (chs word1 ++ Char.ofNat 32 :: (chs word2 ++ Char.ofNat 32 :: (chs word3 ++ Char.ofNat 32 :: chs signs))):=by kernel_rfl
theorem init_words:wordsSigns Try.prog.initOrder.toList=chs word1 :: chs word2 :: chs word3 :: wordsSigns (chs signs):=by
 rw [init_is,String.toList_ofList,wordsSigns_word _ _ (by decide +kernel),wordsSigns_word _ _ (by decide +kernel),wordsSigns_word _ _ (by decide +kernel)]
theorem behind_is:∃ R,behindMainWord (wordsSigns Try.prog.initOrder.toList)=chs word3 :: R:=by
 rw [init_words]
 generalize wordsSigns (chs signs)=R
 exact ⟨R,by kernel_rfl⟩
theorem strip_is (R:List (List Char)):stripLifts liftWords (chs word3 :: R)=([],chs word3 :: R):=by kernel_rfl
theorem make_is:Try.prog.make=some .cut:=by
 obtain ⟨R,h⟩:=behind_is
 exact make_of _ _ R h (by kernel_rfl) (by kernel_rfl)
theorem lays_later:Try.prog.laysLater=false:=by kernel_rfl
theorem bears_reflect:Try.prog.bearsReflect=false:=by kernel_rfl
theorem door_fits:Try.prog.doorFits []=true:=by kernel_rfl
theorem may_enter:Try.prog.mayEnter=true:=by
 obtain ⟨R,h⟩:=behind_is
 exact enter_of _ _ R h (strip_is R) (by kernel_rfl) lays_later bears_reflect door_fits
theorem lifts_final:Try.prog.liftsFinal=false:=by
 obtain ⟨R,h⟩:=behind_is
 exact lifts_of _ _ R h (strip_is R) (by kernel_rfl)
theorem and2 {a b:Bool} (h:a=true) (h2:b=true):(a && b)=true:=by rw [h,h2];rfl
theorem closed_of (P:Program) (f:FuncId) (fn:Func) (s:ChangeSpec) (c:OpenClaim) (k0:(c.wf (OpenSpec.ofChange s))=true) (k1:(laidOutB P)=true) (k2:(mapsRowed P)=true) (k3:(fn.params.all (P.readableRec ·))=true) (k4:(namedTie P c.named s.vars)=true) (k5:((c.stops == []))=true) (k6:((P.stops == []))=true) (k7:((c.knobs == []))=true) (k8:((P.stopKnobs == []))=true) (k9:((c.inPlace == P.inPlace f))=true) (k10:((c.unfollowed == P.unfollowed f))=true) (k11:((c.recurses == P.recurses f))=true) (k12:((c.named == P.varsNamed f))=true) (k13:((c.maps == (fn.params.toList ++ s.plain.varTypes P).any (P.mapsRec ·)))=true) (k14:((c.ifaces == (fn.params.toList ++ s.plain.varTypes P).any (P.ifacesRec ·)))=true) (k15:((c.mapsOut == P.mapsAmong fn.resultTypes.toList))=true) (k16:((c.loops == (fn.params.toList ++ s.plain.varTypes P).any (P.loopsFrom ·)))=true) (k17:((c.wideKeys == (fn.params.toList ++ s.plain.varTypes P ++ fn.resultTypes.toList).any (P.wideKeysFrom ·)))=true) (k18:(s.vars.all (P.varReadable ·))=true) (k19:(fn.resultTypes.all (fun t=>P.readableRec t && decide (t < P.types.size)))=true) (k20:((c.ifacesOut == fn.resultTypes.toList.any (P.ifacesRec ·)))=true) (k21:((c.loopsOut == fn.resultTypes.toList.any (P.loopsFrom ·)))=true) (k22:((c.plainKeys == P.plainKeys))=true) (k23:(c.shortTexts.isNone)=true) (k24:(P.stopsHeard)=true) (k25:(P.mayEnter)=true) (k26:((c.lifted == P.liftsFinal))=true) (k27:((P.make == some c.make))=true) (k28:((c.kinds == (if c.domain.isEmpty then [] else fn.params.toList.map fun t=>match P.underlying t with|some (.int k)=>some k|_=>none)))=true) (k29:((c.pinned == c.pinnedBy))=true) (k30:((c.veiled == (fn.params.toList ++ s.plain.varTypes P ++ fn.resultTypes.toList).any (P.veiledRec ·)))=true) (k31:(c.veiledFits P fn.params.toList (fn.params.toList ++ s.plain.varTypes P ++ fn.resultTypes.toList))=true):joinedFacts P f fn s c=true:=by
 unfold joinedFacts
 exact (and2 (and2 (and2 (and2 (and2 (and2 (and2 (and2 (and2 (and2 (and2 (and2 (and2 (and2 (and2 (and2 (and2 (and2 (and2 (and2 (and2 (and2 (and2 (and2 (and2 (and2 (and2 (and2 (and2 (and2 (and2 k0 k1) k2) k3) k4) k5) k6) k7) k8) k9) k10) k11) k12) k13) k14) k15) k16) k17) k18) k19) k20) k21) k22) k23) k24) k25) k26) k27) k28) k29) k30) k31)
end Go.Proofs.Ytkhmopmfbocokaa.Head
namespace Go.Proofs.Ytkhmopmfbocokaa.T
open Go.RowKit Go.Proofs.YtkhmopmfbocokaaW.PrintWords Go.Proofs.YtkhmopmfbocokaaW.PrintLast Go.Proofs.YtkhmopmfbocokaaW.PrintMore
attribute [local go_sem] max2_int max_two
set_option linter.unusedVariables false
set_option linter.unusedSimpArgs false
def errW:Option Int→Value
 | none=>.nilIface
 | some c=>.iface 0 (.int .i64 c)
theorem errW_none:errW none = .nilIface:=rfl
theorem errW_some (c:Int):errW (some c) = .iface 0 (.int .i64 c):=rfl
theorem info3:(Try.prog.info? 3).map (fun i=>(i.zero,i.size,i.bytes))=some (some (.int .i64 0),1,8):=by kernel_rfl
theorem info5:(Try.prog.info? 5).map (fun i=>(i.zero,i.size,i.bytes))=some (some (.int .u8 0),1,1):=by kernel_rfl
theorem info34:(Try.prog.info? 34).map (fun i=>(i.zero,i.size,i.bytes))=some (some (.agg #[(.bool false),(.bool false),(.int .i64 0),(.int .i64 0),(.int .i64 0),(.slice none 0 0)]),6,56):=by kernel_rfl
theorem info39:(Try.prog.info? 39).map (fun i=>(i.zero,i.size,i.bytes))=some (some (.agg #[(.int .i64 0),(.int .i64 0),(.int .i64 0)]),3,24):=by kernel_rfl
theorem info79:(Try.prog.info? 79).map (fun i=>(i.zero,i.size,i.bytes))=some (some (.agg #[(.int .i64 0),(.int .i64 0),(.bool false),(.slice none 0 0),(.bool false),(.slice none 0 0)]),6,80):=by kernel_rfl
structure S39 where
 f0:Int
 f1:Int
 f2:Int
def z39:S39:=⟨(0:Int),(0:Int),(0:Int)⟩
def k39:Kd S39:=Kd.iso (Kd.pair (Kd.int .i64) (Kd.pair (Kd.int .i64) (Kd.int .i64))) (fun x:S39=>(x.f0,x.f1,x.f2))
theorem k39_open {w:World} {x:S39} {cs:List Value} (h:k39.K w x cs):cs = [.int .i64 x.f0,.int .i64 x.f1,.int .i64 x.f2]:=by
 obtain ⟨_,_,rfl,rfl,⟨_,_,rfl,rfl,rfl⟩⟩:=h
 exact rfl
theorem k39_mkM (w:World) (base:Nat) (ok:Nat→Prop) (x:S39)  : k39.M w base ok x [.int .i64 x.f0,.int .i64 x.f1,.int .i64 x.f2]:=⟨[.int .i64 x.f0],[.int .i64 x.f1,.int .i64 x.f2],rfl,rfl,⟨[.int .i64 x.f1],[.int .i64 x.f2],rfl,rfl,rfl⟩⟩
def rd_T39 (xs:List S39) (i:Int):S39:=xs.getD i.toNat z39
theorem at_T39 {w:World} {A:Option Addr} {n:Nat} {xs:List S39} (h:Kd.C k39 w A n xs) (i:Int) (h0 : 0 ≤ i) (h1:i < n):∃ ad,A=some ad∧w.cell? (ad.add (i.toNat * 3))=some (.int .i64 (rd_T39 xs i).f0)∧w.cell? ⟨(ad.add (i.toNat * 3)).block,(ad.add (i.toNat * 3)).off+1,none⟩=some (.int .i64 (rd_T39 xs i).f1)∧w.cell? ⟨(ad.add (i.toNat * 3)).block,(ad.add (i.toNat * 3)).off+2,none⟩=some (.int .i64 (rd_T39 xs i).f2):=by
 obtain ⟨ad,c,e,_,hK,hc0⟩:=Kd.C_get h z39 i h0 h1
 have hc:∀ j u,c[j]? = some u→w.cell? (ad.add (i.toNat * 3+j))=some u:=hc0
 obtain rfl:=k39_open hK
 exact ⟨ad,e,hc 0 _ rfl,by rw [← add_field _ _ 1 (by omega)];exact hc 1 _ rfl,by rw [← add_field _ _ 2 (by omega)];exact hc 2 _ rfl⟩
structure S79 where
 f0:Int
 f1:Int
 f2:Bool
 f3:(List Int)
 f4:Bool
 f5:(List Int)
def z79:S79:=⟨(0:Int),(0:Int),false,([]:List Int),false,([]:List Int)⟩
def k79:Kd S79:=Kd.iso (Kd.pair (Kd.int .i64) (Kd.pair (Kd.int .i64) (Kd.pair Kd.bool (Kd.pair (Kd.slice 3 (Kd.int .i64)) (Kd.pair Kd.bool (Kd.slice 3 (Kd.int .i64))))))) (fun x:S79=>(x.f0,x.f1,x.f2,x.f3,x.f4,x.f5))
theorem k79_open {w:World} {x:S79} {cs:List Value} (h:k79.K w x cs):∃ A3 c3 A5 c5,cs = [.int .i64 x.f0,.int .i64 x.f1,.bool x.f2,.slice A3 x.f3.length c3,.bool x.f4,.slice A5 x.f5.length c5]∧x.f3.length ≤ c3∧(Kd.int .i64).C w A3 x.f3.length x.f3∧x.f5.length ≤ c5∧(Kd.int .i64).C w A5 x.f5.length x.f5:=by
 obtain ⟨_,_,rfl,rfl,⟨_,_,rfl,rfl,⟨_,_,rfl,rfl,⟨_,_,rfl,⟨A3,c3,rfl,l3,g3⟩,⟨_,_,rfl,rfl,⟨A5,c5,rfl,l5,g5⟩⟩⟩⟩⟩⟩:=h
 exact ⟨A3,c3,A5,c5,rfl,l3,g3,l5,g5⟩
theorem k79_mk (w:World) (x:S79) {A3:Option Addr} {c3:Nat} (l3:x.f3.length ≤ c3) (g3:(Kd.int .i64).C w A3 x.f3.length x.f3) {A5:Option Addr} {c5:Nat} (l5:x.f5.length ≤ c5) (g5:(Kd.int .i64).C w A5 x.f5.length x.f5):k79.K w x [.int .i64 x.f0,.int .i64 x.f1,.bool x.f2,.slice A3 x.f3.length c3,.bool x.f4,.slice A5 x.f5.length c5]:=⟨[.int .i64 x.f0],[.int .i64 x.f1,.bool x.f2,.slice A3 x.f3.length c3,.bool x.f4,.slice A5 x.f5.length c5],rfl,rfl,⟨[.int .i64 x.f1],[.bool x.f2,.slice A3 x.f3.length c3,.bool x.f4,.slice A5 x.f5.length c5],rfl,rfl,⟨[.bool x.f2],[.slice A3 x.f3.length c3,.bool x.f4,.slice A5 x.f5.length c5],rfl,rfl,⟨[.slice A3 x.f3.length c3],[.bool x.f4,.slice A5 x.f5.length c5],rfl,⟨A3,c3,rfl,l3,g3⟩,⟨[.bool x.f4],[.slice A5 x.f5.length c5],rfl,rfl,⟨A5,c5,rfl,l5,g5⟩⟩⟩⟩⟩⟩
theorem k79_mkM (w:World) (base:Nat) (ok:Nat→Prop) (x:S79) {v3:Value} (g3:(Kd.int .i64).R 3 w base ok v3 x.f3) {v5:Value} (g5:(Kd.int .i64).R 3 w base ok v5 x.f5):k79.M w base ok x [.int .i64 x.f0,.int .i64 x.f1,.bool x.f2,v3,.bool x.f4,v5]:=⟨[.int .i64 x.f0],[.int .i64 x.f1,.bool x.f2,v3,.bool x.f4,v5],rfl,rfl,⟨[.int .i64 x.f1],[.bool x.f2,v3,.bool x.f4,v5],rfl,rfl,⟨[.bool x.f2],[v3,.bool x.f4,v5],rfl,rfl,⟨[v3],[.bool x.f4,v5],rfl,⟨v3,rfl,g3⟩,⟨[.bool x.f4],[v5],rfl,rfl,⟨v5,rfl,g5⟩⟩⟩⟩⟩⟩
theorem k79_openF {W:World} {ok:Nat→Prop} {x:S79} {cs:List Value} (h:Kd.FK k79 W ok x cs):∃ A3 c3 A5 c5,cs = [.int .i64 x.f0,.int .i64 x.f1,.bool x.f2,.slice A3 x.f3.length c3,.bool x.f4,.slice A5 x.f5.length c5]∧x.f3.length ≤ c3∧Kd.F (Kd.int .i64) W ok A3 x.f3.length x.f3∧x.f5.length ≤ c5∧Kd.F (Kd.int .i64) W ok A5 x.f5.length x.f5:=by
 obtain ⟨A3,c3,A5,c5,rfl,l3,_,l5,_⟩:=k79_open (Kd.FK_now h)
 exact ⟨A3,c3,A5,c5,rfl,l3,(fun W' hW=>by obtain ⟨A3_,c3_,A5_,c5_,he,l3_,g3_,l5_,g5_⟩:=k79_open (h W' hW);injection (Option.some.inj (show some (Value.slice A3 x.f3.length c3)=some (Value.slice A3_ x.f3.length c3_) from congrArg (fun l=>l[3]?) he)) with ha_ _ _;rw [ha_];exact g3_),l5,(fun W' hW=>by obtain ⟨A3_,c3_,A5_,c5_,he,l3_,g3_,l5_,g5_⟩:=k79_open (h W' hW);injection (Option.some.inj (show some (Value.slice A5 x.f5.length c5)=some (Value.slice A5_ x.f5.length c5_) from congrArg (fun l=>l[5]?) he)) with ha_ _ _;rw [ha_];exact g5_)⟩
theorem k79_mkF (W:World) (ok:Nat→Prop) (x:S79) {A3:Option Addr} {c3:Nat} (l3:x.f3.length ≤ c3) (g3:Kd.F (Kd.int .i64) W ok A3 x.f3.length x.f3) {A5:Option Addr} {c5:Nat} (l5:x.f5.length ≤ c5) (g5:Kd.F (Kd.int .i64) W ok A5 x.f5.length x.f5):Kd.FK k79 W ok x [.int .i64 x.f0,.int .i64 x.f1,.bool x.f2,.slice A3 x.f3.length c3,.bool x.f4,.slice A5 x.f5.length c5]:=fun W2 hW=>k79_mk W2 x l3 (g3 W2 hW) l5 (g5 W2 hW)
def rd_T79 (xs:List S79) (i:Int):S79:=xs.getD i.toNat z79
theorem at_T79 {w:World} {A:Option Addr} {n:Nat} {xs:List S79} (h:Kd.C k79 w A n xs) (i:Int) (h0 : 0 ≤ i) (h1:i < n):∃ ad A3 c3 A5 c5,A=some ad∧w.cell? (ad.add (i.toNat * 6))=some (.int .i64 (rd_T79 xs i).f0)∧w.cell? ⟨(ad.add (i.toNat * 6)).block,(ad.add (i.toNat * 6)).off+1,none⟩=some (.int .i64 (rd_T79 xs i).f1)∧w.cell? ⟨(ad.add (i.toNat * 6)).block,(ad.add (i.toNat * 6)).off+2,none⟩=some (.bool (rd_T79 xs i).f2)∧w.cell? ⟨(ad.add (i.toNat * 6)).block,(ad.add (i.toNat * 6)).off+3,none⟩=some (.slice A3 (rd_T79 xs i).f3.length c3)∧w.cell? ⟨(ad.add (i.toNat * 6)).block,(ad.add (i.toNat * 6)).off+4,none⟩=some (.bool (rd_T79 xs i).f4)∧w.cell? ⟨(ad.add (i.toNat * 6)).block,(ad.add (i.toNat * 6)).off+5,none⟩=some (.slice A5 (rd_T79 xs i).f5.length c5)∧(rd_T79 xs i).f3.length ≤ c3∧(Kd.int .i64).C w A3 (rd_T79 xs i).f3.length (rd_T79 xs i).f3∧(rd_T79 xs i).f5.length ≤ c5∧(Kd.int .i64).C w A5 (rd_T79 xs i).f5.length (rd_T79 xs i).f5:=by
 obtain ⟨ad,c,e,_,hK,hc0⟩:=Kd.C_get h z79 i h0 h1
 have hc:∀ j u,c[j]? = some u→w.cell? (ad.add (i.toNat * 6+j))=some u:=hc0
 obtain ⟨A3,c3,A5,c5,rfl,l3,g3,l5,g5⟩:=k79_open hK
 exact ⟨ad,A3,c3,A5,c5,e,hc 0 _ rfl,by rw [← add_field _ _ 1 (by omega)];exact hc 1 _ rfl,by rw [← add_field _ _ 2 (by omega)];exact hc 2 _ rfl,by rw [← add_field _ _ 3 (by omega)];exact hc 3 _ rfl,by rw [← add_field _ _ 4 (by omega)];exact hc 4 _ rfl,by rw [← add_field _ _ 5 (by omega)];exact hc 5 _ rfl,l3,g3,l5,g5⟩
structure S34 where
 f0:Bool
 f1:Bool
 f2:Int
 f3:Int
 f4:Int
 f5:(List S79)
def z34:S34:=⟨false,false,(0:Int),(0:Int),(0:Int),([]:List S79)⟩
def k34:Kd S34:=Kd.iso (Kd.pair Kd.bool (Kd.pair Kd.bool (Kd.pair (Kd.int .i64) (Kd.pair (Kd.int .i64) (Kd.pair (Kd.int .i64) (Kd.slice 79 k79)))))) (fun x:S34=>(x.f0,x.f1,x.f2,x.f3,x.f4,x.f5))
theorem k34_open {w:World} {x:S34} {cs:List Value} (h:k34.K w x cs):∃ A5 c5,cs = [.bool x.f0,.bool x.f1,.int .i64 x.f2,.int .i64 x.f3,.int .i64 x.f4,.slice A5 x.f5.length c5]∧x.f5.length ≤ c5∧k79.C w A5 x.f5.length x.f5:=by
 obtain ⟨_,_,rfl,rfl,⟨_,_,rfl,rfl,⟨_,_,rfl,rfl,⟨_,_,rfl,rfl,⟨_,_,rfl,rfl,⟨A5,c5,rfl,l5,g5⟩⟩⟩⟩⟩⟩:=h
 exact ⟨A5,c5,rfl,l5,g5⟩
theorem k34_mk (w:World) (x:S34) {A5:Option Addr} {c5:Nat} (l5:x.f5.length ≤ c5) (g5:k79.C w A5 x.f5.length x.f5):k34.K w x [.bool x.f0,.bool x.f1,.int .i64 x.f2,.int .i64 x.f3,.int .i64 x.f4,.slice A5 x.f5.length c5]:=⟨[.bool x.f0],[.bool x.f1,.int .i64 x.f2,.int .i64 x.f3,.int .i64 x.f4,.slice A5 x.f5.length c5],rfl,rfl,⟨[.bool x.f1],[.int .i64 x.f2,.int .i64 x.f3,.int .i64 x.f4,.slice A5 x.f5.length c5],rfl,rfl,⟨[.int .i64 x.f2],[.int .i64 x.f3,.int .i64 x.f4,.slice A5 x.f5.length c5],rfl,rfl,⟨[.int .i64 x.f3],[.int .i64 x.f4,.slice A5 x.f5.length c5],rfl,rfl,⟨[.int .i64 x.f4],[.slice A5 x.f5.length c5],rfl,rfl,⟨A5,c5,rfl,l5,g5⟩⟩⟩⟩⟩⟩
theorem k34_openF {W:World} {ok:Nat→Prop} {x:S34} {cs:List Value} (h:Kd.FK k34 W ok x cs):∃ A5 c5,cs = [.bool x.f0,.bool x.f1,.int .i64 x.f2,.int .i64 x.f3,.int .i64 x.f4,.slice A5 x.f5.length c5]∧x.f5.length ≤ c5∧Kd.F k79 W ok A5 x.f5.length x.f5:=by
 obtain ⟨A5,c5,rfl,l5,_⟩:=k34_open (Kd.FK_now h)
 exact ⟨A5,c5,rfl,l5,(fun W' hW=>by obtain ⟨A5_,c5_,he,l5_,g5_⟩:=k34_open (h W' hW);injection (Option.some.inj (show some (Value.slice A5 x.f5.length c5)=some (Value.slice A5_ x.f5.length c5_) from congrArg (fun l=>l[5]?) he)) with ha_ _ _;rw [ha_];exact g5_)⟩
theorem k34_mkF (W:World) (ok:Nat→Prop) (x:S34) {A5:Option Addr} {c5:Nat} (l5:x.f5.length ≤ c5) (g5:Kd.F k79 W ok A5 x.f5.length x.f5):Kd.FK k34 W ok x [.bool x.f0,.bool x.f1,.int .i64 x.f2,.int .i64 x.f3,.int .i64 x.f4,.slice A5 x.f5.length c5]:=fun W2 hW=>k34_mk W2 x l5 (g5 W2 hW)
def rd_T34 (xs:List S34) (i:Int):S34:=xs.getD i.toNat z34
theorem at_T34 {w:World} {A:Option Addr} {n:Nat} {xs:List S34} (h:Kd.C k34 w A n xs) (i:Int) (h0 : 0 ≤ i) (h1:i < n):∃ ad A5 c5,A=some ad∧w.cell? (ad.add (i.toNat * 6))=some (.bool (rd_T34 xs i).f0)∧w.cell? ⟨(ad.add (i.toNat * 6)).block,(ad.add (i.toNat * 6)).off+1,none⟩=some (.bool (rd_T34 xs i).f1)∧w.cell? ⟨(ad.add (i.toNat * 6)).block,(ad.add (i.toNat * 6)).off+2,none⟩=some (.int .i64 (rd_T34 xs i).f2)∧w.cell? ⟨(ad.add (i.toNat * 6)).block,(ad.add (i.toNat * 6)).off+3,none⟩=some (.int .i64 (rd_T34 xs i).f3)∧w.cell? ⟨(ad.add (i.toNat * 6)).block,(ad.add (i.toNat * 6)).off+4,none⟩=some (.int .i64 (rd_T34 xs i).f4)∧w.cell? ⟨(ad.add (i.toNat * 6)).block,(ad.add (i.toNat * 6)).off+5,none⟩=some (.slice A5 (rd_T34 xs i).f5.length c5)∧(rd_T34 xs i).f5.length ≤ c5∧k79.C w A5 (rd_T34 xs i).f5.length (rd_T34 xs i).f5:=by
 obtain ⟨ad,c,e,_,hK,hc0⟩:=Kd.C_get h z34 i h0 h1
 have hc:∀ j u,c[j]? = some u→w.cell? (ad.add (i.toNat * 6+j))=some u:=hc0
 obtain ⟨A5,c5,rfl,l5,g5⟩:=k34_open hK
 exact ⟨ad,A5,c5,e,hc 0 _ rfl,by rw [← add_field _ _ 1 (by omega)];exact hc 1 _ rfl,by rw [← add_field _ _ 2 (by omega)];exact hc 2 _ rfl,by rw [← add_field _ _ 3 (by omega)];exact hc 3 _ rfl,by rw [← add_field _ _ 4 (by omega)];exact hc 4 _ rfl,by rw [← add_field _ _ 5 (by omega)];exact hc 5 _ rfl,l5,g5⟩
end Go.Proofs.Ytkhmopmfbocokaa.T
namespace Go.Proofs.Ytkhmopmfbocokaa.T
open Go.RowKit Go.Proofs.YtkhmopmfbocokaaW.PrintWords Go.Proofs.YtkhmopmfbocokaaW.PrintLast Go.Proofs.YtkhmopmfbocokaaW.PrintMore
attribute [local go_sem] max2_int max_two
set_option linter.unusedVariables false
set_option linter.unusedSimpArgs false
theorem eqA39 (d:Nat) (w:World) (x0 y0:Int) (x1 y1:Int) (x2 y2:Int) :
  (Op.equalIn (d+2) 39 (.agg #[.int .i64 x0,.int .i64 x1,.int .i64 x2]) (.agg #[.int .i64 y0,.int .i64 y1,.int .i64 y2])).run Try.prog w = .ok (x0 == y0 && (x1 == y1 && (x2 == y2))) w:=by
 refine eqA_of Try.underlying39 (by kernel_rfl) ?_
 refine eqf_cons (by rfl) (by go_simp;rfl) (by go_simp;rfl) (by go_simp) ?_
 refine eqf_cons (by rfl) (by go_simp;rfl) (by go_simp;rfl) (by go_simp) ?_
 exact eqf_last (by rfl) (by go_simp;rfl) (by go_simp;rfl) (by go_simp)
end Go.Proofs.Ytkhmopmfbocokaa.T
namespace Go.Proofs.Ytkhmopmfbocokaa.T
open Go.RowKit Go.Proofs.YtkhmopmfbocokaaW.PrintWords Go.Proofs.YtkhmopmfbocokaaW.PrintLast Go.Proofs.YtkhmopmfbocokaaW.PrintMore
attribute [local go_sem] max2_int max_two
set_option linter.unusedVariables false
set_option linter.unusedSimpArgs false
attribute [local go_sem high] eqA39
def laws_sameProducers.l0:Nat→List (S39)→List (S39)→Int→Option (Bool)
 | 0,_,_,_=>none
 | k+1,x0,x1,x5=>if x5 < (x0.length:Int) then (if 0 ≤ x5 then (if x5 < (x1.length:Int) then (if (!(((rd_T39 x0 x5).f0) == ((rd_T39 x1 x5).f0)) || (!(((rd_T39 x0 x5).f1) == ((rd_T39 x1 x5).f1)) || (!(((rd_T39 x0 x5).f2) == ((rd_T39 x1 x5).f2)))))=true then (some false) else (laws_sameProducers.l0 k x0 x1 (wrap64 (x5+1)))) else (none)) else (none)) else (some true)
def laws_sameProducers.f (k:Nat) (l0:List (S39)) (l1:List (S39)):Option (Bool):=if (l0.length:Int)=(l1.length:Int) then (laws_sameProducers.l0 k l0 l1 0) else (some false)
set_option maxHeartbeats 8000000 in
set_option maxRecDepth 100000 in
theorem laws_sameProducers.calls (k:Nat) (A0:Option Addr) (c0:Nat) (l0:List (S39)) (A1:Option Addr) (c1:Nat) (l1:List (S39)) (r:Bool) (w:World) (hr0:Kd.C k39 w A0 l0.length l0) (hc0:l0.length ≤ c0) (hr1:Kd.C k39 w A1 l1.length l1) (hc1:l1.length ≤ c1) (h:laws_sameProducers.f k l0 l1=some r) :
  Calls Try.prog 31 #[.slice A0 l0.length c0,.slice A1 l1.length c1] w fun e w'=>e = .returned (.bool r)∧Drawn0 w w':=by
 have hu39:=Try.underlying39
 have HR0:=Aside0.mk hr0
 have HC0:=Aside0.mk hc0
 clear hr0 hc0
 have HR1:=Aside0.mk hr1
 have HC1:=Aside0.mk hc1
 clear hr1 hc1
 have H:(if (l0.length:Int)=(l1.length:Int) then (laws_sameProducers.l0 k l0 l1 0) else (some false))=some r:=h
 clear h
 by_cases c3:(l0.length:Int)=(l1.length:Int)
 ·rw [if_pos c3] at H
  have c3b0:((l0.length:Int) == (l1.length:Int))=true:=beq_iff_eq.mpr c3
  have c3b1:((l0.length:Int) != (l1.length:Int))=false:=bne_eq_false_iff_eq.mpr c3
  have c3b2:(l0.length == l1.length)=true:=by first|simpa using c3|(simp at c3 ⊢;omega)
  clear c3
  have H':=Aside0.mk H
  clear H
  go_enter Try.func31,Try.ntmps31
  go_wp2
  repeat (go_quiet (fail);try go_wp2)
  go_loopg [5] k (fun kq v5 w'=>∃ (x5_1:Int),v5 = .int .i64 x5_1∧Aside0 (laws_sameProducers.l0 kq l0 l1 x5_1=some r)∧Aside0 (kq ≤ k)∧Drawn0 w w')
  case atStart=>exact ⟨(0),(by first|rfl|(simp;done)|(simp [*];done)),H',⟨Nat.le_refl _⟩,by repeat (first|exact Drawn0.refl _|apply Drawn0.step)⟩
  case round=>
   clear H'
   try clear c1
   try clear p2
   try clear c3
   try clear c3b0
   try clear c3b1
   try clear c3b2
   obtain ⟨x5_1,rfl,HA,HK1,⟨m1,rfl⟩⟩:=hrel
   cases gk with
   | zero=>exact absurd HA.out (by simp [laws_sameProducers.l0])
   | succ k1=>
    have H:=HA.out
    clear HA
    simp only [laws_sameProducers.l0] at H
    by_cases c4:x5_1 < (l0.length:Int)
    ·rw [if_pos c4] at H
     have c4b0:decide (x5_1 < (l0.length:Int))=true:=decide_eq_true c4
     clear c4
     by_cases c5 : 0 ≤ x5_1
     ·rw [if_pos c5] at H
      have c5b0:decide (0 ≤ x5_1)=true:=decide_eq_true c5
      clear c5
      by_cases c6:x5_1 < (l1.length:Int)
      ·rw [if_pos c6] at H
       have c6b0:decide (x5_1 < (l1.length:Int))=true:=decide_eq_true c6
       clear c6
       by_cases c7:(!(((rd_T39 l0 x5_1).f0) == ((rd_T39 l1 x5_1).f0)) || (!(((rd_T39 l0 x5_1).f1) == ((rd_T39 l1 x5_1).f1)) || (!(((rd_T39 l0 x5_1).f2) == ((rd_T39 l1 x5_1).f2)))))=true
       ·rw [if_pos c7] at H
        have c7b0:(!(((rd_T39 l0 x5_1).f0) == ((rd_T39 l1 x5_1).f0)) || (!(((rd_T39 l0 x5_1).f1) == ((rd_T39 l1 x5_1).f1)) || (!(((rd_T39 l0 x5_1).f2) == ((rd_T39 l1 x5_1).f2)))))=true:=c7
        clear c7
        obtain rfl:=Option.some.inj H
        have p535 : 0 ≤ (x5_1:Int):=of_decide_eq_true (by first|(with_reducible assumption)|assumption)
        have q535:x5_1 < (l0.length:Int):=of_decide_eq_true (by first|(with_reducible assumption)|assumption)
        obtain ⟨ad535,e535,hx535_0,hx535_1,hx535_2⟩:=at_T39 HR0.out x5_1 p535 q535
        cases e535
        replace p535:=eq_true p535
        replace q535:=eq_true q535
        have p536 : 0 ≤ (x5_1:Int):=of_decide_eq_true (by first|(with_reducible assumption)|assumption)
        have q536:x5_1 < (l1.length:Int):=of_decide_eq_true (by first|(with_reducible assumption)|assumption)
        obtain ⟨ad536,e536,hx536_0,hx536_1,hx536_2⟩:=at_T39 HR1.out x5_1 p536 q536
        cases e536
        replace p536:=eq_true p536
        replace q536:=eq_true q536
        go_wp2
        repeat (go_quiet (fail);try go_wp2)
        go_ret
        exact ⟨by first|rfl|(simp;done)|(simp [*];done),by repeat (first|exact Drawn0.refl _|apply Drawn0.step)⟩
       ·rw [if_neg c7] at H
        have c7b0:(!(((rd_T39 l0 x5_1).f0) == ((rd_T39 l1 x5_1).f0)) || (!(((rd_T39 l0 x5_1).f1) == ((rd_T39 l1 x5_1).f1)) || (!(((rd_T39 l0 x5_1).f2) == ((rd_T39 l1 x5_1).f2)))))=false:=by simpa using c7
        clear c7
        have H':=Aside0.mk H
        clear H
        have p535 : 0 ≤ (x5_1:Int):=of_decide_eq_true (by first|(with_reducible assumption)|assumption)
        have q535:x5_1 < (l0.length:Int):=of_decide_eq_true (by first|(with_reducible assumption)|assumption)
        obtain ⟨ad535,e535,hx535_0,hx535_1,hx535_2⟩:=at_T39 HR0.out x5_1 p535 q535
        cases e535
        replace p535:=eq_true p535
        replace q535:=eq_true q535
        have p536 : 0 ≤ (x5_1:Int):=of_decide_eq_true (by first|(with_reducible assumption)|assumption)
        have q536:x5_1 < (l1.length:Int):=of_decide_eq_true (by first|(with_reducible assumption)|assumption)
        obtain ⟨ad536,e536,hx536_0,hx536_1,hx536_2⟩:=at_T39 HR1.out x5_1 p536 q536
        cases e536
        replace p536:=eq_true p536
        replace q536:=eq_true q536
        go_wp2
        repeat (go_quiet (fail);try go_wp2)
        go_roundg k1
        case measure=>have:=HK1.out;omega
        case rel=>exact ⟨(wrap64 (x5_1+1)),(by first|rfl|(simp;done)|(simp [*];done)),H',⟨by have:=HK1.out;omega⟩,by repeat (first|exact Drawn0.refl _|apply Drawn0.step)⟩
      ·rw [if_neg c6] at H
       exact absurd H (by simp)
     ·rw [if_neg c5] at H
      exact absurd H (by simp)
    ·rw [if_neg c4] at H
     have c4b0:decide (x5_1 < (l0.length:Int))=false:=decide_eq_false c4
     clear c4
     obtain rfl:=Option.some.inj H
     go_wp2
     repeat (go_quiet (fail);try go_wp2)
     go_ret
     exact ⟨by first|rfl|(simp;done)|(simp [*];done),by repeat (first|exact Drawn0.refl _|apply Drawn0.step)⟩
 ·rw [if_neg c3] at H
  have c3b0:((l0.length:Int) == (l1.length:Int))=false:=beq_eq_false_iff_ne.mpr c3
  have c3b1:((l0.length:Int) != (l1.length:Int))=true:=bne_iff_ne.mpr c3
  have c3b2:(l0.length == l1.length)=false:=by first|simpa using c3|(simp at c3 ⊢;omega)
  obtain rfl:=Option.some.inj H
  go_enter Try.func31,Try.ntmps31
  go_wp2
  repeat (go_quiet (fail);try go_wp2)
  go_ret
  exact ⟨by first|rfl|(simp;done)|(simp [*];done),by repeat (first|exact Drawn0.refl _|apply Drawn0.step)⟩
end Go.Proofs.Ytkhmopmfbocokaa.T
namespace Go.Proofs.Ytkhmopmfbocokaa.T
open Go.RowKit Go.Proofs.YtkhmopmfbocokaaW.PrintWords Go.Proofs.YtkhmopmfbocokaaW.PrintLast Go.Proofs.YtkhmopmfbocokaaW.PrintMore
attribute [local go_sem] max2_int max_two
set_option linter.unusedVariables false
set_option linter.unusedSimpArgs false
def IsS92 (w0 W:World) (g:Nat) (f0:List Int) (f1:Int):Prop:=∃ A0 c0,W.heap[g]? = some (.cells #[.slice A0 f0.length c0,.int .i64 f1] 92 (0,0))∧w0.heap.size ≤ g∧Kd.C (Kd.int .u8) w0 A0 f0.length f0
theorem IsS92.grown {w0 W:World} {g:Nat} {f0:List Int} {f1:Int} {W1:World} {row:Option Nat} (h:IsS92 w0 W g f0 f1) (hw:W.grownBy W1 row) (hne:some g ≠ row):IsS92 w0 W1 g f0 f1:=by
 obtain ⟨A0,c0,hb,hg,hr0⟩:=h
 exact ⟨A0,c0,blk_grown hb hw hne,hg,hr0⟩
theorem IsS92.own_neN {w0 W:World} {g:Nat} {f0:List Int} {f1:Int} {α:Type} {d:Kd α} {e:Nat} {base:Nat} {ok:Nat→Prop} {v:Value} {xs:List α} (h:IsS92 w0 W g f0 f1) (ho:Kd.N d e W base ok v xs) (ht:e ≠ 92):some g ≠ v.ownBlock:=by
 obtain ⟨A0,c0,hb,hg,hr0⟩:=h
 exact Kd.N_ne ho hb ht
theorem IsS92.fresh {w0 W:World} {g:Nat} {f0:List Int} {f1:Int} (h:IsS92 w0 W g f0 f1):∀ k,W.heap.size ≤ k→k ≠ g:=by
 obtain ⟨A0,c0,hb,hg,hr0⟩:=h
 exact Kd.freshB hb
theorem IsS92.below {w0 W:World} {g:Nat} {f0:List Int} {f1:Int} {W1:World} (h:IsS92 w0 W g f0 f1) (hw:Below W.heap.size W W1):IsS92 w0 W1 g f0 f1:=h.grown (grown_of_below hw none) (by simp)
theorem IsS92.drewN {w0 W:World} {g:Nat} {f0:List Int} {f1:Int} (h:IsS92 w0 W g f0 f1) (m:Nat):IsS92 w0 (W.drewN m) g f0 f1:=h
theorem IsS92.drew {w0 W:World} {g:Nat} {f0:List Int} {f1:Int} (h:IsS92 w0 W g f0 f1):IsS92 w0 W.drew g f0 f1:=h
theorem IsS92.apart {w0 W:World} {g:Nat} {f0:List Int} {f1:Int} {α:Type} {d:Kd α} {e:Nat} {base:Nat} {ok:Nat→Prop} {v:Value} {xs:List α} (h:IsS92 w0 W g f0 f1) (ho:d.R e W base ok v xs) (ht:∀ q,q ∈ e :: d.E→q ≠ 92):d.R e W base (fun k=>ok k∧k ≠ g) v xs:=by
 obtain ⟨A0,c0,hb,hg,hr0⟩:=h
 exact Kd.R_types ho hb ht
theorem IsS92.own_ne {w0 W:World} {g:Nat} {f0:List Int} {f1:Int} {α:Type} {d:Kd α} {e:Nat} {base:Nat} {ok:Nat→Prop} {v:Value} {xs:List α} (h:IsS92 w0 W g f0 f1) (ho:d.R e W base ok v xs) (ht:e ≠ 92):some g ≠ v.ownBlock:=by
 obtain ⟨A0,c0,hb,hg,hr0⟩:=h
 exact Kd.R_ne ho hb ht
theorem IsS92.apartS {w0 W:World} {g:Nat} {f0:List Int} {f1:Int} {α:Type} {d:Kd α} {e:Nat} {base:Nat} {ok:Nat→Prop} {v:Value} {xs:List α} (h:IsS92 w0 W g f0 f1) (ho:d.S e W base ok v xs) (ht:∀ q,q ∈ e :: d.E→q ≠ 92):d.S e W base (fun k=>ok k∧k ≠ g) v xs:=by
 obtain ⟨A0,c0,hb,hg,hr0⟩:=h
 exact Kd.S_types ho hb ht
theorem IsS92.own_neS {w0 W:World} {g:Nat} {f0:List Int} {f1:Int} {α:Type} {d:Kd α} {e:Nat} {base:Nat} {ok:Nat→Prop} {v:Value} {xs:List α} (h:IsS92 w0 W g f0 f1) (ho:d.S e W base ok v xs) (ht:e ≠ 92):some g ≠ v.ownBlock:=by
 obtain ⟨A0,c0,hb,hg,hr0⟩:=h
 exact Kd.S_ne ho hb ht
theorem IsS92.lt {w0 W:World} {g:Nat} {f0:List Int} {f1:Int} (h:IsS92 w0 W g f0 f1):g < W.heap.size:=by
 obtain ⟨A0,c0,hb,hg,hr0⟩:=h
 exact blk_lt hb
theorem IsS92.ge {w0 W:World} {g:Nat} {f0:List Int} {f1:Int} (h:IsS92 w0 W g f0 f1):w0.heap.size ≤ g:=by
 obtain ⟨A0,c0,hb,hg,hr0⟩:=h
 exact hg
theorem IsS92.far {w0 W:World} {g:Nat} {f0:List Int} {f1:Int} {p:Addr} (h:IsS92 w0 W g f0 f1) (hne:g ≠ p.block) (u:Value):IsS92 w0 (W.setCell p u) g f0 f1:=by
 obtain ⟨A0,c0,hb,hg,hr0⟩:=h
 exact ⟨A0,c0,blk_far hb hne u,hg,hr0⟩
theorem cellS92_0 {W:World} {g:Nat} {A0:Option Addr} {c0:Nat} {f0:List Int} {f1:Int} (h:W.heap[g]? = some (.cells #[.slice A0 f0.length c0,.int .i64 f1] 92 (0,0))):W.cell? ⟨g,0,none⟩=some (.slice A0 f0.length c0):=(blk_cell h 0).trans rfl
theorem cellS92_1 {W:World} {g:Nat} {A0:Option Addr} {c0:Nat} {f0:List Int} {f1:Int} (h:W.heap[g]? = some (.cells #[.slice A0 f0.length c0,.int .i64 f1] 92 (0,0))):W.cell? ⟨g,1,none⟩=some (.int .i64 f1):=(blk_cell h 1).trans rfl
theorem IsS92.set_1 {w0 W:World} {g:Nat} {f0:List Int} {f1:Int} (h:IsS92 w0 W g f0 f1) (x:Int):IsS92 w0 (W.setCell ⟨g,1,none⟩ (.int .i64 x)) g f0 x:=by
 obtain ⟨A0,c0,hb,hg,hr0⟩:=h
 exact ⟨A0,c0,by simpa using blk_set hb 1 (.int .i64 x),hg,hr0⟩
def spec_l6Rd_pick.j0:Nat→Int→Bool→List Int→Int→Option (Int × Int)
 | 0,_,_,_,_=>none
 | k+1,x1,x24,x1000,x1001=>if x24=true then (some (0,x1001)) else (if (wrap64 (x1001 - 1)) < (x1000.length:Int) then (if 0 ≤ (wrap64 (x1001 - 1)) then (if x1=0 then (none) else (some (Int.tmod (wrap64 (rd x1000 (wrap64 (x1001 - 1)))) x1,x1001))) else (none)) else (if (x1000.length:Int)=0 then (none) else (if 0 ≤ (Int.tmod (wrap64 (x1001 - 1)) (x1000.length:Int)) then (if (Int.tmod (wrap64 (x1001 - 1)) (x1000.length:Int)) < (x1000.length:Int) then (if 0 ≤ (Int.tmod (wrap64 ((wrap64 ((wrap64 (x1001 - 1)) * 7))+3)) (x1000.length:Int)) then (if (Int.tmod (wrap64 ((wrap64 ((wrap64 (x1001 - 1)) * 7))+3)) (x1000.length:Int)) < (x1000.length:Int) then (if x1=0 then (none) else (some (Int.tmod (Go.bits .xor .i64 (wrap64 ((wrap64 ((wrap64 ((wrap64 ((wrap64 (rd x1000 (Int.tmod (wrap64 (x1001 - 1)) (x1000.length:Int)))) * 131))+(wrap64 ((wrap64 (rd x1000 (Int.tmod (wrap64 ((wrap64 ((wrap64 (x1001 - 1)) * 7))+3)) (x1000.length:Int)))) * 1117))))+(wrap64 ((wrap64 (x1001 - 1)) * 29))))+(wrap64 ((wrap64 (Int.tdiv (wrap64 (x1001 - 1)) (x1000.length:Int))) * 53)))) (wrap64 (Int.tdiv (wrap64 ((wrap64 ((wrap64 ((wrap64 ((wrap64 (rd x1000 (Int.tmod (wrap64 (x1001 - 1)) (x1000.length:Int)))) * 131))+(wrap64 ((wrap64 (rd x1000 (Int.tmod (wrap64 ((wrap64 ((wrap64 (x1001 - 1)) * 7))+3)) (x1000.length:Int)))) * 1117))))+(wrap64 ((wrap64 (x1001 - 1)) * 29))))+(wrap64 ((wrap64 (Int.tdiv (wrap64 (x1001 - 1)) (x1000.length:Int))) * 53)))) 64))) x1,x1001))) else (none)) else (none)) else (none)) else (none))))
def spec_l6Rd_pick.f (k:Nat) (s0_0:List Int) (s0_1:Int) (a1:Int):Option (Int × Int):=if a1 < 1 then (spec_l6Rd_pick.j0 k a1 true s0_0 (wrap64 (s0_1+1))) else (spec_l6Rd_pick.j0 k a1 ((s0_0.length:Int) == 0) s0_0 (wrap64 (s0_1+1)))
set_option maxHeartbeats 8000000 in
set_option maxRecDepth 100000 in
theorem spec_l6Rd_pick.calls (k:Nat) (g:Nat) (s0_0:List Int) (s0_1:Int) (a1:Int) (r1:Int) (r2:Int) (w0 w:World) (hI:IsS92 w0 w g s0_0 s0_1) (hB:Below w0.heap.size w0 w) (h:spec_l6Rd_pick.f k s0_0 s0_1 a1=some (r1,r2)) :
  Calls Try.prog 67 #[.pointer (some ⟨g,0,none⟩),.int .i64 a1] w fun e w'=>e = .returned (.int .i64 r1)∧IsS92 w0 w' g s0_0 r2∧Below w0.heap.size w0 w'∧KeepBut w w' g none:=by
 have HI0:=Aside0.mk hI
 have HK:=Aside0.mk (KeepBut.refl w g none)
 have HL:=Aside0.mk hB.size
 clear hI
 have HW0:=Aside0.mk hB.size
 have HB:=Aside0.mk hB
 clear hB
 have H:(if a1 < 1 then (spec_l6Rd_pick.j0 k a1 true s0_0 (wrap64 (s0_1+1))) else (spec_l6Rd_pick.j0 k a1 ((s0_0.length:Int) == 0) s0_0 (wrap64 (s0_1+1))))=some (r1,r2):=h
 clear h
 have HC3:=Aside0.mk H
 clear H
 obtain ⟨ASz4_0,cSz4_0,HGz4,hgz4,HSz4_0⟩:=HI0.out
 have hcz4_0:=cellS92_0 HGz4
 have hcz4_1:=cellS92_1 HGz4
 have hfz4_1:=blk_frozen HGz4 1
 clear HGz4 hgz4
 go_enter Try.func67,Try.ntmps67
 go_upto_region 2 with (fail)
 repeat (go_quiet (fail);go_upto_region 2 with (fail))
 go_cut [24] (fun v24 wc=>∃ (kq:Nat) (x24_2:Bool),v24 = .bool x24_2∧Aside0 (spec_l6Rd_pick.j0 kq a1 x24_2 s0_0 (wrap64 (s0_1+1))=some (r1,r2))∧Aside0 (kq ≤ k)∧Aside0 (IsS92 w0 wc g s0_0 (wrap64 (s0_1+1)))∧Aside0 (KeepBut w wc g none)∧Aside0 (Below w0.heap.size w0 wc))
 case first=>
  have H:=HC3.out
  clear HC3
  by_cases c5:a1 < 1
  ·rw [if_pos c5] at H
   have c5b0:decide (a1 < 1)=true:=decide_eq_true c5
   clear c5
   (first|rw [c5b0]|(simp only [i64_w,i32_w];rw [c5b0])|skip)
   have H':=Aside0.mk H
   clear H
   go_wp2
   repeat (go_quiet (fail);try go_wp2)
   go_meet
   case rel=>exact ⟨_,(true),(by first|rfl|(simp;done)|(simp [*];done)),H',⟨by first|omega|exact Nat.le_refl _⟩,⟨by repeat (first|(with_reducible first|exact HI0.out|apply IsS92.alloc|apply IsS92.drewN|apply IsS92.drew|apply IsS92.set_1)|exact HI0.out)⟩,⟨by repeat (first|(with_reducible first|exact HK.out|apply KeepBut.set_|apply keep_drewN|apply keep_drew|apply keep_alloc)|exact HK.out)⟩,⟨by repeat (first|(with_reducible first|exact HB.out|apply below_alloc|apply pw_below_drewN|apply below_drew1|refine below_set ?_ (IsS92.ge HI0.out))|exact HB.out)⟩⟩
  ·rw [if_neg c5] at H
   have c5b0:decide (a1 < 1)=false:=decide_eq_false c5
   clear c5
   (first|rw [c5b0]|(simp only [i64_w,i32_w];rw [c5b0])|skip)
   have H':=Aside0.mk H
   clear H
   obtain ⟨ASz6_0,cSz6_0,HGz6,hgz6,HSz6_0⟩:=HI0.out
   have hcz6_0:=cellS92_0 HGz6
   have hcz6_1:=cellS92_1 HGz6
   have hfz6_1:=blk_frozen HGz6 1
   clear HGz6 hgz6
   go_wp2
   repeat (go_quiet (fail);try go_wp2)
   go_meet
   case rel=>exact ⟨_,(((s0_0.length:Int) == 0)),(by first|rfl|(simp;done)|(simp [*];done)),H',⟨by first|omega|exact Nat.le_refl _⟩,⟨by repeat (first|(with_reducible first|exact HI0.out|apply IsS92.alloc|apply IsS92.drewN|apply IsS92.drew|apply IsS92.set_1)|exact HI0.out)⟩,⟨by repeat (first|(with_reducible first|exact HK.out|apply KeepBut.set_|apply keep_drewN|apply keep_drew|apply keep_alloc)|exact HK.out)⟩,⟨by repeat (first|(with_reducible first|exact HB.out|apply below_alloc|apply pw_below_drewN|apply below_drew1|refine below_set ?_ (IsS92.ge HI0.out))|exact HB.out)⟩⟩
 case rest=>
  clear HC3
  try clear p2
  try clear c5
  try clear c5b0
  try clear c6
  try clear p6
  try clear hcz4_0
  try clear hcz4_1
  try clear hcz6_0
  try clear hcz6_1
  try clear hfz4_1
  try clear hfz6_1
  obtain ⟨kq,x24_2,rfl,HA,HJ2,HI0,HK,HB⟩:=hcut
  cases kq with
  | zero=>exact absurd HA.out (by simp [spec_l6Rd_pick.j0])
  | succ kj2=>
   have H:=HA.out
   clear HA
   simp only [spec_l6Rd_pick.j0] at H
   by_cases c7:x24_2=true
   ·subst c7
    have H1:(some (0,(wrap64 (s0_1+1))))=some (r1,r2):=by rw [if_pos rfl] at H;exact H
    clear H
    have H:=H1
    clear H1
    simp only [Option.some.injEq,Prod.mk.injEq] at H
    obtain ⟨rfl,rfl⟩:=H
    go_wp2
    repeat (go_quiet (fail);try go_wp2)
    go_ret
    exact ⟨by first|rfl|(simp [errW_none,errW_some] <;> rfl)|(simp [*,errW_none,errW_some] <;> rfl),by repeat (first|(with_reducible first|exact HI0.out|apply IsS92.alloc|apply IsS92.drewN|apply IsS92.drew|apply IsS92.set_1)|exact HI0.out),by repeat (first|(with_reducible first|exact HB.out|apply below_alloc|apply pw_below_drewN|apply below_drew1|refine below_set ?_ (IsS92.ge HI0.out))|exact HB.out),by repeat (first|(with_reducible first|exact HK.out|apply KeepBut.set_|apply keep_drewN|apply keep_drew|apply keep_alloc)|exact HK.out)⟩
   ·replace c7:=Bool.eq_false_iff.mpr c7
    subst c7
    have H1:(if (wrap64 ((wrap64 (s0_1+1)) - 1)) < (s0_0.length:Int) then (if 0 ≤ (wrap64 ((wrap64 (s0_1+1)) - 1)) then (if a1=0 then (none) else (some (Int.tmod (wrap64 (rd s0_0 (wrap64 ((wrap64 (s0_1+1)) - 1)))) a1,(wrap64 (s0_1+1))))) else (none)) else (if (s0_0.length:Int)=0 then (none) else (if 0 ≤ (Int.tmod (wrap64 ((wrap64 (s0_1+1)) - 1)) (s0_0.length:Int)) then (if (Int.tmod (wrap64 ((wrap64 (s0_1+1)) - 1)) (s0_0.length:Int)) < (s0_0.length:Int) then (if 0 ≤ (Int.tmod (wrap64 ((wrap64 ((wrap64 ((wrap64 (s0_1+1)) - 1)) * 7))+3)) (s0_0.length:Int)) then (if (Int.tmod (wrap64 ((wrap64 ((wrap64 ((wrap64 (s0_1+1)) - 1)) * 7))+3)) (s0_0.length:Int)) < (s0_0.length:Int) then (if a1=0 then (none) else (some (Int.tmod (Go.bits .xor .i64 (wrap64 ((wrap64 ((wrap64 ((wrap64 ((wrap64 (rd s0_0 (Int.tmod (wrap64 ((wrap64 (s0_1+1)) - 1)) (s0_0.length:Int)))) * 131))+(wrap64 ((wrap64 (rd s0_0 (Int.tmod (wrap64 ((wrap64 ((wrap64 ((wrap64 (s0_1+1)) - 1)) * 7))+3)) (s0_0.length:Int)))) * 1117))))+(wrap64 ((wrap64 ((wrap64 (s0_1+1)) - 1)) * 29))))+(wrap64 ((wrap64 (Int.tdiv (wrap64 ((wrap64 (s0_1+1)) - 1)) (s0_0.length:Int))) * 53)))) (wrap64 (Int.tdiv (wrap64 ((wrap64 ((wrap64 ((wrap64 ((wrap64 (rd s0_0 (Int.tmod (wrap64 ((wrap64 (s0_1+1)) - 1)) (s0_0.length:Int)))) * 131))+(wrap64 ((wrap64 (rd s0_0 (Int.tmod (wrap64 ((wrap64 ((wrap64 ((wrap64 (s0_1+1)) - 1)) * 7))+3)) (s0_0.length:Int)))) * 1117))))+(wrap64 ((wrap64 ((wrap64 (s0_1+1)) - 1)) * 29))))+(wrap64 ((wrap64 (Int.tdiv (wrap64 ((wrap64 (s0_1+1)) - 1)) (s0_0.length:Int))) * 53)))) 64))) a1,(wrap64 (s0_1+1))))) else (none)) else (none)) else (none)) else (none))))=some (r1,r2):=by rw [if_neg (show ¬ (false=true) by decide)] at H;exact H
    clear H
    have H:=H1
    clear H1
    by_cases c8:(wrap64 ((wrap64 (s0_1+1)) - 1)) < (s0_0.length:Int)
    ·rw [if_pos c8] at H
     have c8b0:decide ((wrap64 ((wrap64 (s0_1+1)) - 1)) < (s0_0.length:Int))=true:=decide_eq_true c8
     clear c8
     obtain ⟨ji9,hji9⟩:∃ j_:Int,(wrap64 ((wrap64 (s0_1+1)) - 1))=j_:=⟨_,rfl⟩
     replace H:(if 0 ≤ (ji9) then (if a1=0 then (none) else (some (Int.tmod (wrap64 (rd s0_0 (ji9))) a1,(wrap64 (s0_1+1))))) else (none))=some (r1,r2):=by first|(rw [hji9] at H;exact H)|(simp only [hji9] at H ⊢;exact H)
     (try rw [hji9] at c8b0)
     have hji9w:(IntKind.i64.wrap ((wrap64 (s0_1+1)) - 1))=ji9:=(i64_w _).trans hji9
     by_cases c10 : 0 ≤ (ji9)
     ·rw [if_pos c10] at H
      have c10b0:decide (0 ≤ (ji9))=true:=decide_eq_true c10
      clear c10
      by_cases c11:a1=0
      ·rw [if_pos c11] at H
       exact absurd H (by simp)
      ·rw [if_neg c11] at H
       have c11b0:(a1 == 0)=false:=beq_eq_false_iff_ne.mpr c11
       have c11b1:(a1 != 0)=true:=bne_iff_ne.mpr c11
       simp only [Option.some.injEq,Prod.mk.injEq] at H
       obtain ⟨rfl,rfl⟩:=H
       obtain ⟨ASz12_0,cSz12_0,HGz12,hgz12,HSz12_0⟩:=HI0.out
       have hcz12_0:=cellS92_0 HGz12
       have hcz12_1:=cellS92_1 HGz12
       have hfz12_1:=blk_frozen HGz12 1
       clear HGz12 hgz12
       have p101 : 0 ≤ ((ji9):Int):=of_decide_eq_true (by first|(with_reducible assumption)|assumption)
       have q101:(ji9) < (s0_0.length:Int):=of_decide_eq_true (by first|(with_reducible assumption)|assumption)
       obtain ⟨ad101,e101,hx101_0⟩:=Kd.at_int HSz12_0 (ji9) p101 q101
       cases e101
       replace hx101_0:=pw_cell_below HB.out hx101_0
       replace p101:=eq_true p101
       replace q101:=eq_true q101
       go_wp2
       repeat (go_quiet (fail);try go_wp2)
       go_ret
       exact ⟨by first|rfl|(simp [errW_none,errW_some] <;> rfl)|(simp only [← hji9];first|rfl|(simp [errW_none,errW_some] <;> rfl))|(simp [*,errW_none,errW_some] <;> rfl),by repeat (first|(with_reducible first|exact HI0.out|apply IsS92.alloc|apply IsS92.drewN|apply IsS92.drew|apply IsS92.set_1)|exact HI0.out),by repeat (first|(with_reducible first|exact HB.out|apply below_alloc|apply pw_below_drewN|apply below_drew1|refine below_set ?_ (IsS92.ge HI0.out))|exact HB.out),by repeat (first|(with_reducible first|exact HK.out|apply KeepBut.set_|apply keep_drewN|apply keep_drew|apply keep_alloc)|exact HK.out)⟩
     ·rw [if_neg c10] at H
      exact absurd H (by simp)
    ·rw [if_neg c8] at H
     have c8b0:decide ((wrap64 ((wrap64 (s0_1+1)) - 1)) < (s0_0.length:Int))=false:=decide_eq_false c8
     clear c8
     by_cases c13:(s0_0.length:Int)=0
     ·rw [if_pos c13] at H
      exact absurd H (by simp)
     ·rw [if_neg c13] at H
      have c13b0:((s0_0.length:Int) == 0)=false:=beq_eq_false_iff_ne.mpr c13
      have c13b1:((s0_0.length:Int) != 0)=true:=bne_iff_ne.mpr c13
      have c13b2:¬ (s0_0 = []):=fun h_=>c13 (by rw [h_];rfl)
      obtain ⟨ji14,hji14⟩:∃ j_:Int,(Int.tmod (wrap64 ((wrap64 (s0_1+1)) - 1)) (s0_0.length:Int))=j_:=⟨_,rfl⟩
      replace H:(if 0 ≤ (ji14) then (if (ji14) < (s0_0.length:Int) then (if 0 ≤ (Int.tmod (wrap64 ((wrap64 ((wrap64 ((wrap64 (s0_1+1)) - 1)) * 7))+3)) (s0_0.length:Int)) then (if (Int.tmod (wrap64 ((wrap64 ((wrap64 ((wrap64 (s0_1+1)) - 1)) * 7))+3)) (s0_0.length:Int)) < (s0_0.length:Int) then (if a1=0 then (none) else (some (Int.tmod (Go.bits .xor .i64 (wrap64 ((wrap64 ((wrap64 ((wrap64 ((wrap64 (rd s0_0 (ji14))) * 131))+(wrap64 ((wrap64 (rd s0_0 (Int.tmod (wrap64 ((wrap64 ((wrap64 ((wrap64 (s0_1+1)) - 1)) * 7))+3)) (s0_0.length:Int)))) * 1117))))+(wrap64 ((wrap64 ((wrap64 (s0_1+1)) - 1)) * 29))))+(wrap64 ((wrap64 (Int.tdiv (wrap64 ((wrap64 (s0_1+1)) - 1)) (s0_0.length:Int))) * 53)))) (wrap64 (Int.tdiv (wrap64 ((wrap64 ((wrap64 ((wrap64 ((wrap64 (rd s0_0 (ji14))) * 131))+(wrap64 ((wrap64 (rd s0_0 (Int.tmod (wrap64 ((wrap64 ((wrap64 ((wrap64 (s0_1+1)) - 1)) * 7))+3)) (s0_0.length:Int)))) * 1117))))+(wrap64 ((wrap64 ((wrap64 (s0_1+1)) - 1)) * 29))))+(wrap64 ((wrap64 (Int.tdiv (wrap64 ((wrap64 (s0_1+1)) - 1)) (s0_0.length:Int))) * 53)))) 64))) a1,(wrap64 (s0_1+1))))) else (none)) else (none)) else (none)) else (none))=some (r1,r2):=by first|(rw [hji14] at H;exact H)|(simp only [hji14] at H ⊢;exact H)
      by_cases c15 : 0 ≤ (ji14)
      ·rw [if_pos c15] at H
       have c15b0:decide (0 ≤ (ji14))=true:=decide_eq_true c15
       clear c15
       by_cases c16:(ji14) < (s0_0.length:Int)
       ·rw [if_pos c16] at H
        have c16b0:decide ((ji14) < (s0_0.length:Int))=true:=decide_eq_true c16
        clear c16
        obtain ⟨ji17,hji17⟩:∃ j_:Int,(Int.tmod (wrap64 ((wrap64 ((wrap64 ((wrap64 (s0_1+1)) - 1)) * 7))+3)) (s0_0.length:Int))=j_:=⟨_,rfl⟩
        replace H:(if 0 ≤ (ji17) then (if (ji17) < (s0_0.length:Int) then (if a1=0 then (none) else (some (Int.tmod (Go.bits .xor .i64 (wrap64 ((wrap64 ((wrap64 ((wrap64 ((wrap64 (rd s0_0 (ji14))) * 131))+(wrap64 ((wrap64 (rd s0_0 (ji17))) * 1117))))+(wrap64 ((wrap64 ((wrap64 (s0_1+1)) - 1)) * 29))))+(wrap64 ((wrap64 (Int.tdiv (wrap64 ((wrap64 (s0_1+1)) - 1)) (s0_0.length:Int))) * 53)))) (wrap64 (Int.tdiv (wrap64 ((wrap64 ((wrap64 ((wrap64 ((wrap64 (rd s0_0 (ji14))) * 131))+(wrap64 ((wrap64 (rd s0_0 (ji17))) * 1117))))+(wrap64 ((wrap64 ((wrap64 (s0_1+1)) - 1)) * 29))))+(wrap64 ((wrap64 (Int.tdiv (wrap64 ((wrap64 (s0_1+1)) - 1)) (s0_0.length:Int))) * 53)))) 64))) a1,(wrap64 (s0_1+1))))) else (none)) else (none))=some (r1,r2):=by first|(rw [hji17] at H;exact H)|(simp only [hji17] at H ⊢;exact H)
        by_cases c18 : 0 ≤ (ji17)
        ·rw [if_pos c18] at H
         have c18b0:decide (0 ≤ (ji17))=true:=decide_eq_true c18
         clear c18
         by_cases c19:(ji17) < (s0_0.length:Int)
         ·rw [if_pos c19] at H
          have c19b0:decide ((ji17) < (s0_0.length:Int))=true:=decide_eq_true c19
          clear c19
          by_cases c20:a1=0
          ·rw [if_pos c20] at H
           exact absurd H (by simp)
          ·rw [if_neg c20] at H
           have c20b0:(a1 == 0)=false:=beq_eq_false_iff_ne.mpr c20
           have c20b1:(a1 != 0)=true:=bne_iff_ne.mpr c20
           simp only [Option.some.injEq,Prod.mk.injEq] at H
           obtain ⟨rfl,rfl⟩:=H
           obtain ⟨ASz21_0,cSz21_0,HGz21,hgz21,HSz21_0⟩:=HI0.out
           have hcz21_0:=cellS92_0 HGz21
           have hcz21_1:=cellS92_1 HGz21
           have hfz21_1:=blk_frozen HGz21 1
           clear HGz21 hgz21
           have p102 : 0 ≤ ((ji14):Int):=of_decide_eq_true (by first|(with_reducible assumption)|assumption)
           have q102:(ji14) < (s0_0.length:Int):=of_decide_eq_true (by first|(with_reducible assumption)|assumption)
           obtain ⟨ad102,e102,hx102_0⟩:=Kd.at_int HSz21_0 (ji14) p102 q102
           cases e102
           replace hx102_0:=pw_cell_below HB.out hx102_0
           replace p102:=eq_true p102
           replace q102:=eq_true q102
           have p103 : 0 ≤ ((ji17):Int):=of_decide_eq_true (by first|(with_reducible assumption)|assumption)
           have q103:(ji17) < (s0_0.length:Int):=of_decide_eq_true (by first|(with_reducible assumption)|assumption)
           obtain ⟨ad103,e103,hx103_0⟩:=Kd.at_int HSz21_0 (ji17) p103 q103
           obtain rfl:ad102=ad103:=(by injection e103)
           replace hx103_0:=pw_cell_below HB.out hx103_0
           replace p103:=eq_true p103
           replace q103:=eq_true q103
           go_wp2
           repeat (go_quiet (fail);try go_wp2)
           go_ret
           exact ⟨by first|rfl|(simp [errW_none,errW_some] <;> rfl)|(simp only [← hji14,← hji17];first|rfl|(simp [errW_none,errW_some] <;> rfl))|(simp [*,errW_none,errW_some] <;> rfl),by repeat (first|(with_reducible first|exact HI0.out|apply IsS92.alloc|apply IsS92.drewN|apply IsS92.drew|apply IsS92.set_1)|exact HI0.out),by repeat (first|(with_reducible first|exact HB.out|apply below_alloc|apply pw_below_drewN|apply below_drew1|refine below_set ?_ (IsS92.ge HI0.out))|exact HB.out),by repeat (first|(with_reducible first|exact HK.out|apply KeepBut.set_|apply keep_drewN|apply keep_drew|apply keep_alloc)|exact HK.out)⟩
         ·rw [if_neg c19] at H
          exact absurd H (by simp)
        ·rw [if_neg c18] at H
         exact absurd H (by simp)
       ·rw [if_neg c16] at H
        exact absurd H (by simp)
      ·rw [if_neg c15] at H
       exact absurd H (by simp)
end Go.Proofs.Ytkhmopmfbocokaa.T
namespace Go.Proofs.Ytkhmopmfbocokaa.T
open Go.RowKit Go.Proofs.YtkhmopmfbocokaaW.PrintWords Go.Proofs.YtkhmopmfbocokaaW.PrintLast Go.Proofs.YtkhmopmfbocokaaW.PrintMore
attribute [local go_sem] max2_int max_two
set_option linter.unusedVariables false
set_option linter.unusedSimpArgs false
end Go.Proofs.Ytkhmopmfbocokaa.T
namespace Go.Proofs.Ytkhmopmfbocokaa.T
open Go.RowKit Go.Proofs.YtkhmopmfbocokaaW.PrintWords Go.Proofs.YtkhmopmfbocokaaW.PrintLast Go.Proofs.YtkhmopmfbocokaaW.PrintMore
attribute [local go_sem] max2_int max_two
set_option linter.unusedVariables false
set_option linter.unusedSimpArgs false
def spec_l6Open.f (l0:List Int):Option (List Int × Int):=if (l0.length:Int) > 2000 then (if 2000 ≤ (l0.length:Int) then (some (l0.take 2000,0)) else (none)) else (some (l0,0))
set_option maxHeartbeats 8000000 in
set_option maxRecDepth 100000 in
theorem spec_l6Open.calls (A0:Option Addr) (c0:Nat) (l0:List Int) (r1:List Int) (r2:Int) (w0 w:World) (hB:Below w0.heap.size w0 w) (hr0:Kd.C (Kd.int .u8) w0 A0 l0.length l0) (hc0:l0.length ≤ c0) (h:spec_l6Open.f l0=some (r1,r2)) :
  Calls Try.prog 50 #[.slice A0 l0.length c0] w fun e w'=>∃ g_:Nat,e = .returned (.pointer (some ⟨g_,0,none⟩))∧IsS92 w0 w' g_ r1 r2∧Below w0.heap.size w0 w'∧Below w.heap.size w w':=by
 have hu92:=Try.underlying92
 have HR0:=Aside0.mk hr0
 have HC0:=Aside0.mk hc0
 clear hr0 hc0
 have HBW:=Aside0.mk (Below.refl w.heap.size w)
 have HW0:=Aside0.mk hB.size
 have HB:=Aside0.mk hB
 clear hB
 have H:(if (l0.length:Int) > 2000 then (if 2000 ≤ (l0.length:Int) then (some (l0.take 2000,0)) else (none)) else (some (l0,0)))=some (r1,r2):=h
 clear h
 by_cases c2:(l0.length:Int) > 2000
 ·rw [if_pos c2] at H
  have c2b0:decide (2000 < (l0.length:Int))=true:=decide_eq_true c2
  have c2b1:decide (2000 < l0.length)=true:=decide_eq_true (by omega)
  clear c2
  by_cases c3 : 2000 ≤ (l0.length:Int)
  ·rw [if_pos c3] at H
   have c3b0:=eq_true c3
   have c3b1:decide (2000 ≤ (l0.length:Int))=true:=decide_eq_true c3
   clear c3
   simp only [Option.some.injEq,Prod.mk.injEq] at H
   obtain ⟨rfl,rfl⟩:=H
   obtain ⟨i04,hi04,_,hsz4,_⟩:=info_parts info5
   obtain ⟨hcut4,hA4,hC4⟩:=print_take_of (P:=Try.prog) (Value.int .u8) 0 22 5 .i64 Try.underlying22 hi04 hsz4 A0 c0 l0 2000 (by omega) (of_decide_eq_true (by first|(with_reducible assumption)|assumption)) HC0.out
   have HR127:=Aside0.mk (Kd.C_of_reads (h1:=fun _=>rfl) (hA4 _ (Kd.reads_of_C HR0.out)))
   have HC127:=Aside0.mk hC4
   clear hA4 hC4 hi04 hsz4
   go_enter Try.func50,Try.ntmps50
   go_wp2_with (first|((with_reducible refine gate_dst (N:=10) rfl ?_);refine box_event ?hg (N:=10) ?hd (cs:=#[.slice A0 (l0.take 2000).length c0,.int .i64 0]) (t:=92) ?hr ?_;(case hd=>rfl);(case hg=>rfl);(case hr=>first|(go_simp;done)|(go_simp;rfl));intro gb128 hg w5 hbox hb;have n0_:=Aside0.mk (below_step HBW.out hb);have n1_:=Aside0.mk (below_step (by repeat (first|(with_reducible first|exact HB.out|apply below_alloc|apply pw_below_drewN|apply below_drew1)|exact HB.out)) hb);have n2_:=Aside0.mk (hbox);have n3_:=Aside0.mk ((by rw [hg];exact (below_size (by repeat (first|(with_reducible first|exact HBW.out|apply below_alloc|apply pw_below_drewN|apply below_drew1)|exact HBW.out))):w.heap.size ≤ gb128));have n4_:=Aside0.mk ((Nat.le_trans HW0.out (by rw [hg];exact (below_size (by repeat (first|(with_reducible first|exact HBW.out|apply below_alloc|apply pw_below_drewN|apply below_drew1)|exact HBW.out))):w.heap.size ≤ gb128):w0.heap.size ≤ gb128));clear HBW HB;have HBW:=n0_;have HB:=n1_;have BK128:=n2_;have GW128:=n3_;have GE128:=n4_;clear n0_ n1_ n2_ n3_ n4_;clear hb hbox hg))
   go_ret
   exact ⟨_,rfl,(show IsS92 w0 _ gb128 (l0.take 2000) 0 from ⟨_,_,by (with_reducible repeat (first|refine blk_drewN ?_ _|refine blk_drew ?_|refine blk_alloc ?_ _));exact BK128.out,GE128.out,HR127.out⟩),by repeat (first|(with_reducible first|exact HB.out|apply below_alloc|apply pw_below_drewN|apply below_drew1|refine below_set ?_ GE128.out)|exact HB.out),by repeat (first|(with_reducible first|exact HBW.out|apply below_alloc|apply pw_below_drewN|apply below_drew1|refine below_set ?_ GW128.out)|exact HBW.out)⟩
  ·rw [if_neg c3] at H
   exact absurd H (by simp)
 ·rw [if_neg c2] at H
  have c2b0:decide (2000 < (l0.length:Int))=false:=decide_eq_false c2
  have c2b1:decide (2000 < l0.length)=false:=decide_eq_false (by omega)
  clear c2
  simp only [Option.some.injEq,Prod.mk.injEq] at H
  obtain ⟨rfl,rfl⟩:=H
  go_enter Try.func50,Try.ntmps50
  go_wp2_with (first|((with_reducible refine gate_dst (N:=10) rfl ?_);refine box_event ?hg (N:=10) ?hd (cs:=#[.slice A0 l0.length c0,.int .i64 0]) (t:=92) ?hr ?_;(case hd=>rfl);(case hg=>rfl);(case hr=>first|(go_simp;done)|(go_simp;rfl));intro gb129 hg w6 hbox hb;have n0_:=Aside0.mk (below_step HBW.out hb);have n1_:=Aside0.mk (below_step (by repeat (first|(with_reducible first|exact HB.out|apply below_alloc|apply pw_below_drewN|apply below_drew1)|exact HB.out)) hb);have n2_:=Aside0.mk (hbox);have n3_:=Aside0.mk ((by rw [hg];exact (below_size (by repeat (first|(with_reducible first|exact HBW.out|apply below_alloc|apply pw_below_drewN|apply below_drew1)|exact HBW.out))):w.heap.size ≤ gb129));have n4_:=Aside0.mk ((Nat.le_trans HW0.out (by rw [hg];exact (below_size (by repeat (first|(with_reducible first|exact HBW.out|apply below_alloc|apply pw_below_drewN|apply below_drew1)|exact HBW.out))):w.heap.size ≤ gb129):w0.heap.size ≤ gb129));clear HBW HB;have HBW:=n0_;have HB:=n1_;have BK129:=n2_;have GW129:=n3_;have GE129:=n4_;clear n0_ n1_ n2_ n3_ n4_;clear hb hbox hg))
  go_ret
  exact ⟨_,rfl,(show IsS92 w0 _ gb129 l0 0 from ⟨_,_,by (with_reducible repeat (first|refine blk_drewN ?_ _|refine blk_drew ?_|refine blk_alloc ?_ _));exact BK129.out,GE129.out,HR0.out⟩),by repeat (first|(with_reducible first|exact HB.out|apply below_alloc|apply pw_below_drewN|apply below_drew1|refine below_set ?_ GE129.out)|exact HB.out),by repeat (first|(with_reducible first|exact HBW.out|apply below_alloc|apply pw_below_drewN|apply below_drew1|refine below_set ?_ GW129.out)|exact HBW.out)⟩
def impl_within.f (a0:Int) (a1:Int) (a2:Int):Option (Bool):=if a0 ≥ a1 then (some (decide (a0 ≤ a2))) else (some false)
set_option maxHeartbeats 8000000 in
set_option maxRecDepth 100000 in
theorem impl_within.calls (a0:Int) (a1:Int) (a2:Int) (r:Bool) (w:World) (h:impl_within.f a0 a1 a2=some r) :
  Calls Try.prog 52 #[.int .i64 a0,.int .i64 a1,.int .i64 a2] w fun e w'=>e = .returned (.bool r)∧Drawn0 w w':=by
 have H:(if a0 ≥ a1 then (some (decide (a0 ≤ a2))) else (some false))=some r:=h
 clear h
 by_cases c4:a0 ≥ a1
 ·rw [if_pos c4] at H
  have c4b0:decide (a1 ≤ a0)=true:=decide_eq_true c4
  clear c4
  obtain rfl:=Option.some.inj H
  go_enter Try.func52,Try.ntmps52
  go_wp2
  go_ret
  exact ⟨by first|rfl|(simp;done)|(simp [*];done),by repeat (first|exact Drawn0.refl _|apply Drawn0.step)⟩
 ·rw [if_neg c4] at H
  have c4b0:decide (a1 ≤ a0)=false:=decide_eq_false c4
  clear c4
  obtain rfl:=Option.some.inj H
  go_enter Try.func52,Try.ntmps52
  go_wp2
  go_ret
  exact ⟨by first|rfl|(simp;done)|(simp [*];done),by repeat (first|exact Drawn0.refl _|apply Drawn0.step)⟩
def impl_idValid.f (a0:Int):Option (Bool):=(impl_within.f a0 0 254).bind fun t137=>(some t137)
set_option maxHeartbeats 8000000 in
set_option maxRecDepth 100000 in
theorem impl_idValid.calls (a0:Int) (r:Bool) (w:World) (h:impl_idValid.f a0=some r) :
  Calls Try.prog 51 #[.int .i64 a0] w fun e w'=>e = .returned (.bool r)∧Drawn0 w w':=by
 have H:((impl_within.f a0 0 254).bind fun t137=>(some t137))=some r:=h
 clear h
 replace H:=Option.bind_eq_some_iff.mp H
 obtain ⟨t137,A20,H⟩:=H
 replace H:(some t137)=some r:=H
 have A2:=Aside0.mk A20
 clear A20
 obtain rfl:=Option.some.inj H
 go_enter Try.func51,Try.ntmps51
 go_wp2_with (first|((with_reducible refine gate_callee (f:=52) rfl ?_);refine goesL_ (some 4) rfl rfl Try.func52 (by kernel_rfl) rfl #[.int .i64 a0,.int .i64 0,.int .i64 254] rfl (by (try simp only [map_toArray,map_cons,map_nil]);first|done|rfl|(simp only [length_drop,length_take];rfl)) ?_;(with_reducible refine (impl_within.calls a0 0 254 t137 _ A2.out).mono ?_);rintro e w' ⟨rfl,⟨nd,rfl⟩⟩;refine ⟨_,rfl,?_⟩))
 go_ret
 exact ⟨by first|rfl|(simp;done)|(simp [*];done),by repeat (first|exact Drawn0.refl _|apply Drawn0.step)⟩
end Go.Proofs.Ytkhmopmfbocokaa.T
namespace Go.Proofs.Ytkhmopmfbocokaa.T
open Go.RowKit Go.Proofs.YtkhmopmfbocokaaW.PrintWords Go.Proofs.YtkhmopmfbocokaaW.PrintLast Go.Proofs.YtkhmopmfbocokaaW.PrintMore
attribute [local go_sem] max2_int max_two
set_option linter.unusedVariables false
set_option linter.unusedSimpArgs false
mutual
def spec_l91Part.j0:Nat→List Int→Int→List Int→Int→Option (Bool × List Int × Int)
 | 0,_,_,_,_=>none
 | k+1,x4,x5,x1000,x1001=>spec_l91Part.l0 k x4 x5 0 x1000 x1001
def spec_l91Part.l0:Nat→List Int→Int→Int→List Int→Int→Option (Bool × List Int × Int)
 | 0,_,_,_,_,_=>none
 | k+1,x4,x5,x6,x1000,x1001=>if x6 < x5 then ((spec_l6Rd_pick.f k x1000 x1001 256).bind fun bt220=>((some (([1,2,3,bt220.1]:List Int):List Int)).bind fun y222=>((spec_l6Rd_pick.f k x1000 bt220.2 4).bind fun bt225=>(if 0 ≤ bt225.1 then (if bt225.1 < (y222.length:Int) then (if x4.length < 17592186044416 then (spec_l91Part.l0 k (x4 ++ [rd y222 bt225.1]) x5 (wrap64 (x6+1)) x1000 bt225.2) else (none)) else (none)) else (none))))) else (some (true,x4,x1001))
end
def spec_l91Part.f (k:Nat) (s0_0:List Int) (s0_1:Int):Option (Bool × List Int × Int):=(spec_l6Rd_pick.f k s0_0 s0_1 4).bind fun bt208=>(if bt208.1=0 then (some (false,(([]:List Int)),bt208.2)) else ((some (([]:List Int):List Int)).bind fun y213=>((spec_l6Rd_pick.f k s0_0 bt208.2 5).bind fun bt216=>((spec_l6Rd_pick.f k s0_0 bt216.2 12).bind fun bt218=>(if bt218.1=0 then (spec_l91Part.j0 k y213 12 s0_0 bt218.2) else (spec_l91Part.j0 k y213 bt216.1 s0_0 bt218.2))))))
set_option maxHeartbeats 8000000 in
set_option maxRecDepth 100000 in
theorem spec_l91Part.calls (k:Nat) (g:Nat) (s0_0:List Int) (s0_1:Int) (r1:Bool) (r2:List Int) (r3:Int) (w0 w:World) (hI:IsS92 w0 w g s0_0 s0_1) (hB:Below w0.heap.size w0 w) (h:spec_l91Part.f k s0_0 s0_1=some (r1,r2,r3)) :
  Calls Try.prog 82 #[.pointer (some ⟨g,0,none⟩)] w fun e w'=>∃ v1_:Value,e = .returned (.tuple #[.bool r1,v1_])∧Kd.R (Kd.int .i64) 3 w' w.heap.size (fun _=>True) v1_ r2∧IsS92 w0 w' g s0_0 r3∧Below w0.heap.size w0 w'∧KeepBut w w' g none:=by
 have HI0:=Aside0.mk hI
 have HK:=Aside0.mk (KeepBut.refl w g none)
 have HL:=Aside0.mk hB.size
 clear hI
 have HW0:=Aside0.mk hB.size
 have HB:=Aside0.mk hB
 clear hB
 have H:((spec_l6Rd_pick.f k s0_0 s0_1 4).bind fun bt208=>(if bt208.1=0 then (some (false,(([]:List Int)),bt208.2)) else ((some (([]:List Int):List Int)).bind fun y213=>((spec_l6Rd_pick.f k s0_0 bt208.2 5).bind fun bt216=>((spec_l6Rd_pick.f k s0_0 bt216.2 12).bind fun bt218=>(if bt218.1=0 then (spec_l91Part.j0 k y213 12 s0_0 bt218.2) else (spec_l91Part.j0 k y213 bt216.1 s0_0 bt218.2)))))))=some (r1,r2,r3):=h
 clear h
 replace H:=Option.bind_eq_some_iff.mp H
 obtain ⟨⟨t208,t209⟩,A20,H⟩:=H
 replace H:(if t208=0 then (some (false,(([]:List Int)),t209)) else ((some (([]:List Int):List Int)).bind fun y213=>((spec_l6Rd_pick.f k s0_0 t209 5).bind fun bt216=>((spec_l6Rd_pick.f k s0_0 bt216.2 12).bind fun bt218=>(if bt218.1=0 then (spec_l91Part.j0 k y213 12 s0_0 bt218.2) else (spec_l91Part.j0 k y213 bt216.1 s0_0 bt218.2))))))=some (r1,r2,r3):=H
 have A2:=Aside0.mk A20
 clear A20
 by_cases c3:t208=0
 ·rw [if_pos c3] at H
  have c3b0:(t208 == 0)=true:=beq_iff_eq.mpr c3
  have c3b1:(t208 != 0)=false:=bne_eq_false_iff_eq.mpr c3
  clear c3
  obtain ⟨y210,hy210⟩:∃ y_:List Int,y_=(([]:List Int)):=⟨_,rfl⟩
  replace H:(some (false,y210,t209))=some (r1,r2,r3):=by first|(rw [hy210];with_reducible exact H)|(have H2_:=(Option.bind_some _ _).symm.trans H;rw [hy210];with_reducible exact H2_)|(have H2_:=(Option.bind_some _ _).symm.trans H;with_reducible exact H2_)|with_reducible exact H|(rw [hy210];exact H)|exact H
  have Ny210:=Aside0.mk hy210
  clear hy210
  simp only [Option.some.injEq,Prod.mk.injEq] at H
  obtain ⟨rfl,rfl,rfl⟩:=H
  go_enter Try.func82,Try.ntmps82
  go_wp2_with (first|((with_reducible refine gate_callee (f:=67) rfl ?_);refine goesL_ (some 8) rfl rfl Try.func67 (by kernel_rfl) rfl #[.pointer (some ⟨g,0,none⟩),.int .i64 4] rfl (by (try simp only [map_toArray,map_cons,map_nil]);first|done|rfl|(simp only [length_drop,length_take];rfl)) ?_;(with_reducible refine (spec_l6Rd_pick.calls k g s0_0 s0_1 4 t208 t209 w0 _ ?side1 ?side2 A2.out).mono ?_);(case side1=>repeat (first|(with_reducible first|exact HI0.out|apply IsS92.alloc|apply IsS92.drewN|apply IsS92.drew|apply IsS92.set_1)|exact HI0.out));(case side2=>repeat (first|(with_reducible first|exact HB.out|apply below_alloc|apply pw_below_drewN|apply below_drew1|refine below_set ?_ (IsS92.ge HI0.out))|exact HB.out));rintro e w4 ⟨rfl,hi,hb,hk⟩;refine ⟨_,rfl,?_⟩;have n0_:=Aside0.mk (KeepBut.trans (by repeat (first|(with_reducible first|exact HK.out|apply KeepBut.set_|apply keep_drewN|apply keep_drew|apply keep_alloc)|exact HK.out)) hk (.inl rfl));have n1_:=Aside0.mk (hb);have n2_:=Aside0.mk (hi);clear HK HB HI0;have HK:=n0_;have HB:=n1_;have HI0:=n2_;clear n0_ n1_ n2_;(try clear hb);(try clear hb2);(try clear hk);(try clear hi))|((with_reducible refine gate_dst (N:=10) rfl ?_);refine Kd.R_lit (Kd.int .i64) _ 3 ?hg (N:=10) ?hd (xs:=([]:List Int)) (inner:=[]) (ok:=fun _=>True) (okp:=fun _=>True) ?hr ?hp (fun _ hk=>hk) trivial (Below.refl _ _) (Nat.le_refl _) (by simp) ?_;(case hd=>rfl);(case hg=>rfl);(case hr=>first|(go_simp;done)|(go_simp;rfl));(case hp=>exact (Reps.none _ _));intro v211 w5 ho6 hb hg_ hnew_;clear hg_ hnew_;(first|rw [← Ny210.out] at ho6|(simp only [Int.reduceToNat] at ho6;rw [← Ny210.out] at ho6));have n0_:=Aside0.mk (Kd.R_lower ho6 (keep_size (w:=w) (g:=g) (row:=none) (by repeat (first|(with_reducible first|exact HK.out|apply KeepBut.set_|apply keep_drewN|apply keep_drew|apply keep_alloc)|exact HK.out))));have n1_:=Aside0.mk (IsS92.below (by repeat (first|(with_reducible first|exact HI0.out|apply IsS92.alloc|apply IsS92.drewN|apply IsS92.drew|apply IsS92.set_1)|exact HI0.out)) hb);have n2_:=Aside0.mk (KeepBut.trans (by repeat (first|(with_reducible first|exact HK.out|apply KeepBut.set_|apply keep_drewN|apply keep_drew|apply keep_alloc)|exact HK.out)) (KeepBut.of_below hb g none) (.inl rfl));have n3_:=Aside0.mk (below_step (by repeat (first|(with_reducible first|exact HB.out|apply below_alloc|apply pw_below_drewN|apply below_drew1|refine below_set ?_ (IsS92.ge HI0.out))|exact HB.out)) hb);clear HI0 HK HB;have HO212:=n0_;have HI0:=n1_;have HK:=n2_;have HB:=n3_;clear n0_ n1_ n2_ n3_;clear hb ho6))
  go_ret2
  exact ⟨_,by first|rfl|(simp [errW_none,errW_some] <;> rfl)|(simp [*,errW_none,errW_some] <;> rfl),by (with_reducible repeat (first|apply Kd.R_alloc|apply Kd.R_drewN|apply Kd.R_drew));exact HO212.out,by repeat (first|(with_reducible first|exact HI0.out|apply IsS92.alloc|apply IsS92.drewN|apply IsS92.drew|apply IsS92.set_1)|exact HI0.out),by repeat (first|(with_reducible first|exact HB.out|apply below_alloc|apply pw_below_drewN|apply below_drew1|refine below_set ?_ (IsS92.ge HI0.out))|exact HB.out),by repeat (first|(with_reducible first|exact HK.out|apply KeepBut.set_|apply keep_drewN|apply keep_drew|apply keep_alloc)|exact HK.out)⟩
 ·rw [if_neg c3] at H
  have c3b0:(t208 == 0)=false:=beq_eq_false_iff_ne.mpr c3
  have c3b1:(t208 != 0)=true:=bne_iff_ne.mpr c3
  obtain ⟨y213,hy213⟩:∃ y_:List Int,y_=(([]:List Int)):=⟨_,rfl⟩
  replace H:((spec_l6Rd_pick.f k s0_0 t209 5).bind fun bt216=>((spec_l6Rd_pick.f k s0_0 bt216.2 12).bind fun bt218=>(if bt218.1=0 then (spec_l91Part.j0 k y213 12 s0_0 bt218.2) else (spec_l91Part.j0 k y213 bt216.1 s0_0 bt218.2))))=some (r1,r2,r3):=by first|(rw [hy213];with_reducible exact H)|(have H2_:=(Option.bind_some _ _).symm.trans H;rw [hy213];with_reducible exact H2_)|(have H2_:=(Option.bind_some _ _).symm.trans H;with_reducible exact H2_)|with_reducible exact H|(rw [hy213];exact H)|exact H
  have Ny213:=Aside0.mk hy213
  clear hy213
  replace H:=Option.bind_eq_some_iff.mp H
  obtain ⟨⟨t216,t217⟩,A70,H⟩:=H
  replace H:((spec_l6Rd_pick.f k s0_0 t217 12).bind fun bt218=>(if bt218.1=0 then (spec_l91Part.j0 k y213 12 s0_0 bt218.2) else (spec_l91Part.j0 k y213 t216 s0_0 bt218.2)))=some (r1,r2,r3):=H
  have A7:=Aside0.mk A70
  clear A70
  replace H:=Option.bind_eq_some_iff.mp H
  obtain ⟨⟨t218,t219⟩,A80,H⟩:=H
  replace H:(if t218=0 then (spec_l91Part.j0 k y213 12 s0_0 t219) else (spec_l91Part.j0 k y213 t216 s0_0 t219))=some (r1,r2,r3):=H
  have A8:=Aside0.mk A80
  clear A80
  have HC9:=Aside0.mk H
  clear H
  go_enter Try.func82,Try.ntmps82
  go_upto_if 16 with (first|((with_reducible refine gate_callee (f:=67) rfl ?_);refine goesL_ (some 8) rfl rfl Try.func67 (by kernel_rfl) rfl #[.pointer (some ⟨g,0,none⟩),.int .i64 4] rfl (by (try simp only [map_toArray,map_cons,map_nil]);first|done|rfl|(simp only [length_drop,length_take];rfl)) ?_;(with_reducible refine (spec_l6Rd_pick.calls k g s0_0 s0_1 4 t208 t209 w0 _ ?side1 ?side2 A2.out).mono ?_);(case side1=>repeat (first|(with_reducible first|exact HI0.out|apply IsS92.alloc|apply IsS92.drewN|apply IsS92.drew|apply IsS92.set_1)|exact HI0.out));(case side2=>repeat (first|(with_reducible first|exact HB.out|apply below_alloc|apply pw_below_drewN|apply below_drew1|refine below_set ?_ (IsS92.ge HI0.out))|exact HB.out));rintro e w10 ⟨rfl,hi,hb,hk⟩;refine ⟨_,rfl,?_⟩;have n0_:=Aside0.mk (KeepBut.trans (by repeat (first|(with_reducible first|exact HK.out|apply KeepBut.set_|apply keep_drewN|apply keep_drew|apply keep_alloc)|exact HK.out)) hk (.inl rfl));have n1_:=Aside0.mk (hb);have n2_:=Aside0.mk (hi);clear HK HB HI0;have HK:=n0_;have HB:=n1_;have HI0:=n2_;clear n0_ n1_ n2_;(try clear hb);(try clear hb2);(try clear hk);(try clear hi))|((with_reducible refine gate_dst (N:=11) rfl ?_);refine Kd.R_lit (Kd.int .i64) _ 3 ?hg (N:=11) ?hd (xs:=([]:List Int)) (inner:=[]) (ok:=fun _=>True) (okp:=fun _=>True) ?hr ?hp (fun _ hk=>hk) trivial (Below.refl _ _) (Nat.le_refl _) (by simp) ?_;(case hd=>rfl);(case hg=>rfl);(case hr=>first|(go_simp;done)|(go_simp;rfl));(case hp=>exact (Reps.none _ _));intro v214 w11 ho12 hb hg_ hnew_;clear hg_ hnew_;(first|rw [← Ny213.out] at ho12|(simp only [Int.reduceToNat] at ho12;rw [← Ny213.out] at ho12));have n0_:=Aside0.mk (Kd.R_lower ho12 (keep_size (w:=w) (g:=g) (row:=none) (by repeat (first|(with_reducible first|exact HK.out|apply KeepBut.set_|apply keep_drewN|apply keep_drew|apply keep_alloc)|exact HK.out))));have n1_:=Aside0.mk (IsS92.below (by repeat (first|(with_reducible first|exact HI0.out|apply IsS92.alloc|apply IsS92.drewN|apply IsS92.drew|apply IsS92.set_1)|exact HI0.out)) hb);have n2_:=Aside0.mk (KeepBut.trans (by repeat (first|(with_reducible first|exact HK.out|apply KeepBut.set_|apply keep_drewN|apply keep_drew|apply keep_alloc)|exact HK.out)) (KeepBut.of_below hb g none) (.inl rfl));have n3_:=Aside0.mk (below_step (by repeat (first|(with_reducible first|exact HB.out|apply below_alloc|apply pw_below_drewN|apply below_drew1|refine below_set ?_ (IsS92.ge HI0.out))|exact HB.out)) hb);clear HI0 HK HB;have HO215:=n0_;have HI0:=n1_;have HK:=n2_;have HB:=n3_;clear n0_ n1_ n2_ n3_;clear hb ho12)|((with_reducible refine gate_callee (f:=67) rfl ?_);refine goesL_ (some 13) rfl rfl Try.func67 (by kernel_rfl) rfl #[.pointer (some ⟨g,0,none⟩),.int .i64 5] rfl (by (try simp only [map_toArray,map_cons,map_nil]);first|done|rfl|(simp only [length_drop,length_take];rfl)) ?_;(with_reducible refine (spec_l6Rd_pick.calls k g s0_0 t209 5 t216 t217 w0 _ ?side1 ?side2 A7.out).mono ?_);(case side1=>repeat (first|(with_reducible first|exact HI0.out|apply IsS92.alloc|apply IsS92.drewN|apply IsS92.drew|apply IsS92.set_1)|exact HI0.out));(case side2=>repeat (first|(with_reducible first|exact HB.out|apply below_alloc|apply pw_below_drewN|apply below_drew1|refine below_set ?_ (IsS92.ge HI0.out))|exact HB.out));rintro e w13 ⟨rfl,hi,hb,hk⟩;refine ⟨_,rfl,?_⟩;have n0_:=Aside0.mk (Kd.R_mono (Kd.R_keep (IsS92.apart (show IsS92 w0 _ g s0_0 t209 from by repeat (first|(with_reducible first|exact HI0.out|apply IsS92.alloc|apply IsS92.drewN|apply IsS92.drew|apply IsS92.set_1)|exact HI0.out)) (by (with_reducible repeat (first|apply Kd.R_alloc|apply Kd.R_drewN|apply Kd.R_drew));exact HO215.out) (by decide)) hk (fun _ h=>h.2)) (fun _ h=>h.1));have n1_:=Aside0.mk (KeepBut.trans (by repeat (first|(with_reducible first|exact HK.out|apply KeepBut.set_|apply keep_drewN|apply keep_drew|apply keep_alloc)|exact HK.out)) hk (.inl rfl));have n2_:=Aside0.mk (hb);have n3_:=Aside0.mk (hi);clear HO215 HK HB HI0;have HO215:=n0_;have HK:=n1_;have HB:=n2_;have HI0:=n3_;clear n0_ n1_ n2_ n3_;(try clear hb);(try clear hb2);(try clear hk);(try clear hi))|((with_reducible refine gate_callee (f:=67) rfl ?_);refine goesL_ (some 15) rfl rfl Try.func67 (by kernel_rfl) rfl #[.pointer (some ⟨g,0,none⟩),.int .i64 12] rfl (by (try simp only [map_toArray,map_cons,map_nil]);first|done|rfl|(simp only [length_drop,length_take];rfl)) ?_;(with_reducible refine (spec_l6Rd_pick.calls k g s0_0 t217 12 t218 t219 w0 _ ?side1 ?side2 A8.out).mono ?_);(case side1=>repeat (first|(with_reducible first|exact HI0.out|apply IsS92.alloc|apply IsS92.drewN|apply IsS92.drew|apply IsS92.set_1)|exact HI0.out));(case side2=>repeat (first|(with_reducible first|exact HB.out|apply below_alloc|apply pw_below_drewN|apply below_drew1|refine below_set ?_ (IsS92.ge HI0.out))|exact HB.out));rintro e w14 ⟨rfl,hi,hb,hk⟩;refine ⟨_,rfl,?_⟩;have n0_:=Aside0.mk (Kd.R_mono (Kd.R_keep (IsS92.apart (show IsS92 w0 _ g s0_0 t217 from by repeat (first|(with_reducible first|exact HI0.out|apply IsS92.alloc|apply IsS92.drewN|apply IsS92.drew|apply IsS92.set_1)|exact HI0.out)) (by (with_reducible repeat (first|apply Kd.R_alloc|apply Kd.R_drewN|apply Kd.R_drew));exact HO215.out) (by decide)) hk (fun _ h=>h.2)) (fun _ h=>h.1));have n1_:=Aside0.mk (KeepBut.trans (by repeat (first|(with_reducible first|exact HK.out|apply KeepBut.set_|apply keep_drewN|apply keep_drew|apply keep_alloc)|exact HK.out)) hk (.inl rfl));have n2_:=Aside0.mk (hb);have n3_:=Aside0.mk (hi);clear HO215 HK HB HI0;have HO215:=n0_;have HK:=n1_;have HB:=n2_;have HI0:=n3_;clear n0_ n1_ n2_ n3_;(try clear hb);(try clear hb2);(try clear hk);(try clear hi)))
  (try simp only [Act.put,setIfInBounds_toArray,set_cons_zero,set_cons_succ])
  go_cut [5] (fun v5 wc=>∃ (kq:Nat) (x5_8:Int),v5 = .int .i64 x5_8∧Aside0 (spec_l91Part.j0 kq y213 x5_8 s0_0 t219=some (r1,r2,r3))∧Aside0 (kq ≤ k)∧Aside0 (Kd.R (Kd.int .i64) 3 wc w.heap.size (fun _=>True) v214 y213)∧Aside0 (IsS92 w0 wc g s0_0 t219)∧Aside0 (KeepBut w wc g none)∧Aside0 (Below w0.heap.size w0 wc))
  case first=>
   have H:=HC9.out
   clear HC9
   by_cases c15:t218=0
   ·rw [if_pos c15] at H
    have c15b0:(t218 == 0)=true:=beq_iff_eq.mpr c15
    have c15b1:(t218 != 0)=false:=bne_eq_false_iff_eq.mpr c15
    clear c15
    (first|rw [c15b0]|(simp only [i64_w,i32_w];rw [c15b0])|skip)
    have H':=Aside0.mk H
    clear H
    go_wp2
    go_meet
    case rel=>exact ⟨_,(12),(by first|rfl|(simp;done)|(simp [*];done)),H',⟨by first|omega|exact Nat.le_refl _⟩,⟨by (with_reducible repeat (first|apply Kd.R_alloc|apply Kd.R_drewN|apply Kd.R_drew));exact HO215.out⟩,⟨by repeat (first|(with_reducible first|exact HI0.out|apply IsS92.alloc|apply IsS92.drewN|apply IsS92.drew|apply IsS92.set_1)|exact HI0.out)⟩,⟨by repeat (first|(with_reducible first|exact HK.out|apply KeepBut.set_|apply keep_drewN|apply keep_drew|apply keep_alloc)|exact HK.out)⟩,⟨by repeat (first|(with_reducible first|exact HB.out|apply below_alloc|apply pw_below_drewN|apply below_drew1|refine below_set ?_ (IsS92.ge HI0.out))|exact HB.out)⟩⟩
   ·rw [if_neg c15] at H
    have c15b0:(t218 == 0)=false:=beq_eq_false_iff_ne.mpr c15
    have c15b1:(t218 != 0)=true:=bne_iff_ne.mpr c15
    (first|rw [c15b0]|(simp only [i64_w,i32_w];rw [c15b0])|skip)
    have H':=Aside0.mk H
    clear H
    go_wp2
    go_meet
    case rel=>exact ⟨_,(t216),(by first|rfl|(simp;done)|(simp [*];done)),H',⟨by first|omega|exact Nat.le_refl _⟩,⟨by (with_reducible repeat (first|apply Kd.R_alloc|apply Kd.R_drewN|apply Kd.R_drew));exact HO215.out⟩,⟨by repeat (first|(with_reducible first|exact HI0.out|apply IsS92.alloc|apply IsS92.drewN|apply IsS92.drew|apply IsS92.set_1)|exact HI0.out)⟩,⟨by repeat (first|(with_reducible first|exact HK.out|apply KeepBut.set_|apply keep_drewN|apply keep_drew|apply keep_alloc)|exact HK.out)⟩,⟨by repeat (first|(with_reducible first|exact HB.out|apply below_alloc|apply pw_below_drewN|apply below_drew1|refine below_set ?_ (IsS92.ge HI0.out))|exact HB.out)⟩⟩
  case rest=>
   clear HC9
   try clear c1
   try clear p2
   try clear c3
   try clear c3b0
   try clear c3b1
   try clear c6
   try clear c8
   try clear c15
   try clear c15b0
   try clear c15b1
   obtain ⟨kq,x5_8,rfl,HA,HJ8,HO_4,HI0,HK,HB⟩:=hcut
   cases kq with
   | zero=>exact absurd HA.out (by simp [spec_l91Part.j0])
   | succ kj8=>
    have H:=HA.out
    clear HA
    simp only [spec_l91Part.j0] at H
    have H':=Aside0.mk H
    clear H
    go_wp2
    go_loopg [4,6] kj8 (fun kq v4 v6 w'=>∃ (x4_2:List Int) (x6_2:Int) (x1001_2:Int),v6 = .int .i64 x6_2∧Aside0 (spec_l91Part.l0 kq x4_2 x5_8 x6_2 s0_0 x1001_2=some (r1,r2,r3))∧Aside0 (kq ≤ kj8)∧Aside0 (Kd.R (Kd.int .i64) 3 w' w.heap.size (fun _=>True) v4 x4_2)∧Aside0 (IsS92 w0 w' g s0_0 x1001_2)∧Aside0 (KeepBut w w' g none)∧Aside0 (Below w0.heap.size w0 w'))
    case atStart=>exact ⟨(y213),(0),(t219),(by first|rfl|(simp;done)|(simp [*];done)),H',⟨Nat.le_refl _⟩,⟨by (with_reducible repeat (first|apply Kd.R_alloc|apply Kd.R_drewN|apply Kd.R_drew));exact HO_4.out⟩,⟨by repeat (first|(with_reducible first|exact HI0.out|apply IsS92.alloc|apply IsS92.drewN|apply IsS92.drew|apply IsS92.set_1)|exact HI0.out)⟩,⟨by repeat (first|(with_reducible first|exact HK.out|apply KeepBut.set_|apply keep_drewN|apply keep_drew|apply keep_alloc)|exact HK.out)⟩,⟨by repeat (first|(with_reducible first|exact HB.out|apply below_alloc|apply pw_below_drewN|apply below_drew1|refine below_set ?_ (IsS92.ge HI0.out))|exact HB.out)⟩⟩
    case round=>
     clear H'
     try clear c1
     try clear p2
     try clear c3
     try clear c3b0
     try clear c3b1
     try clear c6
     try clear c8
     try clear c15
     try clear c15b0
     try clear c15b1
     try clear p2
     obtain ⟨x4_2,x6_2,x1001_2,rfl,HA,HK2,HO_4,HI0,HK,HB⟩:=hrel
     cases gk with
     | zero=>exact absurd HA.out (by simp [spec_l91Part.l0])
     | succ k2=>
      have H:=HA.out
      clear HA
      simp only [spec_l91Part.l0] at H
      by_cases c16:x6_2 < x5_8
      ·rw [if_pos c16] at H
       have c16b0:decide (x6_2 < x5_8)=true:=decide_eq_true c16
       clear c16
       replace H:=Option.bind_eq_some_iff.mp H
       obtain ⟨⟨t220,t221⟩,A170,H⟩:=H
       replace H:((some (([1,2,3,t220]:List Int):List Int)).bind fun y222=>((spec_l6Rd_pick.f k2 s0_0 t221 4).bind fun bt225=>(if 0 ≤ bt225.1 then (if bt225.1 < (y222.length:Int) then (if x4_2.length < 17592186044416 then (spec_l91Part.l0 k2 (x4_2 ++ [rd y222 bt225.1]) x5_8 (wrap64 (x6_2+1)) s0_0 bt225.2) else (none)) else (none)) else (none))))=some (r1,r2,r3):=H
       have A17:=Aside0.mk A170
       clear A170
       obtain ⟨y222,hy222⟩:∃ y_:List Int,y_=(([1,2,3,t220]:List Int)):=⟨_,rfl⟩
       replace H:((spec_l6Rd_pick.f k2 s0_0 t221 4).bind fun bt225=>(if 0 ≤ bt225.1 then (if bt225.1 < (y222.length:Int) then (if x4_2.length < 17592186044416 then (spec_l91Part.l0 k2 (x4_2 ++ [rd y222 bt225.1]) x5_8 (wrap64 (x6_2+1)) s0_0 bt225.2) else (none)) else (none)) else (none)))=some (r1,r2,r3):=by first|(rw [hy222];with_reducible exact H)|(have H2_:=(Option.bind_some _ _).symm.trans H;rw [hy222];with_reducible exact H2_)|(have H2_:=(Option.bind_some _ _).symm.trans H;with_reducible exact H2_)|with_reducible exact H|(rw [hy222];exact H)|exact H
       have Ny222:=Aside0.mk hy222
       clear hy222
       replace H:=Option.bind_eq_some_iff.mp H
       obtain ⟨⟨t225,t226⟩,A180,H⟩:=H
       replace H:(if 0 ≤ t225 then (if t225 < (y222.length:Int) then (if x4_2.length < 17592186044416 then (spec_l91Part.l0 k2 (x4_2 ++ [rd y222 t225]) x5_8 (wrap64 (x6_2+1)) s0_0 t226) else (none)) else (none)) else (none))=some (r1,r2,r3):=H
       have A18:=Aside0.mk A180
       clear A180
       by_cases c19 : 0 ≤ t225
       ·rw [if_pos c19] at H
        have c19b0:decide (0 ≤ t225)=true:=decide_eq_true c19
        clear c19
        by_cases c20:t225 < (y222.length:Int)
        ·rw [if_pos c20] at H
         have c20b0:decide (t225 < (y222.length:Int))=true:=decide_eq_true c20
         clear c20
         by_cases c21:x4_2.length < 17592186044416
         ·rw [if_pos c21] at H
          have LMc21:=Aside0.mk c21
          clear c21
          obtain ⟨y228,hy228⟩:∃ y_:List Int,y_=(x4_2 ++ [rd y222 t225]):=⟨_,rfl⟩
          replace H:(spec_l91Part.l0 k2 y228 x5_8 (wrap64 (x6_2+1)) s0_0 t226)=some (r1,r2,r3):=by first|(rw [hy228];with_reducible exact H)|(have H2_:=(Option.bind_some _ _).symm.trans H;rw [hy228];with_reducible exact H2_)|(have H2_:=(Option.bind_some _ _).symm.trans H;with_reducible exact H2_)|with_reducible exact H|(rw [hy228];exact H)|exact H
          have Ny228:=Aside0.mk hy228
          clear hy228
          have H':=Aside0.mk H
          clear H
          go_wp2_with (first|((with_reducible refine gate_callee (f:=67) rfl ?_);refine goesL_ (some 24) rfl rfl Try.func67 (by kernel_rfl) rfl #[.pointer (some ⟨g,0,none⟩),.int .i64 256] rfl (by (try simp only [map_toArray,map_cons,map_nil]);first|done|rfl|(simp only [length_drop,length_take];rfl)) ?_;(with_reducible refine (spec_l6Rd_pick.calls k2 g s0_0 x1001_2 256 t220 t221 w0 _ ?side1 ?side2 A17.out).mono ?_);(case side1=>repeat (first|(with_reducible first|exact HI0.out|apply IsS92.alloc|apply IsS92.drewN|apply IsS92.drew|apply IsS92.set_1)|exact HI0.out));(case side2=>repeat (first|(with_reducible first|exact HB.out|apply below_alloc|apply pw_below_drewN|apply below_drew1|refine below_set ?_ (IsS92.ge HI0.out))|exact HB.out));rintro e w22 ⟨rfl,hi,hb,hk⟩;refine ⟨_,rfl,?_⟩;have n0_:=Aside0.mk (Kd.R_mono (Kd.R_keep (IsS92.apart (show IsS92 w0 _ g s0_0 x1001_2 from by repeat (first|(with_reducible first|exact HI0.out|apply IsS92.alloc|apply IsS92.drewN|apply IsS92.drew|apply IsS92.set_1)|exact HI0.out)) (by (with_reducible repeat (first|apply Kd.R_alloc|apply Kd.R_drewN|apply Kd.R_drew));exact HO_4.out) (by decide)) hk (fun _ h=>h.2)) (fun _ h=>h.1));have n1_:=Aside0.mk (KeepBut.trans (by repeat (first|(with_reducible first|exact HK.out|apply KeepBut.set_|apply keep_drewN|apply keep_drew|apply keep_alloc)|exact HK.out)) hk (.inl rfl));have n2_:=Aside0.mk (hb);have n3_:=Aside0.mk (hi);clear HO_4 HK HB HI0;have HO_4:=n0_;have HK:=n1_;have HB:=n2_;have HI0:=n3_;clear n0_ n1_ n2_ n3_;(try clear hb);(try clear hb2);(try clear hk);(try clear hi))|((with_reducible refine gate_dst (N:=25) rfl ?_);refine Kd.R_lit (Kd.int .i64) _ 3 ?hg (N:=25) ?hd (xs:=([1,2,3,t220]:List Int)) (inner:=[.int .i64 1,.int .i64 2,.int .i64 3,.int .i64 t220]) (ok:=fun _=>True) (okp:=fun _=>True) ?hr ?hp (fun _ hk=>hk) trivial (Below.refl _ _) (Nat.le_refl _) (by simp) ?_;(case hd=>rfl);(case hg=>rfl);(case hr=>first|(go_simp;done)|(go_simp;rfl));(case hp=>exact (Reps.one (show Kd.M (Kd.int .i64) _ _ _ 1 [.int .i64 1] from rfl) (Reps.one (show Kd.M (Kd.int .i64) _ _ _ 2 [.int .i64 2] from rfl) (Reps.one (show Kd.M (Kd.int .i64) _ _ _ 3 [.int .i64 3] from rfl) (Reps.one (show Kd.M (Kd.int .i64) _ _ _ t220 [.int .i64 t220] from rfl) (Reps.none _ _))))));intro v223 w23 ho24 hb hg_ hnew_;clear hg_ hnew_;(first|rw [← Ny222.out] at ho24|(simp only [Int.reduceToNat] at ho24;rw [← Ny222.out] at ho24));have n0_:=Aside0.mk (Kd.R_elder' (by (with_reducible repeat (first|apply Kd.R_alloc|apply Kd.R_drewN|apply Kd.R_drew));exact HO_4.out) (Kd.R_base ho24) hb);have n1_:=Aside0.mk (Kd.R_lower (Kd.R_new' ho24 (Kd.R_lt (by (with_reducible repeat (first|apply Kd.R_alloc|apply Kd.R_drewN|apply Kd.R_drew));exact HO_4.out))) (keep_size (w:=w) (g:=g) (row:=none) (by repeat (first|(with_reducible first|exact HK.out|apply KeepBut.set_|apply keep_drewN|apply keep_drew|apply keep_alloc)|exact HK.out))));have n2_:=Aside0.mk (IsS92.below (by repeat (first|(with_reducible first|exact HI0.out|apply IsS92.alloc|apply IsS92.drewN|apply IsS92.drew|apply IsS92.set_1)|exact HI0.out)) hb);have n3_:=Aside0.mk (KeepBut.trans (by repeat (first|(with_reducible first|exact HK.out|apply KeepBut.set_|apply keep_drewN|apply keep_drew|apply keep_alloc)|exact HK.out)) (KeepBut.of_below hb g none) (.inl rfl));have n4_:=Aside0.mk (below_step (by repeat (first|(with_reducible first|exact HB.out|apply below_alloc|apply pw_below_drewN|apply below_drew1|refine below_set ?_ (IsS92.ge HI0.out))|exact HB.out)) hb);clear HO_4 HI0 HK HB;have HO_4:=n0_;have HO224:=n1_;have HI0:=n2_;have HK:=n3_;have HB:=n4_;clear n0_ n1_ n2_ n3_ n4_;clear hb ho24)|((with_reducible refine gate_callee (f:=67) rfl ?_);refine goesL_ (some 27) rfl rfl Try.func67 (by kernel_rfl) rfl #[.pointer (some ⟨g,0,none⟩),.int .i64 4] rfl (by (try simp only [map_toArray,map_cons,map_nil]);first|done|rfl|(simp only [length_drop,length_take];rfl)) ?_;(with_reducible refine (spec_l6Rd_pick.calls k2 g s0_0 t221 4 t225 t226 w0 _ ?side1 ?side2 A18.out).mono ?_);(case side1=>repeat (first|(with_reducible first|exact HI0.out|apply IsS92.alloc|apply IsS92.drewN|apply IsS92.drew|apply IsS92.set_1)|exact HI0.out));(case side2=>repeat (first|(with_reducible first|exact HB.out|apply below_alloc|apply pw_below_drewN|apply below_drew1|refine below_set ?_ (IsS92.ge HI0.out))|exact HB.out));rintro e w25 ⟨rfl,hi,hb,hk⟩;refine ⟨_,rfl,?_⟩;have n0_:=Aside0.mk (Kd.R_mono (Kd.R_keep (IsS92.apart (show IsS92 w0 _ g s0_0 t221 from by repeat (first|(with_reducible first|exact HI0.out|apply IsS92.alloc|apply IsS92.drewN|apply IsS92.drew|apply IsS92.set_1)|exact HI0.out)) (by (with_reducible repeat (first|apply Kd.R_alloc|apply Kd.R_drewN|apply Kd.R_drew));exact HO_4.out) (by decide)) hk (fun _ h=>h.2)) (fun _ h=>h.1));have n1_:=Aside0.mk (Kd.R_mono (Kd.R_keep (IsS92.apart (show IsS92 w0 _ g s0_0 t221 from by repeat (first|(with_reducible first|exact HI0.out|apply IsS92.alloc|apply IsS92.drewN|apply IsS92.drew|apply IsS92.set_1)|exact HI0.out)) (by (with_reducible repeat (first|apply Kd.R_alloc|apply Kd.R_drewN|apply Kd.R_drew));exact HO224.out) (by decide)) hk (fun _ h=>h.2)) (fun _ h=>h.1));have n2_:=Aside0.mk (KeepBut.trans (by repeat (first|(with_reducible first|exact HK.out|apply KeepBut.set_|apply keep_drewN|apply keep_drew|apply keep_alloc)|exact HK.out)) hk (.inl rfl));have n3_:=Aside0.mk (hb);have n4_:=Aside0.mk (hi);clear HO_4 HO224 HK HB HI0;have HO_4:=n0_;have HO224:=n1_;have HK:=n2_;have HB:=n3_;have HI0:=n4_;clear n0_ n1_ n2_ n3_ n4_;(try clear hb);(try clear hb2);(try clear hk);(try clear hi);obtain ⟨Ao26,co26,eo26⟩:=Kd.R_slice HO224.out;subst eo26;have p227 : 0 ≤ (t225:Int):=of_decide_eq_true (by first|(with_reducible assumption)|assumption);have q227:t225 < (y222.length:Int):=of_decide_eq_true (by first|(with_reducible assumption)|assumption);obtain ⟨ad227,e227,hx227_0⟩:=Kd.at_int (Kd.R_reads' HO224.out).2.2 t225 p227 q227;cases e227;replace p227:=eq_true p227;replace q227:=eq_true q227)|((with_reducible refine gate_builtin (b:=.append) (xs:=#[.tmp 22,.tmp 30]) rfl ?_);at_builtin;refine Kd.R_append (Kd.int .i64) w.heap.size rfl (.tmp 22) (.tmp 30) 53 3 (.int .i64 0) 8 rfl Try.underlying53 info3 rfl (by decide) (by omega) u4 x4_2 (rd y222 t225) [.int .i64 (rd y222 t225)] (fun k_=>some k_ ≠ (.slice (some ad227) y222.length co26:Value).ownBlock) (fun _=>False) rfl rfl ?aP (fun _ hk=>hk.elim) ?aF ?aO (Below.refl _ _) ?aS ?aL ?_;(case aP=>exact rfl);(case aF=>exact (fun k_ hk=>Kd.fresh' (Kd.R_lt (by (with_reducible repeat (first|apply Kd.R_alloc|apply Kd.R_drewN|apply Kd.R_drew));exact HO224.out)) k_ hk));(case aO=>exact (by (with_reducible repeat (first|apply Kd.R_alloc|apply Kd.R_drewN|apply Kd.R_drew));exact Kd.R_mono HO_4.out (fun _ hk=>hk.2)));(case aS=>exact (keep_size (w:=w) (g:=g) (row:=none) (by repeat (first|(with_reducible first|exact HK.out|apply KeepBut.set_|apply keep_drewN|apply keep_drew|apply keep_alloc)|exact HK.out))));(case aL=>have:=LMc21.out;omega);intro v229 w27 ho hb hg hat;rw [← Ny228.out] at ho;have n0_:=Aside0.mk (IsS92.grown (by repeat (first|(with_reducible first|exact HI0.out|apply IsS92.alloc|apply IsS92.drewN|apply IsS92.drew|apply IsS92.set_1)|exact HI0.out)) hg (IsS92.own_ne HI0.out HO_4.out (by decide)));have n1_:=Aside0.mk (Kd.R_after (ok:=(fun _=>True)) (by (with_reducible repeat (first|apply Kd.R_alloc|apply Kd.R_drewN|apply Kd.R_drew));exact HO224.out) hg hat);have n2_:=Aside0.mk (below_weaken (by repeat (first|(with_reducible first|exact HB.out|apply below_alloc|apply pw_below_drewN|apply below_drew1|refine below_set ?_ (IsS92.ge HI0.out))|exact HB.out)) HL.out hb);have n3_:=Aside0.mk (KeepBut.trans (by repeat (first|(with_reducible first|exact HK.out|apply KeepBut.set_|apply keep_drewN|apply keep_drew|apply keep_alloc)|exact HK.out)) (KeepBut.of_grown hg g) (Kd.R_base2 HO_4.out));have n4_:=Aside0.mk (ho);clear HI0 HO224 HB HK HO_4;have HI0:=n0_;have HO224:=n1_;have HB:=n2_;have HK:=n3_;have HO230:=n4_;clear n0_ n1_ n2_ n3_ n4_;clear ho hb hg hat))
          go_roundg k2
          case measure=>have:=HJ8.out;have:=HK2.out;omega
          case rel=>exact ⟨(y228),(wrap64 (x6_2+1)),(t226),(by first|rfl|(simp;done)|(simp [*];done)),H',⟨by have:=HJ8.out;have:=HK2.out;omega⟩,⟨by (with_reducible repeat (first|apply Kd.R_alloc|apply Kd.R_drewN|apply Kd.R_drew));exact Kd.R_mono HO230.out (fun _ hk=>trivial)⟩,⟨by repeat (first|(with_reducible first|exact HI0.out|apply IsS92.alloc|apply IsS92.drewN|apply IsS92.drew|apply IsS92.set_1)|exact HI0.out)⟩,⟨by repeat (first|(with_reducible first|exact HK.out|apply KeepBut.set_|apply keep_drewN|apply keep_drew|apply keep_alloc)|exact HK.out)⟩,⟨by repeat (first|(with_reducible first|exact HB.out|apply below_alloc|apply pw_below_drewN|apply below_drew1|refine below_set ?_ (IsS92.ge HI0.out))|exact HB.out)⟩⟩
         ·rw [if_neg c21] at H
          exact absurd H (by simp)
        ·rw [if_neg c20] at H
         exact absurd H (by simp)
       ·rw [if_neg c19] at H
        exact absurd H (by simp)
      ·rw [if_neg c16] at H
       have c16b0:decide (x6_2 < x5_8)=false:=decide_eq_false c16
       clear c16
       simp only [Option.some.injEq,Prod.mk.injEq] at H
       obtain ⟨rfl,rfl,rfl⟩:=H
       go_wp2
       go_ret2
       exact ⟨_,by first|rfl|(simp [errW_none,errW_some] <;> rfl)|(simp [*,errW_none,errW_some] <;> rfl),by (with_reducible repeat (first|apply Kd.R_alloc|apply Kd.R_drewN|apply Kd.R_drew));exact HO_4.out,by repeat (first|(with_reducible first|exact HI0.out|apply IsS92.alloc|apply IsS92.drewN|apply IsS92.drew|apply IsS92.set_1)|exact HI0.out),by repeat (first|(with_reducible first|exact HB.out|apply below_alloc|apply pw_below_drewN|apply below_drew1|refine below_set ?_ (IsS92.ge HI0.out))|exact HB.out),by repeat (first|(with_reducible first|exact HK.out|apply KeepBut.set_|apply keep_drewN|apply keep_drew|apply keep_alloc)|exact HK.out)⟩
end Go.Proofs.Ytkhmopmfbocokaa.T
namespace Go.Proofs.Ytkhmopmfbocokaa.T
open Go.RowKit Go.Proofs.YtkhmopmfbocokaaW.PrintWords Go.Proofs.YtkhmopmfbocokaaW.PrintLast Go.Proofs.YtkhmopmfbocokaaW.PrintMore
attribute [local go_sem] max2_int max_two
set_option linter.unusedVariables false
set_option linter.unusedSimpArgs false
mutual
def spec_l91Records.l0:Nat→Int→List (S79)→Int→Int→Int→List Int→Int→Option ((List (S79)) × Int)
 | 0,_,_,_,_,_,_,_=>none
 | k+1,x1,x7,x8,x9,x10,x1000,x1001=>if x10 < x8 then ((spec_l91Part.f k x1000 x1001).bind fun bt239=>((spec_l91Part.f k x1000 bt239.2.2).bind fun bt244=>(if bt239.1=true then ((spec_l6Rd_pick.f k x1000 bt244.2.2 2).bind fun bt249=>(spec_l91Records.j1 k x1 x7 x8 x9 x10 bt244.1 bt244.2.1 (bt249.1 == 0) x1000 bt249.2 x1 x9 bt239.1 bt239.2.1 false)) else (spec_l91Records.j1 k x1 x7 x8 x9 x10 bt244.1 bt244.2.1 false x1000 bt244.2.2 x1 x9 bt239.1 bt239.2.1 false)))) else (some (x7,x1001))
def spec_l91Records.j1:Nat→Int→List (S79)→Int→Int→Int→Bool→List Int→Bool→List Int→Int→Int→Int→Bool→List Int→Bool→Option ((List (S79)) × Int)
 | 0,_,_,_,_,_,_,_,_,_,_,_,_,_,_,_=>none
 | k+1,x1,x7,x8,x9,x10,x14,x15,x50,x1000,x1001,x239000,x239001,x239002,x239003,x239004=>if x50=true then ((spec_l6Rd_pick.f k x1000 x1001 3).bind fun bt251=>(if x7.length < 1759218604441 then ((spec_l6Rd_pick.f k x1000 bt251.2 5).bind fun bt259=>((spec_l6Rd_pick.f k x1000 bt259.2 30).bind fun bt261=>(spec_l91Records.l0 k (wrap64 ((wrap64 (x1+1))+(wrap64 (Int.tdiv bt259.1 4)))) (x7 ++ [(⟨x239000,x239001,x239002,(([bt251.1]:List Int)),x14,x15⟩:S79)]) x8 (mx (wrap64 ((wrap64 (x9+bt261.1)) - 6)) 0) (wrap64 (x10+1)) x1000 bt261.2))) else (none))) else (if x7.length < 1759218604441 then ((spec_l6Rd_pick.f k x1000 x1001 5).bind fun bt266=>((spec_l6Rd_pick.f k x1000 bt266.2 30).bind fun bt268=>(spec_l91Records.l0 k (wrap64 ((wrap64 (x1+1))+(wrap64 (Int.tdiv bt266.1 4)))) (x7 ++ [(⟨x239000,x239001,x239002,x239003,x14,x15⟩:S79)]) x8 (mx (wrap64 ((wrap64 (x9+bt268.1)) - 6)) 0) (wrap64 (x10+1)) x1000 bt268.2))) else (none))
end
def spec_l91Records.f (k:Nat) (s0_0:List Int) (s0_1:Int) (a1:Int) (a2:Int):Option ((List (S79)) × Int):=(spec_l6Rd_pick.f k s0_0 s0_1 a2).bind fun bt234=>((spec_l6Rd_pick.f k s0_0 bt234.2 200).bind fun bt236=>(spec_l91Records.l0 k a1 (([]:List (S79))) (wrap64 (1+bt234.1)) bt236.1 0 s0_0 bt236.2))
set_option maxHeartbeats 8000000 in
set_option maxRecDepth 100000 in
theorem spec_l91Records.calls (k:Nat) (g:Nat) (s0_0:List Int) (s0_1:Int) (a1:Int) (a2:Int) (r1:List (S79)) (r2:Int) (w0 w:World) (hI:IsS92 w0 w g s0_0 s0_1) (hB:Below w0.heap.size w0 w) (h:spec_l91Records.f k s0_0 s0_1 a1 a2=some (r1,r2)) :
  Calls Try.prog 77 #[.pointer (some ⟨g,0,none⟩),.int .i64 a1,.int .i64 a2] w fun e w'=>∃ v0_:Value,e = .returned (v0_)∧Kd.S k79 79 w' w.heap.size (fun _=>True) v0_ r1∧IsS92 w0 w' g s0_0 r2∧Below w0.heap.size w0 w'∧KeepBut w w' g none:=by
 have hu79:=Try.underlying79
 have HI0:=Aside0.mk hI
 have HK:=Aside0.mk (KeepBut.refl w g none)
 have HL:=Aside0.mk hB.size
 clear hI
 have HW0:=Aside0.mk hB.size
 have HB:=Aside0.mk hB
 clear hB
 have H:((spec_l6Rd_pick.f k s0_0 s0_1 a2).bind fun bt234=>((spec_l6Rd_pick.f k s0_0 bt234.2 200).bind fun bt236=>(spec_l91Records.l0 k a1 (([]:List (S79))) (wrap64 (1+bt234.1)) bt236.1 0 s0_0 bt236.2)))=some (r1,r2):=h
 clear h
 obtain ⟨y231,hy231⟩:∃ y_:List (S79),y_=(([]:List (S79))):=⟨_,rfl⟩
 replace H:((spec_l6Rd_pick.f k s0_0 s0_1 a2).bind fun bt234=>((spec_l6Rd_pick.f k s0_0 bt234.2 200).bind fun bt236=>(spec_l91Records.l0 k a1 y231 (wrap64 (1+bt234.1)) bt236.1 0 s0_0 bt236.2)))=some (r1,r2):=by first|(rw [hy231];with_reducible exact H)|(have H2_:=(Option.bind_some _ _).symm.trans H;rw [hy231];with_reducible exact H2_)|(have H2_:=(Option.bind_some _ _).symm.trans H;with_reducible exact H2_)|with_reducible exact H|(rw [hy231];exact H)|exact H
 have Ny231:=Aside0.mk hy231
 clear hy231
 replace H:=Option.bind_eq_some_iff.mp H
 obtain ⟨⟨t234,t235⟩,A40,H⟩:=H
 replace H:((spec_l6Rd_pick.f k s0_0 t235 200).bind fun bt236=>(spec_l91Records.l0 k a1 y231 (wrap64 (1+t234)) bt236.1 0 s0_0 bt236.2))=some (r1,r2):=H
 have A4:=Aside0.mk A40
 clear A40
 replace H:=Option.bind_eq_some_iff.mp H
 obtain ⟨⟨t236,t237⟩,A50,H⟩:=H
 replace H:(spec_l91Records.l0 k a1 y231 (wrap64 (1+t234)) t236 0 s0_0 t237)=some (r1,r2):=H
 have A5:=Aside0.mk A50
 clear A50
 have H':=Aside0.mk H
 clear H
 go_enter Try.func77,Try.ntmps77
 go_wp2_with (first|((with_reducible refine gate_dst (N:=16) rfl ?_);refine Kd.S_lit k79 _ 79 ?hg (N:=16) ?hd (xs:=([]:List (S79))) (inner:=[]) (ok:=fun _=>True) (okp:=fun _=>True) ?hr ?hp (fun _ hk=>hk) trivial (Below.refl _ _) (Nat.le_refl _) (by simp) ?_;(case hd=>rfl);(case hg=>rfl);(case hr=>first|(go_simp;done)|(go_simp;rfl));(case hp=>exact (Reps.none _ _));intro v232 w6 ho7 hb hg_ hnew_;clear hg_ hnew_;(first|rw [← Ny231.out] at ho7|(simp only [Int.reduceToNat] at ho7;rw [← Ny231.out] at ho7));have n0_:=Aside0.mk (Kd.S_lower ho7 (keep_size (w:=w) (g:=g) (row:=none) (by repeat (first|(with_reducible first|exact HK.out|apply KeepBut.set_|apply keep_drewN|apply keep_drew|apply keep_alloc)|exact HK.out))));have n1_:=Aside0.mk (IsS92.below (by repeat (first|(with_reducible first|exact HI0.out|apply IsS92.alloc|apply IsS92.drewN|apply IsS92.drew|apply IsS92.set_1)|exact HI0.out)) hb);have n2_:=Aside0.mk (KeepBut.trans (by repeat (first|(with_reducible first|exact HK.out|apply KeepBut.set_|apply keep_drewN|apply keep_drew|apply keep_alloc)|exact HK.out)) (KeepBut.of_below hb g none) (.inl rfl));have n3_:=Aside0.mk (below_step (by repeat (first|(with_reducible first|exact HB.out|apply below_alloc|apply pw_below_drewN|apply below_drew1|refine below_set ?_ (IsS92.ge HI0.out))|exact HB.out)) hb);clear HI0 HK HB;have HO233:=n0_;have HI0:=n1_;have HK:=n2_;have HB:=n3_;clear n0_ n1_ n2_ n3_;clear hb ho7)|((with_reducible refine gate_callee (f:=67) rfl ?_);refine goesL_ (some 19) rfl rfl Try.func67 (by kernel_rfl) rfl #[.pointer (some ⟨g,0,none⟩),.int .i64 a2] rfl (by (try simp only [map_toArray,map_cons,map_nil]);first|done|rfl|(simp only [length_drop,length_take];rfl)) ?_;(with_reducible refine (spec_l6Rd_pick.calls k g s0_0 s0_1 a2 t234 t235 w0 _ ?side1 ?side2 A4.out).mono ?_);(case side1=>repeat (first|(with_reducible first|exact HI0.out|apply IsS92.alloc|apply IsS92.drewN|apply IsS92.drew|apply IsS92.set_1)|exact HI0.out));(case side2=>repeat (first|(with_reducible first|exact HB.out|apply below_alloc|apply pw_below_drewN|apply below_drew1|refine below_set ?_ (IsS92.ge HI0.out))|exact HB.out));rintro e w8 ⟨rfl,hi,hb,hk⟩;refine ⟨_,rfl,?_⟩;have n0_:=Aside0.mk (Kd.S_mono (Kd.S_keep (IsS92.apartS (show IsS92 w0 _ g s0_0 s0_1 from by repeat (first|(with_reducible first|exact HI0.out|apply IsS92.alloc|apply IsS92.drewN|apply IsS92.drew|apply IsS92.set_1)|exact HI0.out)) (by (with_reducible repeat (first|apply Kd.S_alloc|apply Kd.S_drewN|apply Kd.S_drew));exact HO233.out) (by decide)) hk (fun _ h=>h.2)) (fun _ h=>h.1));have n1_:=Aside0.mk (KeepBut.trans (by repeat (first|(with_reducible first|exact HK.out|apply KeepBut.set_|apply keep_drewN|apply keep_drew|apply keep_alloc)|exact HK.out)) hk (.inl rfl));have n2_:=Aside0.mk (hb);have n3_:=Aside0.mk (hi);clear HO233 HK HB HI0;have HO233:=n0_;have HK:=n1_;have HB:=n2_;have HI0:=n3_;clear n0_ n1_ n2_ n3_;(try clear hb);(try clear hb2);(try clear hk);(try clear hi))|((with_reducible refine gate_callee (f:=67) rfl ?_);refine goesL_ (some 22) rfl rfl Try.func67 (by kernel_rfl) rfl #[.pointer (some ⟨g,0,none⟩),.int .i64 200] rfl (by (try simp only [map_toArray,map_cons,map_nil]);first|done|rfl|(simp only [length_drop,length_take];rfl)) ?_;(with_reducible refine (spec_l6Rd_pick.calls k g s0_0 t235 200 t236 t237 w0 _ ?side1 ?side2 A5.out).mono ?_);(case side1=>repeat (first|(with_reducible first|exact HI0.out|apply IsS92.alloc|apply IsS92.drewN|apply IsS92.drew|apply IsS92.set_1)|exact HI0.out));(case side2=>repeat (first|(with_reducible first|exact HB.out|apply below_alloc|apply pw_below_drewN|apply below_drew1|refine below_set ?_ (IsS92.ge HI0.out))|exact HB.out));rintro e w9 ⟨rfl,hi,hb,hk⟩;refine ⟨_,rfl,?_⟩;have n0_:=Aside0.mk (Kd.S_mono (Kd.S_keep (IsS92.apartS (show IsS92 w0 _ g s0_0 t235 from by repeat (first|(with_reducible first|exact HI0.out|apply IsS92.alloc|apply IsS92.drewN|apply IsS92.drew|apply IsS92.set_1)|exact HI0.out)) (by (with_reducible repeat (first|apply Kd.S_alloc|apply Kd.S_drewN|apply Kd.S_drew));exact HO233.out) (by decide)) hk (fun _ h=>h.2)) (fun _ h=>h.1));have n1_:=Aside0.mk (KeepBut.trans (by repeat (first|(with_reducible first|exact HK.out|apply KeepBut.set_|apply keep_drewN|apply keep_drew|apply keep_alloc)|exact HK.out)) hk (.inl rfl));have n2_:=Aside0.mk (hb);have n3_:=Aside0.mk (hi);clear HO233 HK HB HI0;have HO233:=n0_;have HK:=n1_;have HB:=n2_;have HI0:=n3_;clear n0_ n1_ n2_ n3_;(try clear hb);(try clear hb2);(try clear hk);(try clear hi)))
 go_loopg [1,7,9,10] k (fun kq v1 v7 v9 v10 w'=>∃ (x1_1:Int) (x7_1:List (S79)) (x9_1:Int) (x10_1:Int) (x1001_1:Int),v1 = .int .i64 x1_1∧v9 = .int .i64 x9_1∧v10 = .int .i64 x10_1∧Aside0 (spec_l91Records.l0 kq x1_1 x7_1 (wrap64 (1+t234)) x9_1 x10_1 s0_0 x1001_1=some (r1,r2))∧Aside0 (kq ≤ k)∧Aside0 (Kd.S k79 79 w' w.heap.size (fun _=>True) v7 x7_1)∧Aside0 (IsS92 w0 w' g s0_0 x1001_1)∧Aside0 (KeepBut w w' g none)∧Aside0 (Below w0.heap.size w0 w'))
 case atStart=>exact ⟨(a1),(y231),(t236),(0),(t237),(by first|rfl|(simp;done)|(simp [*];done)),(by first|rfl|(simp;done)|(simp [*];done)),(by first|rfl|(simp;done)|(simp [*];done)),H',⟨Nat.le_refl _⟩,⟨by (with_reducible repeat (first|apply Kd.S_alloc|apply Kd.S_drewN|apply Kd.S_drew));exact HO233.out⟩,⟨by repeat (first|(with_reducible first|exact HI0.out|apply IsS92.alloc|apply IsS92.drewN|apply IsS92.drew|apply IsS92.set_1)|exact HI0.out)⟩,⟨by repeat (first|(with_reducible first|exact HK.out|apply KeepBut.set_|apply keep_drewN|apply keep_drew|apply keep_alloc)|exact HK.out)⟩,⟨by repeat (first|(with_reducible first|exact HB.out|apply below_alloc|apply pw_below_drewN|apply below_drew1|refine below_set ?_ (IsS92.ge HI0.out))|exact HB.out)⟩⟩
 case round=>
  clear H'
  try clear p2
  try clear c6
  try clear p6
  try clear c7
  obtain ⟨x1_1,x7_1,x9_1,x10_1,x1001_1,rfl,rfl,rfl,HA,HK1,HO_7,HI0,HK,HB⟩:=hrel
  cases gk with
  | zero=>exact absurd HA.out (by simp [spec_l91Records.l0])
  | succ k1=>
   have H:=HA.out
   clear HA
   simp only [spec_l91Records.l0] at H
   by_cases c10:x10_1 < (wrap64 (1+t234))
   ·rw [if_pos c10] at H
    have c10b0:decide (x10_1 < (wrap64 (1+t234)))=true:=decide_eq_true c10
    clear c10
    replace H:=Option.bind_eq_some_iff.mp H
    obtain ⟨⟨t239,t240,t243⟩,A110,H⟩:=H
    replace H:((spec_l91Part.f k1 s0_0 t243).bind fun bt244=>(if t239=true then ((spec_l6Rd_pick.f k1 s0_0 bt244.2.2 2).bind fun bt249=>(spec_l91Records.j1 k1 x1_1 x7_1 (wrap64 (1+t234)) x9_1 x10_1 bt244.1 bt244.2.1 (bt249.1 == 0) s0_0 bt249.2 x1_1 x9_1 t239 t240 false)) else (spec_l91Records.j1 k1 x1_1 x7_1 (wrap64 (1+t234)) x9_1 x10_1 bt244.1 bt244.2.1 false s0_0 bt244.2.2 x1_1 x9_1 t239 t240 false)))=some (r1,r2):=H
    have A11:=Aside0.mk A110
    clear A110
    replace H:=Option.bind_eq_some_iff.mp H
    obtain ⟨⟨t244,t245,t248⟩,A120,H⟩:=H
    replace H:(if t239=true then ((spec_l6Rd_pick.f k1 s0_0 t248 2).bind fun bt249=>(spec_l91Records.j1 k1 x1_1 x7_1 (wrap64 (1+t234)) x9_1 x10_1 t244 t245 (bt249.1 == 0) s0_0 bt249.2 x1_1 x9_1 t239 t240 false)) else (spec_l91Records.j1 k1 x1_1 x7_1 (wrap64 (1+t234)) x9_1 x10_1 t244 t245 false s0_0 t248 x1_1 x9_1 t239 t240 false))=some (r1,r2):=H
    have A12:=Aside0.mk A120
    clear A120
    have HC13:=Aside0.mk H
    clear H
    go_upto_region 12 with (first|((with_reducible refine gate_dst (N:=11) rfl ?_);refine box_event ?hg (N:=11) ?hd (cs:=#[.int .i64 0,.int .i64 0,.bool false,.slice none 0 0,.bool false,.slice none 0 0]) (t:=79) ?hr ?_;(case hd=>rfl);(case hg=>rfl);(case hr=>first|(go_simp;done)|(go_simp;rfl));intro gb238 hg w14 hbox hb;have n0_:=Aside0.mk (Kd.S_below (Kd.S_elderB (by (with_reducible repeat (first|apply Kd.S_alloc|apply Kd.S_drewN|apply Kd.S_drew));exact HO_7.out) gb238 (Nat.le_of_eq hg.symm)) hb);have n1_:=Aside0.mk (IsS92.below (by repeat (first|(with_reducible first|exact HI0.out|apply IsS92.alloc|apply IsS92.drewN|apply IsS92.drew|apply IsS92.set_1)|exact HI0.out)) hb);have n2_:=Aside0.mk (KeepBut.trans (by repeat (first|(with_reducible first|exact HK.out|apply KeepBut.set_|apply keep_drewN|apply keep_drew|apply keep_alloc)|exact HK.out)) (KeepBut.of_below hb g none) (.inl rfl));have n3_:=Aside0.mk (below_step (by repeat (first|(with_reducible first|exact HB.out|apply below_alloc|apply pw_below_drewN|apply below_drew1|refine below_set ?_ (IsS92.ge HI0.out))|exact HB.out)) hb);have n4_:=Aside0.mk (hbox);have n5_:=Aside0.mk ((by rw [hg];exact (keep_size (w:=w) (g:=g) (row:=none) (by repeat (first|(with_reducible first|exact HK.out|apply KeepBut.set_|apply keep_drewN|apply keep_drew|apply keep_alloc)|exact HK.out))):w.heap.size ≤ gb238));have n6_:=Aside0.mk ((Nat.le_trans HW0.out (by rw [hg];exact (keep_size (w:=w) (g:=g) (row:=none) (by repeat (first|(with_reducible first|exact HK.out|apply KeepBut.set_|apply keep_drewN|apply keep_drew|apply keep_alloc)|exact HK.out))):w.heap.size ≤ gb238):w0.heap.size ≤ gb238));have n7_:=Aside0.mk ((by rw [hg];exact Nat.ne_of_lt (IsS92.lt (show IsS92 w0 _ g s0_0 x1001_1 from by repeat (first|(with_reducible first|exact HI0.out|apply IsS92.alloc|apply IsS92.drewN|apply IsS92.drew|apply IsS92.set_1)|exact HI0.out))):g ≠ gb238));have n8_:=Aside0.mk ((by rw [hg];exact Nat.ne_of_gt (IsS92.lt (show IsS92 w0 _ g s0_0 x1001_1 from by repeat (first|(with_reducible first|exact HI0.out|apply IsS92.alloc|apply IsS92.drewN|apply IsS92.drew|apply IsS92.set_1)|exact HI0.out))):gb238 ≠ g));clear HO_7 HI0 HK HB;have HO_7:=n0_;have HI0:=n1_;have HK:=n2_;have HB:=n3_;have BK238:=n4_;have GW238:=n5_;have GE238:=n6_;have NB0_238:=n7_;have NB238_0:=n8_;clear n0_ n1_ n2_ n3_ n4_ n5_ n6_ n7_ n8_;clear hb hbox hg;have hnb15:=NB238_0.out;have hnc15:=NB0_238.out;have hcz16_0:w14.cell? ⟨gb238,0,none⟩=some (.int .i64 0):=(blk_cell BK238.out 0).trans rfl;have hcz16_1:w14.cell? ⟨gb238,1,none⟩=some (.int .i64 0):=(blk_cell BK238.out 1).trans rfl;have hcz16_2:w14.cell? ⟨gb238,2,none⟩=some (.bool false):=(blk_cell BK238.out 2).trans rfl;have hcz16_3:w14.cell? ⟨gb238,3,none⟩=some (.slice none 0 0):=(blk_cell BK238.out 3).trans rfl;have hcz16_4:w14.cell? ⟨gb238,4,none⟩=some (.bool false):=(blk_cell BK238.out 4).trans rfl;have hcz16_5:w14.cell? ⟨gb238,5,none⟩=some (.slice none 0 0):=(blk_cell BK238.out 5).trans rfl;have hfz16_0:=blk_frozen BK238.out 0;have hfz16_1:=blk_frozen BK238.out 1;have hfz16_2:=blk_frozen BK238.out 2;have hfz16_3:=blk_frozen BK238.out 3;have hfz16_4:=blk_frozen BK238.out 4;have hfz16_5:=blk_frozen BK238.out 5)|((with_reducible refine gate_callee (f:=82) rfl ?_);refine goesL_ (some 33) rfl rfl Try.func82 (by kernel_rfl) rfl #[.pointer (some ⟨g,0,none⟩)] rfl (by (try simp only [map_toArray,map_cons,map_nil]);first|done|rfl|(simp only [length_drop,length_take];rfl)) ?_;(with_reducible refine (spec_l91Part.calls k1 g s0_0 x1001_1 t239 t240 t243 w0 _ ?side1 ?side2 A11.out).mono ?_);(case side1=>repeat (first|(with_reducible first|exact HI0.out|apply IsS92.alloc|apply IsS92.drewN|apply IsS92.drew|apply IsS92.set_1|refine IsS92.far ?_ NB0_238.out _)|exact HI0.out));(case side2=>repeat (first|(with_reducible first|exact HB.out|apply below_alloc|apply pw_below_drewN|apply below_drew1|refine below_set ?_ (IsS92.ge HI0.out)|refine below_set ?_ GE238.out)|exact HB.out));rintro e w17 ⟨v241,rfl,ho0,hi,hb,hk⟩;refine ⟨_,rfl,?_⟩;have n0_:=Aside0.mk (Kd.S_mono (Kd.S_told (Kd.S_oldK (IsS92.apartS (show IsS92 w0 _ g s0_0 x1001_1 from by repeat (first|(with_reducible first|exact HI0.out|apply IsS92.alloc|apply IsS92.drewN|apply IsS92.drew|apply IsS92.set_1|refine IsS92.far ?_ NB0_238.out _)|exact HI0.out)) (by (with_reducible repeat (first|apply Kd.S_alloc|apply Kd.S_drewN|apply Kd.S_drew));exact (Kd.S_mono (Kd.S_far (p:=⟨gb238,5,none⟩) (Kd.S_far (p:=⟨gb238,4,none⟩) (Kd.S_far (p:=⟨gb238,3,none⟩) (Kd.S_far (p:=⟨gb238,2,none⟩) (Kd.S_far (p:=⟨gb238,1,none⟩) (Kd.S_far (p:=⟨gb238,0,none⟩) (Kd.S_mono HO_7.out (fun k_ hk=>(⟨hk,hk.2⟩:_∧k_ ≠ gb238))) (fun _ hk=>hk.2) (.int .i64 x1_1)) (fun _ hk=>hk.2) (.int .i64 x9_1)) (fun _ hk=>hk.2) (.bool false)) (fun _ hk=>hk.2) (.slice none 0 0)) (fun _ hk=>hk.2) (.bool false)) (fun _ hk=>hk.2) (.slice none 0 0)) (fun _ h_=>h_.1))) (by decide)) hk) (Kd.R_base ho0)) (fun _ h_=>h_.1));have n1_:=Aside0.mk (KeepBut.blk hk (g':=gb238) (o:=.cells #[.int .i64 x1_1,.int .i64 x9_1,.bool false,.slice none 0 0,.bool false,.slice none 0 0] 79 (0,0)) (by (with_reducible repeat (first|refine blk_drewN ?_ _|refine blk_drew ?_|refine blk_alloc ?_ _));refine blk_put (cs:=#[.int .i64 x1_1,.int .i64 x9_1,.bool false,.slice none 0 0,.bool false,.slice none 0 0]) ?_ 5 _ rfl;(with_reducible repeat (first|refine blk_drewN ?_ _|refine blk_drew ?_|refine blk_alloc ?_ _));refine blk_put (cs:=#[.int .i64 x1_1,.int .i64 x9_1,.bool false,.slice none 0 0,.bool false,.slice none 0 0]) ?_ 4 _ rfl;(with_reducible repeat (first|refine blk_drewN ?_ _|refine blk_drew ?_|refine blk_alloc ?_ _));refine blk_put (cs:=#[.int .i64 x1_1,.int .i64 x9_1,.bool false,.slice none 0 0,.bool false,.slice none 0 0]) ?_ 3 _ rfl;(with_reducible repeat (first|refine blk_drewN ?_ _|refine blk_drew ?_|refine blk_alloc ?_ _));refine blk_put (cs:=#[.int .i64 x1_1,.int .i64 x9_1,.bool false,.slice none 0 0,.bool false,.slice none 0 0]) ?_ 2 _ rfl;(with_reducible repeat (first|refine blk_drewN ?_ _|refine blk_drew ?_|refine blk_alloc ?_ _));refine blk_put (cs:=#[.int .i64 x1_1,.int .i64 0,.bool false,.slice none 0 0,.bool false,.slice none 0 0]) ?_ 1 _ rfl;(with_reducible repeat (first|refine blk_drewN ?_ _|refine blk_drew ?_|refine blk_alloc ?_ _));refine blk_put (cs:=#[.int .i64 0,.int .i64 0,.bool false,.slice none 0 0,.bool false,.slice none 0 0]) ?_ 0 _ rfl;(with_reducible repeat (first|refine blk_drewN ?_ _|refine blk_drew ?_|refine blk_alloc ?_ _));exact BK238.out) NB238_0.out (by simp));have n2_:=Aside0.mk (Kd.R_lower ho0 (keep_size (w:=w) (g:=g) (row:=none) (by repeat (first|(with_reducible first|exact HK.out|apply KeepBut.set_|apply keep_drewN|apply keep_drew|apply keep_alloc|refine keep_far ?_ GW238.out _)|exact HK.out))));have n3_:=Aside0.mk (KeepBut.trans (by repeat (first|(with_reducible first|exact HK.out|apply KeepBut.set_|apply keep_drewN|apply keep_drew|apply keep_alloc|refine keep_far ?_ GW238.out _)|exact HK.out)) hk (.inl rfl));have n4_:=Aside0.mk (hb);have n5_:=Aside0.mk (hi);clear HO_7 BK238 HK HB HI0;have HO_7:=n0_;have BK238:=n1_;have HO242:=n2_;have HK:=n3_;have HB:=n4_;have HI0:=n5_;clear n0_ n1_ n2_ n3_ n4_ n5_;(try clear hb);(try clear hb2);(try clear hk);(try clear hi);(try clear ho0))|((with_reducible refine gate_callee (f:=82) rfl ?_);refine goesL_ (some 38) rfl rfl Try.func82 (by kernel_rfl) rfl #[.pointer (some ⟨g,0,none⟩)] rfl (by (try simp only [map_toArray,map_cons,map_nil]);first|done|rfl|(simp only [length_drop,length_take];rfl)) ?_;(with_reducible refine (spec_l91Part.calls k1 g s0_0 t243 t244 t245 t248 w0 _ ?side1 ?side2 A12.out).mono ?_);(case side1=>repeat (first|(with_reducible first|exact HI0.out|apply IsS92.alloc|apply IsS92.drewN|apply IsS92.drew|apply IsS92.set_1|refine IsS92.far ?_ NB0_238.out _)|exact HI0.out));(case side2=>repeat (first|(with_reducible first|exact HB.out|apply below_alloc|apply pw_below_drewN|apply below_drew1|refine below_set ?_ (IsS92.ge HI0.out)|refine below_set ?_ GE238.out)|exact HB.out));rintro e w18 ⟨v246,rfl,ho0,hi,hb,hk⟩;refine ⟨_,rfl,?_⟩;have n0_:=Aside0.mk (Kd.S_mono (Kd.S_told (Kd.S_oldK (IsS92.apartS (show IsS92 w0 _ g s0_0 t243 from by repeat (first|(with_reducible first|exact HI0.out|apply IsS92.alloc|apply IsS92.drewN|apply IsS92.drew|apply IsS92.set_1|refine IsS92.far ?_ NB0_238.out _)|exact HI0.out)) (by (with_reducible repeat (first|apply Kd.S_alloc|apply Kd.S_drewN|apply Kd.S_drew));exact HO_7.out) (by decide)) hk) (Kd.R_base ho0)) (fun _ h_=>h_.1));have n1_:=Aside0.mk (KeepBut.blk hk (g':=gb238) (o:=.cells #[.int .i64 x1_1,.int .i64 x9_1,.bool false,.slice none 0 0,.bool false,.slice none 0 0] 79 (0,0)) (by (with_reducible repeat (first|refine blk_drewN ?_ _|refine blk_drew ?_|refine blk_alloc ?_ _));exact BK238.out) NB238_0.out (by simp));have n2_:=Aside0.mk (Kd.R_mono (Kd.R_told (Kd.R_oldK (IsS92.apart (show IsS92 w0 _ g s0_0 t243 from by repeat (first|(with_reducible first|exact HI0.out|apply IsS92.alloc|apply IsS92.drewN|apply IsS92.drew|apply IsS92.set_1|refine IsS92.far ?_ NB0_238.out _)|exact HI0.out)) (by (with_reducible repeat (first|apply Kd.R_alloc|apply Kd.R_drewN|apply Kd.R_drew));exact HO242.out) (by decide)) hk) (Kd.R_base ho0)) (fun _ h_=>h_.1));have n3_:=Aside0.mk (Kd.R_lower (Kd.R_new' ho0 (Kd.R_lt (by (with_reducible repeat (first|apply Kd.R_alloc|apply Kd.R_drewN|apply Kd.R_drew));exact HO242.out))) (keep_size (w:=w) (g:=g) (row:=none) (by repeat (first|(with_reducible first|exact HK.out|apply KeepBut.set_|apply keep_drewN|apply keep_drew|apply keep_alloc|refine keep_far ?_ GW238.out _)|exact HK.out))));have n4_:=Aside0.mk (KeepBut.trans (by repeat (first|(with_reducible first|exact HK.out|apply KeepBut.set_|apply keep_drewN|apply keep_drew|apply keep_alloc|refine keep_far ?_ GW238.out _)|exact HK.out)) hk (.inl rfl));have n5_:=Aside0.mk (hb);have n6_:=Aside0.mk (hi);clear HO_7 BK238 HO242 HK HB HI0;have HO_7:=n0_;have BK238:=n1_;have HO242:=n2_;have HO247:=n3_;have HK:=n4_;have HB:=n5_;have HI0:=n6_;clear n0_ n1_ n2_ n3_ n4_ n5_ n6_;(try clear hb);(try clear hb2);(try clear hk);(try clear hi);(try clear ho0);have hcz19_0:w18.cell? ⟨gb238,0,none⟩=some (.int .i64 x1_1):=(blk_cell BK238.out 0).trans rfl;have hcz19_1:w18.cell? ⟨gb238,1,none⟩=some (.int .i64 x9_1):=(blk_cell BK238.out 1).trans rfl;have hcz19_2:w18.cell? ⟨gb238,2,none⟩=some (.bool false):=(blk_cell BK238.out 2).trans rfl;have hcz19_3:w18.cell? ⟨gb238,3,none⟩=some (.slice none 0 0):=(blk_cell BK238.out 3).trans rfl;have hcz19_4:w18.cell? ⟨gb238,4,none⟩=some (.bool false):=(blk_cell BK238.out 4).trans rfl;have hcz19_5:w18.cell? ⟨gb238,5,none⟩=some (.slice none 0 0):=(blk_cell BK238.out 5).trans rfl;have hfz19_0:=blk_frozen BK238.out 0;have hfz19_1:=blk_frozen BK238.out 1;have hfz19_2:=blk_frozen BK238.out 2;have hfz19_3:=blk_frozen BK238.out 3;have hfz19_4:=blk_frozen BK238.out 4;have hfz19_5:=blk_frozen BK238.out 5;obtain ⟨Ao20,co20,eo20⟩:=Kd.R_slice HO242.out;subst eo20))
    (try simp only [Act.put,setIfInBounds_toArray,set_cons_zero,set_cons_succ])
    go_cut [50] (fun v50 wc=>∃ (kq:Nat) (x50_12:Bool) (x1001_12:Int),v50 = .bool x50_12∧Aside0 (spec_l91Records.j1 kq x1_1 x7_1 (wrap64 (1+t234)) x9_1 x10_1 t244 t245 x50_12 s0_0 x1001_12 x1_1 x9_1 t239 t240 false=some (r1,r2))∧Aside0 (kq ≤ k1)∧Aside0 (Kd.S k79 79 wc w.heap.size (fun k_=>some k_ ≠ (v246:Value).ownBlock∧some k_ ≠ ((.slice Ao20 t240.length co20):Value).ownBlock∧k_ ≠ gb238) u7 x7_1)∧Aside0 (Kd.R (Kd.int .i64) 3 wc w.heap.size (fun k_=>some k_ ≠ ((.slice Ao20 t240.length co20):Value).ownBlock) v246 t245)∧Aside0 (Kd.R (Kd.int .i64) 3 wc w.heap.size (fun k_=>some k_ ≠ (v246:Value).ownBlock) (.slice Ao20 t240.length co20) t240)∧Aside0 (wc.heap[gb238]? = some (.cells #[.int .i64 x1_1,.int .i64 x9_1,.bool t239,(.slice Ao20 t240.length co20),.bool false,(.slice none 0 0)] 79 (0,0)))∧Aside0 (IsS92 w0 wc g s0_0 x1001_12)∧Aside0 (KeepBut w wc g none)∧Aside0 (Below w0.heap.size w0 wc))
    case first=>
     have H:=HC13.out
     clear HC13
     by_cases c21:t239=true
     ·subst c21
      have H1:((spec_l6Rd_pick.f k1 s0_0 t248 2).bind fun bt249=>(spec_l91Records.j1 k1 x1_1 x7_1 (wrap64 (1+t234)) x9_1 x10_1 t244 t245 (bt249.1 == 0) s0_0 bt249.2 x1_1 x9_1 true t240 false))=some (r1,r2):=by rw [if_pos rfl] at H;exact H
      clear H
      have H:=H1
      clear H1
      replace H:=Option.bind_eq_some_iff.mp H
      obtain ⟨⟨t249,t250⟩,A220,H⟩:=H
      replace H:(spec_l91Records.j1 k1 x1_1 x7_1 (wrap64 (1+t234)) x9_1 x10_1 t244 t245 (t249 == 0) s0_0 t250 x1_1 x9_1 true t240 false)=some (r1,r2):=H
      have A22:=Aside0.mk A220
      clear A220
      have H':=Aside0.mk H
      clear H
      go_wp2_with (first|(go_at_call 67;(with_reducible refine (spec_l6Rd_pick.calls k1 g s0_0 t248 2 t249 t250 w0 _ ?side1 ?side2 A22.out).mono ?_);(case side1=>repeat (first|(with_reducible first|exact HI0.out|apply IsS92.alloc|apply IsS92.drewN|apply IsS92.drew|apply IsS92.set_1|refine IsS92.far ?_ NB0_238.out _)|exact HI0.out));(case side2=>repeat (first|(with_reducible first|exact HB.out|apply below_alloc|apply pw_below_drewN|apply below_drew1|refine below_set ?_ (IsS92.ge HI0.out)|refine below_set ?_ GE238.out)|exact HB.out));rintro e w23 ⟨rfl,hi,hb,hk⟩;have n0_:=Aside0.mk (Kd.S_mono (Kd.S_keep (IsS92.apartS (show IsS92 w0 _ g s0_0 t248 from by repeat (first|(with_reducible first|exact HI0.out|apply IsS92.alloc|apply IsS92.drewN|apply IsS92.drew|apply IsS92.set_1|refine IsS92.far ?_ NB0_238.out _)|exact HI0.out)) (by (with_reducible repeat (first|apply Kd.S_alloc|apply Kd.S_drewN|apply Kd.S_drew));exact (Kd.S_mono (Kd.S_far (p:=⟨gb238,3,none⟩) (Kd.S_far (p:=⟨gb238,2,none⟩) (Kd.S_mono HO_7.out (fun k_ hk=>(⟨hk,hk.1.1.2⟩:_∧k_ ≠ gb238))) (fun _ hk=>hk.2) (.bool true)) (fun _ hk=>hk.2) (.slice Ao20 t240.length co20)) (fun _ h_=>h_.1))) (by decide)) hk (fun _ h=>h.2)) (fun _ h=>h.1));have n1_:=Aside0.mk (KeepBut.blk hk (g':=gb238) (o:=.cells #[.int .i64 x1_1,.int .i64 x9_1,.bool true,.slice Ao20 t240.length co20,.bool false,.slice none 0 0] 79 (0,0)) (by (with_reducible repeat (first|refine blk_drewN ?_ _|refine blk_drew ?_|refine blk_alloc ?_ _));refine blk_put (cs:=#[.int .i64 x1_1,.int .i64 x9_1,.bool true,.slice none 0 0,.bool false,.slice none 0 0]) ?_ 3 _ rfl;(with_reducible repeat (first|refine blk_drewN ?_ _|refine blk_drew ?_|refine blk_alloc ?_ _));refine blk_put (cs:=#[.int .i64 x1_1,.int .i64 x9_1,.bool false,.slice none 0 0,.bool false,.slice none 0 0]) ?_ 2 _ rfl;(with_reducible repeat (first|refine blk_drewN ?_ _|refine blk_drew ?_|refine blk_alloc ?_ _));exact BK238.out) NB238_0.out (by simp));have n2_:=Aside0.mk (Kd.R_mono (Kd.R_keep (IsS92.apart (show IsS92 w0 _ g s0_0 t248 from by repeat (first|(with_reducible first|exact HI0.out|apply IsS92.alloc|apply IsS92.drewN|apply IsS92.drew|apply IsS92.set_1|refine IsS92.far ?_ NB0_238.out _)|exact HI0.out)) (by (with_reducible repeat (first|apply Kd.R_alloc|apply Kd.R_drewN|apply Kd.R_drew));exact (Kd.R_mono (Kd.R_far (p:=⟨gb238,3,none⟩) (Kd.R_far (p:=⟨gb238,2,none⟩) (Kd.R_types HO242.out BK238.out (by decide)) (fun _ hk=>hk.2) (.bool true)) (fun _ hk=>hk.2) (.slice Ao20 t240.length co20)) (fun _ h_=>h_.1))) (by decide)) hk (fun _ h=>h.2)) (fun _ h=>h.1));have n3_:=Aside0.mk (Kd.R_mono (Kd.R_keep (IsS92.apart (show IsS92 w0 _ g s0_0 t248 from by repeat (first|(with_reducible first|exact HI0.out|apply IsS92.alloc|apply IsS92.drewN|apply IsS92.drew|apply IsS92.set_1|refine IsS92.far ?_ NB0_238.out _)|exact HI0.out)) (by (with_reducible repeat (first|apply Kd.R_alloc|apply Kd.R_drewN|apply Kd.R_drew));exact (Kd.R_mono (Kd.R_far (p:=⟨gb238,3,none⟩) (Kd.R_far (p:=⟨gb238,2,none⟩) (Kd.R_types HO247.out BK238.out (by decide)) (fun _ hk=>hk.2) (.bool true)) (fun _ hk=>hk.2) (.slice Ao20 t240.length co20)) (fun _ h_=>h_.1))) (by decide)) hk (fun _ h=>h.2)) (fun _ h=>h.1));have n4_:=Aside0.mk (KeepBut.trans (by repeat (first|(with_reducible first|exact HK.out|apply KeepBut.set_|apply keep_drewN|apply keep_drew|apply keep_alloc|refine keep_far ?_ GW238.out _)|exact HK.out)) hk (.inl rfl));have n5_:=Aside0.mk (hb);have n6_:=Aside0.mk (hi);clear HO_7 BK238 HO242 HO247 HK HB HI0;have HO_7:=n0_;have BK238:=n1_;have HO242:=n2_;have HO247:=n3_;have HK:=n4_;have HB:=n5_;have HI0:=n6_;clear n0_ n1_ n2_ n3_ n4_ n5_ n6_;(try clear hb);(try clear hb2);(try clear hk);(try clear hi)))
      go_meet
      case rel=>exact ⟨_,((t249 == 0)),(t250),(by first|rfl|(simp;done)|(simp [*];done)),H',⟨by have:=HK1.out;first|omega|exact Nat.le_refl _⟩,⟨by (with_reducible repeat (first|apply Kd.S_alloc|apply Kd.S_drewN|apply Kd.S_drew));exact Kd.S_mono HO_7.out (fun _ hk=>⟨hk.2,⟨hk.1.2,hk.1.1.2⟩⟩)⟩,⟨by (with_reducible repeat (first|apply Kd.R_alloc|apply Kd.R_drewN|apply Kd.R_drew));exact Kd.R_mono HO247.out (fun _ hk=>hk.2)⟩,⟨by (with_reducible repeat (first|apply Kd.R_alloc|apply Kd.R_drewN|apply Kd.R_drew));exact Kd.R_mono HO242.out (fun _ hk=>hk.2)⟩,⟨by (with_reducible repeat (first|refine blk_drewN ?_ _|refine blk_drew ?_|refine blk_alloc ?_ _));exact BK238.out⟩,⟨by repeat (first|(with_reducible first|exact HI0.out|apply IsS92.alloc|apply IsS92.drewN|apply IsS92.drew|apply IsS92.set_1|refine IsS92.far ?_ NB0_238.out _)|exact HI0.out)⟩,⟨by repeat (first|(with_reducible first|exact HK.out|apply KeepBut.set_|apply keep_drewN|apply keep_drew|apply keep_alloc|refine keep_far ?_ GW238.out _)|exact HK.out)⟩,⟨by repeat (first|(with_reducible first|exact HB.out|apply below_alloc|apply pw_below_drewN|apply below_drew1|refine below_set ?_ (IsS92.ge HI0.out)|refine below_set ?_ GE238.out)|exact HB.out)⟩⟩
     ·replace c21:=Bool.eq_false_iff.mpr c21
      subst c21
      have H1:(spec_l91Records.j1 k1 x1_1 x7_1 (wrap64 (1+t234)) x9_1 x10_1 t244 t245 false s0_0 t248 x1_1 x9_1 false t240 false)=some (r1,r2):=by rw [if_neg (show ¬ (false=true) by decide)] at H;exact H
      clear H
      have H:=H1
      clear H1
      have H':=Aside0.mk H
      clear H
      go_wp2
      go_meet
      case rel=>exact ⟨_,(false),(t248),(by first|rfl|(simp;done)|(simp [*];done)),H',⟨by have:=HK1.out;first|omega|exact Nat.le_refl _⟩,⟨by (with_reducible repeat (first|apply Kd.S_alloc|apply Kd.S_drewN|apply Kd.S_drew));exact Kd.S_mono (Kd.S_far (p:=⟨gb238,3,none⟩) (Kd.S_far (p:=⟨gb238,2,none⟩) (Kd.S_mono HO_7.out (fun k_ hk=>(⟨hk,hk.1.1.2⟩:_∧k_ ≠ gb238))) (fun _ hk=>hk.2) (.bool false)) (fun _ hk=>hk.2) (.slice Ao20 t240.length co20)) (fun _ hk=>⟨hk.1.2,⟨hk.1.1.2,hk.1.1.1.2⟩⟩)⟩,⟨by (with_reducible repeat (first|apply Kd.R_alloc|apply Kd.R_drewN|apply Kd.R_drew));exact Kd.R_mono (Kd.R_far (p:=⟨gb238,3,none⟩) (Kd.R_far (p:=⟨gb238,2,none⟩) (Kd.R_types HO247.out BK238.out (by decide)) (fun _ hk=>hk.2) (.bool false)) (fun _ hk=>hk.2) (.slice Ao20 t240.length co20)) (fun _ hk=>hk.1.2)⟩,⟨by (with_reducible repeat (first|apply Kd.R_alloc|apply Kd.R_drewN|apply Kd.R_drew));exact Kd.R_mono (Kd.R_far (p:=⟨gb238,3,none⟩) (Kd.R_far (p:=⟨gb238,2,none⟩) (Kd.R_types HO242.out BK238.out (by decide)) (fun _ hk=>hk.2) (.bool false)) (fun _ hk=>hk.2) (.slice Ao20 t240.length co20)) (fun _ hk=>hk.1.2)⟩,⟨by (with_reducible repeat (first|refine blk_drewN ?_ _|refine blk_drew ?_|refine blk_alloc ?_ _));refine blk_put (cs:=#[.int .i64 x1_1,.int .i64 x9_1,.bool false,.slice none 0 0,.bool false,.slice none 0 0]) ?_ 3 _ rfl;(with_reducible repeat (first|refine blk_drewN ?_ _|refine blk_drew ?_|refine blk_alloc ?_ _));refine blk_put (cs:=#[.int .i64 x1_1,.int .i64 x9_1,.bool false,.slice none 0 0,.bool false,.slice none 0 0]) ?_ 2 _ rfl;(with_reducible repeat (first|refine blk_drewN ?_ _|refine blk_drew ?_|refine blk_alloc ?_ _));exact BK238.out⟩,⟨by repeat (first|(with_reducible first|exact HI0.out|apply IsS92.alloc|apply IsS92.drewN|apply IsS92.drew|apply IsS92.set_1|refine IsS92.far ?_ NB0_238.out _)|exact HI0.out)⟩,⟨by repeat (first|(with_reducible first|exact HK.out|apply KeepBut.set_|apply keep_drewN|apply keep_drew|apply keep_alloc|refine keep_far ?_ GW238.out _)|exact HK.out)⟩,⟨by repeat (first|(with_reducible first|exact HB.out|apply below_alloc|apply pw_below_drewN|apply below_drew1|refine below_set ?_ (IsS92.ge HI0.out)|refine below_set ?_ GE238.out)|exact HB.out)⟩⟩
    case rest=>
     clear HC13
     try clear c1
     try clear c2
     try clear p2
     try clear c6
     try clear p6
     try clear c7
     try clear c8
     try clear c10
     try clear c10b0
     try clear c15
     try clear c21
     try clear hcz16_0
     try clear hcz16_1
     try clear hcz16_2
     try clear hcz16_3
     try clear hcz16_4
     try clear hcz16_5
     try clear hcz19_0
     try clear hcz19_1
     try clear hcz19_2
     try clear hcz19_3
     try clear hcz19_4
     try clear hcz19_5
     try clear hfz16_0
     try clear hfz16_1
     try clear hfz16_2
     try clear hfz16_3
     try clear hfz16_4
     try clear hfz16_5
     try clear hfz19_0
     try clear hfz19_1
     try clear hfz19_2
     try clear hfz19_3
     try clear hfz19_4
     try clear hfz19_5
     try clear p2
     try clear p6
     obtain ⟨kq,x50_12,x1001_12,rfl,HA,HJ12,HO_7,HO_15,HO_239003,BK238,HI0,HK,HB⟩:=hcut
     cases kq with
     | zero=>exact absurd HA.out (by simp [spec_l91Records.j1])
     | succ kj12=>
      have H:=HA.out
      clear HA
      simp only [spec_l91Records.j1] at H
      by_cases c24:x50_12=true
      ·subst c24
       have H1:((spec_l6Rd_pick.f kj12 s0_0 x1001_12 3).bind fun bt251=>(if x7_1.length < 1759218604441 then ((spec_l6Rd_pick.f kj12 s0_0 bt251.2 5).bind fun bt259=>((spec_l6Rd_pick.f kj12 s0_0 bt259.2 30).bind fun bt261=>(spec_l91Records.l0 kj12 (wrap64 ((wrap64 (x1_1+1))+(wrap64 (Int.tdiv bt259.1 4)))) (x7_1 ++ [(⟨x1_1,x9_1,t239,(([bt251.1]:List Int)),t244,t245⟩:S79)]) (wrap64 (1+t234)) (mx (wrap64 ((wrap64 (x9_1+bt261.1)) - 6)) 0) (wrap64 (x10_1+1)) s0_0 bt261.2))) else (none)))=some (r1,r2):=by rw [if_pos rfl] at H;exact H
       clear H
       have H:=H1
       clear H1
       replace H:=Option.bind_eq_some_iff.mp H
       obtain ⟨⟨t251,t252⟩,A250,H⟩:=H
       replace H:(if x7_1.length < 1759218604441 then ((spec_l6Rd_pick.f kj12 s0_0 t252 5).bind fun bt259=>((spec_l6Rd_pick.f kj12 s0_0 bt259.2 30).bind fun bt261=>(spec_l91Records.l0 kj12 (wrap64 ((wrap64 (x1_1+1))+(wrap64 (Int.tdiv bt259.1 4)))) (x7_1 ++ [(⟨x1_1,x9_1,t239,(([t251]:List Int)),t244,t245⟩:S79)]) (wrap64 (1+t234)) (mx (wrap64 ((wrap64 (x9_1+bt261.1)) - 6)) 0) (wrap64 (x10_1+1)) s0_0 bt261.2))) else (none))=some (r1,r2):=H
       have A25:=Aside0.mk A250
       clear A250
       obtain ⟨y253,hy253⟩:∃ y_:List Int,y_=(([t251]:List Int)):=⟨_,rfl⟩
       replace H:(if x7_1.length < 1759218604441 then ((spec_l6Rd_pick.f kj12 s0_0 t252 5).bind fun bt259=>((spec_l6Rd_pick.f kj12 s0_0 bt259.2 30).bind fun bt261=>(spec_l91Records.l0 kj12 (wrap64 ((wrap64 (x1_1+1))+(wrap64 (Int.tdiv bt259.1 4)))) (x7_1 ++ [(⟨x1_1,x9_1,t239,y253,t244,t245⟩:S79)]) (wrap64 (1+t234)) (mx (wrap64 ((wrap64 (x9_1+bt261.1)) - 6)) 0) (wrap64 (x10_1+1)) s0_0 bt261.2))) else (none))=some (r1,r2):=by first|(rw [hy253];with_reducible exact H)|(have H2_:=(Option.bind_some _ _).symm.trans H;rw [hy253];with_reducible exact H2_)|(have H2_:=(Option.bind_some _ _).symm.trans H;with_reducible exact H2_)|with_reducible exact H|(rw [hy253];exact H)|exact H
       have Ny253:=Aside0.mk hy253
       clear hy253
       by_cases c26:x7_1.length < 1759218604441
       ·rw [if_pos c26] at H
        have LMc26:=Aside0.mk c26
        clear c26
        obtain ⟨y256,hy256⟩:∃ y_:List (S79),y_=(x7_1 ++ [(⟨x1_1,x9_1,t239,y253,t244,t245⟩:S79)]):=⟨_,rfl⟩
        replace H:((spec_l6Rd_pick.f kj12 s0_0 t252 5).bind fun bt259=>((spec_l6Rd_pick.f kj12 s0_0 bt259.2 30).bind fun bt261=>(spec_l91Records.l0 kj12 (wrap64 ((wrap64 (x1_1+1))+(wrap64 (Int.tdiv bt259.1 4)))) y256 (wrap64 (1+t234)) (mx (wrap64 ((wrap64 (x9_1+bt261.1)) - 6)) 0) (wrap64 (x10_1+1)) s0_0 bt261.2)))=some (r1,r2):=by first|(rw [hy256];with_reducible exact H)|(have H2_:=(Option.bind_some _ _).symm.trans H;rw [hy256];with_reducible exact H2_)|(have H2_:=(Option.bind_some _ _).symm.trans H;with_reducible exact H2_)|with_reducible exact H|(rw [hy256];exact H)|exact H
        have Ny256:=Aside0.mk hy256
        clear hy256
        replace H:=Option.bind_eq_some_iff.mp H
        obtain ⟨⟨t259,t260⟩,A270,H⟩:=H
        replace H:((spec_l6Rd_pick.f kj12 s0_0 t260 30).bind fun bt261=>(spec_l91Records.l0 kj12 (wrap64 ((wrap64 (x1_1+1))+(wrap64 (Int.tdiv t259 4)))) y256 (wrap64 (1+t234)) (mx (wrap64 ((wrap64 (x9_1+bt261.1)) - 6)) 0) (wrap64 (x10_1+1)) s0_0 bt261.2))=some (r1,r2):=H
        have A27:=Aside0.mk A270
        clear A270
        replace H:=Option.bind_eq_some_iff.mp H
        obtain ⟨⟨t261,t262⟩,A280,H⟩:=H
        replace H:(spec_l91Records.l0 kj12 (wrap64 ((wrap64 (x1_1+1))+(wrap64 (Int.tdiv t259 4)))) y256 (wrap64 (1+t234)) (mx (wrap64 ((wrap64 (x9_1+t261)) - 6)) 0) (wrap64 (x10_1+1)) s0_0 t262)=some (r1,r2):=H
        have A28:=Aside0.mk A280
        clear A280
        obtain ⟨ji29,hji29⟩:∃ j_:Int,(mx (wrap64 ((wrap64 (x9_1+t261)) - 6)) 0)=j_:=⟨_,rfl⟩
        replace H:(spec_l91Records.l0 kj12 (wrap64 ((wrap64 (x1_1+1))+(wrap64 (Int.tdiv t259 4)))) y256 (wrap64 (1+t234)) ji29 (wrap64 (x10_1+1)) s0_0 t262)=some (r1,r2):=by first|(rw [hji29] at H;exact H)|(simp only [hji29] at H ⊢;exact H)
        (try rw [hji29] at A25)
        (try rw [hji29] at A27)
        (try rw [hji29] at A28)
        have hji29_:(if (wrap64 ((wrap64 (x9_1+t261)) - 6)) < 0 then 0 else (wrap64 ((wrap64 (x9_1+t261)) - 6)))=ji29:=hji29
        have H':=Aside0.mk H
        clear H
        go_wp2_with (first|((with_reducible refine gate_callee (f:=67) rfl ?_);refine goesL_ (some 52) rfl rfl Try.func67 (by kernel_rfl) rfl #[.pointer (some ⟨g,0,none⟩),.int .i64 3] rfl (by (try simp only [map_toArray,map_cons,map_nil]);first|done|rfl|(simp only [length_drop,length_take];rfl)) ?_;(with_reducible refine (spec_l6Rd_pick.calls kj12 g s0_0 x1001_12 3 t251 t252 w0 _ ?side1 ?side2 A25.out).mono ?_);(case side1=>repeat (first|(with_reducible first|exact HI0.out|apply IsS92.alloc|apply IsS92.drewN|apply IsS92.drew|apply IsS92.set_1|refine IsS92.far ?_ NB0_238.out _)|exact HI0.out));(case side2=>repeat (first|(with_reducible first|exact HB.out|apply below_alloc|apply pw_below_drewN|apply below_drew1|refine below_set ?_ (IsS92.ge HI0.out)|refine below_set ?_ GE238.out)|exact HB.out));rintro e w30 ⟨rfl,hi,hb,hk⟩;refine ⟨_,rfl,?_⟩;have n0_:=Aside0.mk (Kd.S_mono (Kd.S_keep (IsS92.apartS (show IsS92 w0 _ g s0_0 x1001_12 from by repeat (first|(with_reducible first|exact HI0.out|apply IsS92.alloc|apply IsS92.drewN|apply IsS92.drew|apply IsS92.set_1|refine IsS92.far ?_ NB0_238.out _)|exact HI0.out)) (by (with_reducible repeat (first|apply Kd.S_alloc|apply Kd.S_drewN|apply Kd.S_drew));exact HO_7.out) (by decide)) hk (fun _ h=>h.2)) (fun _ h=>h.1));have n1_:=Aside0.mk (Kd.R_mono (Kd.R_keep (IsS92.apart (show IsS92 w0 _ g s0_0 x1001_12 from by repeat (first|(with_reducible first|exact HI0.out|apply IsS92.alloc|apply IsS92.drewN|apply IsS92.drew|apply IsS92.set_1|refine IsS92.far ?_ NB0_238.out _)|exact HI0.out)) (by (with_reducible repeat (first|apply Kd.R_alloc|apply Kd.R_drewN|apply Kd.R_drew));exact HO_15.out) (by decide)) hk (fun _ h=>h.2)) (fun _ h=>h.1));have n2_:=Aside0.mk (Kd.R_mono (Kd.R_keep (IsS92.apart (show IsS92 w0 _ g s0_0 x1001_12 from by repeat (first|(with_reducible first|exact HI0.out|apply IsS92.alloc|apply IsS92.drewN|apply IsS92.drew|apply IsS92.set_1|refine IsS92.far ?_ NB0_238.out _)|exact HI0.out)) (by (with_reducible repeat (first|apply Kd.R_alloc|apply Kd.R_drewN|apply Kd.R_drew));exact HO_239003.out) (by decide)) hk (fun _ h=>h.2)) (fun _ h=>h.1));have n3_:=Aside0.mk (KeepBut.blk hk (g':=gb238) (o:=.cells #[.int .i64 x1_1,.int .i64 x9_1,.bool t239,.slice Ao20 t240.length co20,.bool false,.slice none 0 0] 79 (0,0)) (by (with_reducible repeat (first|refine blk_drewN ?_ _|refine blk_drew ?_|refine blk_alloc ?_ _));exact BK238.out) NB238_0.out (by simp));have n4_:=Aside0.mk (KeepBut.trans (by repeat (first|(with_reducible first|exact HK.out|apply KeepBut.set_|apply keep_drewN|apply keep_drew|apply keep_alloc|refine keep_far ?_ GW238.out _)|exact HK.out)) hk (.inl rfl));have n5_:=Aside0.mk (hb);have n6_:=Aside0.mk (hi);clear HO_7 HO_15 HO_239003 BK238 HK HB HI0;have HO_7:=n0_;have HO_15:=n1_;have HO_239003:=n2_;have BK238:=n3_;have HK:=n4_;have HB:=n5_;have HI0:=n6_;clear n0_ n1_ n2_ n3_ n4_ n5_ n6_;(try clear hb);(try clear hb2);(try clear hk);(try clear hi))|((with_reducible refine gate_dst (N:=53) rfl ?_);refine Kd.R_lit (Kd.int .i64) _ 3 ?hg (N:=53) ?hd (xs:=([t251]:List Int)) (inner:=[.int .i64 t251]) (ok:=fun _=>True) (okp:=fun _=>True) ?hr ?hp (fun _ hk=>hk) trivial (Below.refl _ _) (Nat.le_refl _) (by simp) ?_;(case hd=>rfl);(case hg=>rfl);(case hr=>first|(go_simp;done)|(go_simp;rfl));(case hp=>exact (Reps.one (show Kd.M (Kd.int .i64) _ _ _ t251 [.int .i64 t251] from rfl) (Reps.none _ _)));intro v254 w31 ho32 hb hg_ hnew_;clear hg_ hnew_;(first|rw [← Ny253.out] at ho32|(simp only [Int.reduceToNat] at ho32;rw [← Ny253.out] at ho32));have n0_:=Aside0.mk (Kd.S_elder' (by (with_reducible repeat (first|apply Kd.S_alloc|apply Kd.S_drewN|apply Kd.S_drew));exact HO_7.out) (Kd.R_base ho32) hb);have n1_:=Aside0.mk (Kd.R_elder' (by (with_reducible repeat (first|apply Kd.R_alloc|apply Kd.R_drewN|apply Kd.R_drew));exact HO_15.out) (Kd.R_base ho32) hb);have n2_:=Aside0.mk (Kd.R_elder' (by (with_reducible repeat (first|apply Kd.R_alloc|apply Kd.R_drewN|apply Kd.R_drew));exact HO_239003.out) (Kd.R_base ho32) hb);have n3_:=Aside0.mk (Kd.R_lower (Kd.R_new' (Kd.R_new' ho32 (Kd.R_lt (by (with_reducible repeat (first|apply Kd.R_alloc|apply Kd.R_drewN|apply Kd.R_drew));exact HO_15.out))) (Kd.R_lt (by (with_reducible repeat (first|apply Kd.R_alloc|apply Kd.R_drewN|apply Kd.R_drew));exact HO_239003.out))) (keep_size (w:=w) (g:=g) (row:=none) (by repeat (first|(with_reducible first|exact HK.out|apply KeepBut.set_|apply keep_drewN|apply keep_drew|apply keep_alloc|refine keep_far ?_ GW238.out _)|exact HK.out))));have n4_:=Aside0.mk (blk_below (g:=gb238) (o:=.cells #[.int .i64 x1_1,.int .i64 x9_1,.bool t239,.slice Ao20 t240.length co20,.bool false,.slice none 0 0] 79 (0,0)) (by (with_reducible repeat (first|refine blk_drewN ?_ _|refine blk_drew ?_|refine blk_alloc ?_ _));exact BK238.out) hb);have n5_:=Aside0.mk (IsS92.below (by repeat (first|(with_reducible first|exact HI0.out|apply IsS92.alloc|apply IsS92.drewN|apply IsS92.drew|apply IsS92.set_1|refine IsS92.far ?_ NB0_238.out _)|exact HI0.out)) hb);have n6_:=Aside0.mk (KeepBut.trans (by repeat (first|(with_reducible first|exact HK.out|apply KeepBut.set_|apply keep_drewN|apply keep_drew|apply keep_alloc|refine keep_far ?_ GW238.out _)|exact HK.out)) (KeepBut.of_below hb g none) (.inl rfl));have n7_:=Aside0.mk (below_step (by repeat (first|(with_reducible first|exact HB.out|apply below_alloc|apply pw_below_drewN|apply below_drew1|refine below_set ?_ (IsS92.ge HI0.out)|refine below_set ?_ GE238.out)|exact HB.out)) hb);clear HO_7 HO_15 HO_239003 BK238 HI0 HK HB;have HO_7:=n0_;have HO_15:=n1_;have HO_239003:=n2_;have HO255:=n3_;have BK238:=n4_;have HI0:=n5_;have HK:=n6_;have HB:=n7_;clear n0_ n1_ n2_ n3_ n4_ n5_ n6_ n7_;clear hb ho32;obtain ⟨Ao33,co33,eo33⟩:=Kd.R_slice HO255.out;subst eo33;have hnb34:=NB238_0.out;have hnc34:=NB0_238.out;have hcz35_0:w31.cell? ⟨gb238,0,none⟩=some (.int .i64 x1_1):=(blk_cell BK238.out 0).trans rfl;have hcz35_1:w31.cell? ⟨gb238,1,none⟩=some (.int .i64 x9_1):=(blk_cell BK238.out 1).trans rfl;have hcz35_2:w31.cell? ⟨gb238,2,none⟩=some (.bool t239):=(blk_cell BK238.out 2).trans rfl;have hcz35_3:w31.cell? ⟨gb238,3,none⟩=some (.slice Ao20 t240.length co20):=(blk_cell BK238.out 3).trans rfl;have hcz35_4:w31.cell? ⟨gb238,4,none⟩=some (.bool false):=(blk_cell BK238.out 4).trans rfl;have hcz35_5:w31.cell? ⟨gb238,5,none⟩=some (.slice none 0 0):=(blk_cell BK238.out 5).trans rfl;have hfz35_0:=blk_frozen BK238.out 0;have hfz35_1:=blk_frozen BK238.out 1;have hfz35_2:=blk_frozen BK238.out 2;have hfz35_3:=blk_frozen BK238.out 3;have hfz35_4:=blk_frozen BK238.out 4;have hfz35_5:=blk_frozen BK238.out 5)|((with_reducible refine gate_store (t:=53) (p:=54) rfl ?_);refine store_event (t:=53) (p:=54) (v:=?vo_w36) (w1:=(w31.setCell ⟨gb238,3,none⟩ (.slice Ao33 y253.length co33))) ?hg ?ho ?hn ?hr ?_;(case ho=>rfl);(case hg=>rfl);(case hn=>rfl);(case hr=>first|(go_simp;done)|(go_simp;rfl));intro w36 hw;have n0_:Aside0 (Kd.S k79 79 w36 w.heap.size (fun k_=>some k_ ≠ (v246:Value).ownBlock∧some k_ ≠ (.slice Ao20 t240.length co20:Value).ownBlock∧some k_ ≠ (.slice Ao33 y253.length co33:Value).ownBlock∧k_ ≠ gb238) u7 x7_1):=⟨(by rw [hw];exact (by (with_reducible repeat (first|apply Kd.S_alloc|apply Kd.S_drewN|apply Kd.S_drew));exact Kd.S_mono (Kd.S_far (p:=⟨gb238,3,none⟩) (Kd.S_mono HO_7.out (fun k_ hk=>(⟨hk,hk.1.2.2⟩:_∧k_ ≠ gb238))) (fun _ hk=>hk.2) (.slice Ao33 y253.length co33)) (fun _ hk=>⟨hk.1.1.1,⟨hk.1.1.2.1,⟨hk.1.2,hk.1.1.2.2⟩⟩⟩)))⟩;have n1_:Aside0 (Kd.R (Kd.int .i64) 3 w36 w.heap.size (fun k_=>some k_ ≠ (.slice Ao20 t240.length co20:Value).ownBlock∧some k_ ≠ (.slice Ao33 y253.length co33:Value).ownBlock) v246 t245):=⟨(by rw [hw];exact (by (with_reducible repeat (first|apply Kd.R_alloc|apply Kd.R_drewN|apply Kd.R_drew));exact Kd.R_mono (Kd.R_far (p:=⟨gb238,3,none⟩) (Kd.R_types HO_15.out BK238.out (by decide)) (fun _ hk=>hk.2) (.slice Ao33 y253.length co33)) (fun _ hk=>⟨hk.1.1,hk.1.2⟩)))⟩;have n2_:Aside0 (Kd.R (Kd.int .i64) 3 w36 w.heap.size (fun k_=>some k_ ≠ (v246:Value).ownBlock∧some k_ ≠ (.slice Ao33 y253.length co33:Value).ownBlock) (.slice Ao20 t240.length co20) t240):=⟨(by rw [hw];exact (by (with_reducible repeat (first|apply Kd.R_alloc|apply Kd.R_drewN|apply Kd.R_drew));exact Kd.R_mono (Kd.R_far (p:=⟨gb238,3,none⟩) (Kd.R_types HO_239003.out BK238.out (by decide)) (fun _ hk=>hk.2) (.slice Ao33 y253.length co33)) (fun _ hk=>⟨hk.1.1,hk.1.2⟩)))⟩;have n3_:Aside0 (Kd.R (Kd.int .i64) 3 w36 w.heap.size (fun k_=>some k_ ≠ (v246:Value).ownBlock∧some k_ ≠ (.slice Ao20 t240.length co20:Value).ownBlock) (.slice Ao33 y253.length co33) y253):=⟨(by rw [hw];exact (by (with_reducible repeat (first|apply Kd.R_alloc|apply Kd.R_drewN|apply Kd.R_drew));exact Kd.R_mono (Kd.R_far (p:=⟨gb238,3,none⟩) (Kd.R_types HO255.out BK238.out (by decide)) (fun _ hk=>hk.2) (.slice Ao33 y253.length co33)) (fun _ hk=>⟨hk.1.1.2,hk.1.2⟩)))⟩;have n4_:Aside0 (w36.heap[gb238]? = some (.cells #[.int .i64 x1_1,.int .i64 x9_1,.bool t239,.slice Ao33 y253.length co33,.bool false,.slice none 0 0] 79 (0,0))):=⟨(by rw [hw];exact (by (with_reducible repeat (first|refine blk_drewN ?_ _|refine blk_drew ?_|refine blk_alloc ?_ _));refine blk_put (cs:=#[.int .i64 x1_1,.int .i64 x9_1,.bool t239,.slice Ao20 t240.length co20,.bool false,.slice none 0 0]) ?_ 3 _ rfl;(with_reducible repeat (first|refine blk_drewN ?_ _|refine blk_drew ?_|refine blk_alloc ?_ _));exact BK238.out))⟩;have n5_:Aside0 (IsS92 w0 w36 g s0_0 t252):=⟨(by rw [hw];exact (by repeat (first|(with_reducible first|exact HI0.out|apply IsS92.alloc|apply IsS92.drewN|apply IsS92.drew|apply IsS92.set_1|refine IsS92.far ?_ NB0_238.out _)|exact HI0.out)))⟩;have n6_:Aside0 (KeepBut w w36 g none):=⟨(by rw [hw];exact (by repeat (first|(with_reducible first|exact HK.out|apply KeepBut.set_|apply keep_drewN|apply keep_drew|apply keep_alloc|refine keep_far ?_ GW238.out _)|exact HK.out)))⟩;have n7_:Aside0 (Below w0.heap.size w0 w36):=⟨(by rw [hw];exact (by repeat (first|(with_reducible first|exact HB.out|apply below_alloc|apply pw_below_drewN|apply below_drew1|refine below_set ?_ (IsS92.ge HI0.out)|refine below_set ?_ GE238.out)|exact HB.out)))⟩;clear hw HO_7 HO_15 HO_239003 HO255 BK238 HI0 HK HB;have HO_7:=n0_;have HO_15:=n1_;have HO_239003:=n2_;have HO255:=n3_;have BK238:=n4_;have HI0:=n5_;have HK:=n6_;have HB:=n7_;clear n0_ n1_ n2_ n3_ n4_ n5_ n6_ n7_;have hcz37_0:w36.cell? ⟨gb238,0,none⟩=some (.int .i64 x1_1):=(blk_cell BK238.out 0).trans rfl;have hcz37_1:w36.cell? ⟨gb238,1,none⟩=some (.int .i64 x9_1):=(blk_cell BK238.out 1).trans rfl;have hcz37_2:w36.cell? ⟨gb238,2,none⟩=some (.bool t239):=(blk_cell BK238.out 2).trans rfl;have hcz37_3:w36.cell? ⟨gb238,3,none⟩=some (.slice Ao33 y253.length co33):=(blk_cell BK238.out 3).trans rfl;have hcz37_4:w36.cell? ⟨gb238,4,none⟩=some (.bool false):=(blk_cell BK238.out 4).trans rfl;have hcz37_5:w36.cell? ⟨gb238,5,none⟩=some (.slice none 0 0):=(blk_cell BK238.out 5).trans rfl;have hfz37_0:=blk_frozen BK238.out 0;have hfz37_1:=blk_frozen BK238.out 1;have hfz37_2:=blk_frozen BK238.out 2;have hfz37_3:=blk_frozen BK238.out 3;have hfz37_4:=blk_frozen BK238.out 4;have hfz37_5:=blk_frozen BK238.out 5)|((with_reducible refine gate_store (t:=4) (p:=56) rfl ?_);refine store_event (t:=4) (p:=56) (v:=?vo_w38) (w1:=(w36.setCell ⟨gb238,4,none⟩ (.bool t244))) ?hg ?ho ?hn ?hr ?_;(case ho=>rfl);(case hg=>rfl);(case hn=>rfl);(case hr=>first|(go_simp;done)|(go_simp;rfl));intro w38 hw;have n0_:Aside0 (Kd.S k79 79 w38 w.heap.size (fun k_=>some k_ ≠ (v246:Value).ownBlock∧some k_ ≠ (.slice Ao20 t240.length co20:Value).ownBlock∧some k_ ≠ (.slice Ao33 y253.length co33:Value).ownBlock∧k_ ≠ gb238) u7 x7_1):=⟨(by rw [hw];exact (by (with_reducible repeat (first|apply Kd.S_alloc|apply Kd.S_drewN|apply Kd.S_drew));exact Kd.S_mono (Kd.S_far (p:=⟨gb238,4,none⟩) (Kd.S_mono HO_7.out (fun k_ hk=>(⟨hk,hk.2.2.2⟩:_∧k_ ≠ gb238))) (fun _ hk=>hk.2) (.bool t244)) (fun _ hk=>⟨hk.1.1,⟨hk.1.2.1,⟨hk.1.2.2.1,hk.1.2.2.2⟩⟩⟩)))⟩;have n1_:Aside0 (Kd.R (Kd.int .i64) 3 w38 w.heap.size (fun k_=>some k_ ≠ (.slice Ao20 t240.length co20:Value).ownBlock∧some k_ ≠ (.slice Ao33 y253.length co33:Value).ownBlock) v246 t245):=⟨(by rw [hw];exact (by (with_reducible repeat (first|apply Kd.R_alloc|apply Kd.R_drewN|apply Kd.R_drew));exact Kd.R_mono (Kd.R_far (p:=⟨gb238,4,none⟩) (Kd.R_types HO_15.out BK238.out (by decide)) (fun _ hk=>hk.2) (.bool t244)) (fun _ hk=>⟨hk.1.1,hk.1.2⟩)))⟩;have n2_:Aside0 (Kd.R (Kd.int .i64) 3 w38 w.heap.size (fun k_=>some k_ ≠ (v246:Value).ownBlock∧some k_ ≠ (.slice Ao33 y253.length co33:Value).ownBlock) (.slice Ao20 t240.length co20) t240):=⟨(by rw [hw];exact (by (with_reducible repeat (first|apply Kd.R_alloc|apply Kd.R_drewN|apply Kd.R_drew));exact Kd.R_mono (Kd.R_far (p:=⟨gb238,4,none⟩) (Kd.R_types HO_239003.out BK238.out (by decide)) (fun _ hk=>hk.2) (.bool t244)) (fun _ hk=>⟨hk.1.1,hk.1.2⟩)))⟩;have n3_:Aside0 (Kd.R (Kd.int .i64) 3 w38 w.heap.size (fun k_=>some k_ ≠ (v246:Value).ownBlock∧some k_ ≠ (.slice Ao20 t240.length co20:Value).ownBlock) (.slice Ao33 y253.length co33) y253):=⟨(by rw [hw];exact (by (with_reducible repeat (first|apply Kd.R_alloc|apply Kd.R_drewN|apply Kd.R_drew));exact Kd.R_mono (Kd.R_far (p:=⟨gb238,4,none⟩) (Kd.R_types HO255.out BK238.out (by decide)) (fun _ hk=>hk.2) (.bool t244)) (fun _ hk=>⟨hk.1.1,hk.1.2⟩)))⟩;have n4_:Aside0 (w38.heap[gb238]? = some (.cells #[.int .i64 x1_1,.int .i64 x9_1,.bool t239,.slice Ao33 y253.length co33,.bool t244,.slice none 0 0] 79 (0,0))):=⟨(by rw [hw];exact (by (with_reducible repeat (first|refine blk_drewN ?_ _|refine blk_drew ?_|refine blk_alloc ?_ _));refine blk_put (cs:=#[.int .i64 x1_1,.int .i64 x9_1,.bool t239,.slice Ao33 y253.length co33,.bool false,.slice none 0 0]) ?_ 4 _ rfl;(with_reducible repeat (first|refine blk_drewN ?_ _|refine blk_drew ?_|refine blk_alloc ?_ _));exact BK238.out))⟩;have n5_:Aside0 (IsS92 w0 w38 g s0_0 t252):=⟨(by rw [hw];exact (by repeat (first|(with_reducible first|exact HI0.out|apply IsS92.alloc|apply IsS92.drewN|apply IsS92.drew|apply IsS92.set_1|refine IsS92.far ?_ NB0_238.out _)|exact HI0.out)))⟩;have n6_:Aside0 (KeepBut w w38 g none):=⟨(by rw [hw];exact (by repeat (first|(with_reducible first|exact HK.out|apply KeepBut.set_|apply keep_drewN|apply keep_drew|apply keep_alloc|refine keep_far ?_ GW238.out _)|exact HK.out)))⟩;have n7_:Aside0 (Below w0.heap.size w0 w38):=⟨(by rw [hw];exact (by repeat (first|(with_reducible first|exact HB.out|apply below_alloc|apply pw_below_drewN|apply below_drew1|refine below_set ?_ (IsS92.ge HI0.out)|refine below_set ?_ GE238.out)|exact HB.out)))⟩;clear hw HO_7 HO_15 HO_239003 HO255 BK238 HI0 HK HB;have HO_7:=n0_;have HO_15:=n1_;have HO_239003:=n2_;have HO255:=n3_;have BK238:=n4_;have HI0:=n5_;have HK:=n6_;have HB:=n7_;clear n0_ n1_ n2_ n3_ n4_ n5_ n6_ n7_;obtain ⟨Ao39,co39,eo39⟩:=Kd.R_slice HO_15.out;subst eo39;have hcz40_0:w38.cell? ⟨gb238,0,none⟩=some (.int .i64 x1_1):=(blk_cell BK238.out 0).trans rfl;have hcz40_1:w38.cell? ⟨gb238,1,none⟩=some (.int .i64 x9_1):=(blk_cell BK238.out 1).trans rfl;have hcz40_2:w38.cell? ⟨gb238,2,none⟩=some (.bool t239):=(blk_cell BK238.out 2).trans rfl;have hcz40_3:w38.cell? ⟨gb238,3,none⟩=some (.slice Ao33 y253.length co33):=(blk_cell BK238.out 3).trans rfl;have hcz40_4:w38.cell? ⟨gb238,4,none⟩=some (.bool t244):=(blk_cell BK238.out 4).trans rfl;have hcz40_5:w38.cell? ⟨gb238,5,none⟩=some (.slice none 0 0):=(blk_cell BK238.out 5).trans rfl;have hfz40_0:=blk_frozen BK238.out 0;have hfz40_1:=blk_frozen BK238.out 1;have hfz40_2:=blk_frozen BK238.out 2;have hfz40_3:=blk_frozen BK238.out 3;have hfz40_4:=blk_frozen BK238.out 4;have hfz40_5:=blk_frozen BK238.out 5)|((with_reducible refine gate_store (t:=53) (p:=58) rfl ?_);refine store_event (t:=53) (p:=58) (v:=?vo_w41) (w1:=(w38.setCell ⟨gb238,5,none⟩ (.slice Ao39 t245.length co39))) ?hg ?ho ?hn ?hr ?_;(case ho=>rfl);(case hg=>rfl);(case hn=>rfl);(case hr=>first|(go_simp;done)|(go_simp;rfl));intro w41 hw;have n0_:Aside0 (Kd.S k79 79 w41 w.heap.size (fun k_=>some k_ ≠ (.slice Ao39 t245.length co39:Value).ownBlock∧some k_ ≠ (.slice Ao20 t240.length co20:Value).ownBlock∧some k_ ≠ (.slice Ao33 y253.length co33:Value).ownBlock∧k_ ≠ gb238) u7 x7_1):=⟨(by rw [hw];exact (by (with_reducible repeat (first|apply Kd.S_alloc|apply Kd.S_drewN|apply Kd.S_drew));exact Kd.S_mono (Kd.S_far (p:=⟨gb238,5,none⟩) (Kd.S_mono HO_7.out (fun k_ hk=>(⟨hk,hk.2.2.2⟩:_∧k_ ≠ gb238))) (fun _ hk=>hk.2) (.slice Ao39 t245.length co39)) (fun _ hk=>⟨hk.1.1,⟨hk.1.2.1,⟨hk.1.2.2.1,hk.1.2.2.2⟩⟩⟩)))⟩;have n1_:Aside0 (Kd.R (Kd.int .i64) 3 w41 w.heap.size (fun k_=>some k_ ≠ (.slice Ao20 t240.length co20:Value).ownBlock∧some k_ ≠ (.slice Ao33 y253.length co33:Value).ownBlock) (.slice Ao39 t245.length co39) t245):=⟨(by rw [hw];exact (by (with_reducible repeat (first|apply Kd.R_alloc|apply Kd.R_drewN|apply Kd.R_drew));exact Kd.R_mono (Kd.R_far (p:=⟨gb238,5,none⟩) (Kd.R_types HO_15.out BK238.out (by decide)) (fun _ hk=>hk.2) (.slice Ao39 t245.length co39)) (fun _ hk=>⟨hk.1.1,hk.1.2⟩)))⟩;have n2_:Aside0 (Kd.R (Kd.int .i64) 3 w41 w.heap.size (fun k_=>some k_ ≠ (.slice Ao39 t245.length co39:Value).ownBlock∧some k_ ≠ (.slice Ao33 y253.length co33:Value).ownBlock) (.slice Ao20 t240.length co20) t240):=⟨(by rw [hw];exact (by (with_reducible repeat (first|apply Kd.R_alloc|apply Kd.R_drewN|apply Kd.R_drew));exact Kd.R_mono (Kd.R_far (p:=⟨gb238,5,none⟩) (Kd.R_types HO_239003.out BK238.out (by decide)) (fun _ hk=>hk.2) (.slice Ao39 t245.length co39)) (fun _ hk=>⟨hk.1.1,hk.1.2⟩)))⟩;have n3_:Aside0 (Kd.R (Kd.int .i64) 3 w41 w.heap.size (fun k_=>some k_ ≠ (.slice Ao39 t245.length co39:Value).ownBlock∧some k_ ≠ (.slice Ao20 t240.length co20:Value).ownBlock) (.slice Ao33 y253.length co33) y253):=⟨(by rw [hw];exact (by (with_reducible repeat (first|apply Kd.R_alloc|apply Kd.R_drewN|apply Kd.R_drew));exact Kd.R_mono (Kd.R_far (p:=⟨gb238,5,none⟩) (Kd.R_types HO255.out BK238.out (by decide)) (fun _ hk=>hk.2) (.slice Ao39 t245.length co39)) (fun _ hk=>⟨hk.1.1,hk.1.2⟩)))⟩;have n4_:Aside0 (w41.heap[gb238]? = some (.cells #[.int .i64 x1_1,.int .i64 x9_1,.bool t239,.slice Ao33 y253.length co33,.bool t244,.slice Ao39 t245.length co39] 79 (0,0))):=⟨(by rw [hw];exact (by (with_reducible repeat (first|refine blk_drewN ?_ _|refine blk_drew ?_|refine blk_alloc ?_ _));refine blk_put (cs:=#[.int .i64 x1_1,.int .i64 x9_1,.bool t239,.slice Ao33 y253.length co33,.bool t244,.slice none 0 0]) ?_ 5 _ rfl;(with_reducible repeat (first|refine blk_drewN ?_ _|refine blk_drew ?_|refine blk_alloc ?_ _));exact BK238.out))⟩;have n5_:Aside0 (IsS92 w0 w41 g s0_0 t252):=⟨(by rw [hw];exact (by repeat (first|(with_reducible first|exact HI0.out|apply IsS92.alloc|apply IsS92.drewN|apply IsS92.drew|apply IsS92.set_1|refine IsS92.far ?_ NB0_238.out _)|exact HI0.out)))⟩;have n6_:Aside0 (KeepBut w w41 g none):=⟨(by rw [hw];exact (by repeat (first|(with_reducible first|exact HK.out|apply KeepBut.set_|apply keep_drewN|apply keep_drew|apply keep_alloc|refine keep_far ?_ GW238.out _)|exact HK.out)))⟩;have n7_:Aside0 (Below w0.heap.size w0 w41):=⟨(by rw [hw];exact (by repeat (first|(with_reducible first|exact HB.out|apply below_alloc|apply pw_below_drewN|apply below_drew1|refine below_set ?_ (IsS92.ge HI0.out)|refine below_set ?_ GE238.out)|exact HB.out)))⟩;clear hw HO_7 HO_15 HO_239003 HO255 BK238 HI0 HK HB;have HO_7:=n0_;have HO_15:=n1_;have HO_239003:=n2_;have HO255:=n3_;have BK238:=n4_;have HI0:=n5_;have HK:=n6_;have HB:=n7_;clear n0_ n1_ n2_ n3_ n4_ n5_ n6_ n7_;have hcz42_0:w41.cell? ⟨gb238,0,none⟩=some (.int .i64 x1_1):=(blk_cell BK238.out 0).trans rfl;have hcz42_1:w41.cell? ⟨gb238,1,none⟩=some (.int .i64 x9_1):=(blk_cell BK238.out 1).trans rfl;have hcz42_2:w41.cell? ⟨gb238,2,none⟩=some (.bool t239):=(blk_cell BK238.out 2).trans rfl;have hcz42_3:w41.cell? ⟨gb238,3,none⟩=some (.slice Ao33 y253.length co33):=(blk_cell BK238.out 3).trans rfl;have hcz42_4:w41.cell? ⟨gb238,4,none⟩=some (.bool t244):=(blk_cell BK238.out 4).trans rfl;have hcz42_5:w41.cell? ⟨gb238,5,none⟩=some (.slice Ao39 t245.length co39):=(blk_cell BK238.out 5).trans rfl;have hfz42_0:=blk_frozen BK238.out 0;have hfz42_1:=blk_frozen BK238.out 1;have hfz42_2:=blk_frozen BK238.out 2;have hfz42_3:=blk_frozen BK238.out 3;have hfz42_4:=blk_frozen BK238.out 4;have hfz42_5:=blk_frozen BK238.out 5)|((with_reducible refine gate_builtin (b:=.append) (xs:=#[.tmp 59,.tmp 61]) rfl ?_);at_builtin;refine Kd.S_append k79 w.heap.size rfl (.tmp 59) (.tmp 61) 32 79 (.agg #[(.int .i64 0),(.int .i64 0),(.bool false),(.slice none 0 0),(.bool false),(.slice none 0 0)]) 80 rfl Try.underlying32 info79 rfl (by decide) (by omega) u7 x7_1 (⟨x1_1,x9_1,t239,y253,t244,t245⟩:S79) [.int .i64 x1_1,.int .i64 x9_1,.bool t239,.slice Ao33 y253.length co33,.bool t244,.slice Ao39 t245.length co39] (fun k_=>some k_ ≠ (.slice Ao20 t240.length co20:Value).ownBlock∧k_ ≠ gb238) (fun k_=>some k_=(.slice Ao33 y253.length co33:Value).ownBlock∨some k_=(.slice Ao39 t245.length co39:Value).ownBlock) rfl rfl ?aP (fun k_ hk_=>hk_.elim (fun h_=>((Kd.R_mono (ok':=fun k_=>((fun k_=>some k_ ≠ (.slice Ao20 t240.length co20:Value).ownBlock∧k_ ≠ gb238)) k_∧some k_ ≠ (u7:Value).ownBlock) (Kd.R_types (Kd.R_apart' (HO255.out) (Kd.S_typed HO_7.out) (by decide)) BK238.out (by decide)) (fun k_ hk=>⟨⟨hk.1.1.2,hk.2⟩,hk.1.2⟩))).1 k_ h_.symm) (fun h_=>((Kd.R_mono (ok':=fun k_=>((fun k_=>some k_ ≠ (.slice Ao20 t240.length co20:Value).ownBlock∧k_ ≠ gb238)) k_∧some k_ ≠ (u7:Value).ownBlock) (Kd.R_types (Kd.R_apart' (HO_15.out) (Kd.S_typed HO_7.out) (by decide)) BK238.out (by decide)) (fun k_ hk=>⟨⟨hk.1.1.1,hk.2⟩,hk.1.2⟩))).1 k_ h_.symm)) ?aF ?aO (Below.refl _ _) ?aS ?aL ?_;(case aP=>exact k79_mkM _ _ _ (⟨x1_1,x9_1,t239,y253,t244,t245⟩:S79) (Kd.R_mono (Kd.R_tight rfl (Kd.R_mono (ok':=fun k_=>((fun k_=>some k_ ≠ (.slice Ao20 t240.length co20:Value).ownBlock∧k_ ≠ gb238)) k_∧some k_ ≠ (u7:Value).ownBlock) (Kd.R_types (Kd.R_apart' (HO255.out) (Kd.S_typed HO_7.out) (by decide)) BK238.out (by decide)) (fun k_ hk=>⟨⟨hk.1.1.2,hk.2⟩,hk.1.2⟩))) (fun _ h_=>Or.inl h_)) (Kd.R_mono (Kd.R_tight rfl (Kd.R_mono (ok':=fun k_=>((fun k_=>some k_ ≠ (.slice Ao20 t240.length co20:Value).ownBlock∧k_ ≠ gb238)) k_∧some k_ ≠ (u7:Value).ownBlock) (Kd.R_types (Kd.R_apart' (HO_15.out) (Kd.S_typed HO_7.out) (by decide)) BK238.out (by decide)) (fun k_ hk=>⟨⟨hk.1.1.1,hk.2⟩,hk.1.2⟩))) (fun _ h_=>Or.inr (h_))));(case aF=>exact (fun k_ hk=>⟨Kd.fresh' (Kd.R_lt (by (with_reducible repeat (first|apply Kd.R_alloc|apply Kd.R_drewN|apply Kd.R_drew));exact HO_239003.out)) k_ hk,Kd.freshB (g:=gb238) (o:=.cells #[.int .i64 x1_1,.int .i64 x9_1,.bool t239,.slice Ao33 y253.length co33,.bool t244,.slice Ao39 t245.length co39] 79 (0,0)) (by (with_reducible repeat (first|refine blk_drewN ?_ _|refine blk_drew ?_|refine blk_alloc ?_ _));exact BK238.out) k_ hk⟩));(case aO=>exact (by (with_reducible repeat (first|apply Kd.S_alloc|apply Kd.S_drewN|apply Kd.S_drew));exact Kd.S_mono HO_7.out (fun k_ hk=>⟨⟨hk.2.1,hk.2.2.2⟩,fun e_=>e_.elim (fun h_=>hk.2.2.1 h_) (fun h_=>hk.1 h_)⟩)));(case aS=>exact (keep_size (w:=w) (g:=g) (row:=none) (by repeat (first|(with_reducible first|exact HK.out|apply KeepBut.set_|apply keep_drewN|apply keep_drew|apply keep_alloc|refine keep_far ?_ GW238.out _)|exact HK.out))));(case aL=>have:=LMc26.out;omega);intro v257 w43 ho hb hg hat;rw [← Ny256.out] at ho;have n0_:=Aside0.mk (Kd.R_over' (by (with_reducible repeat (first|apply Kd.R_alloc|apply Kd.R_drewN|apply Kd.R_drew));exact HO_239003.out) (Kd.S_typed (by (with_reducible repeat (first|apply Kd.S_alloc|apply Kd.S_drewN|apply Kd.S_drew));exact HO_7.out)) (by decide) hg);have n1_:=Aside0.mk (blk_grown (g:=gb238) (o:=.cells #[.int .i64 x1_1,.int .i64 x9_1,.bool t239,.slice Ao33 y253.length co33,.bool t244,.slice Ao39 t245.length co39] 79 (0,0)) (by (with_reducible repeat (first|refine blk_drewN ?_ _|refine blk_drew ?_|refine blk_alloc ?_ _));exact BK238.out) hg (Kd.S_away HO_7.out (fun _ hk=>hk.2.2.2)));have n2_:=Aside0.mk (IsS92.grown (by repeat (first|(with_reducible first|exact HI0.out|apply IsS92.alloc|apply IsS92.drewN|apply IsS92.drew|apply IsS92.set_1|refine IsS92.far ?_ NB0_238.out _)|exact HI0.out)) hg (IsS92.own_neS HI0.out HO_7.out (by decide)));have n3_:=Aside0.mk (below_weaken (by repeat (first|(with_reducible first|exact HB.out|apply below_alloc|apply pw_below_drewN|apply below_drew1|refine below_set ?_ (IsS92.ge HI0.out)|refine below_set ?_ GE238.out)|exact HB.out)) HL.out hb);have n4_:=Aside0.mk (KeepBut.trans (by repeat (first|(with_reducible first|exact HK.out|apply KeepBut.set_|apply keep_drewN|apply keep_drew|apply keep_alloc|refine keep_far ?_ GW238.out _)|exact HK.out)) (KeepBut.of_grown hg g) (Kd.S_base2 HO_7.out));have n5_:=Aside0.mk (ho);clear HO_239003 BK238 HI0 HB HK HO_7 HO255 HO_15;have HO_239003:=n0_;have BK238:=n1_;have HI0:=n2_;have HB:=n3_;have HK:=n4_;have HO258:=n5_;clear n0_ n1_ n2_ n3_ n4_ n5_;clear ho hb hg hat)|((with_reducible refine gate_callee (f:=67) rfl ?_);refine goesL_ (some 66) rfl rfl Try.func67 (by kernel_rfl) rfl #[.pointer (some ⟨g,0,none⟩),.int .i64 5] rfl (by (try simp only [map_toArray,map_cons,map_nil]);first|done|rfl|(simp only [length_drop,length_take];rfl)) ?_;(with_reducible refine (spec_l6Rd_pick.calls kj12 g s0_0 t252 5 t259 t260 w0 _ ?side1 ?side2 A27.out).mono ?_);(case side1=>repeat (first|(with_reducible first|exact HI0.out|apply IsS92.alloc|apply IsS92.drewN|apply IsS92.drew|apply IsS92.set_1|refine IsS92.far ?_ NB0_238.out _)|exact HI0.out));(case side2=>repeat (first|(with_reducible first|exact HB.out|apply below_alloc|apply pw_below_drewN|apply below_drew1|refine below_set ?_ (IsS92.ge HI0.out)|refine below_set ?_ GE238.out)|exact HB.out));rintro e w44 ⟨rfl,hi,hb,hk⟩;refine ⟨_,rfl,?_⟩;have n0_:=Aside0.mk (Kd.R_mono (Kd.R_keep (IsS92.apart (show IsS92 w0 _ g s0_0 t252 from by repeat (first|(with_reducible first|exact HI0.out|apply IsS92.alloc|apply IsS92.drewN|apply IsS92.drew|apply IsS92.set_1|refine IsS92.far ?_ NB0_238.out _)|exact HI0.out)) (by (with_reducible repeat (first|apply Kd.R_alloc|apply Kd.R_drewN|apply Kd.R_drew));exact HO_239003.out) (by decide)) hk (fun _ h=>h.2)) (fun _ h=>h.1));have n1_:=Aside0.mk (KeepBut.blk hk (g':=gb238) (o:=.cells #[.int .i64 x1_1,.int .i64 x9_1,.bool t239,.slice Ao33 y253.length co33,.bool t244,.slice Ao39 t245.length co39] 79 (0,0)) (by (with_reducible repeat (first|refine blk_drewN ?_ _|refine blk_drew ?_|refine blk_alloc ?_ _));exact BK238.out) NB238_0.out (by simp));have n2_:=Aside0.mk (Kd.S_mono (Kd.S_keep (IsS92.apartS (show IsS92 w0 _ g s0_0 t252 from by repeat (first|(with_reducible first|exact HI0.out|apply IsS92.alloc|apply IsS92.drewN|apply IsS92.drew|apply IsS92.set_1|refine IsS92.far ?_ NB0_238.out _)|exact HI0.out)) (by (with_reducible repeat (first|apply Kd.S_alloc|apply Kd.S_drewN|apply Kd.S_drew));exact HO258.out) (by decide)) hk (fun _ h=>h.2)) (fun _ h=>h.1));have n3_:=Aside0.mk (KeepBut.trans (by repeat (first|(with_reducible first|exact HK.out|apply KeepBut.set_|apply keep_drewN|apply keep_drew|apply keep_alloc|refine keep_far ?_ GW238.out _)|exact HK.out)) hk (.inl rfl));have n4_:=Aside0.mk (hb);have n5_:=Aside0.mk (hi);clear HO_239003 BK238 HO258 HK HB HI0;have HO_239003:=n0_;have BK238:=n1_;have HO258:=n2_;have HK:=n3_;have HB:=n4_;have HI0:=n5_;clear n0_ n1_ n2_ n3_ n4_ n5_;(try clear hb);(try clear hb2);(try clear hk);(try clear hi))|((with_reducible refine gate_callee (f:=67) rfl ?_);refine goesL_ (some 71) rfl rfl Try.func67 (by kernel_rfl) rfl #[.pointer (some ⟨g,0,none⟩),.int .i64 30] rfl (by (try simp only [map_toArray,map_cons,map_nil]);first|done|rfl|(simp only [length_drop,length_take];rfl)) ?_;(with_reducible refine (spec_l6Rd_pick.calls kj12 g s0_0 t260 30 t261 t262 w0 _ ?side1 ?side2 A28.out).mono ?_);(case side1=>repeat (first|(with_reducible first|exact HI0.out|apply IsS92.alloc|apply IsS92.drewN|apply IsS92.drew|apply IsS92.set_1|refine IsS92.far ?_ NB0_238.out _)|exact HI0.out));(case side2=>repeat (first|(with_reducible first|exact HB.out|apply below_alloc|apply pw_below_drewN|apply below_drew1|refine below_set ?_ (IsS92.ge HI0.out)|refine below_set ?_ GE238.out)|exact HB.out));rintro e w45 ⟨rfl,hi,hb,hk⟩;refine ⟨_,rfl,?_⟩;have n0_:=Aside0.mk (Kd.R_mono (Kd.R_keep (IsS92.apart (show IsS92 w0 _ g s0_0 t260 from by repeat (first|(with_reducible first|exact HI0.out|apply IsS92.alloc|apply IsS92.drewN|apply IsS92.drew|apply IsS92.set_1|refine IsS92.far ?_ NB0_238.out _)|exact HI0.out)) (by (with_reducible repeat (first|apply Kd.R_alloc|apply Kd.R_drewN|apply Kd.R_drew));exact HO_239003.out) (by decide)) hk (fun _ h=>h.2)) (fun _ h=>h.1));have n1_:=Aside0.mk (KeepBut.blk hk (g':=gb238) (o:=.cells #[.int .i64 x1_1,.int .i64 x9_1,.bool t239,.slice Ao33 y253.length co33,.bool t244,.slice Ao39 t245.length co39] 79 (0,0)) (by (with_reducible repeat (first|refine blk_drewN ?_ _|refine blk_drew ?_|refine blk_alloc ?_ _));exact BK238.out) NB238_0.out (by simp));have n2_:=Aside0.mk (Kd.S_mono (Kd.S_keep (IsS92.apartS (show IsS92 w0 _ g s0_0 t260 from by repeat (first|(with_reducible first|exact HI0.out|apply IsS92.alloc|apply IsS92.drewN|apply IsS92.drew|apply IsS92.set_1|refine IsS92.far ?_ NB0_238.out _)|exact HI0.out)) (by (with_reducible repeat (first|apply Kd.S_alloc|apply Kd.S_drewN|apply Kd.S_drew));exact HO258.out) (by decide)) hk (fun _ h=>h.2)) (fun _ h=>h.1));have n3_:=Aside0.mk (KeepBut.trans (by repeat (first|(with_reducible first|exact HK.out|apply KeepBut.set_|apply keep_drewN|apply keep_drew|apply keep_alloc|refine keep_far ?_ GW238.out _)|exact HK.out)) hk (.inl rfl));have n4_:=Aside0.mk (hb);have n5_:=Aside0.mk (hi);clear HO_239003 BK238 HO258 HK HB HI0;have HO_239003:=n0_;have BK238:=n1_;have HO258:=n2_;have HK:=n3_;have HB:=n4_;have HI0:=n5_;clear n0_ n1_ n2_ n3_ n4_ n5_;(try clear hb);(try clear hb2);(try clear hk);(try clear hi)))
        go_roundg kj12
        case measure=>have:=HK1.out;have:=HJ12.out;omega
        case rel=>exact ⟨(wrap64 ((wrap64 (x1_1+1))+(wrap64 (Int.tdiv t259 4)))),(y256),(ji29),(wrap64 (x10_1+1)),(t262),(by first|rfl|(simp;done)|(simp [*];done)),(by first|rfl|(simp;done)|(simp only [← hji29] <;> (first|rfl|simp))|(simp [*];done)),(by first|rfl|(simp;done)|(simp [*];done)),H',⟨by have:=HK1.out;have:=HJ12.out;omega⟩,⟨by (with_reducible repeat (first|apply Kd.S_alloc|apply Kd.S_drewN|apply Kd.S_drew));exact Kd.S_mono HO258.out (fun _ hk=>trivial)⟩,⟨by repeat (first|(with_reducible first|exact HI0.out|apply IsS92.alloc|apply IsS92.drewN|apply IsS92.drew|apply IsS92.set_1|refine IsS92.far ?_ NB0_238.out _)|exact HI0.out)⟩,⟨by repeat (first|(with_reducible first|exact HK.out|apply KeepBut.set_|apply keep_drewN|apply keep_drew|apply keep_alloc|refine keep_far ?_ GW238.out _)|exact HK.out)⟩,⟨by repeat (first|(with_reducible first|exact HB.out|apply below_alloc|apply pw_below_drewN|apply below_drew1|refine below_set ?_ (IsS92.ge HI0.out)|refine below_set ?_ GE238.out)|exact HB.out)⟩⟩
       ·rw [if_neg c26] at H
        exact absurd H (by simp)
      ·replace c24:=Bool.eq_false_iff.mpr c24
       subst c24
       have H1:(if x7_1.length < 1759218604441 then ((spec_l6Rd_pick.f kj12 s0_0 x1001_12 5).bind fun bt266=>((spec_l6Rd_pick.f kj12 s0_0 bt266.2 30).bind fun bt268=>(spec_l91Records.l0 kj12 (wrap64 ((wrap64 (x1_1+1))+(wrap64 (Int.tdiv bt266.1 4)))) (x7_1 ++ [(⟨x1_1,x9_1,t239,t240,t244,t245⟩:S79)]) (wrap64 (1+t234)) (mx (wrap64 ((wrap64 (x9_1+bt268.1)) - 6)) 0) (wrap64 (x10_1+1)) s0_0 bt268.2))) else (none))=some (r1,r2):=by rw [if_neg (show ¬ (false=true) by decide)] at H;exact H
       clear H
       have H:=H1
       clear H1
       by_cases c46:x7_1.length < 1759218604441
       ·rw [if_pos c46] at H
        have LMc46:=Aside0.mk c46
        clear c46
        obtain ⟨y263,hy263⟩:∃ y_:List (S79),y_=(x7_1 ++ [(⟨x1_1,x9_1,t239,t240,t244,t245⟩:S79)]):=⟨_,rfl⟩
        replace H:((spec_l6Rd_pick.f kj12 s0_0 x1001_12 5).bind fun bt266=>((spec_l6Rd_pick.f kj12 s0_0 bt266.2 30).bind fun bt268=>(spec_l91Records.l0 kj12 (wrap64 ((wrap64 (x1_1+1))+(wrap64 (Int.tdiv bt266.1 4)))) y263 (wrap64 (1+t234)) (mx (wrap64 ((wrap64 (x9_1+bt268.1)) - 6)) 0) (wrap64 (x10_1+1)) s0_0 bt268.2)))=some (r1,r2):=by first|(rw [hy263];with_reducible exact H)|(have H2_:=(Option.bind_some _ _).symm.trans H;rw [hy263];with_reducible exact H2_)|(have H2_:=(Option.bind_some _ _).symm.trans H;with_reducible exact H2_)|with_reducible exact H|(rw [hy263];exact H)|exact H
        have Ny263:=Aside0.mk hy263
        clear hy263
        replace H:=Option.bind_eq_some_iff.mp H
        obtain ⟨⟨t266,t267⟩,A470,H⟩:=H
        replace H:((spec_l6Rd_pick.f kj12 s0_0 t267 30).bind fun bt268=>(spec_l91Records.l0 kj12 (wrap64 ((wrap64 (x1_1+1))+(wrap64 (Int.tdiv t266 4)))) y263 (wrap64 (1+t234)) (mx (wrap64 ((wrap64 (x9_1+bt268.1)) - 6)) 0) (wrap64 (x10_1+1)) s0_0 bt268.2))=some (r1,r2):=H
        have A47:=Aside0.mk A470
        clear A470
        replace H:=Option.bind_eq_some_iff.mp H
        obtain ⟨⟨t268,t269⟩,A480,H⟩:=H
        replace H:(spec_l91Records.l0 kj12 (wrap64 ((wrap64 (x1_1+1))+(wrap64 (Int.tdiv t266 4)))) y263 (wrap64 (1+t234)) (mx (wrap64 ((wrap64 (x9_1+t268)) - 6)) 0) (wrap64 (x10_1+1)) s0_0 t269)=some (r1,r2):=H
        have A48:=Aside0.mk A480
        clear A480
        obtain ⟨ji49,hji49⟩:∃ j_:Int,(mx (wrap64 ((wrap64 (x9_1+t268)) - 6)) 0)=j_:=⟨_,rfl⟩
        replace H:(spec_l91Records.l0 kj12 (wrap64 ((wrap64 (x1_1+1))+(wrap64 (Int.tdiv t266 4)))) y263 (wrap64 (1+t234)) ji49 (wrap64 (x10_1+1)) s0_0 t269)=some (r1,r2):=by first|(rw [hji49] at H;exact H)|(simp only [hji49] at H ⊢;exact H)
        (try rw [hji49] at A47)
        (try rw [hji49] at A48)
        have hji49_:(if (wrap64 ((wrap64 (x9_1+t268)) - 6)) < 0 then 0 else (wrap64 ((wrap64 (x9_1+t268)) - 6)))=ji49:=hji49
        have H':=Aside0.mk H
        clear H
        have hnb50:=NB238_0.out
        have hnc50:=NB0_238.out
        have hcz51_0:wc.cell? ⟨gb238,0,none⟩=some (.int .i64 x1_1):=(blk_cell BK238.out 0).trans rfl
        have hcz51_1:wc.cell? ⟨gb238,1,none⟩=some (.int .i64 x9_1):=(blk_cell BK238.out 1).trans rfl
        have hcz51_2:wc.cell? ⟨gb238,2,none⟩=some (.bool t239):=(blk_cell BK238.out 2).trans rfl
        have hcz51_3:wc.cell? ⟨gb238,3,none⟩=some (.slice Ao20 t240.length co20):=(blk_cell BK238.out 3).trans rfl
        have hcz51_4:wc.cell? ⟨gb238,4,none⟩=some (.bool false):=(blk_cell BK238.out 4).trans rfl
        have hcz51_5:wc.cell? ⟨gb238,5,none⟩=some (.slice none 0 0):=(blk_cell BK238.out 5).trans rfl
        have hfz51_0:=blk_frozen BK238.out 0
        have hfz51_1:=blk_frozen BK238.out 1
        have hfz51_2:=blk_frozen BK238.out 2
        have hfz51_3:=blk_frozen BK238.out 3
        have hfz51_4:=blk_frozen BK238.out 4
        have hfz51_5:=blk_frozen BK238.out 5
        go_wp2_with (first|((with_reducible refine gate_store (t:=4) (p:=56) rfl ?_);refine store_event (t:=4) (p:=56) (v:=?vo_w52) (w1:=(wc.setCell ⟨gb238,4,none⟩ (.bool t244))) ?hg ?ho ?hn ?hr ?_;(case ho=>rfl);(case hg=>rfl);(case hn=>rfl);(case hr=>first|(go_simp;done)|(go_simp;rfl));intro w52 hw;have n0_:Aside0 (Kd.S k79 79 w52 w.heap.size (fun k_=>some k_ ≠ (v246:Value).ownBlock∧some k_ ≠ (.slice Ao20 t240.length co20:Value).ownBlock∧k_ ≠ gb238) u7 x7_1):=⟨(by rw [hw];exact (by (with_reducible repeat (first|apply Kd.S_alloc|apply Kd.S_drewN|apply Kd.S_drew));exact Kd.S_mono (Kd.S_far (p:=⟨gb238,4,none⟩) (Kd.S_mono HO_7.out (fun k_ hk=>(⟨hk,hk.2.2⟩:_∧k_ ≠ gb238))) (fun _ hk=>hk.2) (.bool t244)) (fun _ hk=>⟨hk.1.1,⟨hk.1.2.1,hk.1.2.2⟩⟩)))⟩;have n1_:Aside0 (Kd.R (Kd.int .i64) 3 w52 w.heap.size (fun k_=>some k_ ≠ (.slice Ao20 t240.length co20:Value).ownBlock) v246 t245):=⟨(by rw [hw];exact (by (with_reducible repeat (first|apply Kd.R_alloc|apply Kd.R_drewN|apply Kd.R_drew));exact Kd.R_mono (Kd.R_far (p:=⟨gb238,4,none⟩) (Kd.R_types HO_15.out BK238.out (by decide)) (fun _ hk=>hk.2) (.bool t244)) (fun _ hk=>hk.1)))⟩;have n2_:Aside0 (Kd.R (Kd.int .i64) 3 w52 w.heap.size (fun k_=>some k_ ≠ (v246:Value).ownBlock) (.slice Ao20 t240.length co20) t240):=⟨(by rw [hw];exact (by (with_reducible repeat (first|apply Kd.R_alloc|apply Kd.R_drewN|apply Kd.R_drew));exact Kd.R_mono (Kd.R_far (p:=⟨gb238,4,none⟩) (Kd.R_types HO_239003.out BK238.out (by decide)) (fun _ hk=>hk.2) (.bool t244)) (fun _ hk=>hk.1)))⟩;have n3_:Aside0 (w52.heap[gb238]? = some (.cells #[.int .i64 x1_1,.int .i64 x9_1,.bool t239,.slice Ao20 t240.length co20,.bool t244,.slice none 0 0] 79 (0,0))):=⟨(by rw [hw];exact (by (with_reducible repeat (first|refine blk_drewN ?_ _|refine blk_drew ?_|refine blk_alloc ?_ _));refine blk_put (cs:=#[.int .i64 x1_1,.int .i64 x9_1,.bool t239,.slice Ao20 t240.length co20,.bool false,.slice none 0 0]) ?_ 4 _ rfl;(with_reducible repeat (first|refine blk_drewN ?_ _|refine blk_drew ?_|refine blk_alloc ?_ _));exact BK238.out))⟩;have n4_:Aside0 (IsS92 w0 w52 g s0_0 x1001_12):=⟨(by rw [hw];exact (by repeat (first|(with_reducible first|exact HI0.out|apply IsS92.alloc|apply IsS92.drewN|apply IsS92.drew|apply IsS92.set_1|refine IsS92.far ?_ NB0_238.out _)|exact HI0.out)))⟩;have n5_:Aside0 (KeepBut w w52 g none):=⟨(by rw [hw];exact (by repeat (first|(with_reducible first|exact HK.out|apply KeepBut.set_|apply keep_drewN|apply keep_drew|apply keep_alloc|refine keep_far ?_ GW238.out _)|exact HK.out)))⟩;have n6_:Aside0 (Below w0.heap.size w0 w52):=⟨(by rw [hw];exact (by repeat (first|(with_reducible first|exact HB.out|apply below_alloc|apply pw_below_drewN|apply below_drew1|refine below_set ?_ (IsS92.ge HI0.out)|refine below_set ?_ GE238.out)|exact HB.out)))⟩;clear hw HO_7 HO_15 HO_239003 BK238 HI0 HK HB;have HO_7:=n0_;have HO_15:=n1_;have HO_239003:=n2_;have BK238:=n3_;have HI0:=n4_;have HK:=n5_;have HB:=n6_;clear n0_ n1_ n2_ n3_ n4_ n5_ n6_;obtain ⟨Ao53,co53,eo53⟩:=Kd.R_slice HO_15.out;subst eo53;have hcz54_0:w52.cell? ⟨gb238,0,none⟩=some (.int .i64 x1_1):=(blk_cell BK238.out 0).trans rfl;have hcz54_1:w52.cell? ⟨gb238,1,none⟩=some (.int .i64 x9_1):=(blk_cell BK238.out 1).trans rfl;have hcz54_2:w52.cell? ⟨gb238,2,none⟩=some (.bool t239):=(blk_cell BK238.out 2).trans rfl;have hcz54_3:w52.cell? ⟨gb238,3,none⟩=some (.slice Ao20 t240.length co20):=(blk_cell BK238.out 3).trans rfl;have hcz54_4:w52.cell? ⟨gb238,4,none⟩=some (.bool t244):=(blk_cell BK238.out 4).trans rfl;have hcz54_5:w52.cell? ⟨gb238,5,none⟩=some (.slice none 0 0):=(blk_cell BK238.out 5).trans rfl;have hfz54_0:=blk_frozen BK238.out 0;have hfz54_1:=blk_frozen BK238.out 1;have hfz54_2:=blk_frozen BK238.out 2;have hfz54_3:=blk_frozen BK238.out 3;have hfz54_4:=blk_frozen BK238.out 4;have hfz54_5:=blk_frozen BK238.out 5)|((with_reducible refine gate_store (t:=53) (p:=58) rfl ?_);refine store_event (t:=53) (p:=58) (v:=?vo_w55) (w1:=(w52.setCell ⟨gb238,5,none⟩ (.slice Ao53 t245.length co53))) ?hg ?ho ?hn ?hr ?_;(case ho=>rfl);(case hg=>rfl);(case hn=>rfl);(case hr=>first|(go_simp;done)|(go_simp;rfl));intro w55 hw;have n0_:Aside0 (Kd.S k79 79 w55 w.heap.size (fun k_=>some k_ ≠ (.slice Ao53 t245.length co53:Value).ownBlock∧some k_ ≠ (.slice Ao20 t240.length co20:Value).ownBlock∧k_ ≠ gb238) u7 x7_1):=⟨(by rw [hw];exact (by (with_reducible repeat (first|apply Kd.S_alloc|apply Kd.S_drewN|apply Kd.S_drew));exact Kd.S_mono (Kd.S_far (p:=⟨gb238,5,none⟩) (Kd.S_mono HO_7.out (fun k_ hk=>(⟨hk,hk.2.2⟩:_∧k_ ≠ gb238))) (fun _ hk=>hk.2) (.slice Ao53 t245.length co53)) (fun _ hk=>⟨hk.1.1,⟨hk.1.2.1,hk.1.2.2⟩⟩)))⟩;have n1_:Aside0 (Kd.R (Kd.int .i64) 3 w55 w.heap.size (fun k_=>some k_ ≠ (.slice Ao20 t240.length co20:Value).ownBlock) (.slice Ao53 t245.length co53) t245):=⟨(by rw [hw];exact (by (with_reducible repeat (first|apply Kd.R_alloc|apply Kd.R_drewN|apply Kd.R_drew));exact Kd.R_mono (Kd.R_far (p:=⟨gb238,5,none⟩) (Kd.R_types HO_15.out BK238.out (by decide)) (fun _ hk=>hk.2) (.slice Ao53 t245.length co53)) (fun _ hk=>hk.1)))⟩;have n2_:Aside0 (Kd.R (Kd.int .i64) 3 w55 w.heap.size (fun k_=>some k_ ≠ (.slice Ao53 t245.length co53:Value).ownBlock) (.slice Ao20 t240.length co20) t240):=⟨(by rw [hw];exact (by (with_reducible repeat (first|apply Kd.R_alloc|apply Kd.R_drewN|apply Kd.R_drew));exact Kd.R_mono (Kd.R_far (p:=⟨gb238,5,none⟩) (Kd.R_types HO_239003.out BK238.out (by decide)) (fun _ hk=>hk.2) (.slice Ao53 t245.length co53)) (fun _ hk=>hk.1)))⟩;have n3_:Aside0 (w55.heap[gb238]? = some (.cells #[.int .i64 x1_1,.int .i64 x9_1,.bool t239,.slice Ao20 t240.length co20,.bool t244,.slice Ao53 t245.length co53] 79 (0,0))):=⟨(by rw [hw];exact (by (with_reducible repeat (first|refine blk_drewN ?_ _|refine blk_drew ?_|refine blk_alloc ?_ _));refine blk_put (cs:=#[.int .i64 x1_1,.int .i64 x9_1,.bool t239,.slice Ao20 t240.length co20,.bool t244,.slice none 0 0]) ?_ 5 _ rfl;(with_reducible repeat (first|refine blk_drewN ?_ _|refine blk_drew ?_|refine blk_alloc ?_ _));exact BK238.out))⟩;have n4_:Aside0 (IsS92 w0 w55 g s0_0 x1001_12):=⟨(by rw [hw];exact (by repeat (first|(with_reducible first|exact HI0.out|apply IsS92.alloc|apply IsS92.drewN|apply IsS92.drew|apply IsS92.set_1|refine IsS92.far ?_ NB0_238.out _)|exact HI0.out)))⟩;have n5_:Aside0 (KeepBut w w55 g none):=⟨(by rw [hw];exact (by repeat (first|(with_reducible first|exact HK.out|apply KeepBut.set_|apply keep_drewN|apply keep_drew|apply keep_alloc|refine keep_far ?_ GW238.out _)|exact HK.out)))⟩;have n6_:Aside0 (Below w0.heap.size w0 w55):=⟨(by rw [hw];exact (by repeat (first|(with_reducible first|exact HB.out|apply below_alloc|apply pw_below_drewN|apply below_drew1|refine below_set ?_ (IsS92.ge HI0.out)|refine below_set ?_ GE238.out)|exact HB.out)))⟩;clear hw HO_7 HO_15 HO_239003 BK238 HI0 HK HB;have HO_7:=n0_;have HO_15:=n1_;have HO_239003:=n2_;have BK238:=n3_;have HI0:=n4_;have HK:=n5_;have HB:=n6_;clear n0_ n1_ n2_ n3_ n4_ n5_ n6_;have hcz56_0:w55.cell? ⟨gb238,0,none⟩=some (.int .i64 x1_1):=(blk_cell BK238.out 0).trans rfl;have hcz56_1:w55.cell? ⟨gb238,1,none⟩=some (.int .i64 x9_1):=(blk_cell BK238.out 1).trans rfl;have hcz56_2:w55.cell? ⟨gb238,2,none⟩=some (.bool t239):=(blk_cell BK238.out 2).trans rfl;have hcz56_3:w55.cell? ⟨gb238,3,none⟩=some (.slice Ao20 t240.length co20):=(blk_cell BK238.out 3).trans rfl;have hcz56_4:w55.cell? ⟨gb238,4,none⟩=some (.bool t244):=(blk_cell BK238.out 4).trans rfl;have hcz56_5:w55.cell? ⟨gb238,5,none⟩=some (.slice Ao53 t245.length co53):=(blk_cell BK238.out 5).trans rfl;have hfz56_0:=blk_frozen BK238.out 0;have hfz56_1:=blk_frozen BK238.out 1;have hfz56_2:=blk_frozen BK238.out 2;have hfz56_3:=blk_frozen BK238.out 3;have hfz56_4:=blk_frozen BK238.out 4;have hfz56_5:=blk_frozen BK238.out 5)|((with_reducible refine gate_builtin (b:=.append) (xs:=#[.tmp 59,.tmp 61]) rfl ?_);at_builtin;refine Kd.S_append k79 w.heap.size rfl (.tmp 59) (.tmp 61) 32 79 (.agg #[(.int .i64 0),(.int .i64 0),(.bool false),(.slice none 0 0),(.bool false),(.slice none 0 0)]) 80 rfl Try.underlying32 info79 rfl (by decide) (by omega) u7 x7_1 (⟨x1_1,x9_1,t239,t240,t244,t245⟩:S79) [.int .i64 x1_1,.int .i64 x9_1,.bool t239,.slice Ao20 t240.length co20,.bool t244,.slice Ao53 t245.length co53] (fun k_=>k_ ≠ gb238) (fun k_=>some k_=(.slice Ao20 t240.length co20:Value).ownBlock∨some k_=(.slice Ao53 t245.length co53:Value).ownBlock) rfl rfl ?aP (fun k_ hk_=>hk_.elim (fun h_=>((Kd.R_mono (ok':=fun k_=>((fun k_=>k_ ≠ gb238)) k_∧some k_ ≠ (u7:Value).ownBlock) (Kd.R_types (Kd.R_apart' (HO_239003.out) (Kd.S_typed HO_7.out) (by decide)) BK238.out (by decide)) (fun k_ hk=>⟨hk.2,hk.1.2⟩))).1 k_ h_.symm) (fun h_=>((Kd.R_mono (ok':=fun k_=>((fun k_=>k_ ≠ gb238)) k_∧some k_ ≠ (u7:Value).ownBlock) (Kd.R_types (Kd.R_apart' (HO_15.out) (Kd.S_typed HO_7.out) (by decide)) BK238.out (by decide)) (fun k_ hk=>⟨hk.2,hk.1.2⟩))).1 k_ h_.symm)) ?aF ?aO (Below.refl _ _) ?aS ?aL ?_;(case aP=>exact k79_mkM _ _ _ (⟨x1_1,x9_1,t239,t240,t244,t245⟩:S79) (Kd.R_mono (Kd.R_tight rfl (Kd.R_mono (ok':=fun k_=>((fun k_=>k_ ≠ gb238)) k_∧some k_ ≠ (u7:Value).ownBlock) (Kd.R_types (Kd.R_apart' (HO_239003.out) (Kd.S_typed HO_7.out) (by decide)) BK238.out (by decide)) (fun k_ hk=>⟨hk.2,hk.1.2⟩))) (fun _ h_=>Or.inl h_)) (Kd.R_mono (Kd.R_tight rfl (Kd.R_mono (ok':=fun k_=>((fun k_=>k_ ≠ gb238)) k_∧some k_ ≠ (u7:Value).ownBlock) (Kd.R_types (Kd.R_apart' (HO_15.out) (Kd.S_typed HO_7.out) (by decide)) BK238.out (by decide)) (fun k_ hk=>⟨hk.2,hk.1.2⟩))) (fun _ h_=>Or.inr (h_))));(case aF=>exact (fun k_ hk=>Kd.freshB (g:=gb238) (o:=.cells #[.int .i64 x1_1,.int .i64 x9_1,.bool t239,.slice Ao20 t240.length co20,.bool t244,.slice Ao53 t245.length co53] 79 (0,0)) (by (with_reducible repeat (first|refine blk_drewN ?_ _|refine blk_drew ?_|refine blk_alloc ?_ _));exact BK238.out) k_ hk));(case aO=>exact (by (with_reducible repeat (first|apply Kd.S_alloc|apply Kd.S_drewN|apply Kd.S_drew));exact Kd.S_mono HO_7.out (fun k_ hk=>⟨hk.2.2,fun e_=>e_.elim (fun h_=>hk.2.1 h_) (fun h_=>hk.1 h_)⟩)));(case aS=>exact (keep_size (w:=w) (g:=g) (row:=none) (by repeat (first|(with_reducible first|exact HK.out|apply KeepBut.set_|apply keep_drewN|apply keep_drew|apply keep_alloc|refine keep_far ?_ GW238.out _)|exact HK.out))));(case aL=>have:=LMc46.out;omega);intro v264 w57 ho hb hg hat;rw [← Ny263.out] at ho;have n0_:=Aside0.mk (blk_grown (g:=gb238) (o:=.cells #[.int .i64 x1_1,.int .i64 x9_1,.bool t239,.slice Ao20 t240.length co20,.bool t244,.slice Ao53 t245.length co53] 79 (0,0)) (by (with_reducible repeat (first|refine blk_drewN ?_ _|refine blk_drew ?_|refine blk_alloc ?_ _));exact BK238.out) hg (Kd.S_away HO_7.out (fun _ hk=>hk.2.2)));have n1_:=Aside0.mk (IsS92.grown (by repeat (first|(with_reducible first|exact HI0.out|apply IsS92.alloc|apply IsS92.drewN|apply IsS92.drew|apply IsS92.set_1|refine IsS92.far ?_ NB0_238.out _)|exact HI0.out)) hg (IsS92.own_neS HI0.out HO_7.out (by decide)));have n2_:=Aside0.mk (below_weaken (by repeat (first|(with_reducible first|exact HB.out|apply below_alloc|apply pw_below_drewN|apply below_drew1|refine below_set ?_ (IsS92.ge HI0.out)|refine below_set ?_ GE238.out)|exact HB.out)) HL.out hb);have n3_:=Aside0.mk (KeepBut.trans (by repeat (first|(with_reducible first|exact HK.out|apply KeepBut.set_|apply keep_drewN|apply keep_drew|apply keep_alloc|refine keep_far ?_ GW238.out _)|exact HK.out)) (KeepBut.of_grown hg g) (Kd.S_base2 HO_7.out));have n4_:=Aside0.mk (ho);clear BK238 HI0 HB HK HO_7 HO_15 HO_239003;have BK238:=n0_;have HI0:=n1_;have HB:=n2_;have HK:=n3_;have HO265:=n4_;clear n0_ n1_ n2_ n3_ n4_;clear ho hb hg hat)|((with_reducible refine gate_callee (f:=67) rfl ?_);refine goesL_ (some 66) rfl rfl Try.func67 (by kernel_rfl) rfl #[.pointer (some ⟨g,0,none⟩),.int .i64 5] rfl (by (try simp only [map_toArray,map_cons,map_nil]);first|done|rfl|(simp only [length_drop,length_take];rfl)) ?_;(with_reducible refine (spec_l6Rd_pick.calls kj12 g s0_0 x1001_12 5 t266 t267 w0 _ ?side1 ?side2 A47.out).mono ?_);(case side1=>repeat (first|(with_reducible first|exact HI0.out|apply IsS92.alloc|apply IsS92.drewN|apply IsS92.drew|apply IsS92.set_1|refine IsS92.far ?_ NB0_238.out _)|exact HI0.out));(case side2=>repeat (first|(with_reducible first|exact HB.out|apply below_alloc|apply pw_below_drewN|apply below_drew1|refine below_set ?_ (IsS92.ge HI0.out)|refine below_set ?_ GE238.out)|exact HB.out));rintro e w58 ⟨rfl,hi,hb,hk⟩;refine ⟨_,rfl,?_⟩;have n0_:=Aside0.mk (KeepBut.blk hk (g':=gb238) (o:=.cells #[.int .i64 x1_1,.int .i64 x9_1,.bool t239,.slice Ao20 t240.length co20,.bool t244,.slice Ao53 t245.length co53] 79 (0,0)) (by (with_reducible repeat (first|refine blk_drewN ?_ _|refine blk_drew ?_|refine blk_alloc ?_ _));exact BK238.out) NB238_0.out (by simp));have n1_:=Aside0.mk (Kd.S_mono (Kd.S_keep (IsS92.apartS (show IsS92 w0 _ g s0_0 x1001_12 from by repeat (first|(with_reducible first|exact HI0.out|apply IsS92.alloc|apply IsS92.drewN|apply IsS92.drew|apply IsS92.set_1|refine IsS92.far ?_ NB0_238.out _)|exact HI0.out)) (by (with_reducible repeat (first|apply Kd.S_alloc|apply Kd.S_drewN|apply Kd.S_drew));exact HO265.out) (by decide)) hk (fun _ h=>h.2)) (fun _ h=>h.1));have n2_:=Aside0.mk (KeepBut.trans (by repeat (first|(with_reducible first|exact HK.out|apply KeepBut.set_|apply keep_drewN|apply keep_drew|apply keep_alloc|refine keep_far ?_ GW238.out _)|exact HK.out)) hk (.inl rfl));have n3_:=Aside0.mk (hb);have n4_:=Aside0.mk (hi);clear BK238 HO265 HK HB HI0;have BK238:=n0_;have HO265:=n1_;have HK:=n2_;have HB:=n3_;have HI0:=n4_;clear n0_ n1_ n2_ n3_ n4_;(try clear hb);(try clear hb2);(try clear hk);(try clear hi))|((with_reducible refine gate_callee (f:=67) rfl ?_);refine goesL_ (some 71) rfl rfl Try.func67 (by kernel_rfl) rfl #[.pointer (some ⟨g,0,none⟩),.int .i64 30] rfl (by (try simp only [map_toArray,map_cons,map_nil]);first|done|rfl|(simp only [length_drop,length_take];rfl)) ?_;(with_reducible refine (spec_l6Rd_pick.calls kj12 g s0_0 t267 30 t268 t269 w0 _ ?side1 ?side2 A48.out).mono ?_);(case side1=>repeat (first|(with_reducible first|exact HI0.out|apply IsS92.alloc|apply IsS92.drewN|apply IsS92.drew|apply IsS92.set_1|refine IsS92.far ?_ NB0_238.out _)|exact HI0.out));(case side2=>repeat (first|(with_reducible first|exact HB.out|apply below_alloc|apply pw_below_drewN|apply below_drew1|refine below_set ?_ (IsS92.ge HI0.out)|refine below_set ?_ GE238.out)|exact HB.out));rintro e w59 ⟨rfl,hi,hb,hk⟩;refine ⟨_,rfl,?_⟩;have n0_:=Aside0.mk (KeepBut.blk hk (g':=gb238) (o:=.cells #[.int .i64 x1_1,.int .i64 x9_1,.bool t239,.slice Ao20 t240.length co20,.bool t244,.slice Ao53 t245.length co53] 79 (0,0)) (by (with_reducible repeat (first|refine blk_drewN ?_ _|refine blk_drew ?_|refine blk_alloc ?_ _));exact BK238.out) NB238_0.out (by simp));have n1_:=Aside0.mk (Kd.S_mono (Kd.S_keep (IsS92.apartS (show IsS92 w0 _ g s0_0 t267 from by repeat (first|(with_reducible first|exact HI0.out|apply IsS92.alloc|apply IsS92.drewN|apply IsS92.drew|apply IsS92.set_1|refine IsS92.far ?_ NB0_238.out _)|exact HI0.out)) (by (with_reducible repeat (first|apply Kd.S_alloc|apply Kd.S_drewN|apply Kd.S_drew));exact HO265.out) (by decide)) hk (fun _ h=>h.2)) (fun _ h=>h.1));have n2_:=Aside0.mk (KeepBut.trans (by repeat (first|(with_reducible first|exact HK.out|apply KeepBut.set_|apply keep_drewN|apply keep_drew|apply keep_alloc|refine keep_far ?_ GW238.out _)|exact HK.out)) hk (.inl rfl));have n3_:=Aside0.mk (hb);have n4_:=Aside0.mk (hi);clear BK238 HO265 HK HB HI0;have BK238:=n0_;have HO265:=n1_;have HK:=n2_;have HB:=n3_;have HI0:=n4_;clear n0_ n1_ n2_ n3_ n4_;(try clear hb);(try clear hb2);(try clear hk);(try clear hi)))
        go_roundg kj12
        case measure=>have:=HK1.out;have:=HJ12.out;omega
        case rel=>exact ⟨(wrap64 ((wrap64 (x1_1+1))+(wrap64 (Int.tdiv t266 4)))),(y263),(ji49),(wrap64 (x10_1+1)),(t269),(by first|rfl|(simp;done)|(simp [*];done)),(by first|rfl|(simp;done)|(simp only [← hji49] <;> (first|rfl|simp))|(simp [*];done)),(by first|rfl|(simp;done)|(simp [*];done)),H',⟨by have:=HK1.out;have:=HJ12.out;omega⟩,⟨by (with_reducible repeat (first|apply Kd.S_alloc|apply Kd.S_drewN|apply Kd.S_drew));exact Kd.S_mono HO265.out (fun _ hk=>trivial)⟩,⟨by repeat (first|(with_reducible first|exact HI0.out|apply IsS92.alloc|apply IsS92.drewN|apply IsS92.drew|apply IsS92.set_1|refine IsS92.far ?_ NB0_238.out _)|exact HI0.out)⟩,⟨by repeat (first|(with_reducible first|exact HK.out|apply KeepBut.set_|apply keep_drewN|apply keep_drew|apply keep_alloc|refine keep_far ?_ GW238.out _)|exact HK.out)⟩,⟨by repeat (first|(with_reducible first|exact HB.out|apply below_alloc|apply pw_below_drewN|apply below_drew1|refine below_set ?_ (IsS92.ge HI0.out)|refine below_set ?_ GE238.out)|exact HB.out)⟩⟩
       ·rw [if_neg c46] at H
        exact absurd H (by simp)
   ·rw [if_neg c10] at H
    have c10b0:decide (x10_1 < (wrap64 (1+t234)))=false:=decide_eq_false c10
    clear c10
    simp only [Option.some.injEq,Prod.mk.injEq] at H
    obtain ⟨rfl,rfl⟩:=H
    go_wp2
    go_ret
    exact ⟨_,by first|rfl|(simp [errW_none,errW_some] <;> rfl)|(simp [*,errW_none,errW_some] <;> rfl),by (with_reducible repeat (first|apply Kd.S_alloc|apply Kd.S_drewN|apply Kd.S_drew));exact HO_7.out,by repeat (first|(with_reducible first|exact HI0.out|apply IsS92.alloc|apply IsS92.drewN|apply IsS92.drew|apply IsS92.set_1)|exact HI0.out),by repeat (first|(with_reducible first|exact HB.out|apply below_alloc|apply pw_below_drewN|apply below_drew1|refine below_set ?_ (IsS92.ge HI0.out))|exact HB.out),by repeat (first|(with_reducible first|exact HK.out|apply KeepBut.set_|apply keep_drewN|apply keep_drew|apply keep_alloc)|exact HK.out)⟩
end Go.Proofs.Ytkhmopmfbocokaa.T
