/- The law FnStableRecords holds (part 2 of 7; merged by pack2.py). -/
import Derived.Test.YticpnjhkdfdkkaaRows
import Derived.JoinedOf
import Derived.Test.YticpnjhkdfdkkaaProg
import Derived.RegionTactic
import Derived.Test.YticpnjhkdfdkkaaFnStableRecordsK0
open List (setIfInBounds_toArray set_cons_zero set_cons_succ map_toArray map_cons map_nil length_drop length_take)
namespace Go.Proofs.YticpnjhkdfdkkaaW.PrintWords
open Go.RowKit Go.Proofs.YticpnjhkdfdkkaaW.PrintLast
inductive Grew (W : World) : World → Prop
  | refl : Grew W W
  | alloc {V : World} (h : Grew W V) (o : Obj) : Grew W (V.alloc o)
  | drewN {V : World} (h : Grew W V) (n : Nat) : Grew W (V.drewN n)
  | drew {V : World} (h : Grew W V) : Grew W V.drew
theorem zzN {α : Type} {d : Kd α} {e base : Nat} {W W' : World} {ok : Nat → Prop} {v : Value} {xs : List α} (h : Kd.N d e W base ok v xs) (g : Grew W W' := by with_reducible repeat (first | exact Grew.refl | refine Grew.alloc ?_ _ | refine Grew.drewN ?_ _ | refine Grew.drew ?_)) : Kd.N d e W' base ok v xs := by
  induction g with
  | refl => exact h
  | alloc _ _ ih => exact Kd.N_alloc ih _
  | drewN _ _ ih => exact Kd.N_drewN ih _
  | drew _ ih => exact Kd.N_drew ih
theorem zzS {α : Type} {d : Kd α} {e base : Nat} {W W' : World} {ok : Nat → Prop} {v : Value} {xs : List α} (h : Kd.S d e W base ok v xs) (g : Grew W W' := by with_reducible repeat (first | exact Grew.refl | refine Grew.alloc ?_ _ | refine Grew.drewN ?_ _ | refine Grew.drew ?_)) : Kd.S d e W' base ok v xs := by
  induction g with
  | refl => exact h
  | alloc _ _ ih => exact Kd.S_alloc ih _
  | drewN _ _ ih => exact Kd.S_drewN ih _
  | drew _ ih => exact Kd.S_drew ih
theorem zzC {α : Type} {d : Kd α} {W W' : World} {A : Option Addr} {n : Nat} {xs : List α} (h : Kd.C d W A n xs) (g : Grew W W' := by with_reducible repeat (first | exact Grew.refl | refine Grew.alloc ?_ _ | refine Grew.drewN ?_ _ | refine Grew.drew ?_)) : Kd.C d W' A n xs := by
  induction g with
  | refl => exact h
  | alloc _ _ ih => exact Kd.C_alloc ih _
  | drewN _ _ ih => exact Kd.C_drewN ih _
  | drew _ ih => exact Kd.C_drew ih
theorem zzE {W W' : World} {b : Nat} {o : Obj} (h : W.heap[b]? = some o) (g : Grew W W' := by with_reducible repeat (first | exact Grew.refl | refine Grew.alloc ?_ _ | refine Grew.drewN ?_ _ | refine Grew.drew ?_)) : W'.heap[b]? = some o := by
  induction g with
  | refl => exact h
  | alloc _ _ ih => exact blk_alloc ih _
  | drewN _ _ ih => exact blk_drewN ih _
  | drew _ ih => exact blk_drew ih
theorem zzh2 {w W : World} (h : Below w.heap.size w W := by repeat (first | (with_reducible first | exact HB.out | apply zza | apply zzb | apply zzc | refine zzd ?_ (Aside0.out (by with_reducible assumption))) | exact HB.out)) : Below w.heap.size w W := h
theorem zzM2 {α : Type} {x y : α} (h : x = y := by (try simp only [List.map_toArray, List.map_cons, List.map_nil]); first | done | rfl | (simp only [List.length_drop, List.length_take]; rfl)) : x = y := h
theorem zzA2 {md : Region.Mode} {ops : Array Oper} {T : Bool × List (List Nat × List Nat)} {l l' : Array Bool} {i : Nat} (hT : rtab md ops = T) (h : anyT T l.toList l'.toList i = true := by kernel_rfl) : anyB md ops l l' i = true := any_of hT h
end Go.Proofs.YticpnjhkdfdkkaaW.PrintWords
namespace Go.Proofs.Yticpnjhkdfdkkaa.Head
open Go
theorem make_of (P : Program) (w : List Char) (R : List (List Char)) (h : behindMainWord (wordsSigns P.initOrder.toList) = w :: R) (h1 : (w == "gc".toList || w == "spec".toList) = false) (h2 : (w == "cut".toList) = true) : P.make = some .cut := by
 unfold Program.make
 rw [h]
 simp only [h1,h2,Bool.true_or,if_true,Bool.false_eq_true,if_false]
theorem enter_of (P : Program) (w : List Char) (R : List (List Char)) (h : behindMainWord (wordsSigns P.initOrder.toList) = w :: R) (h2 : stripLifts liftWords (w :: R) = ([], w :: R)) (h3 : ((w :: R).head? == some "cut".toList) = true)
  (h4:P.laysLater=false) (h5:P.bearsReflect=false) (h6:P.doorFits []=true):P.mayEnter=true:=by
 unfold Program.mayEnter
 rw [h]
 simp only [h2,h3,h4,h5,h6,List.contains_nil,Bool.not_false,Bool.and_self,Bool.or_true]
theorem lifts_of (P : Program) (w : List Char) (R : List (List Char)) (h : behindMainWord (wordsSigns P.initOrder.toList) = w :: R) (h2 : stripLifts liftWords (w :: R) = ([], w :: R)) (h3 : ((w :: R).head? == some "carried".toList) = false) : P.liftsFinal = false := by
 unfold Program.liftsFinal Program.headLifts
 rw [h]
 simp only [h2,h3,Bool.false_and,Bool.false_or,List.contains_nil,ite_self]
def chs (l:List Nat):List Char:=l.map Char.ofNat
theorem wordsSigns_word:∀ (w r:List Char),(∀ c∈w,c≠Char.ofNat 32)→wordsSigns (w++Char.ofNat 32::r)=w::wordsSigns r
 | [],r,_=>rfl
 | c::w,r,h=>by
  have ih:=wordsSigns_word w r (fun x hx=>h x (List.mem_cons_of_mem _ hx))
  have hc:c≠Char.ofNat 32:=h c List.mem_cons_self
  rw [List.cons_append,wordsSigns,ih]
  exact hc
def word1:List Nat:=[104,97,114,110,101,115,115]
def word2:List Nat:=[100,57,50,55,99,52,97,101,102,50,49,98,49,50,102,99,100,48,100,48,56,51,53,53,99,57,50,101,52,99,49,101,51,48,100,55,54,97,53,55,100,56,57,52,97,48,57,51,48,99,99,57,98,99,52,57,101,99,101,49,49,50,51,54]
def word3:List Nat:=[99,117,116]
def signs:List Nat:=[97,116,32,108,111,111,112,46,101,120,97,109,112,108,101,47,114,101,99,111,114,100,98,97,116,99,104,101,115,47,108,97,119,115,46,70,110,77,97,114,107,66,97,116,99,104,32,108,111,111,112,46,101,120,97,109,112,108,101,47,114,101,99,111,114,100,98,97,116,99,104,101,115,47,108,97,119,115,46,70,110,77,97,114,107,66,97,116,99,104,84,119,111,32,108,111,111,112,46,101,120,97,109,112,108,101,47,114,101,99,111,114,100,98,97,116,99,104,101,115,47,108,97,119,115,46,70,110,69,120,97,99,116,77,97,114,107,66,97,116,99,104,32,108,111,111,112,46,101,120,97,109,112,108,101,47,114,101,99,111,114,100,98,97,116,99,104,101,115,47,108,97,119,115,46,70,110,83,116,97,98,108,101,32,108,111,111,112,46,101,120,97,109,112,108,101,47,114,101,99,111,114,100,98,97,116,99,104,101,115,47,108,97,119,115,46,70,110,85,110,100,111,110,101,32,108,111,111,112,46,101,120,97,109,112,108,101,47,114,101,99,111,114,100,98,97,116,99,104,101,115,47,108,97,119,115,46,70,110,85,110,100,111,110,101,78,111,110,101,32,108,111,111,112,46,101,120,97,109,112,108,101,47,114,101,99,111,114,100,98,97,116,99,104,101,115,47,108,97,119,115,46,70,110,85,110,100,111,110,101,79,114,100,101,114,32,108,111,111,112,46,101,120,97,109,112,108,101,47,114,101,99,111,114,100,98,97,116,99,104,101,115,47,108,97,119,115,46,70,110,83,116,97,98,108,101,77,111,114,101,32,108,111,111,112,46,101,120,97,109,112,108,101,47,114,101,99,111,114,100,98,97,116,99,104,101,115,47,108,97,119,115,46,70,110,83,116,97,98,108,101,68,101,99,105,100,101,32,108,111,111,112,46,101,120,97,109,112,108,101,47,114,101,99,111,114,100,98,97,116,99,104,101,115,47,108,97,119,115,46,70,110,83,116,97,98,108,101,65,108,108,32,108,111,111,112,46,101,120,97,109,112,108,101,47,114,101,99,111,114,100,98,97,116,99,104,101,115,47,108,97,119,115,46,70,110,69,120,97,99,116,83,116,97,98,108,101,69,110,100,32,108,111,111,112,46,101,120,97,109,112,108,101,47,114,101,99,111,114,100,98,97,116,99,104,101,115,47,108,97,119,115,46,70,110,83,116,97,98,108,101,82,101,99,111,114,100,115,82,101,97,100,32,108,111,111,112,46,101,120,97,109,112,108,101,47,114,101,99,111,114,100,98,97,116,99,104,101,115,47,108,97,119,115,46,70,110,83,116,97,98,108,101,82,101,99,111,114,100,115,32,108,111,111,112,46,101,120,97,109,112,108,101,47,114,101,99,111,114,100,98,97,116,99,104,101,115,47,108,97,119,115,46,70,110,69,120,97,99,116,85,110,100,111,110,101,79,102,32,108,111,111,112,46,101,120,97,109,112,108,101,47,114,101,99,111,114,100,98,97,116,99,104,101,115,47,108,97,119,115,46,70,110,69,120,97,99,116,83,116,97,98,108,101,82,101,99,111,114,100,115]
theorem init_is:Try.prog.initOrder=String.ofList (chs word1++Char.ofNat 32::(chs word2++Char.ofNat 32::(chs word3++Char.ofNat 32::chs signs))):=by kernel_rfl
theorem init_words:wordsSigns Try.prog.initOrder.toList=chs word1::chs word2::chs word3::wordsSigns (chs signs):=by
 rw [init_is,String.toList_ofList,wordsSigns_word _ _ (by decide +kernel),wordsSigns_word _ _ (by decide +kernel),wordsSigns_word _ _ (by decide +kernel)]
theorem behind_is:∃ R,behindMainWord (wordsSigns Try.prog.initOrder.toList)=chs word3::R:=by
 rw [init_words]
 generalize wordsSigns (chs signs)=R
 exact ⟨R,by kernel_rfl⟩
theorem strip_is (R:List (List Char)):stripLifts liftWords (chs word3::R)=([],chs word3::R):=by kernel_rfl
theorem make_is:Try.prog.make=some .cut:=by
 obtain ⟨R,h⟩:=behind_is
 exact make_of _ _ R h (by kernel_rfl) (by kernel_rfl)
theorem lays_later:Try.prog.laysLater=false:=by kernel_rfl
theorem bears_reflect:Try.prog.bearsReflect=false:=by kernel_rfl
theorem door_fits:Try.prog.doorFits []=true:=by kernel_rfl
theorem may_enter:Try.prog.mayEnter=true:=by
 obtain ⟨R,h⟩:=behind_is
 exact enter_of _ _ R h (strip_is R) (by kernel_rfl) lays_later bears_reflect door_fits
theorem lifts_final:Try.prog.liftsFinal=false:=by
 obtain ⟨R,h⟩:=behind_is
 exact lifts_of _ _ R h (strip_is R) (by kernel_rfl)
theorem and2 {a b:Bool} (h:a=true) (h2:b=true):(a&&b)=true:=by rw [h,h2];rfl
theorem closed_of (P:Program) (f:FuncId) (fn:Func) (s:ChangeSpec) (c:OpenClaim) (k0:(c.wf (OpenSpec.ofChange s))=true) (k1:(laidOutB P)=true) (k2:(mapsRowed P)=true) (k3:(fn.params.all (P.readableRec ·))=true) (k4:(namedTie P c.named s.vars)=true) (k5:((c.stops == []))=true) (k6:((P.stops == []))=true) (k7:((c.knobs == []))=true) (k8:((P.stopKnobs == []))=true) (k9:((c.inPlace==P.inPlace f))=true) (k10:((c.unfollowed==P.unfollowed f))=true) (k11:((c.recurses==P.recurses f))=true) (k12:((c.named==P.varsNamed f))=true) (k13:((c.maps==(fn.params.toList++s.plain.varTypes P).any (P.mapsRec ·)))=true) (k14:((c.ifaces==(fn.params.toList++s.plain.varTypes P).any (P.ifacesRec ·)))=true) (k15:((c.mapsOut==P.mapsAmong fn.resultTypes.toList))=true) (k16:((c.loops==(fn.params.toList++s.plain.varTypes P).any (P.loopsFrom ·)))=true) (k17:((c.wideKeys==(fn.params.toList++s.plain.varTypes P++fn.resultTypes.toList).any (P.wideKeysFrom ·)))=true) (k18:(s.vars.all (P.varReadable ·))=true) (k19:(fn.resultTypes.all (fun t=>P.readableRec t&&decide (t < P.types.size)))=true) (k20:((c.ifacesOut==fn.resultTypes.toList.any (P.ifacesRec ·)))=true) (k21:((c.loopsOut==fn.resultTypes.toList.any (P.loopsFrom ·)))=true) (k22:((c.plainKeys==P.plainKeys))=true) (k23:(c.shortTexts.isNone)=true) (k24:(P.stopsHeard)=true) (k25:(P.mayEnter)=true) (k26:((c.lifted==P.liftsFinal))=true) (k27:((P.make==some c.make))=true) (k28:((c.kinds==(if c.domain.isEmpty then [] else fn.params.toList.map fun t=>match P.underlying t with|some (.int k)=>some k|_=>none)))=true) (k29:((c.pinned==c.pinnedBy))=true) (k30:((c.veiled==(fn.params.toList++s.plain.varTypes P++fn.resultTypes.toList).any (P.veiledRec ·)))=true) (k31:(c.veiledFits P fn.params.toList (fn.params.toList++s.plain.varTypes P++fn.resultTypes.toList))=true):joinedFacts P f fn s c=true:=by
 unfold joinedFacts
 exact (and2 (and2 (and2 (and2 (and2 (and2 (and2 (and2 (and2 (and2 (and2 (and2 (and2 (and2 (and2 (and2 (and2 (and2 (and2 (and2 (and2 (and2 (and2 (and2 (and2 (and2 (and2 (and2 (and2 (and2 (and2 k0 k1) k2) k3) k4) k5) k6) k7) k8) k9) k10) k11) k12) k13) k14) k15) k16) k17) k18) k19) k20) k21) k22) k23) k24) k25) k26) k27) k28) k29) k30) k31)
end Go.Proofs.Yticpnjhkdfdkkaa.Head
namespace Go.Proofs.Yticpnjhkdfdkkaa.T
open Go.RowKit Go.Proofs.YticpnjhkdfdkkaaW.PrintWords Go.Proofs.YticpnjhkdfdkkaaW.PrintLast Go.Proofs.YticpnjhkdfdkkaaW.PrintMore
attribute [local go_sem] max2_int max_two
set_option linter.unusedVariables false
set_option linter.unusedSimpArgs false
def errW:Option Int→Value
 | none=>.nilIface
 | some c=>.iface 0 (.int .i64 c)
theorem errW_none:errW none = .nilIface:=rfl
theorem errW_some (c:Int):errW (some c) = .iface 0 (.int .i64 c):=rfl
theorem info3:(Try.prog.info? 3).map (fun i=>(i.zero,i.size,i.bytes))=some (some (.int .i64 0),1,8):=by kernel_rfl
theorem info5:(Try.prog.info? 5).map (fun i=>(i.zero,i.size,i.bytes))=some (some (.int .u8 0),1,1):=by kernel_rfl
theorem info27:(Try.prog.info? 27).map (fun i=>(i.zero,i.size,i.bytes))=some (some (.agg #[(.bool false),(.bool false),(.int .i64 0),(.int .i64 0),(.int .i64 0),(.slice none 0 0)]),6,56):=by kernel_rfl
theorem info34:(Try.prog.info? 34).map (fun i=>(i.zero,i.size,i.bytes))=some (some (.agg #[(.int .i64 0),(.int .i64 0),(.bool false),(.slice none 0 0),(.bool false),(.slice none 0 0)]),6,80):=by kernel_rfl
theorem info46:(Try.prog.info? 46).map (fun i=>(i.zero,i.size,i.bytes))=some (some (.agg #[(.int .i64 0),(.int .i64 0),(.int .i64 0)]),3,24):=by kernel_rfl
structure S34 where
 f0:Int
 f1:Int
 f2:Bool
 f3:(List Int)
 f4:Bool
 f5:(List Int)
def z34:S34:=⟨(0:Int),(0:Int),false,([]:List Int),false,([]:List Int)⟩
def k34:Kd S34:=Kd.iso (Kd.pair (Kd.int .i64) (Kd.pair (Kd.int .i64) (Kd.pair Kd.bool (Kd.pair (Kd.slice 3 (Kd.int .i64)) (Kd.pair Kd.bool (Kd.slice 3 (Kd.int .i64))))))) (fun x:S34=>(x.f0,x.f1,x.f2,x.f3,x.f4,x.f5))
theorem k34_open {w:World} {x:S34} {cs:List Value} (h:k34.K w x cs):∃ A3 c3 A5 c5,cs = [.int .i64 x.f0,.int .i64 x.f1,.bool x.f2,.slice A3 x.f3.length c3,.bool x.f4,.slice A5 x.f5.length c5]∧x.f3.length≤c3∧(Kd.int .i64).C w A3 x.f3.length x.f3∧x.f5.length≤c5∧(Kd.int .i64).C w A5 x.f5.length x.f5:=by
 obtain ⟨_,_,rfl,rfl,⟨_,_,rfl,rfl,⟨_,_,rfl,rfl,⟨_,_,rfl,⟨A3,c3,rfl,l3,g3⟩,⟨_,_,rfl,rfl,⟨A5,c5,rfl,l5,g5⟩⟩⟩⟩⟩⟩:=h;exact ⟨A3,c3,A5,c5,rfl,l3,g3,l5,g5⟩
theorem k34_mk (w:World) (x:S34) {A3:Option Addr} {c3:Nat} (l3:x.f3.length≤c3) (g3:(Kd.int .i64).C w A3 x.f3.length x.f3) {A5:Option Addr} {c5:Nat} (l5:x.f5.length≤c5) (g5:(Kd.int .i64).C w A5 x.f5.length x.f5):k34.K w x [.int .i64 x.f0,.int .i64 x.f1,.bool x.f2,.slice A3 x.f3.length c3,.bool x.f4,.slice A5 x.f5.length c5]:=⟨[.int .i64 x.f0],[.int .i64 x.f1,.bool x.f2,.slice A3 x.f3.length c3,.bool x.f4,.slice A5 x.f5.length c5],rfl,rfl,⟨[.int .i64 x.f1],[.bool x.f2,.slice A3 x.f3.length c3,.bool x.f4,.slice A5 x.f5.length c5],rfl,rfl,⟨[.bool x.f2],[.slice A3 x.f3.length c3,.bool x.f4,.slice A5 x.f5.length c5],rfl,rfl,⟨[.slice A3 x.f3.length c3],[.bool x.f4,.slice A5 x.f5.length c5],rfl,⟨A3,c3,rfl,l3,g3⟩,⟨[.bool x.f4],[.slice A5 x.f5.length c5],rfl,rfl,⟨A5,c5,rfl,l5,g5⟩⟩⟩⟩⟩⟩
theorem k34_mkM (w:World) (base:Nat) (ok:Nat→Prop) (x:S34) {v3:Value} (g3:(Kd.int .i64).R 3 w base ok v3 x.f3) {v5:Value} (g5:(Kd.int .i64).R 3 w base ok v5 x.f5):k34.M w base ok x [.int .i64 x.f0,.int .i64 x.f1,.bool x.f2,v3,.bool x.f4,v5]:=⟨[.int .i64 x.f0],[.int .i64 x.f1,.bool x.f2,v3,.bool x.f4,v5],rfl,rfl,⟨[.int .i64 x.f1],[.bool x.f2,v3,.bool x.f4,v5],rfl,rfl,⟨[.bool x.f2],[v3,.bool x.f4,v5],rfl,rfl,⟨[v3],[.bool x.f4,v5],rfl,⟨v3,rfl,g3⟩,⟨[.bool x.f4],[v5],rfl,rfl,⟨v5,rfl,g5⟩⟩⟩⟩⟩⟩
theorem k34_openF {W:World} {ok:Nat→Prop} {x:S34} {cs:List Value} (h:Kd.FK k34 W ok x cs):∃ A3 c3 A5 c5,cs = [.int .i64 x.f0,.int .i64 x.f1,.bool x.f2,.slice A3 x.f3.length c3,.bool x.f4,.slice A5 x.f5.length c5]∧x.f3.length≤c3∧Kd.F (Kd.int .i64) W ok A3 x.f3.length x.f3∧x.f5.length≤c5∧Kd.F (Kd.int .i64) W ok A5 x.f5.length x.f5:=by
 obtain ⟨A3,c3,A5,c5,rfl,l3,_,l5,_⟩:=k34_open (Kd.FK_now h);exact ⟨A3,c3,A5,c5,rfl,l3,(fun W' hW=>by obtain ⟨A3_,c3_,A5_,c5_,he,l3_,g3_,l5_,g5_⟩:=k34_open (h W' hW);injection (Option.some.inj (show some (Value.slice A3 x.f3.length c3)=some (Value.slice A3_ x.f3.length c3_) from congrArg (fun l=>l[3]?) he)) with ha_ _ _;rw [ha_];exact g3_),l5,(fun W' hW=>by obtain ⟨A3_,c3_,A5_,c5_,he,l3_,g3_,l5_,g5_⟩:=k34_open (h W' hW);injection (Option.some.inj (show some (Value.slice A5 x.f5.length c5)=some (Value.slice A5_ x.f5.length c5_) from congrArg (fun l=>l[5]?) he)) with ha_ _ _;rw [ha_];exact g5_)⟩
theorem k34_mkF (W:World) (ok:Nat→Prop) (x:S34) {A3:Option Addr} {c3:Nat} (l3:x.f3.length≤c3) (g3:Kd.F (Kd.int .i64) W ok A3 x.f3.length x.f3) {A5:Option Addr} {c5:Nat} (l5:x.f5.length≤c5) (g5:Kd.F (Kd.int .i64) W ok A5 x.f5.length x.f5):Kd.FK k34 W ok x [.int .i64 x.f0,.int .i64 x.f1,.bool x.f2,.slice A3 x.f3.length c3,.bool x.f4,.slice A5 x.f5.length c5]:=fun W2 hW=>k34_mk W2 x l3 (g3 W2 hW) l5 (g5 W2 hW)
def rd_T34 (xs:List S34) (i:Int):S34:=xs.getD i.toNat z34
theorem at_T34 {w:World} {A:Option Addr} {n:Nat} {xs:List S34} (h:Kd.C k34 w A n xs) (i:Int) (h0 : 0≤i) (h1:i < n):∃ ad A3 c3 A5 c5,A=some ad∧w.cell? (ad.add (i.toNat * 6))=some (.int .i64 (rd_T34 xs i).f0)∧w.cell? ⟨(ad.add (i.toNat * 6)).block,(ad.add (i.toNat * 6)).off+1,none⟩=some (.int .i64 (rd_T34 xs i).f1)∧w.cell? ⟨(ad.add (i.toNat * 6)).block,(ad.add (i.toNat * 6)).off+2,none⟩=some (.bool (rd_T34 xs i).f2)∧w.cell? ⟨(ad.add (i.toNat * 6)).block,(ad.add (i.toNat * 6)).off+3,none⟩=some (.slice A3 (rd_T34 xs i).f3.length c3)∧w.cell? ⟨(ad.add (i.toNat * 6)).block,(ad.add (i.toNat * 6)).off+4,none⟩=some (.bool (rd_T34 xs i).f4)∧w.cell? ⟨(ad.add (i.toNat * 6)).block,(ad.add (i.toNat * 6)).off+5,none⟩=some (.slice A5 (rd_T34 xs i).f5.length c5)∧(rd_T34 xs i).f3.length≤c3∧(Kd.int .i64).C w A3 (rd_T34 xs i).f3.length (rd_T34 xs i).f3∧(rd_T34 xs i).f5.length≤c5∧(Kd.int .i64).C w A5 (rd_T34 xs i).f5.length (rd_T34 xs i).f5:=by
 obtain ⟨ad,c,e,_,hK,hc0⟩:=Kd.C_get h z34 i h0 h1;have hc:∀ j u,c[j]? = some u→w.cell? (ad.add (i.toNat * 6+j))=some u:=hc0;obtain ⟨A3,c3,A5,c5,rfl,l3,g3,l5,g5⟩:=k34_open hK;exact ⟨ad,A3,c3,A5,c5,e,hc 0 _ rfl,by rw [← add_field _ _ 1 (by omega)];exact hc 1 _ rfl,by rw [← add_field _ _ 2 (by omega)];exact hc 2 _ rfl,by rw [← add_field _ _ 3 (by omega)];exact hc 3 _ rfl,by rw [← add_field _ _ 4 (by omega)];exact hc 4 _ rfl,by rw [← add_field _ _ 5 (by omega)];exact hc 5 _ rfl,l3,g3,l5,g5⟩
structure S27 where
 f0:Bool
 f1:Bool
 f2:Int
 f3:Int
 f4:Int
 f5:(List S34)
def z27:S27:=⟨false,false,(0:Int),(0:Int),(0:Int),([]:List S34)⟩
def k27:Kd S27:=Kd.iso (Kd.pair Kd.bool (Kd.pair Kd.bool (Kd.pair (Kd.int .i64) (Kd.pair (Kd.int .i64) (Kd.pair (Kd.int .i64) (Kd.slice 34 k34)))))) (fun x:S27=>(x.f0,x.f1,x.f2,x.f3,x.f4,x.f5))
theorem k27_open {w:World} {x:S27} {cs:List Value} (h:k27.K w x cs):∃ A5 c5,cs = [.bool x.f0,.bool x.f1,.int .i64 x.f2,.int .i64 x.f3,.int .i64 x.f4,.slice A5 x.f5.length c5]∧x.f5.length≤c5∧k34.C w A5 x.f5.length x.f5:=by
 obtain ⟨_,_,rfl,rfl,⟨_,_,rfl,rfl,⟨_,_,rfl,rfl,⟨_,_,rfl,rfl,⟨_,_,rfl,rfl,⟨A5,c5,rfl,l5,g5⟩⟩⟩⟩⟩⟩:=h;exact ⟨A5,c5,rfl,l5,g5⟩
theorem k27_mk (w:World) (x:S27) {A5:Option Addr} {c5:Nat} (l5:x.f5.length≤c5) (g5:k34.C w A5 x.f5.length x.f5):k27.K w x [.bool x.f0,.bool x.f1,.int .i64 x.f2,.int .i64 x.f3,.int .i64 x.f4,.slice A5 x.f5.length c5]:=⟨[.bool x.f0],[.bool x.f1,.int .i64 x.f2,.int .i64 x.f3,.int .i64 x.f4,.slice A5 x.f5.length c5],rfl,rfl,⟨[.bool x.f1],[.int .i64 x.f2,.int .i64 x.f3,.int .i64 x.f4,.slice A5 x.f5.length c5],rfl,rfl,⟨[.int .i64 x.f2],[.int .i64 x.f3,.int .i64 x.f4,.slice A5 x.f5.length c5],rfl,rfl,⟨[.int .i64 x.f3],[.int .i64 x.f4,.slice A5 x.f5.length c5],rfl,rfl,⟨[.int .i64 x.f4],[.slice A5 x.f5.length c5],rfl,rfl,⟨A5,c5,rfl,l5,g5⟩⟩⟩⟩⟩⟩
theorem k27_openF {W:World} {ok:Nat→Prop} {x:S27} {cs:List Value} (h:Kd.FK k27 W ok x cs):∃ A5 c5,cs = [.bool x.f0,.bool x.f1,.int .i64 x.f2,.int .i64 x.f3,.int .i64 x.f4,.slice A5 x.f5.length c5]∧x.f5.length≤c5∧Kd.F k34 W ok A5 x.f5.length x.f5:=by
 obtain ⟨A5,c5,rfl,l5,_⟩:=k27_open (Kd.FK_now h);exact ⟨A5,c5,rfl,l5,(fun W' hW=>by obtain ⟨A5_,c5_,he,l5_,g5_⟩:=k27_open (h W' hW);injection (Option.some.inj (show some (Value.slice A5 x.f5.length c5)=some (Value.slice A5_ x.f5.length c5_) from congrArg (fun l=>l[5]?) he)) with ha_ _ _;rw [ha_];exact g5_)⟩
theorem k27_mkF (W:World) (ok:Nat→Prop) (x:S27) {A5:Option Addr} {c5:Nat} (l5:x.f5.length≤c5) (g5:Kd.F k34 W ok A5 x.f5.length x.f5):Kd.FK k27 W ok x [.bool x.f0,.bool x.f1,.int .i64 x.f2,.int .i64 x.f3,.int .i64 x.f4,.slice A5 x.f5.length c5]:=fun W2 hW=>k27_mk W2 x l5 (g5 W2 hW)
def rd_T27 (xs:List S27) (i:Int):S27:=xs.getD i.toNat z27
theorem at_T27 {w:World} {A:Option Addr} {n:Nat} {xs:List S27} (h:Kd.C k27 w A n xs) (i:Int) (h0 : 0≤i) (h1:i < n):∃ ad A5 c5,A=some ad∧w.cell? (ad.add (i.toNat * 6))=some (.bool (rd_T27 xs i).f0)∧w.cell? ⟨(ad.add (i.toNat * 6)).block,(ad.add (i.toNat * 6)).off+1,none⟩=some (.bool (rd_T27 xs i).f1)∧w.cell? ⟨(ad.add (i.toNat * 6)).block,(ad.add (i.toNat * 6)).off+2,none⟩=some (.int .i64 (rd_T27 xs i).f2)∧w.cell? ⟨(ad.add (i.toNat * 6)).block,(ad.add (i.toNat * 6)).off+3,none⟩=some (.int .i64 (rd_T27 xs i).f3)∧w.cell? ⟨(ad.add (i.toNat * 6)).block,(ad.add (i.toNat * 6)).off+4,none⟩=some (.int .i64 (rd_T27 xs i).f4)∧w.cell? ⟨(ad.add (i.toNat * 6)).block,(ad.add (i.toNat * 6)).off+5,none⟩=some (.slice A5 (rd_T27 xs i).f5.length c5)∧(rd_T27 xs i).f5.length≤c5∧k34.C w A5 (rd_T27 xs i).f5.length (rd_T27 xs i).f5:=by
 obtain ⟨ad,c,e,_,hK,hc0⟩:=Kd.C_get h z27 i h0 h1;have hc:∀ j u,c[j]? = some u→w.cell? (ad.add (i.toNat * 6+j))=some u:=hc0;obtain ⟨A5,c5,rfl,l5,g5⟩:=k27_open hK;exact ⟨ad,A5,c5,e,hc 0 _ rfl,by rw [← add_field _ _ 1 (by omega)];exact hc 1 _ rfl,by rw [← add_field _ _ 2 (by omega)];exact hc 2 _ rfl,by rw [← add_field _ _ 3 (by omega)];exact hc 3 _ rfl,by rw [← add_field _ _ 4 (by omega)];exact hc 4 _ rfl,by rw [← add_field _ _ 5 (by omega)];exact hc 5 _ rfl,l5,g5⟩
structure S46 where
 f0:Int
 f1:Int
 f2:Int
def z46:S46:=⟨(0:Int),(0:Int),(0:Int)⟩
def k46:Kd S46:=Kd.iso (Kd.pair (Kd.int .i64) (Kd.pair (Kd.int .i64) (Kd.int .i64))) (fun x:S46=>(x.f0,x.f1,x.f2))
theorem k46_open {w:World} {x:S46} {cs:List Value} (h:k46.K w x cs):cs = [.int .i64 x.f0,.int .i64 x.f1,.int .i64 x.f2]:=by
 obtain ⟨_,_,rfl,rfl,⟨_,_,rfl,rfl,rfl⟩⟩:=h;exact rfl
theorem k46_mkM (w:World) (base:Nat) (ok:Nat→Prop) (x:S46)  : k46.M w base ok x [.int .i64 x.f0,.int .i64 x.f1,.int .i64 x.f2]:=⟨[.int .i64 x.f0],[.int .i64 x.f1,.int .i64 x.f2],rfl,rfl,⟨[.int .i64 x.f1],[.int .i64 x.f2],rfl,rfl,rfl⟩⟩
def rd_T46 (xs:List S46) (i:Int):S46:=xs.getD i.toNat z46
theorem at_T46 {w:World} {A:Option Addr} {n:Nat} {xs:List S46} (h:Kd.C k46 w A n xs) (i:Int) (h0 : 0≤i) (h1:i < n):∃ ad,A=some ad∧w.cell? (ad.add (i.toNat * 3))=some (.int .i64 (rd_T46 xs i).f0)∧w.cell? ⟨(ad.add (i.toNat * 3)).block,(ad.add (i.toNat * 3)).off+1,none⟩=some (.int .i64 (rd_T46 xs i).f1)∧w.cell? ⟨(ad.add (i.toNat * 3)).block,(ad.add (i.toNat * 3)).off+2,none⟩=some (.int .i64 (rd_T46 xs i).f2):=by
 obtain ⟨ad,c,e,_,hK,hc0⟩:=Kd.C_get h z46 i h0 h1;have hc:∀ j u,c[j]? = some u→w.cell? (ad.add (i.toNat * 3+j))=some u:=hc0;obtain rfl:=k46_open hK;exact ⟨ad,e,hc 0 _ rfl,by rw [← add_field _ _ 1 (by omega)];exact hc 1 _ rfl,by rw [← add_field _ _ 2 (by omega)];exact hc 2 _ rfl⟩
end Go.Proofs.Yticpnjhkdfdkkaa.T
namespace Go.Proofs.Yticpnjhkdfdkkaa.T
open Go.RowKit Go.Proofs.YticpnjhkdfdkkaaW.PrintWords Go.Proofs.YticpnjhkdfdkkaaW.PrintLast Go.Proofs.YticpnjhkdfdkkaaW.PrintMore
attribute [local go_sem] max2_int max_two
set_option linter.unusedVariables false
set_option linter.unusedSimpArgs false
def impl_Batch_first.f (a0_0:Bool) (a0_1:Bool) (a0_2:Int) (a0_3:Int) (a0_4:Int) (l0_5:List (S34)):Option (Int):=if 0 < (l0_5.length:Int) then (some ((rd_T34 l0_5 0).f0)) else (none)
set_option maxHeartbeats 8000000 in
set_option maxRecDepth 100000 in
theorem impl_Batch_first.calls (a0_0:Bool) (a0_1:Bool) (a0_2:Int) (a0_3:Int) (a0_4:Int) (A0_5:Option Addr) (c0_5:Nat) (l0_5:List (S34)) (r:Int) (w:World) (hr0_5:Kd.C k34 w A0_5 l0_5.length l0_5) (hc0_5:l0_5.length≤c0_5) (h:impl_Batch_first.f a0_0 a0_1 a0_2 a0_3 a0_4 l0_5=some r) :
  Calls Try.prog 63 #[.agg #[.bool a0_0,.bool a0_1,.int .i64 a0_2,.int .i64 a0_3,.int .i64 a0_4,.slice A0_5 l0_5.length c0_5]] w fun e w'=>e = .returned (.int .i64 r)∧Below w.heap.size w w':=by
 have hu27:=Try.underlying27;have HR0_5:=zzm hr0_5;have HC0_5:=zzm hc0_5;clear hr0_5 hc0_5;have HB:=zzm (Below.refl w.heap.size w);have H:(if 0 < (l0_5.length:Int) then (some ((rd_T34 l0_5 0).f0)) else (none))=some r:=h;clear h;by_cases c2 : 0 < (l0_5.length:Int)
 ·
  rw [if_pos c2] at H;have c2b0:decide (0 < (l0_5.length:Int))=true:=decide_eq_true c2;have c2b1:decide (0 < l0_5.length)=true:=decide_eq_true (by omega);clear c2;obtain rfl:=Option.some.inj H;go_enter Try.func63,Try.ntmps63;go_wp2_with (first|((with_reducible refine gate_dst (N:=1) rfl ?_);refine box_event ?hg (N:=1) ?hd (cs:=#[.bool a0_0,.bool a0_1,.int .i64 a0_2,.int .i64 a0_3,.int .i64 a0_4,.slice A0_5 l0_5.length c0_5]) (t:=27) ?hr ?_;(case hd=>rfl);(case hg=>rfl);(case hr=>first|(go_simp;done)|(go_simp;rfl));intro gb265 hg w3 hbox hb;have n0_:=zzm (zzp zzh1 hb);have n1_:=zzm (hbox);have n2_:=zzm ((by rw [hg];exact (zzo zzh1):w.heap.size≤gb265));have n3_:=zzm ((by rw [hg];exact (zzo zzh1):w.heap.size≤gb265));clear HB;have HB:=n0_;have BK265:=n1_;have GW265:=n2_;have GE265:=n3_;clear n0_ n1_ n2_ n3_ hb hbox hg;obtain ⟨hcz4_0,hcz4_1,hcz4_2,hcz4_3,hcz4_4,hcz4_5,hfz4_0,hfz4_1,hfz4_2,hfz4_3,hfz4_4,hfz4_5⟩:=zzc6 BK265.out;have p266 : 0≤(0:Int):=(by omega);have q266 : 0 < (l0_5.length:Int):=zzt;obtain ⟨ad266,A266_3,c266_3,A266_5,c266_5,e266,hx266_0,hx266_1,hx266_2,hx266_3,hx266_4,hx266_5,hl266_3,hi266_3,hl266_5,hi266_5⟩:=at_T34 HR0_5.out 0 p266 q266;cases e266;have qi266:(0 < l0_5.length)=True:=eq_true (by omega);(try rw [show ((0:Int)).toNat=0 from rfl] at hx266_0);(try rw [show 0 * 6=0 from rfl] at hx266_0);(try rw [Addr.add_zero'] at hx266_0);(try rw [show ((0:Int)).toNat=0 from rfl] at hx266_1);(try rw [show 0 * 6=0 from rfl] at hx266_1);(try rw [Addr.add_zero'] at hx266_1);(try rw [show ((0:Int)).toNat=0 from rfl] at hx266_2);(try rw [show 0 * 6=0 from rfl] at hx266_2);(try rw [Addr.add_zero'] at hx266_2);(try rw [show ((0:Int)).toNat=0 from rfl] at hx266_3);(try rw [show 0 * 6=0 from rfl] at hx266_3);(try rw [Addr.add_zero'] at hx266_3);(try rw [show ((0:Int)).toNat=0 from rfl] at hx266_4);(try rw [show 0 * 6=0 from rfl] at hx266_4);(try rw [Addr.add_zero'] at hx266_4);(try rw [show ((0:Int)).toNat=0 from rfl] at hx266_5);(try rw [show 0 * 6=0 from rfl] at hx266_5);(try rw [Addr.add_zero'] at hx266_5);replace hx266_0:=zzx HB.out hx266_0;replace hx266_1:=zzx HB.out hx266_1;replace hx266_2:=zzx HB.out hx266_2;replace hx266_3:=zzx HB.out hx266_3;replace hx266_4:=zzx HB.out hx266_4;replace hx266_5:=zzx HB.out hx266_5;have HR266_3:=zzm hi266_3;have HC266_3:=zzm hl266_3;clear hi266_3 hl266_3;have HR266_5:=zzm hi266_5;have HC266_5:=zzm hl266_5;clear hi266_5 hl266_5;replace p266:=eq_true p266;replace q266:=eq_true q266));go_ret;exact ⟨by first|rfl|(simp [errW_none,errW_some] <;> rfl)|(simp [*,errW_none,errW_some] <;> rfl),by repeat (first|(with_reducible first|exact HB.out|apply zza|apply zzb|apply zzc|refine zzd ?_ GE265.out)|exact HB.out)⟩
 ·
  rw [if_neg c2] at H;exact absurd H (by simp)
def impl_Batch_last.f (a0_0:Bool) (a0_1:Bool) (a0_2:Int) (a0_3:Int) (a0_4:Int) (l0_5:List (S34)):Option (Int):=if 0≤(wrap64 ((l0_5.length:Int) - 1)) then (if (wrap64 ((l0_5.length:Int) - 1)) < (l0_5.length:Int) then (some ((rd_T34 l0_5 (wrap64 ((l0_5.length:Int) - 1))).f0)) else (none)) else (none)
set_option maxHeartbeats 8000000 in
set_option maxRecDepth 100000 in
theorem impl_Batch_last.calls (a0_0:Bool) (a0_1:Bool) (a0_2:Int) (a0_3:Int) (a0_4:Int) (A0_5:Option Addr) (c0_5:Nat) (l0_5:List (S34)) (r:Int) (w:World) (hr0_5:Kd.C k34 w A0_5 l0_5.length l0_5) (hc0_5:l0_5.length≤c0_5) (h:impl_Batch_last.f a0_0 a0_1 a0_2 a0_3 a0_4 l0_5=some r) :
  Calls Try.prog 65 #[.agg #[.bool a0_0,.bool a0_1,.int .i64 a0_2,.int .i64 a0_3,.int .i64 a0_4,.slice A0_5 l0_5.length c0_5]] w fun e w'=>e = .returned (.int .i64 r)∧Below w.heap.size w w':=by
 have hu27:=Try.underlying27;have HR0_5:=zzm hr0_5;have HC0_5:=zzm hc0_5;clear hr0_5 hc0_5;have HB:=zzm (Below.refl w.heap.size w);have H:(if 0≤(wrap64 ((l0_5.length:Int) - 1)) then (if (wrap64 ((l0_5.length:Int) - 1)) < (l0_5.length:Int) then (some ((rd_T34 l0_5 (wrap64 ((l0_5.length:Int) - 1))).f0)) else (none)) else (none))=some r:=h;clear h;obtain ⟨ji2,hji2⟩:∃ j_:Int,(wrap64 ((l0_5.length:Int) - 1))=j_:=⟨_,rfl⟩;replace H:(if 0≤(ji2) then (if (ji2) < (l0_5.length:Int) then (some ((rd_T34 l0_5 (ji2)).f0)) else (none)) else (none))=some r:=by first|(rw [hji2] at H;exact H)|(simp only [hji2] at H ⊢;exact H)
 have hji2w:(IntKind.i64.wrap ((l0_5.length:Int) - 1))=ji2:=(i64_w _).trans hji2;by_cases c3 : 0≤(ji2)
 ·
  rw [if_pos c3] at H;have c3b0:decide (0≤(ji2))=true:=decide_eq_true c3;clear c3;by_cases c4:(ji2) < (l0_5.length:Int)
  ·
   rw [if_pos c4] at H;have c4b0:decide ((ji2) < (l0_5.length:Int))=true:=decide_eq_true c4;clear c4;obtain rfl:=Option.some.inj H;go_enter Try.func65,Try.ntmps65;go_wp2_with (first|((with_reducible refine gate_dst (N:=1) rfl ?_);refine box_event ?hg (N:=1) ?hd (cs:=#[.bool a0_0,.bool a0_1,.int .i64 a0_2,.int .i64 a0_3,.int .i64 a0_4,.slice A0_5 l0_5.length c0_5]) (t:=27) ?hr ?_;(case hd=>rfl);(case hg=>rfl);(case hr=>first|(go_simp;done)|(go_simp;rfl));intro gb267 hg w5 hbox hb;have n0_:=zzm (zzp zzh1 hb);have n1_:=zzm (hbox);have n2_:=zzm ((by rw [hg];exact (zzo zzh1):w.heap.size≤gb267));have n3_:=zzm ((by rw [hg];exact (zzo zzh1):w.heap.size≤gb267));clear HB;have HB:=n0_;have BK267:=n1_;have GW267:=n2_;have GE267:=n3_;clear n0_ n1_ n2_ n3_ hb hbox hg;obtain ⟨hcz6_0,hcz6_1,hcz6_2,hcz6_3,hcz6_4,hcz6_5,hfz6_0,hfz6_1,hfz6_2,hfz6_3,hfz6_4,hfz6_5⟩:=zzc6 BK267.out;have p268 : 0≤((ji2):Int):=zzt;have q268:(ji2) < (l0_5.length:Int):=zzt;obtain ⟨ad268,A268_3,c268_3,A268_5,c268_5,e268,hx268_0,hx268_1,hx268_2,hx268_3,hx268_4,hx268_5,hl268_3,hi268_3,hl268_5,hi268_5⟩:=at_T34 HR0_5.out (ji2) p268 q268;cases e268;replace hx268_0:=zzx HB.out hx268_0;replace hx268_1:=zzx HB.out hx268_1;replace hx268_2:=zzx HB.out hx268_2;replace hx268_3:=zzx HB.out hx268_3;replace hx268_4:=zzx HB.out hx268_4;replace hx268_5:=zzx HB.out hx268_5;have HR268_3:=zzm hi268_3;have HC268_3:=zzm hl268_3;clear hi268_3 hl268_3;have HR268_5:=zzm hi268_5;have HC268_5:=zzm hl268_5;clear hi268_5 hl268_5;replace p268:=eq_true p268;replace q268:=eq_true q268));go_ret;exact ⟨by first|rfl|(simp [errW_none,errW_some] <;> rfl)|(simp only [← hji2];first|rfl|(simp [errW_none,errW_some] <;> rfl))|(simp [*,errW_none,errW_some] <;> rfl),by repeat (first|(with_reducible first|exact HB.out|apply zza|apply zzb|apply zzc|refine zzd ?_ GE267.out)|exact HB.out)⟩
  ·
   rw [if_neg c4] at H;exact absurd H (by simp)
 ·
  rw [if_neg c3] at H;exact absurd H (by simp)
def IsS94 (w0 W:World) (g:Nat) (f0:List Int) (f1:Int):Prop:=∃ A0 c0,W.heap[g]? = some (.cells #[.slice A0 f0.length c0,.int .i64 f1] 94 (0,0))∧w0.heap.size≤g∧Kd.C (Kd.int .u8) w0 A0 f0.length f0
theorem IsS94.grown {w0 W:World} {g:Nat} {f0:List Int} {f1:Int} {W1:World} {row:Option Nat} (h:IsS94 w0 W g f0 f1) (hw:W.grownBy W1 row) (hne:some g≠row):IsS94 w0 W1 g f0 f1:=by
 obtain ⟨A0,c0,hb,hg,hr0⟩:=h;exact ⟨A0,c0,blk_grown hb hw hne,hg,hr0⟩
theorem IsS94.own_neN {w0 W:World} {g:Nat} {f0:List Int} {f1:Int} {α:Type} {d:Kd α} {e:Nat} {base:Nat} {ok:Nat→Prop} {v:Value} {xs:List α} (h:IsS94 w0 W g f0 f1) (ho:Kd.N d e W base ok v xs) (ht:e≠94):some g≠v.ownBlock:=by
 obtain ⟨A0,c0,hb,hg,hr0⟩:=h;exact Kd.N_ne ho hb ht
theorem IsS94.fresh {w0 W:World} {g:Nat} {f0:List Int} {f1:Int} (h:IsS94 w0 W g f0 f1):∀ k,W.heap.size≤k→k≠g:=by
 obtain ⟨A0,c0,hb,hg,hr0⟩:=h;exact Kd.freshB hb
theorem IsS94.below {w0 W:World} {g:Nat} {f0:List Int} {f1:Int} {W1:World} (h:IsS94 w0 W g f0 f1) (hw:Below W.heap.size W W1):IsS94 w0 W1 g f0 f1:=h.grown (grown_of_below hw none) (by simp)
theorem IsS94.drewN {w0 W:World} {g:Nat} {f0:List Int} {f1:Int} (h:IsS94 w0 W g f0 f1) (m:Nat):IsS94 w0 (W.drewN m) g f0 f1:=h
theorem IsS94.apart {w0 W:World} {g:Nat} {f0:List Int} {f1:Int} {α:Type} {d:Kd α} {e:Nat} {base:Nat} {ok:Nat→Prop} {v:Value} {xs:List α} (h:IsS94 w0 W g f0 f1) (ho:d.R e W base ok v xs) (ht:∀ q,q∈e::d.E→q≠94):d.R e W base (fun k=>ok k∧k≠g) v xs:=by
 obtain ⟨A0,c0,hb,hg,hr0⟩:=h;exact Kd.R_types ho hb ht
theorem IsS94.own_ne {w0 W:World} {g:Nat} {f0:List Int} {f1:Int} {α:Type} {d:Kd α} {e:Nat} {base:Nat} {ok:Nat→Prop} {v:Value} {xs:List α} (h:IsS94 w0 W g f0 f1) (ho:d.R e W base ok v xs) (ht:e≠94):some g≠v.ownBlock:=by
 obtain ⟨A0,c0,hb,hg,hr0⟩:=h;exact Kd.R_ne ho hb ht
theorem IsS94.apartS {w0 W:World} {g:Nat} {f0:List Int} {f1:Int} {α:Type} {d:Kd α} {e:Nat} {base:Nat} {ok:Nat→Prop} {v:Value} {xs:List α} (h:IsS94 w0 W g f0 f1) (ho:d.S e W base ok v xs) (ht:∀ q,q∈e::d.E→q≠94):d.S e W base (fun k=>ok k∧k≠g) v xs:=by
 obtain ⟨A0,c0,hb,hg,hr0⟩:=h;exact Kd.S_types ho hb ht
theorem IsS94.own_neS {w0 W:World} {g:Nat} {f0:List Int} {f1:Int} {α:Type} {d:Kd α} {e:Nat} {base:Nat} {ok:Nat→Prop} {v:Value} {xs:List α} (h:IsS94 w0 W g f0 f1) (ho:d.S e W base ok v xs) (ht:e≠94):some g≠v.ownBlock:=by
 obtain ⟨A0,c0,hb,hg,hr0⟩:=h;exact Kd.S_ne ho hb ht
theorem IsS94.lt {w0 W:World} {g:Nat} {f0:List Int} {f1:Int} (h:IsS94 w0 W g f0 f1):g < W.heap.size:=by
 obtain ⟨A0,c0,hb,hg,hr0⟩:=h;exact blk_lt hb
theorem IsS94.ge {w0 W:World} {g:Nat} {f0:List Int} {f1:Int} (h:IsS94 w0 W g f0 f1):w0.heap.size≤g:=by
 obtain ⟨A0,c0,hb,hg,hr0⟩:=h;exact hg
theorem IsS94.far {w0 W:World} {g:Nat} {f0:List Int} {f1:Int} {p:Addr} (h:IsS94 w0 W g f0 f1) (hne:g≠p.block) (u:Value):IsS94 w0 (W.setCell p u) g f0 f1:=by
 obtain ⟨A0,c0,hb,hg,hr0⟩:=h;exact ⟨A0,c0,zzj hb hne u,hg,hr0⟩
theorem cellS94_0 {W:World} {g:Nat} {A0:Option Addr} {c0:Nat} {f0:List Int} {f1:Int} (h:W.heap[g]? = some (.cells #[.slice A0 f0.length c0,.int .i64 f1] 94 (0,0))):W.cell? ⟨g,0,none⟩=some (.slice A0 f0.length c0):=(zzk h 0).trans rfl
theorem cellS94_1 {W:World} {g:Nat} {A0:Option Addr} {c0:Nat} {f0:List Int} {f1:Int} (h:W.heap[g]? = some (.cells #[.slice A0 f0.length c0,.int .i64 f1] 94 (0,0))):W.cell? ⟨g,1,none⟩=some (.int .i64 f1):=(zzk h 1).trans rfl
theorem IsS94.set_1 {w0 W:World} {g:Nat} {f0:List Int} {f1:Int} (h:IsS94 w0 W g f0 f1) (x:Int):IsS94 w0 (W.setCell ⟨g,1,none⟩ (.int .i64 x)) g f0 x:=by
 obtain ⟨A0,c0,hb,hg,hr0⟩:=h;exact ⟨A0,c0,by simpa using blk_set hb 1 (.int .i64 x),hg,hr0⟩
def spec_l6Open.f (l0:List Int):Option (List Int×Int):=if (l0.length:Int) > 2000 then (if 2000≤(l0.length:Int) then (some (l0.take 2000,0)) else (none)) else (some (l0,0))
set_option maxHeartbeats 8000000 in
set_option maxRecDepth 100000 in
theorem spec_l6Open.calls (A0:Option Addr) (c0:Nat) (l0:List Int) (r1:List Int) (r2:Int) (w0 w:World) (hB:Below w0.heap.size w0 w) (hr0:Kd.C (Kd.int .u8) w0 A0 l0.length l0) (hc0:l0.length≤c0) (h:spec_l6Open.f l0=some (r1,r2)) :
  Calls Try.prog 53 #[.slice A0 l0.length c0] w fun e w'=>∃ g_:Nat,e = .returned (.pointer (some ⟨g_,0,none⟩))∧IsS94 w0 w' g_ r1 r2∧Below w0.heap.size w0 w'∧Below w.heap.size w w':=by
 have hu94:=Try.underlying94;have HR0:=zzm hr0;have HC0:=zzm hc0;clear hr0 hc0;have HBW:=zzm (Below.refl w.heap.size w);have HW0:=zzm hB.size;have HB:=zzm hB;clear hB;have H:(if (l0.length:Int) > 2000 then (if 2000≤(l0.length:Int) then (some (l0.take 2000,0)) else (none)) else (some (l0,0)))=some (r1,r2):=h;clear h;by_cases c2:(l0.length:Int) > 2000
 ·
  rw [if_pos c2] at H;have c2b0:decide (2000 < (l0.length:Int))=true:=decide_eq_true c2;have c2b1:decide (2000 < l0.length)=true:=decide_eq_true (by omega);clear c2;by_cases c3 : 2000≤(l0.length:Int)
  ·
   rw [if_pos c3] at H;have c3b0:=eq_true c3;have c3b1:decide (2000≤(l0.length:Int))=true:=decide_eq_true c3;clear c3;simp only [Option.some.injEq,Prod.mk.injEq] at H;obtain ⟨rfl,rfl⟩:=H;obtain ⟨i04,hi04,_,hsz4,_⟩:=info_parts info5;obtain ⟨hcut4,hA4,hC4⟩:=print_take_of (P:=Try.prog) (Value.int .u8) 0 22 5 .i64 Try.underlying22 hi04 hsz4 A0 c0 l0 2000 (by omega) (zzt) HC0.out;have HR101:=zzm (Kd.C_of_reads (h1:=fun _=>rfl) (hA4 _ (Kd.reads_of_C HR0.out)));have HC101:=zzm hC4;clear hA4 hC4 hi04 hsz4;go_enter Try.func53,Try.ntmps53;go_wp2_with (first|((with_reducible refine gate_dst (N:=10) rfl ?_);refine box_event ?hg (N:=10) ?hd (cs:=#[.slice A0 (l0.take 2000).length c0,.int .i64 0]) (t:=94) ?hr ?_;(case hd=>rfl);(case hg=>rfl);(case hr=>first|(go_simp;done)|(go_simp;rfl));intro gb102 hg w5 hbox hb;have n0_:=zzm (zzp HBW.out hb);have n1_:=zzm (zzp zzh1 hb);have n2_:=zzm (hbox);have n3_:=zzm ((by rw [hg];exact (zzo (by repeat (first|(with_reducible first|exact HBW.out|apply zza|apply zzb|apply zzc)|exact HBW.out))):w.heap.size≤gb102));have n4_:=zzm ((Nat.le_trans HW0.out (by rw [hg];exact (zzo (by repeat (first|(with_reducible first|exact HBW.out|apply zza|apply zzb|apply zzc)|exact HBW.out))):w.heap.size≤gb102):w0.heap.size≤gb102));clear HBW HB;have HBW:=n0_;have HB:=n1_;have BK102:=n2_;have GW102:=n3_;have GE102:=n4_;clear n0_ n1_ n2_ n3_ n4_ hb hbox hg));go_ret;exact ⟨_,rfl,(show IsS94 w0 _ gb102 (l0.take 2000) 0 from ⟨_,_,by (with_reducible repeat (first|apply zzf|apply zzg|apply zze));exact BK102.out,GE102.out,HR101.out⟩),by repeat (first|(with_reducible first|exact HB.out|apply zza|apply zzb|apply zzc|refine zzd ?_ GE102.out)|exact HB.out),by repeat (first|(with_reducible first|exact HBW.out|apply zza|apply zzb|apply zzc|refine zzd ?_ GW102.out)|exact HBW.out)⟩
  ·
   rw [if_neg c3] at H;exact absurd H (by simp)
 ·
  rw [if_neg c2] at H;have c2b0:decide (2000 < (l0.length:Int))=false:=decide_eq_false c2;have c2b1:decide (2000 < l0.length)=false:=decide_eq_false (by omega);clear c2;simp only [Option.some.injEq,Prod.mk.injEq] at H;obtain ⟨rfl,rfl⟩:=H;go_enter Try.func53,Try.ntmps53;go_wp2_with (first|((with_reducible refine gate_dst (N:=10) rfl ?_);refine box_event ?hg (N:=10) ?hd (cs:=#[.slice A0 l0.length c0,.int .i64 0]) (t:=94) ?hr ?_;(case hd=>rfl);(case hg=>rfl);(case hr=>first|(go_simp;done)|(go_simp;rfl));intro gb103 hg w6 hbox hb;have n0_:=zzm (zzp HBW.out hb);have n1_:=zzm (zzp zzh1 hb);have n2_:=zzm (hbox);have n3_:=zzm ((by rw [hg];exact (zzo (by repeat (first|(with_reducible first|exact HBW.out|apply zza|apply zzb|apply zzc)|exact HBW.out))):w.heap.size≤gb103));have n4_:=zzm ((Nat.le_trans HW0.out (by rw [hg];exact (zzo (by repeat (first|(with_reducible first|exact HBW.out|apply zza|apply zzb|apply zzc)|exact HBW.out))):w.heap.size≤gb103):w0.heap.size≤gb103));clear HBW HB;have HBW:=n0_;have HB:=n1_;have BK103:=n2_;have GW103:=n3_;have GE103:=n4_;clear n0_ n1_ n2_ n3_ n4_ hb hbox hg));go_ret;exact ⟨_,rfl,(show IsS94 w0 _ gb103 l0 0 from ⟨_,_,by (with_reducible repeat (first|apply zzf|apply zzg|apply zze));exact BK103.out,GE103.out,HR0.out⟩),by repeat (first|(with_reducible first|exact HB.out|apply zza|apply zzb|apply zzc|refine zzd ?_ GE103.out)|exact HB.out),by repeat (first|(with_reducible first|exact HBW.out|apply zza|apply zzb|apply zzc|refine zzd ?_ GW103.out)|exact HBW.out)⟩
def spec_l6In.f (a0:Int) (a1:Int) (a2:Int):Option (Bool):=if a0 ≥ a1 then (some (decide (a0≤a2))) else (some false)
set_option maxHeartbeats 8000000 in
set_option maxRecDepth 100000 in
theorem spec_l6In.calls (a0:Int) (a1:Int) (a2:Int) (r:Bool) (w:World) (h:spec_l6In.f a0 a1 a2=some r) :
  Calls Try.prog 84 #[.int .i64 a0,.int .i64 a1,.int .i64 a2] w fun e w'=>e = .returned (.bool r)∧Drawn0 w w':=by
 have H:(if a0 ≥ a1 then (some (decide (a0≤a2))) else (some false))=some r:=h;clear h;by_cases c4:a0 ≥ a1
 ·
  rw [if_pos c4] at H;have c4b0:decide (a1≤a0)=true:=decide_eq_true c4;clear c4;obtain rfl:=Option.some.inj H;go_enter Try.func84,Try.ntmps84;go_wp2;go_ret;exact ⟨by first|rfl|(simp;done)|(simp [*];done),by repeat (first|exact Drawn0.refl _|apply Drawn0.step)⟩
 ·
  rw [if_neg c4] at H;have c4b0:decide (a1≤a0)=false:=decide_eq_false c4;clear c4;obtain rfl:=Option.some.inj H;go_enter Try.func84,Try.ntmps84;go_wp2;go_ret;exact ⟨by first|rfl|(simp;done)|(simp [*];done),by repeat (first|exact Drawn0.refl _|apply Drawn0.step)⟩
def spec_l1Ok.l0:Nat→List Int→Int→Option (Bool)
 | 0,_,_=>none
 | k+1,x0,x3=>if x3 < (x0.length:Int) then (if 0≤x3 then ((spec_l6In.f (rd x0 x3) 0 255).bind fun t105=>(if t105=true then (spec_l1Ok.l0 k x0 (wrap64 (x3+1))) else (some false))) else (none)) else (some true)
def spec_l1Ok.f (k:Nat) (l0:List Int):Option (Bool):=spec_l1Ok.l0 k l0 0
set_option maxHeartbeats 8000000 in
set_option maxRecDepth 100000 in
theorem spec_l1Ok.calls (k:Nat) (A0:Option Addr) (c0:Nat) (l0:List Int) (r:Bool) (w:World) (hr0:Kd.C (Kd.int .i64) w A0 l0.length l0) (hc0:l0.length≤c0) (h:spec_l1Ok.f k l0=some r) :
  Calls Try.prog 114 #[.slice A0 l0.length c0] w fun e w'=>e = .returned (.bool r)∧Drawn0 w w':=by
 have HR0:=zzm hr0;have HC0:=zzm hc0;clear hr0 hc0;have H:(spec_l1Ok.l0 k l0 0)=some r:=h;clear h;have H':=zzm H;clear H;go_enter Try.func114,Try.ntmps114;go_wp2;go_loopg [3] k (fun kq v3 w'=>∃ (x3_1:Int),v3 = .int .i64 x3_1∧Aside0 (spec_l1Ok.l0 kq l0 x3_1=some r)∧Aside0 (kq≤k)∧Drawn0 w w')
 case atStart=>exact ⟨(0),(by first|rfl|(simp;done)|(simp [*];done)),H',⟨Nat.le_refl _⟩,by repeat (first|exact Drawn0.refl _|apply Drawn0.step)⟩
 case round=>
  clear H';try clear c1
  obtain ⟨x3_1,rfl,HA,HK1,⟨m1,rfl⟩⟩:=hrel;cases gk with
  | zero=>exact absurd HA.out (by simp [spec_l1Ok.l0])
  | succ k1=>
   have H:=HA.out;clear HA;simp only [spec_l1Ok.l0] at H;by_cases c2:x3_1 < (l0.length:Int)
   ·
    rw [if_pos c2] at H;have c2b0:decide (x3_1 < (l0.length:Int))=true:=decide_eq_true c2;clear c2;by_cases c3 : 0≤x3_1
    ·
     rw [if_pos c3] at H;have c3b0:decide (0≤x3_1)=true:=decide_eq_true c3;clear c3;replace H:=Option.bind_eq_some_iff.mp H;obtain ⟨t105,A40,H⟩:=H;replace H:(if t105=true then (spec_l1Ok.l0 k1 l0 (wrap64 (x3_1+1))) else (some false))=some r:=H;have A4:=zzm A40;clear A40;by_cases c5:t105=true
     ·
      subst c5;have H1:(spec_l1Ok.l0 k1 l0 (wrap64 (x3_1+1)))=some r:=by rw [if_pos rfl] at H;exact H
      clear H;have H:=H1;clear H1;have H':=zzm H;clear H;have p104 : 0≤(x3_1:Int):=zzt;have q104:x3_1 < (l0.length:Int):=zzt;obtain ⟨ad104,e104,hx104_0⟩:=Kd.at_int HR0.out x3_1 p104 q104;cases e104;replace p104:=eq_true p104;replace q104:=eq_true q104;go_wp2_with (first|((with_reducible refine gate_callee (f:=84) rfl ?_);refine goesL_ (some 14) rfl rfl Try.func84 (by kernel_rfl) rfl #[.int .i64 (rd l0 x3_1),.int .i64 0,.int .i64 255] rfl zzM2 ?_;(with_reducible refine (spec_l6In.calls (rd l0 x3_1) 0 255 true _ A4.out).mono ?_);rintro e w' ⟨rfl,⟨nd,rfl⟩⟩;refine ⟨_,rfl,?_⟩));go_roundg k1
      case measure=>have:=HK1.out;omega
      case rel=>exact ⟨(wrap64 (x3_1+1)),(by first|rfl|(simp;done)|(simp [*];done)),H',⟨by have:=HK1.out;omega⟩,by repeat (first|exact Drawn0.refl _|apply Drawn0.step)⟩
     ·
      replace c5:=Bool.eq_false_iff.mpr c5;subst c5;have H1:(some false)=some r:=by rw [if_neg (show ¬ (false=true) by decide)] at H;exact H
      clear H;have H:=H1;clear H1;obtain rfl:=Option.some.inj H;have p104 : 0≤(x3_1:Int):=zzt;have q104:x3_1 < (l0.length:Int):=zzt;obtain ⟨ad104,e104,hx104_0⟩:=Kd.at_int HR0.out x3_1 p104 q104;cases e104;replace p104:=eq_true p104;replace q104:=eq_true q104;go_wp2_with (first|((with_reducible refine gate_callee (f:=84) rfl ?_);refine goesL_ (some 14) rfl rfl Try.func84 (by kernel_rfl) rfl #[.int .i64 (rd l0 x3_1),.int .i64 0,.int .i64 255] rfl zzM2 ?_;(with_reducible refine (spec_l6In.calls (rd l0 x3_1) 0 255 false _ A4.out).mono ?_);rintro e w' ⟨rfl,⟨nd,rfl⟩⟩;refine ⟨_,rfl,?_⟩));go_ret;exact ⟨by first|rfl|(simp;done)|(simp [*];done),by repeat (first|exact Drawn0.refl _|apply Drawn0.step)⟩
    ·
     rw [if_neg c3] at H;exact absurd H (by simp)
   ·
    rw [if_neg c2] at H;have c2b0:decide (x3_1 < (l0.length:Int))=false:=decide_eq_false c2;clear c2;obtain rfl:=Option.some.inj H;go_wp2;go_ret;exact ⟨by first|rfl|(simp;done)|(simp [*];done),by repeat (first|exact Drawn0.refl _|apply Drawn0.step)⟩
def spec_l3Part.f (k:Nat) (a0:Bool) (l1:List Int):Option (Bool):=if a0=true then ((spec_l1Ok.f k l1).bind fun t106=>(if t106=true then (some (decide ((l1.length:Int)≤12))) else (some false))) else (if (l1.length:Int)=0 then ((spec_l1Ok.f k l1).bind fun t107=>(if t107=true then (some (decide ((l1.length:Int)≤12))) else (some false))) else (some false))
set_option maxHeartbeats 8000000 in
set_option maxRecDepth 100000 in
theorem spec_l3Part.calls (k:Nat) (a0:Bool) (A1:Option Addr) (c1:Nat) (l1:List Int) (r:Bool) (w:World) (hr1:Kd.C (Kd.int .i64) w A1 l1.length l1) (hc1:l1.length≤c1) (h:spec_l3Part.f k a0 l1=some r) :
  Calls Try.prog 109 #[.bool a0,.slice A1 l1.length c1] w fun e w'=>e = .returned (.bool r)∧Drawn0 w w':=by
 have HR1:=zzm hr1;have HC1:=zzm hc1;clear hr1 hc1;have H:(if a0=true then ((spec_l1Ok.f k l1).bind fun t106=>(if t106=true then (some (decide ((l1.length:Int)≤12))) else (some false))) else (if (l1.length:Int)=0 then ((spec_l1Ok.f k l1).bind fun t107=>(if t107=true then (some (decide ((l1.length:Int)≤12))) else (some false))) else (some false)))=some r:=h;clear h;by_cases c3:a0=true
 ·
  subst c3;have H1:((spec_l1Ok.f k l1).bind fun t106=>(if t106=true then (some (decide ((l1.length:Int)≤12))) else (some false)))=some r:=by rw [if_pos rfl] at H;exact H
  clear H;have H:=H1;clear H1;replace H:=Option.bind_eq_some_iff.mp H;obtain ⟨t106,A40,H⟩:=H;replace H:(if t106=true then (some (decide ((l1.length:Int)≤12))) else (some false))=some r:=H;have A4:=zzm A40;clear A40;by_cases c5:t106=true
  ·
   subst c5;have H1:(some (decide ((l1.length:Int)≤12)))=some r:=by rw [if_pos rfl] at H;exact H
   clear H;have H:=H1;clear H1;obtain rfl:=Option.some.inj H;go_enter Try.func109,Try.ntmps109;go_wp2_with (first|(go_at_call 114;(with_reducible refine (spec_l1Ok.calls k _ _ l1 true _ ?side1 ?side2 A4.out).mono ?_);(case side1=>repeat (first|exact HR1.out|(with_reducible refine Kd.C_alloc ?_ _)|(with_reducible refine Kd.C_drewN ?_ _)|(with_reducible refine Kd.C_drew ?_)));(case side2=>exact HC1.out);rintro e w' ⟨rfl,⟨nd,rfl⟩⟩));go_ret;exact ⟨by first|rfl|(simp;done)|(simp [*];done),by repeat (first|exact Drawn0.refl _|apply Drawn0.step)⟩
  ·
   replace c5:=Bool.eq_false_iff.mpr c5;subst c5;have H1:(some false)=some r:=by rw [if_neg (show ¬ (false=true) by decide)] at H;exact H
   clear H;have H:=H1;clear H1;obtain rfl:=Option.some.inj H;go_enter Try.func109,Try.ntmps109;go_wp2_with (first|(go_at_call 114;(with_reducible refine (spec_l1Ok.calls k _ _ l1 false _ ?side1 ?side2 A4.out).mono ?_);(case side1=>repeat (first|exact HR1.out|(with_reducible refine Kd.C_alloc ?_ _)|(with_reducible refine Kd.C_drewN ?_ _)|(with_reducible refine Kd.C_drew ?_)));(case side2=>exact HC1.out);rintro e w' ⟨rfl,⟨nd,rfl⟩⟩));go_ret;exact ⟨by first|rfl|(simp;done)|(simp [*];done),by repeat (first|exact Drawn0.refl _|apply Drawn0.step)⟩
 ·
  replace c3:=Bool.eq_false_iff.mpr c3;subst c3;have H1:(if (l1.length:Int)=0 then ((spec_l1Ok.f k l1).bind fun t107=>(if t107=true then (some (decide ((l1.length:Int)≤12))) else (some false))) else (some false))=some r:=by rw [if_neg (show ¬ (false=true) by decide)] at H;exact H
  clear H;have H:=H1;clear H1;by_cases c6:(l1.length:Int)=0
  ·
   rw [if_pos c6] at H;have c6b0:((l1.length:Int)==0)=true:=beq_iff_eq.mpr c6;have c6b1:((l1.length:Int) != 0)=false:=bne_eq_false_iff_eq.mpr c6;clear c6;replace H:=Option.bind_eq_some_iff.mp H;obtain ⟨t107,A70,H⟩:=H;replace H:(if t107=true then (some (decide ((l1.length:Int)≤12))) else (some false))=some r:=H;have A7:=zzm A70;clear A70;by_cases c8:t107=true
   ·
    subst c8;have H1:(some (decide ((l1.length:Int)≤12)))=some r:=by rw [if_pos rfl] at H;exact H
    clear H;have H:=H1;clear H1;obtain rfl:=Option.some.inj H;go_enter Try.func109,Try.ntmps109;go_wp2_with (first|(go_at_call 114;(with_reducible refine (spec_l1Ok.calls k _ _ l1 true _ ?side1 ?side2 A7.out).mono ?_);(case side1=>repeat (first|exact HR1.out|(with_reducible refine Kd.C_alloc ?_ _)|(with_reducible refine Kd.C_drewN ?_ _)|(with_reducible refine Kd.C_drew ?_)));(case side2=>exact HC1.out);rintro e w' ⟨rfl,⟨nd,rfl⟩⟩));go_ret;exact ⟨by first|rfl|(simp;done)|(simp [*];done),by repeat (first|exact Drawn0.refl _|apply Drawn0.step)⟩
   ·
    replace c8:=Bool.eq_false_iff.mpr c8;subst c8;have H1:(some false)=some r:=by rw [if_neg (show ¬ (false=true) by decide)] at H;exact H
    clear H;have H:=H1;clear H1;obtain rfl:=Option.some.inj H;go_enter Try.func109,Try.ntmps109;go_wp2_with (first|(go_at_call 114;(with_reducible refine (spec_l1Ok.calls k _ _ l1 false _ ?side1 ?side2 A7.out).mono ?_);(case side1=>repeat (first|exact HR1.out|(with_reducible refine Kd.C_alloc ?_ _)|(with_reducible refine Kd.C_drewN ?_ _)|(with_reducible refine Kd.C_drew ?_)));(case side2=>exact HC1.out);rintro e w' ⟨rfl,⟨nd,rfl⟩⟩));go_ret;exact ⟨by first|rfl|(simp;done)|(simp [*];done),by repeat (first|exact Drawn0.refl _|apply Drawn0.step)⟩
  ·
   rw [if_neg c6] at H;have c6b0:((l1.length:Int)==0)=false:=beq_eq_false_iff_ne.mpr c6;have c6b1:((l1.length:Int) != 0)=true:=bne_iff_ne.mpr c6;have c6b2:¬ (l1 = []):=fun h_=>c6 (by rw [h_];rfl);obtain rfl:=Option.some.inj H;go_enter Try.func109,Try.ntmps109;go_wp2;go_ret;exact ⟨by first|rfl|(simp;done)|(simp [*];done),by repeat (first|exact Drawn0.refl _|apply Drawn0.step)⟩
def spec_RecordValid.f (k:Nat) (a0_0:Int) (a0_1:Int) (a0_2:Bool) (l0_3:List Int) (a0_4:Bool) (l0_5:List Int):Option (Bool):=(spec_l6In.f a0_0 0 99999).bind fun t109=>(if t109=true then ((spec_l6In.f a0_1 0 99999).bind fun t110=>(if t110=true then ((spec_l3Part.f k a0_2 l0_3).bind fun t111=>(if t111=true then ((spec_l3Part.f k a0_4 l0_5).bind fun t112=>(some t112)) else (some false))) else (some false))) else (some false))
set_option maxHeartbeats 8000000 in
set_option maxRecDepth 100000 in
theorem spec_RecordValid.calls (k:Nat) (a0_0:Int) (a0_1:Int) (a0_2:Bool) (A0_3:Option Addr) (c0_3:Nat) (l0_3:List Int) (a0_4:Bool) (A0_5:Option Addr) (c0_5:Nat) (l0_5:List Int) (r:Bool) (w:World) (hr0_3:Kd.C (Kd.int .i64) w A0_3 l0_3.length l0_3) (hc0_3:l0_3.length≤c0_3) (hr0_5:Kd.C (Kd.int .i64) w A0_5 l0_5.length l0_5) (hc0_5:l0_5.length≤c0_5) (h:spec_RecordValid.f k a0_0 a0_1 a0_2 l0_3 a0_4 l0_5=some r) :
  Calls Try.prog 99 #[.agg #[.int .i64 a0_0,.int .i64 a0_1,.bool a0_2,.slice A0_3 l0_3.length c0_3,.bool a0_4,.slice A0_5 l0_5.length c0_5]] w fun e w'=>e = .returned (.bool r)∧Below w.heap.size w w':=by
 have hu34:=Try.underlying34;have HR0_3:=zzm hr0_3;have HC0_3:=zzm hc0_3;clear hr0_3 hc0_3;have HR0_5:=zzm hr0_5;have HC0_5:=zzm hc0_5;clear hr0_5 hc0_5;have HB:=zzm (Below.refl w.heap.size w);have H:((spec_l6In.f a0_0 0 99999).bind fun t109=>(if t109=true then ((spec_l6In.f a0_1 0 99999).bind fun t110=>(if t110=true then ((spec_l3Part.f k a0_2 l0_3).bind fun t111=>(if t111=true then ((spec_l3Part.f k a0_4 l0_5).bind fun t112=>(some t112)) else (some false))) else (some false))) else (some false)))=some r:=h;clear h;replace H:=Option.bind_eq_some_iff.mp H;obtain ⟨t109,A20,H⟩:=H;replace H:(if t109=true then ((spec_l6In.f a0_1 0 99999).bind fun t110=>(if t110=true then ((spec_l3Part.f k a0_2 l0_3).bind fun t111=>(if t111=true then ((spec_l3Part.f k a0_4 l0_5).bind fun t112=>(some t112)) else (some false))) else (some false))) else (some false))=some r:=H;have A2:=zzm A20;clear A20;by_cases c3:t109=true
 ·
  subst c3;have H1:((spec_l6In.f a0_1 0 99999).bind fun t110=>(if t110=true then ((spec_l3Part.f k a0_2 l0_3).bind fun t111=>(if t111=true then ((spec_l3Part.f k a0_4 l0_5).bind fun t112=>(some t112)) else (some false))) else (some false)))=some r:=by rw [if_pos rfl] at H;exact H
  clear H;have H:=H1;clear H1;replace H:=Option.bind_eq_some_iff.mp H;obtain ⟨t110,A40,H⟩:=H;replace H:(if t110=true then ((spec_l3Part.f k a0_2 l0_3).bind fun t111=>(if t111=true then ((spec_l3Part.f k a0_4 l0_5).bind fun t112=>(some t112)) else (some false))) else (some false))=some r:=H;have A4:=zzm A40;clear A40;by_cases c5:t110=true
  ·
   subst c5;have H1:((spec_l3Part.f k a0_2 l0_3).bind fun t111=>(if t111=true then ((spec_l3Part.f k a0_4 l0_5).bind fun t112=>(some t112)) else (some false)))=some r:=by rw [if_pos rfl] at H;exact H
   clear H;have H:=H1;clear H1;replace H:=Option.bind_eq_some_iff.mp H;obtain ⟨t111,A60,H⟩:=H;replace H:(if t111=true then ((spec_l3Part.f k a0_4 l0_5).bind fun t112=>(some t112)) else (some false))=some r:=H;have A6:=zzm A60;clear A60;by_cases c7:t111=true
   ·
    subst c7;have H1:((spec_l3Part.f k a0_4 l0_5).bind fun t112=>(some t112))=some r:=by rw [if_pos rfl] at H;exact H
    clear H;have H:=H1;clear H1;replace H:=Option.bind_eq_some_iff.mp H;obtain ⟨t112,A80,H⟩:=H;replace H:(some t112)=some r:=H;have A8:=zzm A80;clear A80;obtain rfl:=Option.some.inj H;go_enter Try.func99,Try.ntmps99;go_wp2_with (first|((with_reducible refine gate_dst (N:=1) rfl ?_);refine box_event ?hg (N:=1) ?hd (cs:=#[.int .i64 a0_0,.int .i64 a0_1,.bool a0_2,.slice A0_3 l0_3.length c0_3,.bool a0_4,.slice A0_5 l0_5.length c0_5]) (t:=34) ?hr ?_;(case hd=>rfl);(case hg=>rfl);(case hr=>first|(go_simp;done)|(go_simp;rfl));intro gb108 hg w9 hbox hb;have n0_:=zzm (zzp zzh1 hb);have n1_:=zzm (hbox);have n2_:=zzm ((by rw [hg];exact (zzo zzh1):w.heap.size≤gb108));have n3_:=zzm ((by rw [hg];exact (zzo zzh1):w.heap.size≤gb108));clear HB;have HB:=n0_;have BK108:=n1_;have GW108:=n2_;have GE108:=n3_;clear n0_ n1_ n2_ n3_ hb hbox hg;obtain ⟨hcz10_0,hcz10_1,hcz10_2,hcz10_3,hcz10_4,hcz10_5,hfz10_0,hfz10_1,hfz10_2,hfz10_3,hfz10_4,hfz10_5⟩:=zzc6 BK108.out)|((with_reducible refine gate_callee (f:=84) rfl ?_);refine goesL_ (some 5) rfl rfl Try.func84 (by kernel_rfl) rfl #[.int .i64 a0_0,.int .i64 0,.int .i64 99999] rfl zzM2 ?_;(with_reducible refine (spec_l6In.calls a0_0 0 99999 true _ A2.out).mono ?_);rintro e w' ⟨rfl,⟨nd,rfl⟩⟩;refine ⟨_,rfl,?_⟩)|(go_at_call 84;(with_reducible refine (spec_l6In.calls a0_1 0 99999 true _ A4.out).mono ?_);rintro e w' ⟨rfl,⟨nd,rfl⟩⟩)|(go_at_call 109;(with_reducible refine (spec_l3Part.calls k a0_2 _ _ l0_3 true _ ?side1 ?side2 A6.out).mono ?_);(case side1=>repeat (first|exact (Kd.C_below HR0_3.out zzh2)|(with_reducible refine Kd.C_alloc ?_ _)|(with_reducible refine Kd.C_drewN ?_ _)|(with_reducible refine Kd.C_drew ?_)));(case side2=>exact HC0_3.out);rintro e w' ⟨rfl,⟨nd,rfl⟩⟩)|(go_at_call 109;(with_reducible refine (spec_l3Part.calls k a0_4 _ _ l0_5 t112 _ ?side1 ?side2 A8.out).mono ?_);(case side1=>repeat (first|exact (Kd.C_below HR0_5.out zzh2)|(with_reducible refine Kd.C_alloc ?_ _)|(with_reducible refine Kd.C_drewN ?_ _)|(with_reducible refine Kd.C_drew ?_)));(case side2=>exact HC0_5.out);rintro e w' ⟨rfl,⟨nd,rfl⟩⟩));go_ret;exact ⟨by first|rfl|(simp [errW_none,errW_some] <;> rfl)|(simp [*,errW_none,errW_some] <;> rfl),by repeat (first|(with_reducible first|exact HB.out|apply zza|apply zzb|apply zzc|refine zzd ?_ GE108.out)|exact HB.out)⟩
   ·
    replace c7:=Bool.eq_false_iff.mpr c7;subst c7;have H1:(some false)=some r:=by rw [if_neg (show ¬ (false=true) by decide)] at H;exact H
    clear H;have H:=H1;clear H1;obtain rfl:=Option.some.inj H;go_enter Try.func99,Try.ntmps99;go_wp2_with (first|((with_reducible refine gate_dst (N:=1) rfl ?_);refine box_event ?hg (N:=1) ?hd (cs:=#[.int .i64 a0_0,.int .i64 a0_1,.bool a0_2,.slice A0_3 l0_3.length c0_3,.bool a0_4,.slice A0_5 l0_5.length c0_5]) (t:=34) ?hr ?_;(case hd=>rfl);(case hg=>rfl);(case hr=>first|(go_simp;done)|(go_simp;rfl));intro gb108 hg w11 hbox hb;have n0_:=zzm (zzp zzh1 hb);have n1_:=zzm (hbox);have n2_:=zzm ((by rw [hg];exact (zzo zzh1):w.heap.size≤gb108));have n3_:=zzm ((by rw [hg];exact (zzo zzh1):w.heap.size≤gb108));clear HB;have HB:=n0_;have BK108:=n1_;have GW108:=n2_;have GE108:=n3_;clear n0_ n1_ n2_ n3_ hb hbox hg;obtain ⟨hcz12_0,hcz12_1,hcz12_2,hcz12_3,hcz12_4,hcz12_5,hfz12_0,hfz12_1,hfz12_2,hfz12_3,hfz12_4,hfz12_5⟩:=zzc6 BK108.out)|((with_reducible refine gate_callee (f:=84) rfl ?_);refine goesL_ (some 5) rfl rfl Try.func84 (by kernel_rfl) rfl #[.int .i64 a0_0,.int .i64 0,.int .i64 99999] rfl zzM2 ?_;(with_reducible refine (spec_l6In.calls a0_0 0 99999 true _ A2.out).mono ?_);rintro e w' ⟨rfl,⟨nd,rfl⟩⟩;refine ⟨_,rfl,?_⟩)|(go_at_call 84;(with_reducible refine (spec_l6In.calls a0_1 0 99999 true _ A4.out).mono ?_);rintro e w' ⟨rfl,⟨nd,rfl⟩⟩)|(go_at_call 109;(with_reducible refine (spec_l3Part.calls k a0_2 _ _ l0_3 false _ ?side1 ?side2 A6.out).mono ?_);(case side1=>repeat (first|exact (Kd.C_below HR0_3.out zzh2)|(with_reducible refine Kd.C_alloc ?_ _)|(with_reducible refine Kd.C_drewN ?_ _)|(with_reducible refine Kd.C_drew ?_)));(case side2=>exact HC0_3.out);rintro e w' ⟨rfl,⟨nd,rfl⟩⟩));go_ret;exact ⟨by first|rfl|(simp [errW_none,errW_some] <;> rfl)|(simp [*,errW_none,errW_some] <;> rfl),by repeat (first|(with_reducible first|exact HB.out|apply zza|apply zzb|apply zzc|refine zzd ?_ GE108.out)|exact HB.out)⟩
  ·
   replace c5:=Bool.eq_false_iff.mpr c5;subst c5;have H1:(some false)=some r:=by rw [if_neg (show ¬ (false=true) by decide)] at H;exact H
   clear H;have H:=H1;clear H1;obtain rfl:=Option.some.inj H;go_enter Try.func99,Try.ntmps99;go_wp2_with (first|((with_reducible refine gate_dst (N:=1) rfl ?_);refine box_event ?hg (N:=1) ?hd (cs:=#[.int .i64 a0_0,.int .i64 a0_1,.bool a0_2,.slice A0_3 l0_3.length c0_3,.bool a0_4,.slice A0_5 l0_5.length c0_5]) (t:=34) ?hr ?_;(case hd=>rfl);(case hg=>rfl);(case hr=>first|(go_simp;done)|(go_simp;rfl));intro gb108 hg w13 hbox hb;have n0_:=zzm (zzp zzh1 hb);have n1_:=zzm (hbox);have n2_:=zzm ((by rw [hg];exact (zzo zzh1):w.heap.size≤gb108));have n3_:=zzm ((by rw [hg];exact (zzo zzh1):w.heap.size≤gb108));clear HB;have HB:=n0_;have BK108:=n1_;have GW108:=n2_;have GE108:=n3_;clear n0_ n1_ n2_ n3_ hb hbox hg;obtain ⟨hcz14_0,hcz14_1,hcz14_2,hcz14_3,hcz14_4,hcz14_5,hfz14_0,hfz14_1,hfz14_2,hfz14_3,hfz14_4,hfz14_5⟩:=zzc6 BK108.out)|((with_reducible refine gate_callee (f:=84) rfl ?_);refine goesL_ (some 5) rfl rfl Try.func84 (by kernel_rfl) rfl #[.int .i64 a0_0,.int .i64 0,.int .i64 99999] rfl zzM2 ?_;(with_reducible refine (spec_l6In.calls a0_0 0 99999 true _ A2.out).mono ?_);rintro e w' ⟨rfl,⟨nd,rfl⟩⟩;refine ⟨_,rfl,?_⟩)|(go_at_call 84;(with_reducible refine (spec_l6In.calls a0_1 0 99999 false _ A4.out).mono ?_);rintro e w' ⟨rfl,⟨nd,rfl⟩⟩));go_ret;exact ⟨by first|rfl|(simp [errW_none,errW_some] <;> rfl)|(simp [*,errW_none,errW_some] <;> rfl),by repeat (first|(with_reducible first|exact HB.out|apply zza|apply zzb|apply zzc|refine zzd ?_ GE108.out)|exact HB.out)⟩
 ·
  replace c3:=Bool.eq_false_iff.mpr c3;subst c3;have H1:(some false)=some r:=by rw [if_neg (show ¬ (false=true) by decide)] at H;exact H
  clear H;have H:=H1;clear H1;obtain rfl:=Option.some.inj H;go_enter Try.func99,Try.ntmps99;go_wp2_with (first|((with_reducible refine gate_dst (N:=1) rfl ?_);refine box_event ?hg (N:=1) ?hd (cs:=#[.int .i64 a0_0,.int .i64 a0_1,.bool a0_2,.slice A0_3 l0_3.length c0_3,.bool a0_4,.slice A0_5 l0_5.length c0_5]) (t:=34) ?hr ?_;(case hd=>rfl);(case hg=>rfl);(case hr=>first|(go_simp;done)|(go_simp;rfl));intro gb108 hg w15 hbox hb;have n0_:=zzm (zzp zzh1 hb);have n1_:=zzm (hbox);have n2_:=zzm ((by rw [hg];exact (zzo zzh1):w.heap.size≤gb108));have n3_:=zzm ((by rw [hg];exact (zzo zzh1):w.heap.size≤gb108));clear HB;have HB:=n0_;have BK108:=n1_;have GW108:=n2_;have GE108:=n3_;clear n0_ n1_ n2_ n3_ hb hbox hg;obtain ⟨hcz16_0,hcz16_1,hcz16_2,hcz16_3,hcz16_4,hcz16_5,hfz16_0,hfz16_1,hfz16_2,hfz16_3,hfz16_4,hfz16_5⟩:=zzc6 BK108.out)|((with_reducible refine gate_callee (f:=84) rfl ?_);refine goesL_ (some 5) rfl rfl Try.func84 (by kernel_rfl) rfl #[.int .i64 a0_0,.int .i64 0,.int .i64 99999] rfl zzM2 ?_;(with_reducible refine (spec_l6In.calls a0_0 0 99999 false _ A2.out).mono ?_);rintro e w' ⟨rfl,⟨nd,rfl⟩⟩;refine ⟨_,rfl,?_⟩));go_ret;exact ⟨by first|rfl|(simp [errW_none,errW_some] <;> rfl)|(simp [*,errW_none,errW_some] <;> rfl),by repeat (first|(with_reducible first|exact HB.out|apply zza|apply zzb|apply zzc|refine zzd ?_ GE108.out)|exact HB.out)⟩
def spec_l5Records.l0:Nat→List (S34)→Int→Option (Bool)
 | 0,_,_=>none
 | k+1,x0,x3=>if x3 < (x0.length:Int) then (if 0≤x3 then ((spec_RecordValid.f k ((rd_T34 x0 x3).f0) ((rd_T34 x0 x3).f1) ((rd_T34 x0 x3).f2) ((rd_T34 x0 x3).f3) ((rd_T34 x0 x3).f4) ((rd_T34 x0 x3).f5)).bind fun t114=>(if t114=true then (if x3 > 0 then (if 0≤(wrap64 (x3 - 1)) then (if (wrap64 (x3 - 1)) < (x0.length:Int) then (if ((rd_T34 x0 (wrap64 (x3 - 1))).f0) ≥ ((rd_T34 x0 x3).f0) then (some false) else (spec_l5Records.l0 k x0 (wrap64 (x3+1)))) else (none)) else (none)) else (spec_l5Records.l0 k x0 (wrap64 (x3+1)))) else (some false))) else (none)) else ((spec_l6In.f (x0.length:Int) 1 6).bind fun t117=>(some t117))
def spec_l5Records.f (k:Nat) (l0:List (S34)):Option (Bool):=spec_l5Records.l0 k l0 0
def spec_l5Records.T4:Bool×List (List Nat×List Nat):=(true,[([],[]),([],[]),([0,1],[0,1]),([2],[2]),([3],[3]),([4],[4]),([5,4],[5]),([6],[6]),([7,6],[6,7]),([8,6,6],[6,8]),([9],[9]),([9],[9]),([11,9],[9,11]),([10,12,9],[9,10,12]),([13,9],[9,13]),([14,9],[9,14]),([9],[9]),([9],[9]),([16,17,9],[9,16,17]),([18,9],[9,18]),([19,9],[9,19]),([15,20,9],[9,15,20]),([9,21,6],[6,9,21]),([6,22],[6,22])])
def spec_l5Records.B4:List Nat:=[0,0,3,7,15,31,63,127,255,511,1023,1023,3071,8191,16383,32767,1023,1023,197631,459775,984063,2097151,4194303,8388607]
theorem spec_l5Records.tab4:rtab .any (opsOf Try.f83 4)=spec_l5Records.T4:=by kernel_rfl
theorem spec_l5Records.bits4:waitsOk spec_l5Records.T4.2 spec_l5Records.B4=true:=by kernel_rfl
set_option maxHeartbeats 8000000 in
set_option maxRecDepth 100000 in
theorem spec_l5Records.calls (k:Nat) (A0:Option Addr) (c0:Nat) (l0:List (S34)) (r:Bool) (w:World) (hr0:Kd.C k34 w A0 l0.length l0) (hc0:l0.length≤c0) (h:spec_l5Records.f k l0=some r) :
  Calls Try.prog 83 #[.slice A0 l0.length c0] w fun e w'=>e = .returned (.bool r)∧Below w.heap.size w w':=by
 have hu34:=Try.underlying34;have HR0:=zzm hr0;have HC0:=zzm hc0;clear hr0 hc0;have HB:=zzm (Below.refl w.heap.size w);have H:(spec_l5Records.l0 k l0 0)=some r:=h;clear h;have H':=zzm H;clear H;go_enter Try.func83,Try.ntmps83;go_wp2;go_loopg [3] k (fun kq v3 w'=>∃ (x3_1:Int),v3 = .int .i64 x3_1∧Aside0 (spec_l5Records.l0 kq l0 x3_1=some r)∧Aside0 (kq≤k)∧Aside0 (Below w.heap.size w w'))
 case atStart=>exact ⟨(0),(by first|rfl|(simp;done)|(simp [*];done)),H',⟨Nat.le_refl _⟩,⟨zzh1⟩⟩
 case round=>
  clear H';obtain ⟨x3_1,rfl,HA,HK1,HB⟩:=hrel;cases gk with
  | zero=>exact absurd HA.out (by simp [spec_l5Records.l0])
  | succ k1=>
   have H:=HA.out;clear HA;simp only [spec_l5Records.l0] at H;by_cases c2:x3_1 < (l0.length:Int)
   ·
    rw [if_pos c2] at H;have c2b0:decide (x3_1 < (l0.length:Int))=true:=decide_eq_true c2;clear c2;by_cases c3 : 0≤x3_1
    ·
     rw [if_pos c3] at H;have c3b0:decide (0≤x3_1)=true:=decide_eq_true c3;clear c3;replace H:=Option.bind_eq_some_iff.mp H;obtain ⟨t114,A40,H⟩:=H;replace H:(if t114=true then (if x3_1 > 0 then (if 0≤(wrap64 (x3_1 - 1)) then (if (wrap64 (x3_1 - 1)) < (l0.length:Int) then (if ((rd_T34 l0 (wrap64 (x3_1 - 1))).f0) ≥ ((rd_T34 l0 x3_1).f0) then (some false) else (spec_l5Records.l0 k1 l0 (wrap64 (x3_1+1)))) else (none)) else (none)) else (spec_l5Records.l0 k1 l0 (wrap64 (x3_1+1)))) else (some false))=some r:=H;have A4:=zzm A40;clear A40;by_cases c5:t114=true
     ·
      subst c5;have H1:(if x3_1 > 0 then (if 0≤(wrap64 (x3_1 - 1)) then (if (wrap64 (x3_1 - 1)) < (l0.length:Int) then (if ((rd_T34 l0 (wrap64 (x3_1 - 1))).f0) ≥ ((rd_T34 l0 x3_1).f0) then (some false) else (spec_l5Records.l0 k1 l0 (wrap64 (x3_1+1)))) else (none)) else (none)) else (spec_l5Records.l0 k1 l0 (wrap64 (x3_1+1))))=some r:=by rw [if_pos rfl] at H;exact H
      clear H;have H:=H1;clear H1;by_cases c6:x3_1 > 0
      ·
       rw [if_pos c6] at H;have c6b0:decide (0 < x3_1)=true:=decide_eq_true c6;clear c6;obtain ⟨ji7,hji7⟩:∃ j_:Int,(wrap64 (x3_1 - 1))=j_:=⟨_,rfl⟩;replace H:(if 0≤(ji7) then (if (ji7) < (l0.length:Int) then (if ((rd_T34 l0 (ji7)).f0) ≥ ((rd_T34 l0 x3_1).f0) then (some false) else (spec_l5Records.l0 k1 l0 (wrap64 (x3_1+1)))) else (none)) else (none))=some r:=by first|(rw [hji7] at H;exact H)|(simp only [hji7] at H ⊢;exact H)
       (try rw [hji7] at A4);have hji7w:(IntKind.i64.wrap (x3_1 - 1))=ji7:=(i64_w _).trans hji7;by_cases c8 : 0≤(ji7)
       ·
        rw [if_pos c8] at H;have c8b0:decide (0≤(ji7))=true:=decide_eq_true c8;clear c8;by_cases c9:(ji7) < (l0.length:Int)
        ·
         rw [if_pos c9] at H;have c9b0:decide ((ji7) < (l0.length:Int))=true:=decide_eq_true c9;clear c9;by_cases c10:((rd_T34 l0 (ji7)).f0) ≥ ((rd_T34 l0 x3_1).f0)
         ·
          rw [if_pos c10] at H;have c10b0:decide (((rd_T34 l0 x3_1).f0)≤((rd_T34 l0 (ji7)).f0))=true:=decide_eq_true c10;clear c10;obtain rfl:=Option.some.inj H;try go_wp2
          have n0_:=zzm (zzc HB.out);clear HB;have HB:=n0_;clear n0_;have p113 : 0≤(x3_1:Int):=zzt;have q113:x3_1 < (l0.length:Int):=zzt;obtain ⟨ad113,A113_3,c113_3,A113_5,c113_5,e113,hx113_0,hx113_1,hx113_2,hx113_3,hx113_4,hx113_5,hl113_3,hi113_3,hl113_5,hi113_5⟩:=at_T34 HR0.out x3_1 p113 q113;have hw113_5:=hx113_5;have hw113_4:=hx113_4;have hw113_3:=hx113_3;have hw113_2:=hx113_2;have hw113_1:=hx113_1;have hw113_0:=hx113_0;cases e113;replace hx113_0:=zzx HB.out hx113_0;replace hx113_1:=zzx HB.out hx113_1;replace hx113_2:=zzx HB.out hx113_2;replace hx113_3:=zzx HB.out hx113_3;replace hx113_4:=zzx HB.out hx113_4;replace hx113_5:=zzx HB.out hx113_5;have HR113_3:=zzm hi113_3;have HC113_3:=zzm hl113_3;clear hi113_3 hl113_3;have HR113_5:=zzm hi113_5;have HC113_5:=zzm hl113_5;clear hi113_5 hl113_5;replace p113:=eq_true p113;replace q113:=eq_true q113;have p115 : 0≤((ji7):Int):=zzt;have q115:(ji7) < (l0.length:Int):=zzt;obtain ⟨ad115,A115_3,c115_3,A115_5,c115_5,e115,hx115_0,hx115_1,hx115_2,hx115_3,hx115_4,hx115_5,hl115_3,hi115_3,hl115_5,hi115_5⟩:=at_T34 HR0.out (ji7) p115 q115;have hw115_5:=hx115_5;have hw115_4:=hx115_4;have hw115_3:=hx115_3;have hw115_2:=hx115_2;have hw115_1:=hx115_1;have hw115_0:=hx115_0;obtain rfl:ad113=ad115:=(by injection e115);replace hx115_0:=zzx HB.out hx115_0;replace hx115_1:=zzx HB.out hx115_1;replace hx115_2:=zzx HB.out hx115_2;replace hx115_3:=zzx HB.out hx115_3;replace hx115_4:=zzx HB.out hx115_4;replace hx115_5:=zzx HB.out hx115_5;have HR115_3:=zzm hi115_3;have HC115_3:=zzm hl115_3;clear hi115_3 hl115_3;have HR115_5:=zzm hi115_5;have HC115_5:=zzm hl115_5;clear hi115_5 hl115_5;replace p115:=eq_true p115;replace q115:=eq_true q115;have p116 : 0≤(x3_1:Int):=zzt;have q116:x3_1 < (l0.length:Int):=zzt;obtain ⟨ad116,A116_3,c116_3,A116_5,c116_5,e116,hx116_0,hx116_1,hx116_2,hx116_3,hx116_4,hx116_5,hl116_3,hi116_3,hl116_5,hi116_5⟩:=at_T34 HR0.out x3_1 p116 q116;have hw116_5:=hx116_5;have hw116_4:=hx116_4;have hw116_3:=hx116_3;have hw116_2:=hx116_2;have hw116_1:=hx116_1;have hw116_0:=hx116_0;obtain rfl:ad113=ad116:=(by injection e116);replace hx116_0:=zzx HB.out hx116_0;replace hx116_1:=zzx HB.out hx116_1;replace hx116_2:=zzx HB.out hx116_2;replace hx116_3:=zzx HB.out hx116_3;replace hx116_4:=zzx HB.out hx116_4;replace hx116_5:=zzx HB.out hx116_5;have HR116_3:=zzm hi116_3;have HC116_3:=zzm hl116_3;clear hi116_3 hl116_3;have HR116_5:=zzm hi116_5;have HC116_5:=zzm hl116_5;clear hi116_5 hl116_5;replace p116:=eq_true p116;replace q116:=eq_true q116;refine start_ (n:=24) (S:=fun w'=>w'.cell? (ad113.add ((x3_1).toNat * 6))=some (.int .i64 ((rd_T34 l0 x3_1).f0))∧w'.cell? ⟨(ad113.add ((x3_1).toNat * 6)).block,(ad113.add ((x3_1).toNat * 6)).off+1,none⟩=some (.int .i64 ((rd_T34 l0 x3_1).f1))∧w'.cell? ⟨(ad113.add ((x3_1).toNat * 6)).block,(ad113.add ((x3_1).toNat * 6)).off+2,none⟩=some (.bool ((rd_T34 l0 x3_1).f2))∧w'.cell? ⟨(ad113.add ((x3_1).toNat * 6)).block,(ad113.add ((x3_1).toNat * 6)).off+3,none⟩=some (.slice A113_3 ((rd_T34 l0 x3_1).f3).length c113_3)∧w'.cell? ⟨(ad113.add ((x3_1).toNat * 6)).block,(ad113.add ((x3_1).toNat * 6)).off+4,none⟩=some (.bool ((rd_T34 l0 x3_1).f4))∧w'.cell? ⟨(ad113.add ((x3_1).toNat * 6)).block,(ad113.add ((x3_1).toNat * 6)).off+5,none⟩=some (.slice A113_5 ((rd_T34 l0 x3_1).f5).length c113_5)∧w'.cell? (ad113.add (((ji7)).toNat * 6))=some (.int .i64 ((rd_T34 l0 (ji7)).f0))∧w'.cell? ⟨(ad113.add (((ji7)).toNat * 6)).block,(ad113.add (((ji7)).toNat * 6)).off+1,none⟩=some (.int .i64 ((rd_T34 l0 (ji7)).f1))∧w'.cell? ⟨(ad113.add (((ji7)).toNat * 6)).block,(ad113.add (((ji7)).toNat * 6)).off+2,none⟩=some (.bool ((rd_T34 l0 (ji7)).f2))∧w'.cell? ⟨(ad113.add (((ji7)).toNat * 6)).block,(ad113.add (((ji7)).toNat * 6)).off+3,none⟩=some (.slice A115_3 ((rd_T34 l0 (ji7)).f3).length c115_3)∧w'.cell? ⟨(ad113.add (((ji7)).toNat * 6)).block,(ad113.add (((ji7)).toNat * 6)).off+4,none⟩=some (.bool ((rd_T34 l0 (ji7)).f4))∧w'.cell? ⟨(ad113.add (((ji7)).toNat * 6)).block,(ad113.add (((ji7)).toNat * 6)).off+5,none⟩=some (.slice A115_5 ((rd_T34 l0 (ji7)).f5).length c115_5)∧w'.cell? (ad113.add ((x3_1).toNat * 6))=some (.int .i64 ((rd_T34 l0 x3_1).f0))∧w'.cell? ⟨(ad113.add ((x3_1).toNat * 6)).block,(ad113.add ((x3_1).toNat * 6)).off+1,none⟩=some (.int .i64 ((rd_T34 l0 x3_1).f1))∧w'.cell? ⟨(ad113.add ((x3_1).toNat * 6)).block,(ad113.add ((x3_1).toNat * 6)).off+2,none⟩=some (.bool ((rd_T34 l0 x3_1).f2))∧w'.cell? ⟨(ad113.add ((x3_1).toNat * 6)).block,(ad113.add ((x3_1).toNat * 6)).off+3,none⟩=some (.slice A116_3 ((rd_T34 l0 x3_1).f3).length c116_3)∧w'.cell? ⟨(ad113.add ((x3_1).toNat * 6)).block,(ad113.add ((x3_1).toNat * 6)).off+4,none⟩=some (.bool ((rd_T34 l0 x3_1).f4))∧w'.cell? ⟨(ad113.add ((x3_1).toNat * 6)).block,(ad113.add ((x3_1).toNat * 6)).off+5,none⟩=some (.slice A116_5 ((rd_T34 l0 x3_1).f5).length c116_5)) (ds:=[]) (zzB 24 0) (by kernel_rfl) rfl rfl ⟨(zzx HB.out hw113_0),(zzx HB.out hw113_1),(zzx HB.out hw113_2),(zzx HB.out hw113_3),(zzx HB.out hw113_4),(zzx HB.out hw113_5),(zzx HB.out hw115_0),(zzx HB.out hw115_1),(zzx HB.out hw115_2),(zzx HB.out hw115_3),(zzx HB.out hw115_4),(zzx HB.out hw115_5),(zzx HB.out hw116_0),(zzx HB.out hw116_1),(zzx HB.out hw116_2),(zzx HB.out hw116_3),(zzx HB.out hw116_4),(zzx HB.out hw116_5)⟩ (fun hHeld=>?_);refine with_tabW spec_l5Records.tab4 spec_l5Records.bits4 (fun HT_ HW_=>?_);generalize wr.drew=w11 at HB HR113_3 HR113_5 HR115_3 HR115_5 HR116_3 HR116_5 hx113_0 hx113_1 hx113_2 hx113_3 hx113_4 hx113_5 hx115_0 hx115_1 hx115_2 hx115_3 hx115_4 hx115_5 hx116_0 hx116_1 hx116_2 hx116_3 hx116_4 hx116_5 hHeld ⊢;refine pure_ (i:=0) (N:=some 10) (v:=?_) (a':=?_) (zzB 24 1) rfl rfl (zzA2 HT_.out) (fun _ _ _ h=>h) (Or.inl ⟨by rfl,?_⟩) ?_ ?_;rotate_left
          ·
           intro w';go_simp;with_reducible rfl
          rotate_left
          ·
           simp only [Act.put,zzq,zzr,zzs,i64_w,i32_w];rfl
          refine pure_ (i:=1) (N:=some 11) (v:=?_) (a':=?_) (zzB 24 3) rfl rfl (zzA2 HT_.out) (fun _ _ _ h=>h) (Or.inl ⟨by rfl,?_⟩) ?_ ?_;rotate_left
          ·
           intro w';go_simp;with_reducible rfl
          rotate_left
          ·
           simp only [Act.put,zzq,zzr,zzs,i64_w,i32_w];rfl
          refine pure_ (i:=2) (N:=some 12) (v:=?_) (a':=?_) (zzB 24 7) rfl rfl (zzA2 HT_.out) (fun _ _ _ h=>h) (Or.inl ⟨by rfl,?_⟩) ?_ ?_;rotate_left
          ·
           intro w';go_simp;with_reducible rfl
          rotate_left
          ·
           simp only [Act.put,zzq,zzr,zzs,i64_w,i32_w];rfl
          refine take_ (i:=3) (N:=some 13) (v:=?_) (a':=?_) (zzB 24 15) rfl rfl (take_ofW HT_.out HW_.out (by kernel_rfl)) (fun _ _ _ h=>h) (Or.inl ⟨by rfl,?_⟩) hHeld ?_ ?_;rotate_left
          ·
           rintro w' ⟨s0,s1,s2,s3,s4,s5,s6,s7,s8,s9,s10,s11,s12,s13,s14,s15,s16,s17⟩;go_simp;with_reducible rfl
          rotate_left
          ·
           simp only [Act.put,zzq,zzr,zzs,i64_w,i32_w];rfl
          refine one_ (i:=4) (N:=some 14) (zzB 24 31) rfl rfl (one_of HT_.out (by kernel_rfl)) (by decide) (fun K hK=>?_);refine goes_ Try.func99 (by kernel_rfl) rfl #[.agg #[.int .i64 ((rd_T34 l0 x3_1).f0),.int .i64 ((rd_T34 l0 x3_1).f1),.bool ((rd_T34 l0 x3_1).f2),.slice A113_3 ((rd_T34 l0 x3_1).f3).length c113_3,.bool ((rd_T34 l0 x3_1).f4),.slice A113_5 ((rd_T34 l0 x3_1).f5).length c113_5]] (by rfl) rfl rfl zzM2 ?_;with_reducible refine (spec_RecordValid.calls k1 ((rd_T34 l0 x3_1).f0) ((rd_T34 l0 x3_1).f1) ((rd_T34 l0 x3_1).f2) _ _ ((rd_T34 l0 x3_1).f3) ((rd_T34 l0 x3_1).f4) _ _ ((rd_T34 l0 x3_1).f5) true _ ?side1 ?side2 ?side3 ?side4 A4.out).mono ?_;(case side1=>repeat (first|exact (Kd.C_below HR113_3.out HB.out)|(with_reducible refine Kd.C_alloc ?_ _)|(with_reducible refine Kd.C_drewN ?_ _)|(with_reducible refine Kd.C_drew ?_)));(case side2=>exact HC113_3.out);(case side3=>repeat (first|exact (Kd.C_below HR113_5.out HB.out)|(with_reducible refine Kd.C_alloc ?_ _)|(with_reducible refine Kd.C_drewN ?_ _)|(with_reducible refine Kd.C_drew ?_)));(case side4=>exact HC113_5.out);rintro e w12 ⟨rfl,hb⟩;refine ⟨_,rfl,?_⟩;have n0_:=zzm (zzp zzh1 hb);clear HB;have HB:=n0_;clear n0_;(try clear hb);(try clear hb2);(try clear hk);(try clear hi);refine hK.out _ _ ⟨(zzx HB.out hw113_0),(zzx HB.out hw113_1),(zzx HB.out hw113_2),(zzx HB.out hw113_3),(zzx HB.out hw113_4),(zzx HB.out hw113_5),(zzx HB.out hw115_0),(zzx HB.out hw115_1),(zzx HB.out hw115_2),(zzx HB.out hw115_3),(zzx HB.out hw115_4),(zzx HB.out hw115_5),(zzx HB.out hw116_0),(zzx HB.out hw116_1),(zzx HB.out hw116_2),(zzx HB.out hw116_3),(zzx HB.out hw116_4),(zzx HB.out hw116_5)⟩ (fun hHeld=>?_);clear hK K;refine norm_ (a':=?_) ?_ ?_;rotate_left
          ·
           show Act.put _ (some 14) _ = _;simp only [Act.put,zzq,zzr,zzs,i64_w,i32_w];rfl
          refine pure_ (i:=5) (N:=some 15) (v:=?_) (a':=?_) (zzB 24 63) rfl rfl (zzA2 HT_.out) (fun _ _ _ h=>h) (Or.inl ⟨by rfl,?_⟩) ?_ ?_;rotate_left
          ·
           intro w';go_simp;with_reducible rfl
          rotate_left
          ·
           simp only [Act.put,zzq,zzr,zzs,i64_w,i32_w];rfl
          refine pure_ (i:=6) (N:=some 16) (v:=?_) (a':=?_) (zzB 24 127) rfl rfl (zzA2 HT_.out) (fun _ _ _ h=>h) (Or.inl ⟨by rfl,?_⟩) ?_ ?_;rotate_left
          ·
           intro w';go_simp;with_reducible rfl
          rotate_left
          ·
           simp only [Act.put,zzq,zzr,zzs,i64_w,i32_w];rfl
          refine pure_ (i:=7) (N:=some 17) (v:=?_) (a':=?_) (zzB 24 255) rfl rfl (zzA2 HT_.out) (fun _ _ _ h=>h) (Or.inl ⟨by rfl,?_⟩) ?_ ?_;rotate_left
          ·
           intro w';go_simp;with_reducible rfl
          rotate_left
          ·
           simp only [Act.put,zzq,zzr,zzs,i64_w,i32_w];rfl
          refine pure_ (i:=8) (N:=some 18) (v:=?_) (a':=?_) (zzB 24 511) rfl rfl (zzA2 HT_.out) (fun _ _ _ h=>h) (Or.inl ⟨by rfl,?_⟩) ?_ ?_;rotate_left
          ·
           intro w';go_simp;with_reducible rfl
          rotate_left
          ·
           simp only [Act.put,zzq,zzr,zzs,i64_w,i32_w];rfl
          refine pure_ (i:=9) (N:=some 19) (v:=?_) (a':=?_) (zzB 24 1023) rfl rfl (zzA2 HT_.out) (fun _ _ _ h=>h) (Or.inl ⟨by rfl,?_⟩) ?_ ?_;rotate_left
          ·
           intro w';go_simp;with_reducible rfl
          rotate_left
          ·
           simp only [Act.put,zzq,zzr,zzs,i64_w,i32_w];rfl
          refine pure_ (i:=10) (N:=some 20) (v:=?_) (a':=?_) (zzB 24 2047) rfl rfl (zzA2 HT_.out) (fun _ _ _ h=>h) (Or.inl ⟨by rfl,?_⟩) ?_ ?_;rotate_left
          ·
           intro w';go_simp;with_reducible rfl
          rotate_left
          ·
           simp only [Act.put,zzq,zzr,zzs,i64_w,i32_w];rfl
          refine pure_ (i:=11) (N:=some 21) (v:=?_) (a':=?_) (zzB 24 4095) rfl rfl (zzA2 HT_.out) (fun _ _ _ h=>h) (Or.inl ⟨by rfl,?_⟩) ?_ ?_;rotate_left
          ·
           intro w';go_simp;with_reducible rfl
          rotate_left
          ·
           simp only [Act.put,zzq,zzr,zzs,i64_w,i32_w];rfl
          refine pure_ (i:=12) (N:=some 22) (v:=?_) (a':=?_) (zzB 24 8191) rfl rfl (zzA2 HT_.out) (fun _ _ _ h=>h) (Or.inl ⟨by rfl,?_⟩) ?_ ?_;rotate_left
          ·
           intro w';go_simp;with_reducible rfl
          rotate_left
          ·
           simp only [Act.put,zzq,zzr,zzs,i64_w,i32_w];rfl
          refine pure_ (i:=13) (N:=some 23) (v:=?_) (a':=?_) (zzB 24 16383) rfl rfl (zzA2 HT_.out) (fun _ _ _ h=>h) (Or.inl ⟨by rfl,?_⟩) ?_ ?_;rotate_left
          ·
           intro w';go_simp;with_reducible rfl
          rotate_left
          ·
           simp only [Act.put,zzq,zzr,zzs,i64_w,i32_w];rfl
          refine pure_ (i:=14) (N:=some 24) (v:=?_) (a':=?_) (zzB 24 32767) rfl rfl (zzA2 HT_.out) (fun _ _ _ h=>h) (Or.inl ⟨by rfl,?_⟩) ?_ ?_;rotate_left
          ·
           intro w';go_simp;with_reducible rfl
          rotate_left
          ·
           simp only [Act.put,zzq,zzr,zzs,i64_w,i32_w];rfl
          refine pure_ (i:=16) (N:=some 26) (v:=?_) (a':=?_) (zzB 24 98303) rfl rfl (zzA2 HT_.out) (fun _ _ _ h=>h) (Or.inl ⟨by rfl,?_⟩) ?_ ?_;rotate_left
          ·
           intro w';go_simp;with_reducible rfl
          rotate_left
          ·
           simp only [Act.put,zzq,zzr,zzs,i64_w,i32_w];rfl
          refine pure_ (i:=17) (N:=some 27) (v:=?_) (a':=?_) (zzB 24 229375) rfl rfl (zzA2 HT_.out) (fun _ _ _ h=>h) (Or.inl ⟨by rfl,?_⟩) ?_ ?_;rotate_left
          ·
           intro w';go_simp;with_reducible rfl
          rotate_left
          ·
           simp only [Act.put,zzq,zzr,zzs,i64_w,i32_w];rfl
          refine pure_ (i:=18) (N:=some 28) (v:=?_) (a':=?_) (zzB 24 491519) rfl rfl (zzA2 HT_.out) (fun _ _ _ h=>h) (Or.inl ⟨by rfl,?_⟩) ?_ ?_;rotate_left
          ·
           intro w';go_simp;with_reducible rfl
          rotate_left
          ·
           simp only [Act.put,zzq,zzr,zzs,i64_w,i32_w];rfl
          refine pure_ (i:=19) (N:=some 29) (v:=?_) (a':=?_) (zzB 24 1015807) rfl rfl (zzA2 HT_.out) (fun _ _ _ h=>h) (Or.inl ⟨by rfl,?_⟩) ?_ ?_;rotate_left
          ·
           intro w';go_simp;with_reducible rfl
          rotate_left
          ·
           simp only [Act.put,zzq,zzr,zzs,i64_w,i32_w];rfl
          refine take_ (i:=15) (N:=some 25) (v:=?_) (a':=?_) (zzB 24 1048575) rfl rfl (take_ofW HT_.out HW_.out (by kernel_rfl)) (fun _ _ _ h=>h) (Or.inl ⟨by rfl,?_⟩) hHeld ?_ ?_;rotate_left
          ·
           rintro w' ⟨s0,s1,s2,s3,s4,s5,s6,s7,s8,s9,s10,s11,s12,s13,s14,s15,s16,s17⟩;go_simp;with_reducible rfl
          rotate_left
          ·
           simp only [Act.put,zzq,zzr,zzs,i64_w,i32_w];rfl
          refine take_ (i:=20) (N:=some 30) (v:=?_) (a':=?_) (zzB 24 2097151) rfl rfl (take_ofW HT_.out HW_.out (by kernel_rfl)) (fun _ _ _ h=>h) (Or.inl ⟨by rfl,?_⟩) hHeld ?_ ?_;rotate_left
          ·
           rintro w' ⟨s0,s1,s2,s3,s4,s5,s6,s7,s8,s9,s10,s11,s12,s13,s14,s15,s16,s17⟩;go_simp;with_reducible rfl
          rotate_left
          ·
           simp only [Act.put,zzq,zzr,zzs,i64_w,i32_w];rfl
          refine pure_ (i:=21) (N:=some 31) (v:=?_) (a':=?_) (zzB 24 4194303) rfl rfl (zzA2 HT_.out) (fun _ _ _ h=>h) (Or.inl ⟨by rfl,?_⟩) ?_ ?_;rotate_left
          ·
           intro w';go_simp;with_reducible rfl
          rotate_left
          ·
           simp only [Act.put,zzq,zzr,zzs,i64_w,i32_w];rfl
          refine pure_ (i:=22) (N:=some 32) (v:=?_) (a':=?_) (zzB 24 8388607) rfl rfl (zzA2 HT_.out) (fun _ _ _ h=>h) (Or.inl ⟨by rfl,?_⟩) ?_ ?_;rotate_left
          ·
           intro w';go_simp;with_reducible rfl
          rotate_left
          ·
           simp only [Act.put,zzq,zzr,zzs,i64_w,i32_w];rfl
          refine pure_ (i:=23) (N:=some 33) (v:=?_) (a':=?_) (zzB 24 16777215) rfl rfl (zzA2 HT_.out) (fun _ _ _ h=>h) (Or.inl ⟨by rfl,?_⟩) ?_ ?_;rotate_left
          ·
           intro w';go_simp;with_reducible rfl
          rotate_left
          ·
           simp only [Act.put,zzq,zzr,zzs,i64_w,i32_w];rfl
          refine done_ (done_of HT_.out (by kernel_rfl)) ?_;try go_wp2
          go_ret;exact ⟨by first|rfl|(simp [errW_none,errW_some] <;> rfl)|(simp only [← hji7];first|rfl|(simp [errW_none,errW_some] <;> rfl))|(simp [*,errW_none,errW_some] <;> rfl),zzh1⟩
         ·
          rw [if_neg c10] at H;have c10b0:decide (((rd_T34 l0 x3_1).f0)≤((rd_T34 l0 (ji7)).f0))=false:=decide_eq_false c10;clear c10;have H':=zzm H;clear H;try go_wp2
          have n0_:=zzm (zzc HB.out);clear HB;have HB:=n0_;clear n0_;have p113 : 0≤(x3_1:Int):=zzt;have q113:x3_1 < (l0.length:Int):=zzt;obtain ⟨ad113,A113_3,c113_3,A113_5,c113_5,e113,hx113_0,hx113_1,hx113_2,hx113_3,hx113_4,hx113_5,hl113_3,hi113_3,hl113_5,hi113_5⟩:=at_T34 HR0.out x3_1 p113 q113;have hw113_5:=hx113_5;have hw113_4:=hx113_4;have hw113_3:=hx113_3;have hw113_2:=hx113_2;have hw113_1:=hx113_1;have hw113_0:=hx113_0;cases e113;replace hx113_0:=zzx HB.out hx113_0;replace hx113_1:=zzx HB.out hx113_1;replace hx113_2:=zzx HB.out hx113_2;replace hx113_3:=zzx HB.out hx113_3;replace hx113_4:=zzx HB.out hx113_4;replace hx113_5:=zzx HB.out hx113_5;have HR113_3:=zzm hi113_3;have HC113_3:=zzm hl113_3;clear hi113_3 hl113_3;have HR113_5:=zzm hi113_5;have HC113_5:=zzm hl113_5;clear hi113_5 hl113_5;replace p113:=eq_true p113;replace q113:=eq_true q113;have p115 : 0≤((ji7):Int):=zzt;have q115:(ji7) < (l0.length:Int):=zzt;obtain ⟨ad115,A115_3,c115_3,A115_5,c115_5,e115,hx115_0,hx115_1,hx115_2,hx115_3,hx115_4,hx115_5,hl115_3,hi115_3,hl115_5,hi115_5⟩:=at_T34 HR0.out (ji7) p115 q115;have hw115_5:=hx115_5;have hw115_4:=hx115_4;have hw115_3:=hx115_3;have hw115_2:=hx115_2;have hw115_1:=hx115_1;have hw115_0:=hx115_0;obtain rfl:ad113=ad115:=(by injection e115);replace hx115_0:=zzx HB.out hx115_0;replace hx115_1:=zzx HB.out hx115_1;replace hx115_2:=zzx HB.out hx115_2;replace hx115_3:=zzx HB.out hx115_3;replace hx115_4:=zzx HB.out hx115_4;replace hx115_5:=zzx HB.out hx115_5;have HR115_3:=zzm hi115_3;have HC115_3:=zzm hl115_3;clear hi115_3 hl115_3;have HR115_5:=zzm hi115_5;have HC115_5:=zzm hl115_5;clear hi115_5 hl115_5;replace p115:=eq_true p115;replace q115:=eq_true q115;have p116 : 0≤(x3_1:Int):=zzt;have q116:x3_1 < (l0.length:Int):=zzt;obtain ⟨ad116,A116_3,c116_3,A116_5,c116_5,e116,hx116_0,hx116_1,hx116_2,hx116_3,hx116_4,hx116_5,hl116_3,hi116_3,hl116_5,hi116_5⟩:=at_T34 HR0.out x3_1 p116 q116;have hw116_5:=hx116_5;have hw116_4:=hx116_4;have hw116_3:=hx116_3;have hw116_2:=hx116_2;have hw116_1:=hx116_1;have hw116_0:=hx116_0;obtain rfl:ad113=ad116:=(by injection e116);replace hx116_0:=zzx HB.out hx116_0;replace hx116_1:=zzx HB.out hx116_1;replace hx116_2:=zzx HB.out hx116_2;replace hx116_3:=zzx HB.out hx116_3;replace hx116_4:=zzx HB.out hx116_4;replace hx116_5:=zzx HB.out hx116_5;have HR116_3:=zzm hi116_3;have HC116_3:=zzm hl116_3;clear hi116_3 hl116_3;have HR116_5:=zzm hi116_5;have HC116_5:=zzm hl116_5;clear hi116_5 hl116_5;replace p116:=eq_true p116;replace q116:=eq_true q116;refine start_ (n:=24) (S:=fun w'=>w'.cell? (ad113.add ((x3_1).toNat * 6))=some (.int .i64 ((rd_T34 l0 x3_1).f0))∧w'.cell? ⟨(ad113.add ((x3_1).toNat * 6)).block,(ad113.add ((x3_1).toNat * 6)).off+1,none⟩=some (.int .i64 ((rd_T34 l0 x3_1).f1))∧w'.cell? ⟨(ad113.add ((x3_1).toNat * 6)).block,(ad113.add ((x3_1).toNat * 6)).off+2,none⟩=some (.bool ((rd_T34 l0 x3_1).f2))∧w'.cell? ⟨(ad113.add ((x3_1).toNat * 6)).block,(ad113.add ((x3_1).toNat * 6)).off+3,none⟩=some (.slice A113_3 ((rd_T34 l0 x3_1).f3).length c113_3)∧w'.cell? ⟨(ad113.add ((x3_1).toNat * 6)).block,(ad113.add ((x3_1).toNat * 6)).off+4,none⟩=some (.bool ((rd_T34 l0 x3_1).f4))∧w'.cell? ⟨(ad113.add ((x3_1).toNat * 6)).block,(ad113.add ((x3_1).toNat * 6)).off+5,none⟩=some (.slice A113_5 ((rd_T34 l0 x3_1).f5).length c113_5)∧w'.cell? (ad113.add (((ji7)).toNat * 6))=some (.int .i64 ((rd_T34 l0 (ji7)).f0))∧w'.cell? ⟨(ad113.add (((ji7)).toNat * 6)).block,(ad113.add (((ji7)).toNat * 6)).off+1,none⟩=some (.int .i64 ((rd_T34 l0 (ji7)).f1))∧w'.cell? ⟨(ad113.add (((ji7)).toNat * 6)).block,(ad113.add (((ji7)).toNat * 6)).off+2,none⟩=some (.bool ((rd_T34 l0 (ji7)).f2))∧w'.cell? ⟨(ad113.add (((ji7)).toNat * 6)).block,(ad113.add (((ji7)).toNat * 6)).off+3,none⟩=some (.slice A115_3 ((rd_T34 l0 (ji7)).f3).length c115_3)∧w'.cell? ⟨(ad113.add (((ji7)).toNat * 6)).block,(ad113.add (((ji7)).toNat * 6)).off+4,none⟩=some (.bool ((rd_T34 l0 (ji7)).f4))∧w'.cell? ⟨(ad113.add (((ji7)).toNat * 6)).block,(ad113.add (((ji7)).toNat * 6)).off+5,none⟩=some (.slice A115_5 ((rd_T34 l0 (ji7)).f5).length c115_5)∧w'.cell? (ad113.add ((x3_1).toNat * 6))=some (.int .i64 ((rd_T34 l0 x3_1).f0))∧w'.cell? ⟨(ad113.add ((x3_1).toNat * 6)).block,(ad113.add ((x3_1).toNat * 6)).off+1,none⟩=some (.int .i64 ((rd_T34 l0 x3_1).f1))∧w'.cell? ⟨(ad113.add ((x3_1).toNat * 6)).block,(ad113.add ((x3_1).toNat * 6)).off+2,none⟩=some (.bool ((rd_T34 l0 x3_1).f2))∧w'.cell? ⟨(ad113.add ((x3_1).toNat * 6)).block,(ad113.add ((x3_1).toNat * 6)).off+3,none⟩=some (.slice A116_3 ((rd_T34 l0 x3_1).f3).length c116_3)∧w'.cell? ⟨(ad113.add ((x3_1).toNat * 6)).block,(ad113.add ((x3_1).toNat * 6)).off+4,none⟩=some (.bool ((rd_T34 l0 x3_1).f4))∧w'.cell? ⟨(ad113.add ((x3_1).toNat * 6)).block,(ad113.add ((x3_1).toNat * 6)).off+5,none⟩=some (.slice A116_5 ((rd_T34 l0 x3_1).f5).length c116_5)) (ds:=[]) (zzB 24 0) (by kernel_rfl) rfl rfl ⟨(zzx HB.out hw113_0),(zzx HB.out hw113_1),(zzx HB.out hw113_2),(zzx HB.out hw113_3),(zzx HB.out hw113_4),(zzx HB.out hw113_5),(zzx HB.out hw115_0),(zzx HB.out hw115_1),(zzx HB.out hw115_2),(zzx HB.out hw115_3),(zzx HB.out hw115_4),(zzx HB.out hw115_5),(zzx HB.out hw116_0),(zzx HB.out hw116_1),(zzx HB.out hw116_2),(zzx HB.out hw116_3),(zzx HB.out hw116_4),(zzx HB.out hw116_5)⟩ (fun hHeld=>?_);refine with_tabW spec_l5Records.tab4 spec_l5Records.bits4 (fun HT_ HW_=>?_);generalize wr.drew=w13 at HB HR113_3 HR113_5 HR115_3 HR115_5 HR116_3 HR116_5 hx113_0 hx113_1 hx113_2 hx113_3 hx113_4 hx113_5 hx115_0 hx115_1 hx115_2 hx115_3 hx115_4 hx115_5 hx116_0 hx116_1 hx116_2 hx116_3 hx116_4 hx116_5 hHeld ⊢;refine pure_ (i:=0) (N:=some 10) (v:=?_) (a':=?_) (zzB 24 1) rfl rfl (zzA2 HT_.out) (fun _ _ _ h=>h) (Or.inl ⟨by rfl,?_⟩) ?_ ?_;rotate_left
          ·
           intro w';go_simp;with_reducible rfl
          rotate_left
          ·
           simp only [Act.put,zzq,zzr,zzs,i64_w,i32_w];rfl
          refine pure_ (i:=1) (N:=some 11) (v:=?_) (a':=?_) (zzB 24 3) rfl rfl (zzA2 HT_.out) (fun _ _ _ h=>h) (Or.inl ⟨by rfl,?_⟩) ?_ ?_;rotate_left
          ·
           intro w';go_simp;with_reducible rfl
          rotate_left
          ·
           simp only [Act.put,zzq,zzr,zzs,i64_w,i32_w];rfl
          refine pure_ (i:=2) (N:=some 12) (v:=?_) (a':=?_) (zzB 24 7) rfl rfl (zzA2 HT_.out) (fun _ _ _ h=>h) (Or.inl ⟨by rfl,?_⟩) ?_ ?_;rotate_left
          ·
           intro w';go_simp;with_reducible rfl
          rotate_left
          ·
           simp only [Act.put,zzq,zzr,zzs,i64_w,i32_w];rfl
          refine take_ (i:=3) (N:=some 13) (v:=?_) (a':=?_) (zzB 24 15) rfl rfl (take_ofW HT_.out HW_.out (by kernel_rfl)) (fun _ _ _ h=>h) (Or.inl ⟨by rfl,?_⟩) hHeld ?_ ?_;rotate_left
          ·
           rintro w' ⟨s0,s1,s2,s3,s4,s5,s6,s7,s8,s9,s10,s11,s12,s13,s14,s15,s16,s17⟩;go_simp;with_reducible rfl
          rotate_left
          ·
           simp only [Act.put,zzq,zzr,zzs,i64_w,i32_w];rfl
          refine one_ (i:=4) (N:=some 14) (zzB 24 31) rfl rfl (one_of HT_.out (by kernel_rfl)) (by decide) (fun K hK=>?_);refine goes_ Try.func99 (by kernel_rfl) rfl #[.agg #[.int .i64 ((rd_T34 l0 x3_1).f0),.int .i64 ((rd_T34 l0 x3_1).f1),.bool ((rd_T34 l0 x3_1).f2),.slice A113_3 ((rd_T34 l0 x3_1).f3).length c113_3,.bool ((rd_T34 l0 x3_1).f4),.slice A113_5 ((rd_T34 l0 x3_1).f5).length c113_5]] (by rfl) rfl rfl zzM2 ?_;with_reducible refine (spec_RecordValid.calls k1 ((rd_T34 l0 x3_1).f0) ((rd_T34 l0 x3_1).f1) ((rd_T34 l0 x3_1).f2) _ _ ((rd_T34 l0 x3_1).f3) ((rd_T34 l0 x3_1).f4) _ _ ((rd_T34 l0 x3_1).f5) true _ ?side1 ?side2 ?side3 ?side4 A4.out).mono ?_;(case side1=>repeat (first|exact (Kd.C_below HR113_3.out HB.out)|(with_reducible refine Kd.C_alloc ?_ _)|(with_reducible refine Kd.C_drewN ?_ _)|(with_reducible refine Kd.C_drew ?_)));(case side2=>exact HC113_3.out);(case side3=>repeat (first|exact (Kd.C_below HR113_5.out HB.out)|(with_reducible refine Kd.C_alloc ?_ _)|(with_reducible refine Kd.C_drewN ?_ _)|(with_reducible refine Kd.C_drew ?_)));(case side4=>exact HC113_5.out);rintro e w14 ⟨rfl,hb⟩;refine ⟨_,rfl,?_⟩;have n0_:=zzm (zzp zzh1 hb);clear HB;have HB:=n0_;clear n0_;(try clear hb);(try clear hb2);(try clear hk);(try clear hi);refine hK.out _ _ ⟨(zzx HB.out hw113_0),(zzx HB.out hw113_1),(zzx HB.out hw113_2),(zzx HB.out hw113_3),(zzx HB.out hw113_4),(zzx HB.out hw113_5),(zzx HB.out hw115_0),(zzx HB.out hw115_1),(zzx HB.out hw115_2),(zzx HB.out hw115_3),(zzx HB.out hw115_4),(zzx HB.out hw115_5),(zzx HB.out hw116_0),(zzx HB.out hw116_1),(zzx HB.out hw116_2),(zzx HB.out hw116_3),(zzx HB.out hw116_4),(zzx HB.out hw116_5)⟩ (fun hHeld=>?_);clear hK K;refine norm_ (a':=?_) ?_ ?_;rotate_left
          ·
           show Act.put _ (some 14) _ = _;simp only [Act.put,zzq,zzr,zzs,i64_w,i32_w];rfl
          refine pure_ (i:=5) (N:=some 15) (v:=?_) (a':=?_) (zzB 24 63) rfl rfl (zzA2 HT_.out) (fun _ _ _ h=>h) (Or.inl ⟨by rfl,?_⟩) ?_ ?_;rotate_left
          ·
           intro w';go_simp;with_reducible rfl
          rotate_left
          ·
           simp only [Act.put,zzq,zzr,zzs,i64_w,i32_w];rfl
          refine pure_ (i:=6) (N:=some 16) (v:=?_) (a':=?_) (zzB 24 127) rfl rfl (zzA2 HT_.out) (fun _ _ _ h=>h) (Or.inl ⟨by rfl,?_⟩) ?_ ?_;rotate_left
          ·
           intro w';go_simp;with_reducible rfl
          rotate_left
          ·
           simp only [Act.put,zzq,zzr,zzs,i64_w,i32_w];rfl
          refine pure_ (i:=7) (N:=some 17) (v:=?_) (a':=?_) (zzB 24 255) rfl rfl (zzA2 HT_.out) (fun _ _ _ h=>h) (Or.inl ⟨by rfl,?_⟩) ?_ ?_;rotate_left
          ·
           intro w';go_simp;with_reducible rfl
          rotate_left
          ·
           simp only [Act.put,zzq,zzr,zzs,i64_w,i32_w];rfl
          refine pure_ (i:=8) (N:=some 18) (v:=?_) (a':=?_) (zzB 24 511) rfl rfl (zzA2 HT_.out) (fun _ _ _ h=>h) (Or.inl ⟨by rfl,?_⟩) ?_ ?_;rotate_left
          ·
           intro w';go_simp;with_reducible rfl
          rotate_left
          ·
           simp only [Act.put,zzq,zzr,zzs,i64_w,i32_w];rfl
          refine pure_ (i:=9) (N:=some 19) (v:=?_) (a':=?_) (zzB 24 1023) rfl rfl (zzA2 HT_.out) (fun _ _ _ h=>h) (Or.inl ⟨by rfl,?_⟩) ?_ ?_;rotate_left
          ·
           intro w';go_simp;with_reducible rfl
          rotate_left
          ·
           simp only [Act.put,zzq,zzr,zzs,i64_w,i32_w];rfl
          refine pure_ (i:=10) (N:=some 20) (v:=?_) (a':=?_) (zzB 24 2047) rfl rfl (zzA2 HT_.out) (fun _ _ _ h=>h) (Or.inl ⟨by rfl,?_⟩) ?_ ?_;rotate_left
          ·
           intro w';go_simp;with_reducible rfl
          rotate_left
          ·
           simp only [Act.put,zzq,zzr,zzs,i64_w,i32_w];rfl
          refine pure_ (i:=11) (N:=some 21) (v:=?_) (a':=?_) (zzB 24 4095) rfl rfl (zzA2 HT_.out) (fun _ _ _ h=>h) (Or.inl ⟨by rfl,?_⟩) ?_ ?_;rotate_left
          ·
           intro w';go_simp;with_reducible rfl
          rotate_left
          ·
           simp only [Act.put,zzq,zzr,zzs,i64_w,i32_w];rfl
          refine pure_ (i:=12) (N:=some 22) (v:=?_) (a':=?_) (zzB 24 8191) rfl rfl (zzA2 HT_.out) (fun _ _ _ h=>h) (Or.inl ⟨by rfl,?_⟩) ?_ ?_;rotate_left
          ·
           intro w';go_simp;with_reducible rfl
          rotate_left
          ·
           simp only [Act.put,zzq,zzr,zzs,i64_w,i32_w];rfl
          refine pure_ (i:=13) (N:=some 23) (v:=?_) (a':=?_) (zzB 24 16383) rfl rfl (zzA2 HT_.out) (fun _ _ _ h=>h) (Or.inl ⟨by rfl,?_⟩) ?_ ?_;rotate_left
          ·
           intro w';go_simp;with_reducible rfl
          rotate_left
          ·
           simp only [Act.put,zzq,zzr,zzs,i64_w,i32_w];rfl
          refine pure_ (i:=14) (N:=some 24) (v:=?_) (a':=?_) (zzB 24 32767) rfl rfl (zzA2 HT_.out) (fun _ _ _ h=>h) (Or.inl ⟨by rfl,?_⟩) ?_ ?_;rotate_left
          ·
           intro w';go_simp;with_reducible rfl
          rotate_left
          ·
           simp only [Act.put,zzq,zzr,zzs,i64_w,i32_w];rfl
          refine pure_ (i:=16) (N:=some 26) (v:=?_) (a':=?_) (zzB 24 98303) rfl rfl (zzA2 HT_.out) (fun _ _ _ h=>h) (Or.inl ⟨by rfl,?_⟩) ?_ ?_;rotate_left
          ·
           intro w';go_simp;with_reducible rfl
          rotate_left
          ·
           simp only [Act.put,zzq,zzr,zzs,i64_w,i32_w];rfl
          refine pure_ (i:=17) (N:=some 27) (v:=?_) (a':=?_) (zzB 24 229375) rfl rfl (zzA2 HT_.out) (fun _ _ _ h=>h) (Or.inl ⟨by rfl,?_⟩) ?_ ?_;rotate_left
          ·
           intro w';go_simp;with_reducible rfl
          rotate_left
          ·
           simp only [Act.put,zzq,zzr,zzs,i64_w,i32_w];rfl
          refine pure_ (i:=18) (N:=some 28) (v:=?_) (a':=?_) (zzB 24 491519) rfl rfl (zzA2 HT_.out) (fun _ _ _ h=>h) (Or.inl ⟨by rfl,?_⟩) ?_ ?_;rotate_left
          ·
           intro w';go_simp;with_reducible rfl
          rotate_left
          ·
           simp only [Act.put,zzq,zzr,zzs,i64_w,i32_w];rfl
          refine pure_ (i:=19) (N:=some 29) (v:=?_) (a':=?_) (zzB 24 1015807) rfl rfl (zzA2 HT_.out) (fun _ _ _ h=>h) (Or.inl ⟨by rfl,?_⟩) ?_ ?_;rotate_left
          ·
           intro w';go_simp;with_reducible rfl
          rotate_left
          ·
           simp only [Act.put,zzq,zzr,zzs,i64_w,i32_w];rfl
          refine take_ (i:=15) (N:=some 25) (v:=?_) (a':=?_) (zzB 24 1048575) rfl rfl (take_ofW HT_.out HW_.out (by kernel_rfl)) (fun _ _ _ h=>h) (Or.inl ⟨by rfl,?_⟩) hHeld ?_ ?_;rotate_left
          ·
           rintro w' ⟨s0,s1,s2,s3,s4,s5,s6,s7,s8,s9,s10,s11,s12,s13,s14,s15,s16,s17⟩;go_simp;with_reducible rfl
          rotate_left
          ·
           simp only [Act.put,zzq,zzr,zzs,i64_w,i32_w];rfl
          refine take_ (i:=20) (N:=some 30) (v:=?_) (a':=?_) (zzB 24 2097151) rfl rfl (take_ofW HT_.out HW_.out (by kernel_rfl)) (fun _ _ _ h=>h) (Or.inl ⟨by rfl,?_⟩) hHeld ?_ ?_;rotate_left
          ·
           rintro w' ⟨s0,s1,s2,s3,s4,s5,s6,s7,s8,s9,s10,s11,s12,s13,s14,s15,s16,s17⟩;go_simp;with_reducible rfl
          rotate_left
          ·
           simp only [Act.put,zzq,zzr,zzs,i64_w,i32_w];rfl
          refine pure_ (i:=21) (N:=some 31) (v:=?_) (a':=?_) (zzB 24 4194303) rfl rfl (zzA2 HT_.out) (fun _ _ _ h=>h) (Or.inl ⟨by rfl,?_⟩) ?_ ?_;rotate_left
          ·
           intro w';go_simp;with_reducible rfl
          rotate_left
          ·
           simp only [Act.put,zzq,zzr,zzs,i64_w,i32_w];rfl
          refine pure_ (i:=22) (N:=some 32) (v:=?_) (a':=?_) (zzB 24 8388607) rfl rfl (zzA2 HT_.out) (fun _ _ _ h=>h) (Or.inl ⟨by rfl,?_⟩) ?_ ?_;rotate_left
          ·
           intro w';go_simp;with_reducible rfl
          rotate_left
          ·
           simp only [Act.put,zzq,zzr,zzs,i64_w,i32_w];rfl
          refine pure_ (i:=23) (N:=some 33) (v:=?_) (a':=?_) (zzB 24 16777215) rfl rfl (zzA2 HT_.out) (fun _ _ _ h=>h) (Or.inl ⟨by rfl,?_⟩) ?_ ?_;rotate_left
          ·
           intro w';go_simp;with_reducible rfl
          rotate_left
          ·
           simp only [Act.put,zzq,zzr,zzs,i64_w,i32_w];rfl
          refine done_ (done_of HT_.out (by kernel_rfl)) ?_;try go_wp2
          go_roundg k1
          case measure=>have:=HK1.out;omega
          case rel=>exact ⟨(wrap64 (x3_1+1)),(by first|rfl|(simp;done)|(simp [*];done)),H',⟨by have:=HK1.out;omega⟩,⟨zzh1⟩⟩
        ·
         rw [if_neg c9] at H;exact absurd H (by simp)
       ·
        rw [if_neg c8] at H;exact absurd H (by simp)
      ·
       rw [if_neg c6] at H;have c6b0:decide (0 < x3_1)=false:=decide_eq_false c6;clear c6;have H':=zzm H;clear H;try go_wp2
       have n0_:=zzm (zzc HB.out);clear HB;have HB:=n0_;clear n0_;have p113 : 0≤(x3_1:Int):=zzt;have q113:x3_1 < (l0.length:Int):=zzt;obtain ⟨ad113,A113_3,c113_3,A113_5,c113_5,e113,hx113_0,hx113_1,hx113_2,hx113_3,hx113_4,hx113_5,hl113_3,hi113_3,hl113_5,hi113_5⟩:=at_T34 HR0.out x3_1 p113 q113;have hw113_5:=hx113_5;have hw113_4:=hx113_4;have hw113_3:=hx113_3;have hw113_2:=hx113_2;have hw113_1:=hx113_1;have hw113_0:=hx113_0;cases e113;replace hx113_0:=zzx HB.out hx113_0;replace hx113_1:=zzx HB.out hx113_1;replace hx113_2:=zzx HB.out hx113_2;replace hx113_3:=zzx HB.out hx113_3;replace hx113_4:=zzx HB.out hx113_4;replace hx113_5:=zzx HB.out hx113_5;have HR113_3:=zzm hi113_3;have HC113_3:=zzm hl113_3;clear hi113_3 hl113_3;have HR113_5:=zzm hi113_5;have HC113_5:=zzm hl113_5;clear hi113_5 hl113_5;replace p113:=eq_true p113;replace q113:=eq_true q113;refine start_ (n:=24) (S:=fun w'=>w'.cell? (ad113.add ((x3_1).toNat * 6))=some (.int .i64 ((rd_T34 l0 x3_1).f0))∧w'.cell? ⟨(ad113.add ((x3_1).toNat * 6)).block,(ad113.add ((x3_1).toNat * 6)).off+1,none⟩=some (.int .i64 ((rd_T34 l0 x3_1).f1))∧w'.cell? ⟨(ad113.add ((x3_1).toNat * 6)).block,(ad113.add ((x3_1).toNat * 6)).off+2,none⟩=some (.bool ((rd_T34 l0 x3_1).f2))∧w'.cell? ⟨(ad113.add ((x3_1).toNat * 6)).block,(ad113.add ((x3_1).toNat * 6)).off+3,none⟩=some (.slice A113_3 ((rd_T34 l0 x3_1).f3).length c113_3)∧w'.cell? ⟨(ad113.add ((x3_1).toNat * 6)).block,(ad113.add ((x3_1).toNat * 6)).off+4,none⟩=some (.bool ((rd_T34 l0 x3_1).f4))∧w'.cell? ⟨(ad113.add ((x3_1).toNat * 6)).block,(ad113.add ((x3_1).toNat * 6)).off+5,none⟩=some (.slice A113_5 ((rd_T34 l0 x3_1).f5).length c113_5)) (ds:=[]) (zzB 24 0) (by kernel_rfl) rfl rfl ⟨(zzx HB.out hw113_0),(zzx HB.out hw113_1),(zzx HB.out hw113_2),(zzx HB.out hw113_3),(zzx HB.out hw113_4),(zzx HB.out hw113_5)⟩ (fun hHeld=>?_);refine with_tabW spec_l5Records.tab4 spec_l5Records.bits4 (fun HT_ HW_=>?_);generalize wr.drew=w15 at HB HR113_3 HR113_5 hx113_0 hx113_1 hx113_2 hx113_3 hx113_4 hx113_5 hHeld ⊢;refine pure_ (i:=0) (N:=some 10) (v:=?_) (a':=?_) (zzB 24 1) rfl rfl (zzA2 HT_.out) (fun _ _ _ h=>h) (Or.inl ⟨by rfl,?_⟩) ?_ ?_;rotate_left
       ·
        intro w';go_simp;with_reducible rfl
       rotate_left
       ·
        simp only [Act.put,zzq,zzr,zzs,i64_w,i32_w];rfl
       refine pure_ (i:=1) (N:=some 11) (v:=?_) (a':=?_) (zzB 24 3) rfl rfl (zzA2 HT_.out) (fun _ _ _ h=>h) (Or.inl ⟨by rfl,?_⟩) ?_ ?_;rotate_left
       ·
        intro w';go_simp;with_reducible rfl
       rotate_left
       ·
        simp only [Act.put,zzq,zzr,zzs,i64_w,i32_w];rfl
       refine pure_ (i:=2) (N:=some 12) (v:=?_) (a':=?_) (zzB 24 7) rfl rfl (zzA2 HT_.out) (fun _ _ _ h=>h) (Or.inl ⟨by rfl,?_⟩) ?_ ?_;rotate_left
       ·
        intro w';go_simp;with_reducible rfl
       rotate_left
       ·
        simp only [Act.put,zzq,zzr,zzs,i64_w,i32_w];rfl
       refine take_ (i:=3) (N:=some 13) (v:=?_) (a':=?_) (zzB 24 15) rfl rfl (take_ofW HT_.out HW_.out (by kernel_rfl)) (fun _ _ _ h=>h) (Or.inl ⟨by rfl,?_⟩) hHeld ?_ ?_;rotate_left
       ·
        rintro w' ⟨s0,s1,s2,s3,s4,s5⟩;go_simp;with_reducible rfl
       rotate_left
       ·
        simp only [Act.put,zzq,zzr,zzs,i64_w,i32_w];rfl
       refine one_ (i:=4) (N:=some 14) (zzB 24 31) rfl rfl (one_of HT_.out (by kernel_rfl)) (by decide) (fun K hK=>?_);refine goes_ Try.func99 (by kernel_rfl) rfl #[.agg #[.int .i64 ((rd_T34 l0 x3_1).f0),.int .i64 ((rd_T34 l0 x3_1).f1),.bool ((rd_T34 l0 x3_1).f2),.slice A113_3 ((rd_T34 l0 x3_1).f3).length c113_3,.bool ((rd_T34 l0 x3_1).f4),.slice A113_5 ((rd_T34 l0 x3_1).f5).length c113_5]] (by rfl) rfl rfl zzM2 ?_;with_reducible refine (spec_RecordValid.calls k1 ((rd_T34 l0 x3_1).f0) ((rd_T34 l0 x3_1).f1) ((rd_T34 l0 x3_1).f2) _ _ ((rd_T34 l0 x3_1).f3) ((rd_T34 l0 x3_1).f4) _ _ ((rd_T34 l0 x3_1).f5) true _ ?side1 ?side2 ?side3 ?side4 A4.out).mono ?_;(case side1=>repeat (first|exact (Kd.C_below HR113_3.out HB.out)|(with_reducible refine Kd.C_alloc ?_ _)|(with_reducible refine Kd.C_drewN ?_ _)|(with_reducible refine Kd.C_drew ?_)));(case side2=>exact HC113_3.out);(case side3=>repeat (first|exact (Kd.C_below HR113_5.out HB.out)|(with_reducible refine Kd.C_alloc ?_ _)|(with_reducible refine Kd.C_drewN ?_ _)|(with_reducible refine Kd.C_drew ?_)));(case side4=>exact HC113_5.out);rintro e w16 ⟨rfl,hb⟩;refine ⟨_,rfl,?_⟩;have n0_:=zzm (zzp zzh1 hb);clear HB;have HB:=n0_;clear n0_;(try clear hb);(try clear hb2);(try clear hk);(try clear hi);refine hK.out _ _ ⟨(zzx HB.out hw113_0),(zzx HB.out hw113_1),(zzx HB.out hw113_2),(zzx HB.out hw113_3),(zzx HB.out hw113_4),(zzx HB.out hw113_5)⟩ (fun hHeld=>?_);clear hK K;refine norm_ (a':=?_) ?_ ?_;rotate_left
       ·
        show Act.put _ (some 14) _ = _;simp only [Act.put,zzq,zzr,zzs,i64_w,i32_w];rfl
       refine pure_ (i:=5) (N:=some 15) (v:=?_) (a':=?_) (zzB 24 63) rfl rfl (zzA2 HT_.out) (fun _ _ _ h=>h) (Or.inl ⟨by rfl,?_⟩) ?_ ?_;rotate_left
       ·
        intro w';go_simp;with_reducible rfl
       rotate_left
       ·
        simp only [Act.put,zzq,zzr,zzs,i64_w,i32_w];rfl
       refine pure_ (i:=6) (N:=some 16) (v:=?_) (a':=?_) (zzB 24 127) rfl rfl (zzA2 HT_.out) (fun _ _ _ h=>h) (Or.inl ⟨by rfl,?_⟩) ?_ ?_;rotate_left
       ·
        intro w';go_simp;with_reducible rfl
       rotate_left
       ·
        simp only [Act.put,zzq,zzr,zzs,i64_w,i32_w];rfl
       refine pure_ (i:=7) (N:=some 17) (v:=?_) (a':=?_) (zzB 24 255) rfl rfl (zzA2 HT_.out) (fun _ _ _ h=>h) (Or.inl ⟨by rfl,?_⟩) ?_ ?_;rotate_left
       ·
        intro w';go_simp;with_reducible rfl
       rotate_left
       ·
        simp only [Act.put,zzq,zzr,zzs,i64_w,i32_w];rfl
       refine pure_ (i:=8) (N:=some 18) (v:=?_) (a':=?_) (zzB 24 511) rfl rfl (zzA2 HT_.out) (fun _ _ _ h=>h) (Or.inl ⟨by rfl,?_⟩) ?_ ?_;rotate_left
       ·
        intro w';go_simp;with_reducible rfl
       rotate_left
       ·
        simp only [Act.put,zzq,zzr,zzs,i64_w,i32_w];rfl
       refine pure_ (i:=9) (N:=some 19) (v:=?_) (a':=?_) (zzB 24 1023) rfl rfl (zzA2 HT_.out) (fun _ _ _ h=>h) (Or.inl ⟨by rfl,?_⟩) ?_ ?_;rotate_left
       ·
        intro w';go_simp;with_reducible rfl
       rotate_left
       ·
        simp only [Act.put,zzq,zzr,zzs,i64_w,i32_w];rfl
       refine pure_ (i:=10) (N:=some 20) (v:=undef) (a':=?_) (zzB 24 2047) rfl rfl (zzA2 HT_.out) (fun _ _ _ h=>h) (Or.inr ⟨by rfl,rfl⟩) ?_ ?_;rotate_left
       ·
        simp only [Act.put,zzq,zzr,zzs,i64_w,i32_w];rfl
       refine pure_ (i:=11) (N:=some 21) (v:=undef) (a':=?_) (zzB 24 4095) rfl rfl (zzA2 HT_.out) (fun _ _ _ h=>h) (Or.inr ⟨by rfl,rfl⟩) ?_ ?_;rotate_left
       ·
        simp only [Act.put,zzq,zzr,zzs,i64_w,i32_w];rfl
       refine pure_ (i:=12) (N:=some 22) (v:=undef) (a':=?_) (zzB 24 8191) rfl rfl (zzA2 HT_.out) (fun _ _ _ h=>h) (Or.inr ⟨by rfl,rfl⟩) ?_ ?_;rotate_left
       ·
        simp only [Act.put,zzq,zzr,zzs,i64_w,i32_w];rfl
       refine pure_ (i:=13) (N:=some 23) (v:=undef) (a':=?_) (zzB 24 16383) rfl rfl (zzA2 HT_.out) (fun _ _ _ h=>h) (Or.inr ⟨by rfl,rfl⟩) ?_ ?_;rotate_left
       ·
        simp only [Act.put,zzq,zzr,zzs,i64_w,i32_w];rfl
       refine pure_ (i:=14) (N:=some 24) (v:=undef) (a':=?_) (zzB 24 32767) rfl rfl (zzA2 HT_.out) (fun _ _ _ h=>h) (Or.inr ⟨by rfl,rfl⟩) ?_ ?_;rotate_left
       ·
        simp only [Act.put,zzq,zzr,zzs,i64_w,i32_w];rfl
       refine pure_ (i:=15) (N:=some 25) (v:=undef) (a':=?_) (zzB 24 65535) rfl rfl (zzA2 HT_.out) (fun _ _ _ h=>h) (Or.inr ⟨by rfl,rfl⟩) ?_ ?_;rotate_left
       ·
        simp only [Act.put,zzq,zzr,zzs,i64_w,i32_w];rfl
       refine pure_ (i:=16) (N:=some 26) (v:=undef) (a':=?_) (zzB 24 131071) rfl rfl (zzA2 HT_.out) (fun _ _ _ h=>h) (Or.inr ⟨by rfl,rfl⟩) ?_ ?_;rotate_left
       ·
        simp only [Act.put,zzq,zzr,zzs,i64_w,i32_w];rfl
       refine pure_ (i:=17) (N:=some 27) (v:=undef) (a':=?_) (zzB 24 262143) rfl rfl (zzA2 HT_.out) (fun _ _ _ h=>h) (Or.inr ⟨by rfl,rfl⟩) ?_ ?_;rotate_left
       ·
        simp only [Act.put,zzq,zzr,zzs,i64_w,i32_w];rfl
       refine pure_ (i:=18) (N:=some 28) (v:=undef) (a':=?_) (zzB 24 524287) rfl rfl (zzA2 HT_.out) (fun _ _ _ h=>h) (Or.inr ⟨by rfl,rfl⟩) ?_ ?_;rotate_left
       ·
        simp only [Act.put,zzq,zzr,zzs,i64_w,i32_w];rfl
       refine pure_ (i:=19) (N:=some 29) (v:=undef) (a':=?_) (zzB 24 1048575) rfl rfl (zzA2 HT_.out) (fun _ _ _ h=>h) (Or.inr ⟨by rfl,rfl⟩) ?_ ?_;rotate_left
       ·
        simp only [Act.put,zzq,zzr,zzs,i64_w,i32_w];rfl
       refine pure_ (i:=20) (N:=some 30) (v:=undef) (a':=?_) (zzB 24 2097151) rfl rfl (zzA2 HT_.out) (fun _ _ _ h=>h) (Or.inr ⟨by rfl,rfl⟩) ?_ ?_;rotate_left
       ·
        simp only [Act.put,zzq,zzr,zzs,i64_w,i32_w];rfl
       refine pure_ (i:=21) (N:=some 31) (v:=undef) (a':=?_) (zzB 24 4194303) rfl rfl (zzA2 HT_.out) (fun _ _ _ h=>h) (Or.inr ⟨by rfl,rfl⟩) ?_ ?_;rotate_left
       ·
        simp only [Act.put,zzq,zzr,zzs,i64_w,i32_w];rfl
       refine pure_ (i:=22) (N:=some 32) (v:=?_) (a':=?_) (zzB 24 8388607) rfl rfl (zzA2 HT_.out) (fun _ _ _ h=>h) (Or.inl ⟨by rfl,?_⟩) ?_ ?_;rotate_left
       ·
        intro w';go_simp;with_reducible rfl
       rotate_left
       ·
        simp only [Act.put,zzq,zzr,zzs,i64_w,i32_w];rfl
       refine pure_ (i:=23) (N:=some 33) (v:=?_) (a':=?_) (zzB 24 16777215) rfl rfl (zzA2 HT_.out) (fun _ _ _ h=>h) (Or.inl ⟨by rfl,?_⟩) ?_ ?_;rotate_left
       ·
        intro w';go_simp;with_reducible rfl
       rotate_left
       ·
        simp only [Act.put,zzq,zzr,zzs,i64_w,i32_w];rfl
       refine done_ (done_of HT_.out (by kernel_rfl)) ?_;try go_wp2
       go_roundg k1
       case measure=>have:=HK1.out;omega
       case rel=>exact ⟨(wrap64 (x3_1+1)),(by first|rfl|(simp;done)|(simp [*];done)),H',⟨by have:=HK1.out;omega⟩,⟨zzh1⟩⟩
     ·
      replace c5:=Bool.eq_false_iff.mpr c5;subst c5;have H1:(some false)=some r:=by rw [if_neg (show ¬ (false=true) by decide)] at H;exact H
      clear H;have H:=H1;clear H1;obtain rfl:=Option.some.inj H;try go_wp2
      have n0_:=zzm (zzc HB.out);clear HB;have HB:=n0_;clear n0_;have p113 : 0≤(x3_1:Int):=zzt;have q113:x3_1 < (l0.length:Int):=zzt;obtain ⟨ad113,A113_3,c113_3,A113_5,c113_5,e113,hx113_0,hx113_1,hx113_2,hx113_3,hx113_4,hx113_5,hl113_3,hi113_3,hl113_5,hi113_5⟩:=at_T34 HR0.out x3_1 p113 q113;have hw113_5:=hx113_5;have hw113_4:=hx113_4;have hw113_3:=hx113_3;have hw113_2:=hx113_2;have hw113_1:=hx113_1;have hw113_0:=hx113_0;cases e113;replace hx113_0:=zzx HB.out hx113_0;replace hx113_1:=zzx HB.out hx113_1;replace hx113_2:=zzx HB.out hx113_2;replace hx113_3:=zzx HB.out hx113_3;replace hx113_4:=zzx HB.out hx113_4;replace hx113_5:=zzx HB.out hx113_5;have HR113_3:=zzm hi113_3;have HC113_3:=zzm hl113_3;clear hi113_3 hl113_3;have HR113_5:=zzm hi113_5;have HC113_5:=zzm hl113_5;clear hi113_5 hl113_5;replace p113:=eq_true p113;replace q113:=eq_true q113;refine start_ (n:=24) (S:=fun w'=>w'.cell? (ad113.add ((x3_1).toNat * 6))=some (.int .i64 ((rd_T34 l0 x3_1).f0))∧w'.cell? ⟨(ad113.add ((x3_1).toNat * 6)).block,(ad113.add ((x3_1).toNat * 6)).off+1,none⟩=some (.int .i64 ((rd_T34 l0 x3_1).f1))∧w'.cell? ⟨(ad113.add ((x3_1).toNat * 6)).block,(ad113.add ((x3_1).toNat * 6)).off+2,none⟩=some (.bool ((rd_T34 l0 x3_1).f2))∧w'.cell? ⟨(ad113.add ((x3_1).toNat * 6)).block,(ad113.add ((x3_1).toNat * 6)).off+3,none⟩=some (.slice A113_3 ((rd_T34 l0 x3_1).f3).length c113_3)∧w'.cell? ⟨(ad113.add ((x3_1).toNat * 6)).block,(ad113.add ((x3_1).toNat * 6)).off+4,none⟩=some (.bool ((rd_T34 l0 x3_1).f4))∧w'.cell? ⟨(ad113.add ((x3_1).toNat * 6)).block,(ad113.add ((x3_1).toNat * 6)).off+5,none⟩=some (.slice A113_5 ((rd_T34 l0 x3_1).f5).length c113_5)) (ds:=[]) (zzB 24 0) (by kernel_rfl) rfl rfl ⟨(zzx HB.out hw113_0),(zzx HB.out hw113_1),(zzx HB.out hw113_2),(zzx HB.out hw113_3),(zzx HB.out hw113_4),(zzx HB.out hw113_5)⟩ (fun hHeld=>?_);refine with_tabW spec_l5Records.tab4 spec_l5Records.bits4 (fun HT_ HW_=>?_);generalize wr.drew=w17 at HB HR113_3 HR113_5 hx113_0 hx113_1 hx113_2 hx113_3 hx113_4 hx113_5 hHeld ⊢;refine pure_ (i:=0) (N:=some 10) (v:=?_) (a':=?_) (zzB 24 1) rfl rfl (zzA2 HT_.out) (fun _ _ _ h=>h) (Or.inl ⟨by rfl,?_⟩) ?_ ?_;rotate_left
      ·
       intro w';go_simp;with_reducible rfl
      rotate_left
      ·
       simp only [Act.put,zzq,zzr,zzs,i64_w,i32_w];rfl
      refine pure_ (i:=1) (N:=some 11) (v:=?_) (a':=?_) (zzB 24 3) rfl rfl (zzA2 HT_.out) (fun _ _ _ h=>h) (Or.inl ⟨by rfl,?_⟩) ?_ ?_;rotate_left
      ·
       intro w';go_simp;with_reducible rfl
      rotate_left
      ·
       simp only [Act.put,zzq,zzr,zzs,i64_w,i32_w];rfl
      refine pure_ (i:=2) (N:=some 12) (v:=?_) (a':=?_) (zzB 24 7) rfl rfl (zzA2 HT_.out) (fun _ _ _ h=>h) (Or.inl ⟨by rfl,?_⟩) ?_ ?_;rotate_left
      ·
       intro w';go_simp;with_reducible rfl
      rotate_left
      ·
       simp only [Act.put,zzq,zzr,zzs,i64_w,i32_w];rfl
      refine take_ (i:=3) (N:=some 13) (v:=?_) (a':=?_) (zzB 24 15) rfl rfl (take_ofW HT_.out HW_.out (by kernel_rfl)) (fun _ _ _ h=>h) (Or.inl ⟨by rfl,?_⟩) hHeld ?_ ?_;rotate_left
      ·
       rintro w' ⟨s0,s1,s2,s3,s4,s5⟩;go_simp;with_reducible rfl
      rotate_left
      ·
       simp only [Act.put,zzq,zzr,zzs,i64_w,i32_w];rfl
      refine one_ (i:=4) (N:=some 14) (zzB 24 31) rfl rfl (one_of HT_.out (by kernel_rfl)) (by decide) (fun K hK=>?_);refine goes_ Try.func99 (by kernel_rfl) rfl #[.agg #[.int .i64 ((rd_T34 l0 x3_1).f0),.int .i64 ((rd_T34 l0 x3_1).f1),.bool ((rd_T34 l0 x3_1).f2),.slice A113_3 ((rd_T34 l0 x3_1).f3).length c113_3,.bool ((rd_T34 l0 x3_1).f4),.slice A113_5 ((rd_T34 l0 x3_1).f5).length c113_5]] (by rfl) rfl rfl zzM2 ?_;with_reducible refine (spec_RecordValid.calls k1 ((rd_T34 l0 x3_1).f0) ((rd_T34 l0 x3_1).f1) ((rd_T34 l0 x3_1).f2) _ _ ((rd_T34 l0 x3_1).f3) ((rd_T34 l0 x3_1).f4) _ _ ((rd_T34 l0 x3_1).f5) false _ ?side1 ?side2 ?side3 ?side4 A4.out).mono ?_;(case side1=>repeat (first|exact (Kd.C_below HR113_3.out HB.out)|(with_reducible refine Kd.C_alloc ?_ _)|(with_reducible refine Kd.C_drewN ?_ _)|(with_reducible refine Kd.C_drew ?_)));(case side2=>exact HC113_3.out);(case side3=>repeat (first|exact (Kd.C_below HR113_5.out HB.out)|(with_reducible refine Kd.C_alloc ?_ _)|(with_reducible refine Kd.C_drewN ?_ _)|(with_reducible refine Kd.C_drew ?_)));(case side4=>exact HC113_5.out);rintro e w18 ⟨rfl,hb⟩;refine ⟨_,rfl,?_⟩;have n0_:=zzm (zzp zzh1 hb);clear HB;have HB:=n0_;clear n0_;(try clear hb);(try clear hb2);(try clear hk);(try clear hi);refine hK.out _ _ ⟨(zzx HB.out hw113_0),(zzx HB.out hw113_1),(zzx HB.out hw113_2),(zzx HB.out hw113_3),(zzx HB.out hw113_4),(zzx HB.out hw113_5)⟩ (fun hHeld=>?_);clear hK K;refine norm_ (a':=?_) ?_ ?_;rotate_left
      ·
       show Act.put _ (some 14) _ = _;simp only [Act.put,zzq,zzr,zzs,i64_w,i32_w];rfl
      refine pure_ (i:=5) (N:=some 15) (v:=?_) (a':=?_) (zzB 24 63) rfl rfl (zzA2 HT_.out) (fun _ _ _ h=>h) (Or.inl ⟨by rfl,?_⟩) ?_ ?_;rotate_left
      ·
       intro w';go_simp;with_reducible rfl
      rotate_left
      ·
       simp only [Act.put,zzq,zzr,zzs,i64_w,i32_w];rfl
      refine pure_ (i:=6) (N:=some 16) (v:=?_) (a':=?_) (zzB 24 127) rfl rfl (zzA2 HT_.out) (fun _ _ _ h=>h) (Or.inl ⟨by rfl,?_⟩) ?_ ?_;rotate_left
      ·
       intro w';go_simp;with_reducible rfl
      rotate_left
      ·
       simp only [Act.put,zzq,zzr,zzs,i64_w,i32_w];rfl
      refine pure_ (i:=7) (N:=some 17) (v:=undef) (a':=?_) (zzB 24 255) rfl rfl (zzA2 HT_.out) (fun _ _ _ h=>h) (Or.inr ⟨by rfl,rfl⟩) ?_ ?_;rotate_left
      ·
       simp only [Act.put,zzq,zzr,zzs,i64_w,i32_w];rfl
      refine pure_ (i:=8) (N:=some 18) (v:=undef) (a':=?_) (zzB 24 511) rfl rfl (zzA2 HT_.out) (fun _ _ _ h=>h) (Or.inr ⟨by rfl,rfl⟩) ?_ ?_;rotate_left
      ·
       simp only [Act.put,zzq,zzr,zzs,i64_w,i32_w];rfl
      refine pure_ (i:=9) (N:=some 19) (v:=undef) (a':=?_) (zzB 24 1023) rfl rfl (zzA2 HT_.out) (fun _ _ _ h=>h) (Or.inr ⟨by rfl,rfl⟩) ?_ ?_;rotate_left
      ·
       simp only [Act.put,zzq,zzr,zzs,i64_w,i32_w];rfl
      refine pure_ (i:=10) (N:=some 20) (v:=undef) (a':=?_) (zzB 24 2047) rfl rfl (zzA2 HT_.out) (fun _ _ _ h=>h) (Or.inr ⟨by rfl,rfl⟩) ?_ ?_;rotate_left
      ·
       simp only [Act.put,zzq,zzr,zzs,i64_w,i32_w];rfl
      refine pure_ (i:=11) (N:=some 21) (v:=undef) (a':=?_) (zzB 24 4095) rfl rfl (zzA2 HT_.out) (fun _ _ _ h=>h) (Or.inr ⟨by rfl,rfl⟩) ?_ ?_;rotate_left
      ·
       simp only [Act.put,zzq,zzr,zzs,i64_w,i32_w];rfl
      refine pure_ (i:=12) (N:=some 22) (v:=undef) (a':=?_) (zzB 24 8191) rfl rfl (zzA2 HT_.out) (fun _ _ _ h=>h) (Or.inr ⟨by rfl,rfl⟩) ?_ ?_;rotate_left
      ·
       simp only [Act.put,zzq,zzr,zzs,i64_w,i32_w];rfl
      refine pure_ (i:=13) (N:=some 23) (v:=undef) (a':=?_) (zzB 24 16383) rfl rfl (zzA2 HT_.out) (fun _ _ _ h=>h) (Or.inr ⟨by rfl,rfl⟩) ?_ ?_;rotate_left
      ·
       simp only [Act.put,zzq,zzr,zzs,i64_w,i32_w];rfl
      refine pure_ (i:=14) (N:=some 24) (v:=undef) (a':=?_) (zzB 24 32767) rfl rfl (zzA2 HT_.out) (fun _ _ _ h=>h) (Or.inr ⟨by rfl,rfl⟩) ?_ ?_;rotate_left
      ·
       simp only [Act.put,zzq,zzr,zzs,i64_w,i32_w];rfl
      refine pure_ (i:=15) (N:=some 25) (v:=undef) (a':=?_) (zzB 24 65535) rfl rfl (zzA2 HT_.out) (fun _ _ _ h=>h) (Or.inr ⟨by rfl,rfl⟩) ?_ ?_;rotate_left
      ·
       simp only [Act.put,zzq,zzr,zzs,i64_w,i32_w];rfl
      refine pure_ (i:=16) (N:=some 26) (v:=undef) (a':=?_) (zzB 24 131071) rfl rfl (zzA2 HT_.out) (fun _ _ _ h=>h) (Or.inr ⟨by rfl,rfl⟩) ?_ ?_;rotate_left
      ·
       simp only [Act.put,zzq,zzr,zzs,i64_w,i32_w];rfl
      refine pure_ (i:=17) (N:=some 27) (v:=undef) (a':=?_) (zzB 24 262143) rfl rfl (zzA2 HT_.out) (fun _ _ _ h=>h) (Or.inr ⟨by rfl,rfl⟩) ?_ ?_;rotate_left
      ·
       simp only [Act.put,zzq,zzr,zzs,i64_w,i32_w];rfl
      refine pure_ (i:=18) (N:=some 28) (v:=undef) (a':=?_) (zzB 24 524287) rfl rfl (zzA2 HT_.out) (fun _ _ _ h=>h) (Or.inr ⟨by rfl,rfl⟩) ?_ ?_;rotate_left
      ·
       simp only [Act.put,zzq,zzr,zzs,i64_w,i32_w];rfl
      refine pure_ (i:=19) (N:=some 29) (v:=undef) (a':=?_) (zzB 24 1048575) rfl rfl (zzA2 HT_.out) (fun _ _ _ h=>h) (Or.inr ⟨by rfl,rfl⟩) ?_ ?_;rotate_left
      ·
       simp only [Act.put,zzq,zzr,zzs,i64_w,i32_w];rfl
      refine pure_ (i:=20) (N:=some 30) (v:=undef) (a':=?_) (zzB 24 2097151) rfl rfl (zzA2 HT_.out) (fun _ _ _ h=>h) (Or.inr ⟨by rfl,rfl⟩) ?_ ?_;rotate_left
      ·
       simp only [Act.put,zzq,zzr,zzs,i64_w,i32_w];rfl
      refine pure_ (i:=21) (N:=some 31) (v:=undef) (a':=?_) (zzB 24 4194303) rfl rfl (zzA2 HT_.out) (fun _ _ _ h=>h) (Or.inr ⟨by rfl,rfl⟩) ?_ ?_;rotate_left
      ·
       simp only [Act.put,zzq,zzr,zzs,i64_w,i32_w];rfl
      refine pure_ (i:=22) (N:=some 32) (v:=undef) (a':=?_) (zzB 24 8388607) rfl rfl (zzA2 HT_.out) (fun _ _ _ h=>h) (Or.inr ⟨by rfl,rfl⟩) ?_ ?_;rotate_left
      ·
       simp only [Act.put,zzq,zzr,zzs,i64_w,i32_w];rfl
      refine pure_ (i:=23) (N:=some 33) (v:=?_) (a':=?_) (zzB 24 16777215) rfl rfl (zzA2 HT_.out) (fun _ _ _ h=>h) (Or.inl ⟨by rfl,?_⟩) ?_ ?_;rotate_left
      ·
       intro w';go_simp;with_reducible rfl
      rotate_left
      ·
       simp only [Act.put,zzq,zzr,zzs,i64_w,i32_w];rfl
      refine done_ (done_of HT_.out (by kernel_rfl)) ?_;try go_wp2
      go_ret;exact ⟨by first|rfl|(simp [errW_none,errW_some] <;> rfl)|(simp [*,errW_none,errW_some] <;> rfl),zzh1⟩
    ·
     rw [if_neg c3] at H;exact absurd H (by simp)
   ·
    rw [if_neg c2] at H;have c2b0:decide (x3_1 < (l0.length:Int))=false:=decide_eq_false c2;clear c2;replace H:=Option.bind_eq_some_iff.mp H;obtain ⟨t117,A190,H⟩:=H;replace H:(some t117)=some r:=H;have A19:=zzm A190;clear A190;obtain rfl:=Option.some.inj H;go_wp2_with (first|((with_reducible refine gate_callee (f:=84) rfl ?_);refine goesL_ (some 36) rfl rfl Try.func84 (by kernel_rfl) rfl #[.int .i64 (l0.length:Int),.int .i64 1,.int .i64 6] rfl zzM2 ?_;(with_reducible refine (spec_l6In.calls (l0.length:Int) 1 6 t117 _ A19.out).mono ?_);rintro e w' ⟨rfl,⟨nd,rfl⟩⟩;refine ⟨_,rfl,?_⟩));go_ret;exact ⟨by first|rfl|(simp [errW_none,errW_some] <;> rfl)|(simp [*,errW_none,errW_some] <;> rfl),zzh1⟩
def spec_BatchValid.j0:Nat→Bool→Bool→Bool→Int→Int→Int→List (S34)→Option (Bool)
 | 0,_,_,_,_,_,_,_=>none
 | k+1,x24,x119000,x119001,x119002,x119003,x119004,x119005=>if x24=true then (some false) else (if x119002=255 then (if x119003=0 then (if x119004=0 then (some (!x119001)) else (some false)) else (some false)) else (if x119001=true then (some ((x119005.length:Int)==1)) else (some true)))
def spec_BatchValid.f (k:Nat) (a0_0:Bool) (a0_1:Bool) (a0_2:Int) (a0_3:Int) (a0_4:Int) (l0_5:List (S34)):Option (Bool):=(spec_l5Records.f k l0_5).bind fun t119=>(if t119=true then ((spec_l6In.f a0_2 0 255).bind fun t120=>(if t120=true then ((spec_l6In.f a0_3 0 99).bind fun t121=>(if t121=true then ((spec_l6In.f a0_4 0 9999).bind fun t122=>(spec_BatchValid.j0 k (!t122) a0_0 a0_1 a0_2 a0_3 a0_4 l0_5)) else (spec_BatchValid.j0 k true a0_0 a0_1 a0_2 a0_3 a0_4 l0_5))) else (spec_BatchValid.j0 k true a0_0 a0_1 a0_2 a0_3 a0_4 l0_5))) else (spec_BatchValid.j0 k true a0_0 a0_1 a0_2 a0_3 a0_4 l0_5))
set_option maxHeartbeats 8000000 in
set_option maxRecDepth 100000 in
theorem spec_BatchValid.calls (k:Nat) (a0_0:Bool) (a0_1:Bool) (a0_2:Int) (a0_3:Int) (a0_4:Int) (A0_5:Option Addr) (c0_5:Nat) (l0_5:List (S34)) (r:Bool) (w:World) (hr0_5:Kd.C k34 w A0_5 l0_5.length l0_5) (hc0_5:l0_5.length≤c0_5) (h:spec_BatchValid.f k a0_0 a0_1 a0_2 a0_3 a0_4 l0_5=some r) :
  Calls Try.prog 55 #[.agg #[.bool a0_0,.bool a0_1,.int .i64 a0_2,.int .i64 a0_3,.int .i64 a0_4,.slice A0_5 l0_5.length c0_5]] w fun e w'=>e = .returned (.bool r)∧Below w.heap.size w w':=by
 have hu27:=Try.underlying27;have HR0_5:=zzm hr0_5;have HC0_5:=zzm hc0_5;clear hr0_5 hc0_5;have HB:=zzm (Below.refl w.heap.size w);have H:((spec_l5Records.f k l0_5).bind fun t119=>(if t119=true then ((spec_l6In.f a0_2 0 255).bind fun t120=>(if t120=true then ((spec_l6In.f a0_3 0 99).bind fun t121=>(if t121=true then ((spec_l6In.f a0_4 0 9999).bind fun t122=>(spec_BatchValid.j0 k (!t122) a0_0 a0_1 a0_2 a0_3 a0_4 l0_5)) else (spec_BatchValid.j0 k true a0_0 a0_1 a0_2 a0_3 a0_4 l0_5))) else (spec_BatchValid.j0 k true a0_0 a0_1 a0_2 a0_3 a0_4 l0_5))) else (spec_BatchValid.j0 k true a0_0 a0_1 a0_2 a0_3 a0_4 l0_5)))=some r:=h;clear h;have HC2:=zzm H;clear H;go_enter Try.func55,Try.ntmps55;go_upto_region 1 with (first|((with_reducible refine gate_dst (N:=1) rfl ?_);(try (refine gate_guard (by rfl) ?_;dsimp only));refine box_event ?hg (N:=1) ?hd (cs:=#[.bool a0_0,.bool a0_1,.int .i64 a0_2,.int .i64 a0_3,.int .i64 a0_4,.slice A0_5 l0_5.length c0_5]) (t:=27) ?hr ?_;(case hd=>rfl);(case hg=>rfl);(case hr=>first|(go_simp;done)|(go_simp;rfl));intro gb118 hg w3 hbox hb;have n0_:=zzm (zzp zzh1 hb);have n1_:=zzm (hbox);have n2_:=zzm ((by rw [hg];exact (zzo zzh1):w.heap.size≤gb118));have n3_:=zzm ((by rw [hg];exact (zzo zzh1):w.heap.size≤gb118));clear HB;have HB:=n0_;have BK118:=n1_;have GW118:=n2_;have GE118:=n3_;clear n0_ n1_ n2_ n3_ hb hbox hg));(try simp only [Act.put,zzq,zzr,zzs]);go_cut [24] (fun v24 wc=>∃ (kq:Nat) (x24_1:Bool),v24 = .bool x24_1∧Aside0 (spec_BatchValid.j0 kq x24_1 a0_0 a0_1 a0_2 a0_3 a0_4 l0_5=some r)∧Aside0 (kq≤k)∧Aside0 (wc.heap[gb118]? = some (.cells #[.bool a0_0,.bool a0_1,.int .i64 a0_2,.int .i64 a0_3,.int .i64 a0_4,(.slice A0_5 l0_5.length c0_5)] 27 (0,0)))∧Aside0 (Below w.heap.size w wc))
 case first=>
  have H:=HC2.out;clear HC2;replace H:=Option.bind_eq_some_iff.mp H;obtain ⟨t119,A40,H⟩:=H;replace H:(if t119=true then ((spec_l6In.f a0_2 0 255).bind fun t120=>(if t120=true then ((spec_l6In.f a0_3 0 99).bind fun t121=>(if t121=true then ((spec_l6In.f a0_4 0 9999).bind fun t122=>(spec_BatchValid.j0 k (!t122) a0_0 a0_1 a0_2 a0_3 a0_4 l0_5)) else (spec_BatchValid.j0 k true a0_0 a0_1 a0_2 a0_3 a0_4 l0_5))) else (spec_BatchValid.j0 k true a0_0 a0_1 a0_2 a0_3 a0_4 l0_5))) else (spec_BatchValid.j0 k true a0_0 a0_1 a0_2 a0_3 a0_4 l0_5))=some r:=H;have A4:=zzm A40;clear A40;by_cases c5:t119=true
  ·
   subst c5;have H1:((spec_l6In.f a0_2 0 255).bind fun t120=>(if t120=true then ((spec_l6In.f a0_3 0 99).bind fun t121=>(if t121=true then ((spec_l6In.f a0_4 0 9999).bind fun t122=>(spec_BatchValid.j0 k (!t122) a0_0 a0_1 a0_2 a0_3 a0_4 l0_5)) else (spec_BatchValid.j0 k true a0_0 a0_1 a0_2 a0_3 a0_4 l0_5))) else (spec_BatchValid.j0 k true a0_0 a0_1 a0_2 a0_3 a0_4 l0_5)))=some r:=by rw [if_pos rfl] at H;exact H
   clear H;have H:=H1;clear H1;replace H:=Option.bind_eq_some_iff.mp H;obtain ⟨t120,A60,H⟩:=H;replace H:(if t120=true then ((spec_l6In.f a0_3 0 99).bind fun t121=>(if t121=true then ((spec_l6In.f a0_4 0 9999).bind fun t122=>(spec_BatchValid.j0 k (!t122) a0_0 a0_1 a0_2 a0_3 a0_4 l0_5)) else (spec_BatchValid.j0 k true a0_0 a0_1 a0_2 a0_3 a0_4 l0_5))) else (spec_BatchValid.j0 k true a0_0 a0_1 a0_2 a0_3 a0_4 l0_5))=some r:=H;have A6:=zzm A60;clear A60;by_cases c7:t120=true
   ·
    subst c7;have H1:((spec_l6In.f a0_3 0 99).bind fun t121=>(if t121=true then ((spec_l6In.f a0_4 0 9999).bind fun t122=>(spec_BatchValid.j0 k (!t122) a0_0 a0_1 a0_2 a0_3 a0_4 l0_5)) else (spec_BatchValid.j0 k true a0_0 a0_1 a0_2 a0_3 a0_4 l0_5)))=some r:=by rw [if_pos rfl] at H;exact H
    clear H;have H:=H1;clear H1;replace H:=Option.bind_eq_some_iff.mp H;obtain ⟨t121,A80,H⟩:=H;replace H:(if t121=true then ((spec_l6In.f a0_4 0 9999).bind fun t122=>(spec_BatchValid.j0 k (!t122) a0_0 a0_1 a0_2 a0_3 a0_4 l0_5)) else (spec_BatchValid.j0 k true a0_0 a0_1 a0_2 a0_3 a0_4 l0_5))=some r:=H;have A8:=zzm A80;clear A80;by_cases c9:t121=true
    ·
     subst c9;have H1:((spec_l6In.f a0_4 0 9999).bind fun t122=>(spec_BatchValid.j0 k (!t122) a0_0 a0_1 a0_2 a0_3 a0_4 l0_5))=some r:=by rw [if_pos rfl] at H;exact H
     clear H;have H:=H1;clear H1;replace H:=Option.bind_eq_some_iff.mp H;obtain ⟨t122,A100,H⟩:=H;replace H:(spec_BatchValid.j0 k (!t122) a0_0 a0_1 a0_2 a0_3 a0_4 l0_5)=some r:=H;have A10:=zzm A100;clear A100;have H':=zzm H;clear H;obtain ⟨hcz11_0,hcz11_1,hcz11_2,hcz11_3,hcz11_4,hcz11_5,hfz11_0,hfz11_1,hfz11_2,hfz11_3,hfz11_4,hfz11_5⟩:=zzc6 BK118.out;go_wp2_with (first|((with_reducible refine gate_callee (f:=83) rfl ?_);refine goesL_ (some 5) rfl rfl Try.func83 (by kernel_rfl) rfl #[.slice A0_5 l0_5.length c0_5] rfl zzM2 ?_;(with_reducible refine (spec_l5Records.calls k _ _ l0_5 true _ ?side1 ?side2 A4.out).mono ?_);(case side1=>repeat (first|exact (Kd.C_below HR0_5.out HB.out)|(with_reducible refine Kd.C_alloc ?_ _)|(with_reducible refine Kd.C_drewN ?_ _)|(with_reducible refine Kd.C_drew ?_)));(case side2=>exact HC0_5.out);rintro e w12 ⟨rfl,hb⟩;refine ⟨_,rfl,?_⟩;have n0_:=zzm (zzh (g:=gb118) (o:=.cells #[.bool a0_0,.bool a0_1,.int .i64 a0_2,.int .i64 a0_3,.int .i64 a0_4,.slice A0_5 l0_5.length c0_5] 27 (0,0)) (zzE BK118.out) hb);have n1_:=zzm (zzp zzh2 hb);clear BK118 HB;have BK118:=n0_;have HB:=n1_;clear n0_ n1_;(try clear hb);(try clear hb2);(try clear hk);(try clear hi);obtain ⟨hcz13_0,hcz13_1,hcz13_2,hcz13_3,hcz13_4,hcz13_5,hfz13_0,hfz13_1,hfz13_2,hfz13_3,hfz13_4,hfz13_5⟩:=zzc6 BK118.out)|(go_at_call 84;(with_reducible refine (spec_l6In.calls a0_2 0 255 true _ A6.out).mono ?_);rintro e w' ⟨rfl,⟨nd,rfl⟩⟩)|(go_at_call 84;(with_reducible refine (spec_l6In.calls a0_3 0 99 true _ A8.out).mono ?_);rintro e w' ⟨rfl,⟨nd,rfl⟩⟩)|(go_at_call 84;(with_reducible refine (spec_l6In.calls a0_4 0 9999 t122 _ A10.out).mono ?_);rintro e w' ⟨rfl,⟨nd,rfl⟩⟩));go_meet
     case rel=>exact ⟨_,(!t122),(by first|rfl|(simp;done)|(simp [*];done)),H',⟨by first|omega|exact Nat.le_refl _⟩,⟨by (with_reducible repeat (first|apply zzf|apply zzg|apply zze));exact BK118.out⟩,⟨by repeat (first|(with_reducible first|exact HB.out|apply zza|apply zzb|apply zzc|refine zzd ?_ GE118.out)|exact HB.out)⟩⟩
    ·
     replace c9:=Bool.eq_false_iff.mpr c9;subst c9;have H1:(spec_BatchValid.j0 k true a0_0 a0_1 a0_2 a0_3 a0_4 l0_5)=some r:=by rw [if_neg (show ¬ (false=true) by decide)] at H;exact H
     clear H;have H:=H1;clear H1;have H':=zzm H;clear H;obtain ⟨hcz14_0,hcz14_1,hcz14_2,hcz14_3,hcz14_4,hcz14_5,hfz14_0,hfz14_1,hfz14_2,hfz14_3,hfz14_4,hfz14_5⟩:=zzc6 BK118.out;go_wp2_with (first|((with_reducible refine gate_callee (f:=83) rfl ?_);refine goesL_ (some 5) rfl rfl Try.func83 (by kernel_rfl) rfl #[.slice A0_5 l0_5.length c0_5] rfl zzM2 ?_;(with_reducible refine (spec_l5Records.calls k _ _ l0_5 true _ ?side1 ?side2 A4.out).mono ?_);(case side1=>repeat (first|exact (Kd.C_below HR0_5.out HB.out)|(with_reducible refine Kd.C_alloc ?_ _)|(with_reducible refine Kd.C_drewN ?_ _)|(with_reducible refine Kd.C_drew ?_)));(case side2=>exact HC0_5.out);rintro e w15 ⟨rfl,hb⟩;refine ⟨_,rfl,?_⟩;have n0_:=zzm (zzh (g:=gb118) (o:=.cells #[.bool a0_0,.bool a0_1,.int .i64 a0_2,.int .i64 a0_3,.int .i64 a0_4,.slice A0_5 l0_5.length c0_5] 27 (0,0)) (zzE BK118.out) hb);have n1_:=zzm (zzp zzh2 hb);clear BK118 HB;have BK118:=n0_;have HB:=n1_;clear n0_ n1_;(try clear hb);(try clear hb2);(try clear hk);(try clear hi);obtain ⟨hcz16_0,hcz16_1,hcz16_2,hcz16_3,hcz16_4,hcz16_5,hfz16_0,hfz16_1,hfz16_2,hfz16_3,hfz16_4,hfz16_5⟩:=zzc6 BK118.out)|(go_at_call 84;(with_reducible refine (spec_l6In.calls a0_2 0 255 true _ A6.out).mono ?_);rintro e w' ⟨rfl,⟨nd,rfl⟩⟩)|(go_at_call 84;(with_reducible refine (spec_l6In.calls a0_3 0 99 false _ A8.out).mono ?_);rintro e w' ⟨rfl,⟨nd,rfl⟩⟩));go_meet
     case rel=>exact ⟨_,(true),(by first|rfl|(simp;done)|(simp [*];done)),H',⟨by first|omega|exact Nat.le_refl _⟩,⟨by (with_reducible repeat (first|apply zzf|apply zzg|apply zze));exact BK118.out⟩,⟨by repeat (first|(with_reducible first|exact HB.out|apply zza|apply zzb|apply zzc|refine zzd ?_ GE118.out)|exact HB.out)⟩⟩
   ·
    replace c7:=Bool.eq_false_iff.mpr c7;subst c7;have H1:(spec_BatchValid.j0 k true a0_0 a0_1 a0_2 a0_3 a0_4 l0_5)=some r:=by rw [if_neg (show ¬ (false=true) by decide)] at H;exact H
    clear H;have H:=H1;clear H1;have H':=zzm H;clear H;obtain ⟨hcz17_0,hcz17_1,hcz17_2,hcz17_3,hcz17_4,hcz17_5,hfz17_0,hfz17_1,hfz17_2,hfz17_3,hfz17_4,hfz17_5⟩:=zzc6 BK118.out;go_wp2_with (first|((with_reducible refine gate_callee (f:=83) rfl ?_);refine goesL_ (some 5) rfl rfl Try.func83 (by kernel_rfl) rfl #[.slice A0_5 l0_5.length c0_5] rfl zzM2 ?_;(with_reducible refine (spec_l5Records.calls k _ _ l0_5 true _ ?side1 ?side2 A4.out).mono ?_);(case side1=>repeat (first|exact (Kd.C_below HR0_5.out HB.out)|(with_reducible refine Kd.C_alloc ?_ _)|(with_reducible refine Kd.C_drewN ?_ _)|(with_reducible refine Kd.C_drew ?_)));(case side2=>exact HC0_5.out);rintro e w18 ⟨rfl,hb⟩;refine ⟨_,rfl,?_⟩;have n0_:=zzm (zzh (g:=gb118) (o:=.cells #[.bool a0_0,.bool a0_1,.int .i64 a0_2,.int .i64 a0_3,.int .i64 a0_4,.slice A0_5 l0_5.length c0_5] 27 (0,0)) (zzE BK118.out) hb);have n1_:=zzm (zzp zzh2 hb);clear BK118 HB;have BK118:=n0_;have HB:=n1_;clear n0_ n1_;(try clear hb);(try clear hb2);(try clear hk);(try clear hi);obtain ⟨hcz19_0,hcz19_1,hcz19_2,hcz19_3,hcz19_4,hcz19_5,hfz19_0,hfz19_1,hfz19_2,hfz19_3,hfz19_4,hfz19_5⟩:=zzc6 BK118.out)|(go_at_call 84;(with_reducible refine (spec_l6In.calls a0_2 0 255 false _ A6.out).mono ?_);rintro e w' ⟨rfl,⟨nd,rfl⟩⟩));go_meet
    case rel=>exact ⟨_,(true),(by first|rfl|(simp;done)|(simp [*];done)),H',⟨by first|omega|exact Nat.le_refl _⟩,⟨by (with_reducible repeat (first|apply zzf|apply zzg|apply zze));exact BK118.out⟩,⟨by repeat (first|(with_reducible first|exact HB.out|apply zza|apply zzb|apply zzc|refine zzd ?_ GE118.out)|exact HB.out)⟩⟩
  ·
   replace c5:=Bool.eq_false_iff.mpr c5;subst c5;have H1:(spec_BatchValid.j0 k true a0_0 a0_1 a0_2 a0_3 a0_4 l0_5)=some r:=by rw [if_neg (show ¬ (false=true) by decide)] at H;exact H
   clear H;have H:=H1;clear H1;have H':=zzm H;clear H;obtain ⟨hcz20_0,hcz20_1,hcz20_2,hcz20_3,hcz20_4,hcz20_5,hfz20_0,hfz20_1,hfz20_2,hfz20_3,hfz20_4,hfz20_5⟩:=zzc6 BK118.out;go_wp2_with (first|((with_reducible refine gate_callee (f:=83) rfl ?_);refine goesL_ (some 5) rfl rfl Try.func83 (by kernel_rfl) rfl #[.slice A0_5 l0_5.length c0_5] rfl zzM2 ?_;(with_reducible refine (spec_l5Records.calls k _ _ l0_5 false _ ?side1 ?side2 A4.out).mono ?_);(case side1=>repeat (first|exact (Kd.C_below HR0_5.out HB.out)|(with_reducible refine Kd.C_alloc ?_ _)|(with_reducible refine Kd.C_drewN ?_ _)|(with_reducible refine Kd.C_drew ?_)));(case side2=>exact HC0_5.out);rintro e w21 ⟨rfl,hb⟩;refine ⟨_,rfl,?_⟩;have n0_:=zzm (zzh (g:=gb118) (o:=.cells #[.bool a0_0,.bool a0_1,.int .i64 a0_2,.int .i64 a0_3,.int .i64 a0_4,.slice A0_5 l0_5.length c0_5] 27 (0,0)) (zzE BK118.out) hb);have n1_:=zzm (zzp zzh2 hb);clear BK118 HB;have BK118:=n0_;have HB:=n1_;clear n0_ n1_;(try clear hb);(try clear hb2);(try clear hk);(try clear hi)));go_meet
   case rel=>exact ⟨_,(true),(by first|rfl|(simp;done)|(simp [*];done)),H',⟨by first|omega|exact Nat.le_refl _⟩,⟨by (with_reducible repeat (first|apply zzf|apply zzg|apply zze));exact BK118.out⟩,⟨by repeat (first|(with_reducible first|exact HB.out|apply zza|apply zzb|apply zzc|refine zzd ?_ GE118.out)|exact HB.out)⟩⟩
 case rest=>
  clear HC2;try clear p2
  try clear c5
  try clear c7
  try clear c8
  try clear c9
  try clear hcz11_0
  try clear hcz11_1
  try clear hcz11_2
  try clear hcz11_3
  try clear hcz11_4
  try clear hcz11_5
  try clear hcz13_0
  try clear hcz13_1
  try clear hcz13_2
  try clear hcz13_3
  try clear hcz13_4
  try clear hcz13_5
  try clear hcz14_0
  try clear hcz14_1
  try clear hcz14_2
  try clear hcz14_3
  try clear hcz14_4
  try clear hcz14_5
  try clear hcz16_0
  try clear hcz16_1
  try clear hcz16_2
  try clear hcz16_3
  try clear hcz16_4
  try clear hcz16_5
  try clear hcz17_0
  try clear hcz17_1
  try clear hcz17_2
  try clear hcz17_3
  try clear hcz17_4
  try clear hcz17_5
  try clear hcz19_0
  try clear hcz19_1
  try clear hcz19_2
  try clear hcz19_3
  try clear hcz19_4
  try clear hcz19_5
  try clear hcz20_0
  try clear hcz20_1
  try clear hcz20_2
  try clear hcz20_3
  try clear hcz20_4
  try clear hcz20_5
  try clear hfz11_0
  try clear hfz11_1
  try clear hfz11_2
  try clear hfz11_3
  try clear hfz11_4
  try clear hfz11_5
  try clear hfz13_0
  try clear hfz13_1
  try clear hfz13_2
  try clear hfz13_3
  try clear hfz13_4
  try clear hfz13_5
  try clear hfz14_0
  try clear hfz14_1
  try clear hfz14_2
  try clear hfz14_3
  try clear hfz14_4
  try clear hfz14_5
  try clear hfz16_0
  try clear hfz16_1
  try clear hfz16_2
  try clear hfz16_3
  try clear hfz16_4
  try clear hfz16_5
  try clear hfz17_0
  try clear hfz17_1
  try clear hfz17_2
  try clear hfz17_3
  try clear hfz17_4
  try clear hfz17_5
  try clear hfz19_0
  try clear hfz19_1
  try clear hfz19_2
  try clear hfz19_3
  try clear hfz19_4
  try clear hfz19_5
  try clear hfz20_0
  try clear hfz20_1
  try clear hfz20_2
  try clear hfz20_3
  try clear hfz20_4
  try clear hfz20_5
  obtain ⟨kq,x24_1,rfl,HA,HJ1,BK118,HB⟩:=hcut;cases kq with
  | zero=>exact absurd HA.out (by simp [spec_BatchValid.j0])
  | succ kj1=>
   have H:=HA.out;clear HA;simp only [spec_BatchValid.j0] at H;by_cases c22:x24_1=true
   ·
    subst c22;have H1:(some false)=some r:=by rw [if_pos rfl] at H;exact H
    clear H;have H:=H1;clear H1;obtain rfl:=Option.some.inj H;go_wp2;go_ret;exact ⟨by first|rfl|(simp [errW_none,errW_some] <;> rfl)|(simp [*,errW_none,errW_some] <;> rfl),by repeat (first|(with_reducible first|exact HB.out|apply zza|apply zzb|apply zzc|refine zzd ?_ GE118.out)|exact HB.out)⟩
   ·
    replace c22:=Bool.eq_false_iff.mpr c22;subst c22;have H1:(if a0_2=255 then (if a0_3=0 then (if a0_4=0 then (some (!a0_1)) else (some false)) else (some false)) else (if a0_1=true then (some ((l0_5.length:Int)==1)) else (some true)))=some r:=by rw [if_neg (show ¬ (false=true) by decide)] at H;exact H
    clear H;have H:=H1;clear H1;by_cases c23:a0_2=255
    ·
     rw [if_pos c23] at H;have c23b0:(a0_2==255)=true:=beq_iff_eq.mpr c23;have c23b1:(a0_2 != 255)=false:=bne_eq_false_iff_eq.mpr c23;clear c23;by_cases c24:a0_3=0
     ·
      rw [if_pos c24] at H;have c24b0:(a0_3==0)=true:=beq_iff_eq.mpr c24;have c24b1:(a0_3 != 0)=false:=bne_eq_false_iff_eq.mpr c24;clear c24;by_cases c25:a0_4=0
      ·
       rw [if_pos c25] at H;have c25b0:(a0_4==0)=true:=beq_iff_eq.mpr c25;have c25b1:(a0_4 != 0)=false:=bne_eq_false_iff_eq.mpr c25;clear c25;obtain rfl:=Option.some.inj H;obtain ⟨hcz26_0,hcz26_1,hcz26_2,hcz26_3,hcz26_4,hcz26_5,hfz26_0,hfz26_1,hfz26_2,hfz26_3,hfz26_4,hfz26_5⟩:=zzc6 BK118.out;go_wp2;go_ret;exact ⟨by first|rfl|(simp [errW_none,errW_some] <;> rfl)|(simp [*,errW_none,errW_some] <;> rfl),by repeat (first|(with_reducible first|exact HB.out|apply zza|apply zzb|apply zzc|refine zzd ?_ GE118.out)|exact HB.out)⟩
      ·
       rw [if_neg c25] at H;have c25b0:(a0_4==0)=false:=beq_eq_false_iff_ne.mpr c25;have c25b1:(a0_4 != 0)=true:=bne_iff_ne.mpr c25;obtain rfl:=Option.some.inj H;obtain ⟨hcz27_0,hcz27_1,hcz27_2,hcz27_3,hcz27_4,hcz27_5,hfz27_0,hfz27_1,hfz27_2,hfz27_3,hfz27_4,hfz27_5⟩:=zzc6 BK118.out;go_wp2;go_ret;exact ⟨by first|rfl|(simp [errW_none,errW_some] <;> rfl)|(simp [*,errW_none,errW_some] <;> rfl),by repeat (first|(with_reducible first|exact HB.out|apply zza|apply zzb|apply zzc|refine zzd ?_ GE118.out)|exact HB.out)⟩
     ·
      rw [if_neg c24] at H;have c24b0:(a0_3==0)=false:=beq_eq_false_iff_ne.mpr c24;have c24b1:(a0_3 != 0)=true:=bne_iff_ne.mpr c24;obtain rfl:=Option.some.inj H;obtain ⟨hcz28_0,hcz28_1,hcz28_2,hcz28_3,hcz28_4,hcz28_5,hfz28_0,hfz28_1,hfz28_2,hfz28_3,hfz28_4,hfz28_5⟩:=zzc6 BK118.out;go_wp2;go_ret;exact ⟨by first|rfl|(simp [errW_none,errW_some] <;> rfl)|(simp [*,errW_none,errW_some] <;> rfl),by repeat (first|(with_reducible first|exact HB.out|apply zza|apply zzb|apply zzc|refine zzd ?_ GE118.out)|exact HB.out)⟩
    ·
     rw [if_neg c23] at H;have c23b0:(a0_2==255)=false:=beq_eq_false_iff_ne.mpr c23;have c23b1:(a0_2 != 255)=true:=bne_iff_ne.mpr c23;by_cases c29:a0_1=true
     ·
      subst c29;have H1:(some ((l0_5.length:Int)==1))=some r:=by rw [if_pos rfl] at H;exact H
      clear H;have H:=H1;clear H1;obtain rfl:=Option.some.inj H;obtain ⟨hcz30_0,hcz30_1,hcz30_2,hcz30_3,hcz30_4,hcz30_5,hfz30_0,hfz30_1,hfz30_2,hfz30_3,hfz30_4,hfz30_5⟩:=zzc6 BK118.out;go_wp2;go_ret;exact ⟨by first|rfl|(simp [errW_none,errW_some] <;> rfl)|(simp [*,errW_none,errW_some] <;> rfl),by repeat (first|(with_reducible first|exact HB.out|apply zza|apply zzb|apply zzc|refine zzd ?_ GE118.out)|exact HB.out)⟩
     ·
      replace c29:=Bool.eq_false_iff.mpr c29;subst c29;have H1:(some true)=some r:=by rw [if_neg (show ¬ (false=true) by decide)] at H;exact H
      clear H;have H:=H1;clear H1;obtain rfl:=Option.some.inj H;obtain ⟨hcz31_0,hcz31_1,hcz31_2,hcz31_3,hcz31_4,hcz31_5,hfz31_0,hfz31_1,hfz31_2,hfz31_3,hfz31_4,hfz31_5⟩:=zzc6 BK118.out;go_wp2;go_ret;exact ⟨by first|rfl|(simp [errW_none,errW_some] <;> rfl)|(simp [*,errW_none,errW_some] <;> rfl),by repeat (first|(with_reducible first|exact HB.out|apply zza|apply zzb|apply zzc|refine zzd ?_ GE118.out)|exact HB.out)⟩
def markRow (a2 a3:Int) (a4:Bool):List S34:=[⟨a2,a3,false,[],true,[if a4=true then 1 else 0]⟩]
def spec_MarkBatch.f (k:Nat) (a0:Int) (a1:Int) (a2:Int) (a3:Int) (a4:Bool):Option (Bool×Bool×Int×Int×Int×(List (S34))×Bool):=(spec_BatchValid.f k false true a0 a1 0 (markRow a2 a3 a4)).bind fun t=>if t=true then some (false,true,a0,a1,0,markRow a2 a3 a4,true) else some (false,false,0,0,0,[],false)
set_option maxHeartbeats 8000000 in
set_option maxRecDepth 100000 in
theorem spec_MarkBatch.calls (k:Nat) (a0:Int) (a1:Int) (a2:Int) (a3:Int) (a4:Bool) (r1:Bool) (r2:Bool) (r3:Int) (r4:Int) (r5:Int) (r6:List (S34)) (r7:Bool) (w:World) (h:spec_MarkBatch.f k a0 a1 a2 a3 a4=some (r1,r2,r3,r4,r5,r6,r7)) :
  Calls Try.prog 20 #[.int .i64 a0,.int .i64 a1,.int .i64 a2,.int .i64 a3,.bool a4] w fun e w'=>∃ v5_:Value,e = .returned (.tuple #[.agg #[.bool r1,.bool r2,.int .i64 r3,.int .i64 r4,.int .i64 r5,v5_],.bool r7])∧Kd.N k34 34 w' w.heap.size (fun k_=>(w.heap.size≤k_)) v5_ r6∧Below w.heap.size w w':=by
 have HB:=zzm (Below.refl w.heap.size w);unfold spec_MarkBatch.f markRow at h;replace h:=Option.bind_eq_some_iff.mp h;obtain ⟨t,A70,h⟩:=h;have A7:=zzm A70;clear A70;cases a4 with
 | true=>
  simp only [if_true,Bool.false_eq_true,if_false] at h A7;have HH:=zzm h;clear h;go_enter Try.func20,Try.ntmps20;go_upto_region 5 with (first|((with_reducible refine gate_dst (N:=10) rfl ?_);refine box_event ?hg (N:=10) ?hd (cs:=#[.bool false,.bool false,.int .i64 0,.int .i64 0,.int .i64 0,.slice none 0 0]) (t:=27) ?hr ?_;(case hd=>rfl);(case hg=>rfl);(case hr=>first|(go_simp;done)|(go_simp;rfl));intro g1 hg w1 hbox hb;have HB1:=zzm (zzp HB.out hb);have BK1:=zzm hbox;have GE1:=zzm (show w.heap.size≤g1 by rw [hg];exact HB.out.size);clear hb hbox hg)|((with_reducible refine gate_dst (N:=18) rfl ?_);refine Kd.R_lit (Kd.int .i64) _ 3 ?hg (N:=18) ?hd (xs:=([]:List Int)) (inner:=[]) (ok:=fun _=>True) (okp:=fun _=>True) ?hr ?hp (fun _ hk=>hk) trivial (Below.refl _ _) (Nat.le_refl _) (by simp) ?_;(case hd=>rfl);(case hg=>rfl);(case hr=>first|(go_simp;done)|(go_simp;rfl));(case hp=>exact (Reps.none _ _));intro v18 w2 ho hb hg_ hnew_;have HK2:=zzm (Kd.R_lower (Kd.R_mono (Kd.R_bound (Kd.R_newB ho BK1.out)) (fun k hk=>(⟨Nat.le_trans HB1.out.size hk.2.1,hk.1.2⟩:w.heap.size≤k∧k≠g1))) HB1.out.size);have HB2:=zzm (zzp HB1.out hb);have BK2:=zzm (zzh BK1.out hb);clear hg_ hnew_ ho hb;obtain ⟨Ak,ck,e_⟩:=Kd.R_slice HK2.out;subst e_)|((with_reducible refine gate_dst (N:=20) rfl ?_);refine Kd.R_lit (Kd.int .i64) _ 3 ?hg (N:=20) ?hd (xs:=([1]:List Int)) (inner:=[.int .i64 1]) (ok:=fun _=>True) (okp:=fun _=>True) ?hr ?hp (fun _ hk=>hk) trivial (Below.refl _ _) (Nat.le_refl _) (by simp) ?_;(case hd=>rfl);(case hg=>rfl);(case hr=>first|(go_simp;done)|(go_simp;rfl));(case hp=>exact (Reps.one (show Kd.M (Kd.int .i64) _ _ _ 1 [.int .i64 1] from rfl) (Reps.none _ _)));intro v20 w3 ho hb hg_ hnew_;have HV3:=zzm (Kd.R_lower (Kd.R_mono (Kd.R_bound (Kd.R_newB ho BK2.out)) (fun k hk=>(⟨Nat.le_trans HB2.out.size hk.2.1,hk.1.2⟩:w.heap.size≤k∧k≠g1))) HB2.out.size);have HB3:=zzm (zzp HB2.out hb);have BK3:=zzm (zzh BK2.out hb);have HK3:=zzm (Kd.R_below HK2.out hb);clear hg_ hnew_ ho hb;obtain ⟨Av,cv,e_⟩:=Kd.R_slice HV3.out;subst e_)|((with_reducible refine gate_dst (N:=13) rfl ?_);refine box_event ?hg (N:=13) ?hd (cs:=#[.int .i64 0,.int .i64 0,.bool false,.slice none 0 0,.bool false,.slice none 0 0]) (t:=34) ?hr ?_;(case hd=>rfl);(case hg=>rfl);(case hr=>first|(go_simp;done)|(go_simp;rfl));intro g2 hg w4 hbox hb;have HB4:=zzm (zzp HB3.out hb);have BK4:=zzm (zzh BK3.out hb);have HK4:=zzm (Kd.R_below HK3.out hb);have HV4:=zzm (Kd.R_below HV3.out hb);have BX:=zzm hbox;have GE2:=zzm (show w.heap.size≤g2 by rw [hg];exact HB3.out.size);have NE:=zzm (show g1≠g2 by rw [hg];exact Nat.ne_of_lt (blk_lt BK3.out));clear hb hbox hg;have hz0:w4.cell? ⟨_,0,none⟩=some _:=(zzk BX.out 0).trans rfl;have hf0:=zzl BX.out 0;have hz1:w4.cell? ⟨_,1,none⟩=some _:=(zzk BX.out 1).trans rfl;have hf1:=zzl BX.out 1;have hz2:w4.cell? ⟨_,2,none⟩=some _:=(zzk BX.out 2).trans rfl;have hf2:=zzl BX.out 2;have hz3:w4.cell? ⟨_,3,none⟩=some _:=(zzk BX.out 3).trans rfl;have hf3:=zzl BX.out 3;have hz4:w4.cell? ⟨_,4,none⟩=some _:=(zzk BX.out 4).trans rfl;have hf4:=zzl BX.out 4;have hz5:w4.cell? ⟨_,5,none⟩=some _:=(zzk BX.out 5).trans rfl;have hf5:=zzl BX.out 5));have HK5:=zzm (Kd.R_mono (Kd.R_far (p:=⟨g2,5,none⟩) (Kd.R_far (p:=⟨g2,4,none⟩) (Kd.R_far (p:=⟨g2,3,none⟩) (Kd.R_far (p:=⟨g2,2,none⟩) (Kd.R_far (p:=⟨g2,1,none⟩) (Kd.R_far (p:=⟨g2,0,none⟩) (Kd.R_types HK4.out BX.out (by decide)) (fun _ hk=>hk.2) (.int .i64 a2)) (fun _ hk=>hk.2) (.int .i64 a3)) (fun _ hk=>hk.2) (.bool false)) (fun _ hk=>hk.2) (.slice Ak ([]:List Int).length ck)) (fun _ hk=>hk.2) (.bool true)) (fun _ hk=>hk.2) (.slice Av ([1]:List Int).length cv)) (fun k hk=>hk.1));have HV5:=zzm (Kd.R_mono (Kd.R_far (p:=⟨g2,5,none⟩) (Kd.R_far (p:=⟨g2,4,none⟩) (Kd.R_far (p:=⟨g2,3,none⟩) (Kd.R_far (p:=⟨g2,2,none⟩) (Kd.R_far (p:=⟨g2,1,none⟩) (Kd.R_far (p:=⟨g2,0,none⟩) (Kd.R_types HV4.out BX.out (by decide)) (fun _ hk=>hk.2) (.int .i64 a2)) (fun _ hk=>hk.2) (.int .i64 a3)) (fun _ hk=>hk.2) (.bool false)) (fun _ hk=>hk.2) (.slice Ak ([]:List Int).length ck)) (fun _ hk=>hk.2) (.bool true)) (fun _ hk=>hk.2) (.slice Av ([1]:List Int).length cv)) (fun k hk=>hk.1));have BK5:=zzm (zzj (p:=⟨g2,5,none⟩) (zzj (p:=⟨g2,4,none⟩) (zzj (p:=⟨g2,3,none⟩) (zzj (p:=⟨g2,2,none⟩) (zzj (p:=⟨g2,1,none⟩) (zzj (p:=⟨g2,0,none⟩) (BK4.out) NE.out (.int .i64 a2)) NE.out (.int .i64 a3)) NE.out (.bool false)) NE.out (.slice Ak ([]:List Int).length ck)) NE.out (.bool true)) NE.out (.slice Av ([1]:List Int).length cv));have BX5:=zzm (zzi (cs:=#[.int .i64 a2,.int .i64 a3,.bool false,.slice Ak ([]:List Int).length ck,.bool true,.slice none 0 0]) (cs':=#[.int .i64 a2,.int .i64 a3,.bool false,.slice Ak ([]:List Int).length ck,.bool true,.slice Av ([1]:List Int).length cv]) (zzi (cs:=#[.int .i64 a2,.int .i64 a3,.bool false,.slice Ak ([]:List Int).length ck,.bool false,.slice none 0 0]) (cs':=#[.int .i64 a2,.int .i64 a3,.bool false,.slice Ak ([]:List Int).length ck,.bool true,.slice none 0 0]) (zzi (cs:=#[.int .i64 a2,.int .i64 a3,.bool false,.slice none 0 0,.bool false,.slice none 0 0]) (cs':=#[.int .i64 a2,.int .i64 a3,.bool false,.slice Ak ([]:List Int).length ck,.bool false,.slice none 0 0]) (zzi (cs:=#[.int .i64 a2,.int .i64 a3,.bool false,.slice none 0 0,.bool false,.slice none 0 0]) (cs':=#[.int .i64 a2,.int .i64 a3,.bool false,.slice none 0 0,.bool false,.slice none 0 0]) (zzi (cs:=#[.int .i64 a2,.int .i64 0,.bool false,.slice none 0 0,.bool false,.slice none 0 0]) (cs':=#[.int .i64 a2,.int .i64 a3,.bool false,.slice none 0 0,.bool false,.slice none 0 0]) (zzi (cs:=#[.int .i64 0,.int .i64 0,.bool false,.slice none 0 0,.bool false,.slice none 0 0]) (cs':=#[.int .i64 a2,.int .i64 0,.bool false,.slice none 0 0,.bool false,.slice none 0 0]) (BX.out) 0 (.int .i64 a2) rfl) 1 (.int .i64 a3) rfl) 2 (.bool false) rfl) 3 (.slice Ak ([]:List Int).length ck) rfl) 4 (.bool true) rfl) 5 (.slice Av ([1]:List Int).length cv) rfl);have HB5:=zzm (zzd (zzd (zzd (zzd (zzd (zzd (HB4.out) GE2.out (j:=0) (v:=.int .i64 a2)) GE2.out (j:=1) (v:=.int .i64 a3)) GE2.out (j:=2) (v:=.bool false)) GE2.out (j:=3) (v:=.slice Ak ([]:List Int).length ck)) GE2.out (j:=4) (v:=.bool true)) GE2.out (j:=5) (v:=.slice Av ([1]:List Int).length cv));clear hz0 hz1 hz2 hz3 hz4 hz5 hf0 hf1 hf2 hf3 hf4 hf5 HB1 HB2 HB3 HB4 BK1 BK2 BK3 BK4 HK2 HK3 HK4 HV3 HV4 BX;generalize (((((w4.setCell ⟨g2,0,none⟩ (.int .i64 a2)).setCell ⟨g2,1,none⟩ (.int .i64 a3)).setCell ⟨g2,2,none⟩ (.bool false)).setCell ⟨g2,3,none⟩ (.slice Ak ([]:List Int).length ck)).setCell ⟨g2,4,none⟩ (.bool true)).setCell ⟨g2,5,none⟩ (.slice Av ([1]:List Int).length cv)=w5 at HK5 HV5 BK5 BX5 HB5 ⊢;have d0:w5.cell? ⟨g2,0,none⟩=some (.int .i64 a2):=(zzk BX5.out 0).trans rfl;have d1:w5.cell? ⟨g2,1,none⟩=some (.int .i64 a3):=(zzk BX5.out 1).trans rfl;have d2:w5.cell? ⟨g2,2,none⟩=some (.bool false):=(zzk BX5.out 2).trans rfl;have d3:w5.cell? ⟨g2,3,none⟩=some (.slice Ak ([]:List Int).length ck):=(zzk BX5.out 3).trans rfl;have d4:w5.cell? ⟨g2,4,none⟩=some (.bool true):=(zzk BX5.out 4).trans rfl;have d5:w5.cell? ⟨g2,5,none⟩=some (.slice Av ([1]:List Int).length cv):=(zzk BX5.out 5).trans rfl;go_upto_region 6 with (first|((with_reducible refine gate_dst (N:=25) rfl ?_);refine Kd.N_lit k34 _ 34 ?hg (N':=25) ?hd (xs:=([(⟨a2,a3,false,[],true,[1]⟩:S34)]:List (S34))) (inner:=[.int .i64 a2,.int .i64 a3,.bool false,.slice Ak ([]:List Int).length ck,.bool true,.slice Av ([1]:List Int).length cv]) (ok:=(fun k=>w.heap.size≤k∧k≠g1)) (okp:=(fun k=>w.heap.size≤k∧k≠g1)) ?hr ?hp (fun _ hk=>hk) ((show ∀ k,w5.heap.size≤k→(fun k=>w.heap.size≤k∧k≠g1) k from fun k hk=>⟨Nat.le_trans HB5.out.size hk,fun e=>by have:=blk_lt BK5.out;omega⟩) _ (Nat.le_refl _)) (Below.refl _ _) (Nat.le_refl _) (by simp) ?_;(case hd=>rfl);(case hg=>rfl);(case hr=>first|(go_simp;done)|(go_simp;rfl));(case hp=>exact (Reps.c6 (show Kd.FK k34 _ _ (⟨a2,a3,false,[],true,[1]⟩:S34) [.int .i64 a2,.int .i64 a3,.bool false,.slice Ak ([]:List Int).length ck,.bool true,.slice Av ([1]:List Int).length cv] from (k34_mkF _ _ (⟨a2,a3,false,[],true,[1]⟩:S34) (Kd.R_reads' HK5.out).2.1 (Kd.R_F HK5.out) (Kd.R_reads' HV5.out).2.1 (Kd.R_F HV5.out))) (Reps.none _ _)));intro v25 w6 ho hb hg_ hnew_;have HN6:=zzm (Kd.N_lower ho HB5.out.size);have HB6:=zzm (zzp HB5.out hb);have BK6:=zzm (zzh BK5.out hb);clear hg_ hnew_ ho hb;obtain ⟨An,cn,e_⟩:=Kd.N_slice HN6.out;subst e_)|((with_reducible refine gate_dst (N:=14) rfl ?_);refine box_event ?hg (N:=14) ?hd (cs:=#[.bool false,.bool false,.int .i64 0,.int .i64 0,.int .i64 0,.slice none 0 0]) (t:=27) ?hr ?_;(case hd=>rfl);(case hg=>rfl);(case hr=>first|(go_simp;done)|(go_simp;rfl));intro g3 hg w7 hbox hb;have HB7:=zzm (zzp HB6.out hb);have BK7:=zzm (zzh BK6.out hb);have HN7:=zzm (Kd.N_below (Kd.N_elderB HN6.out g3 (Nat.le_of_eq hg.symm)) hb);have BY:=zzm hbox;have GE3:=zzm (show w.heap.size≤g3 by rw [hg];exact HB6.out.size);have NE3:=zzm (show g1≠g3 by rw [hg];exact Nat.ne_of_lt (blk_lt BK6.out));clear hb hbox hg d0 d1 d2 d3 d4 d5;have hz0:w7.cell? ⟨_,0,none⟩=some _:=(zzk BY.out 0).trans rfl;have hf0:=zzl BY.out 0;have hz1:w7.cell? ⟨_,1,none⟩=some _:=(zzk BY.out 1).trans rfl;have hf1:=zzl BY.out 1;have hz2:w7.cell? ⟨_,2,none⟩=some _:=(zzk BY.out 2).trans rfl;have hf2:=zzl BY.out 2;have hz3:w7.cell? ⟨_,3,none⟩=some _:=(zzk BY.out 3).trans rfl;have hf3:=zzl BY.out 3;have hz4:w7.cell? ⟨_,4,none⟩=some _:=(zzk BY.out 4).trans rfl;have hf4:=zzl BY.out 4;have hz5:w7.cell? ⟨_,5,none⟩=some _:=(zzk BY.out 5).trans rfl;have hf5:=zzl BY.out 5));have HN8:=zzm (Kd.N_far (p:=⟨g3,5,none⟩) (Kd.N_far (p:=⟨g3,4,none⟩) (Kd.N_far (p:=⟨g3,3,none⟩) (Kd.N_far (p:=⟨g3,2,none⟩) (Kd.N_far (p:=⟨g3,1,none⟩) (Kd.N_far (p:=⟨g3,0,none⟩) (HN7.out) (fun _ hk=>hk.2) (.bool false)) (fun _ hk=>hk.2) (.bool true)) (fun _ hk=>hk.2) (.int .i64 a0)) (fun _ hk=>hk.2) (.int .i64 a1)) (fun _ hk=>hk.2) (.int .i64 0)) (fun _ hk=>hk.2) (.slice An ([(⟨a2,a3,false,[],true,[1]⟩:S34)]:List S34).length cn));have BK8:=zzm (zzj (p:=⟨g3,5,none⟩) (zzj (p:=⟨g3,4,none⟩) (zzj (p:=⟨g3,3,none⟩) (zzj (p:=⟨g3,2,none⟩) (zzj (p:=⟨g3,1,none⟩) (zzj (p:=⟨g3,0,none⟩) (BK7.out) NE3.out (.bool false)) NE3.out (.bool true)) NE3.out (.int .i64 a0)) NE3.out (.int .i64 a1)) NE3.out (.int .i64 0)) NE3.out (.slice An ([(⟨a2,a3,false,[],true,[1]⟩:S34)]:List S34).length cn));have BY8:=zzm (zzi (cs:=#[.bool false,.bool true,.int .i64 a0,.int .i64 a1,.int .i64 0,.slice none 0 0]) (cs':=#[.bool false,.bool true,.int .i64 a0,.int .i64 a1,.int .i64 0,.slice An ([(⟨a2,a3,false,[],true,[1]⟩:S34)]:List S34).length cn]) (zzi (cs:=#[.bool false,.bool true,.int .i64 a0,.int .i64 a1,.int .i64 0,.slice none 0 0]) (cs':=#[.bool false,.bool true,.int .i64 a0,.int .i64 a1,.int .i64 0,.slice none 0 0]) (zzi (cs:=#[.bool false,.bool true,.int .i64 a0,.int .i64 0,.int .i64 0,.slice none 0 0]) (cs':=#[.bool false,.bool true,.int .i64 a0,.int .i64 a1,.int .i64 0,.slice none 0 0]) (zzi (cs:=#[.bool false,.bool true,.int .i64 0,.int .i64 0,.int .i64 0,.slice none 0 0]) (cs':=#[.bool false,.bool true,.int .i64 a0,.int .i64 0,.int .i64 0,.slice none 0 0]) (zzi (cs:=#[.bool false,.bool false,.int .i64 0,.int .i64 0,.int .i64 0,.slice none 0 0]) (cs':=#[.bool false,.bool true,.int .i64 0,.int .i64 0,.int .i64 0,.slice none 0 0]) (zzi (cs:=#[.bool false,.bool false,.int .i64 0,.int .i64 0,.int .i64 0,.slice none 0 0]) (cs':=#[.bool false,.bool false,.int .i64 0,.int .i64 0,.int .i64 0,.slice none 0 0]) (BY.out) 0 (.bool false) rfl) 1 (.bool true) rfl) 2 (.int .i64 a0) rfl) 3 (.int .i64 a1) rfl) 4 (.int .i64 0) rfl) 5 (.slice An ([(⟨a2,a3,false,[],true,[1]⟩:S34)]:List S34).length cn) rfl);have HB8:=zzm (zzd (zzd (zzd (zzd (zzd (zzd (HB7.out) GE3.out (j:=0) (v:=.bool false)) GE3.out (j:=1) (v:=.bool true)) GE3.out (j:=2) (v:=.int .i64 a0)) GE3.out (j:=3) (v:=.int .i64 a1)) GE3.out (j:=4) (v:=.int .i64 0)) GE3.out (j:=5) (v:=.slice An ([(⟨a2,a3,false,[],true,[1]⟩:S34)]:List S34).length cn));clear hz0 hz1 hz2 hz3 hz4 hz5 hf0 hf1 hf2 hf3 hf4 hf5 HB5 HB6 HB7 BK5 BK6 BK7 HN6 HN7 HK5 HV5 BX5 BY;generalize (((((w7.setCell ⟨g3,0,none⟩ (.bool false)).setCell ⟨g3,1,none⟩ (.bool true)).setCell ⟨g3,2,none⟩ (.int .i64 a0)).setCell ⟨g3,3,none⟩ (.int .i64 a1)).setCell ⟨g3,4,none⟩ (.int .i64 0)).setCell ⟨g3,5,none⟩ (.slice An ([(⟨a2,a3,false,[],true,[1]⟩:S34)]:List S34).length cn)=w8 at HN8 BK8 BY8 HB8 ⊢;have d0:w8.cell? ⟨g3,0,none⟩=some (.bool false):=(zzk BY8.out 0).trans rfl;have d1:w8.cell? ⟨g3,1,none⟩=some (.bool true):=(zzk BY8.out 1).trans rfl;have d2:w8.cell? ⟨g3,2,none⟩=some (.int .i64 a0):=(zzk BY8.out 2).trans rfl;have d3:w8.cell? ⟨g3,3,none⟩=some (.int .i64 a1):=(zzk BY8.out 3).trans rfl;have d4:w8.cell? ⟨g3,4,none⟩=some (.int .i64 0):=(zzk BY8.out 4).trans rfl;have d5:w8.cell? ⟨g3,5,none⟩=some (.slice An ([(⟨a2,a3,false,[],true,[1]⟩:S34)]:List S34).length cn):=(zzk BY8.out 5).trans rfl;go_wp2_with (((with_reducible refine gate_callee (f:=55) rfl ?_);refine goesL_ (some 28) rfl rfl Try.func55 (by kernel_rfl) rfl #[.agg #[.bool false,.bool true,.int .i64 a0,.int .i64 a1,.int .i64 0,.slice An ([(⟨a2,a3,false,[],true,[1]⟩:S34)]:List S34).length cn]] rfl (by (try simp only [map_toArray,map_cons,map_nil]);first|done|rfl) ?_;(with_reducible refine (spec_BatchValid.calls k false true a0 a1 0 _ _ ([(⟨a2,a3,false,[],true,[1]⟩:S34)]:List S34) t _ ?s1 ?s2 A7.out).mono ?_);(case s1=>exact (Kd.N_reads' HN8.out).2.2);(case s2=>exact (Kd.N_reads' HN8.out).2.1);rintro e w9 ⟨rfl,hb⟩;refine ⟨_,rfl,?_⟩;have HN9:=zzm (Kd.N_below HN8.out hb);have BK9:=zzm (zzh BK8.out hb);have BY9:=zzm (zzh BY8.out hb);have HB9:=zzm (zzp HB8.out hb);clear hb d0 d1 d2 d3 d4 d5;have hz0:w9.cell? ⟨_,0,none⟩=some _:=(zzk BK9.out 0).trans rfl;have hf0:=zzl BK9.out 0;have hz1:w9.cell? ⟨_,1,none⟩=some _:=(zzk BK9.out 1).trans rfl;have hf1:=zzl BK9.out 1;have hz2:w9.cell? ⟨_,2,none⟩=some _:=(zzk BK9.out 2).trans rfl;have hf2:=zzl BK9.out 2;have hz3:w9.cell? ⟨_,3,none⟩=some _:=(zzk BK9.out 3).trans rfl;have hf3:=zzl BK9.out 3;have hz4:w9.cell? ⟨_,4,none⟩=some _:=(zzk BK9.out 4).trans rfl;have hf4:=zzl BK9.out 4;have hz5:w9.cell? ⟨_,5,none⟩=some _:=(zzk BK9.out 5).trans rfl;have hf5:=zzl BK9.out 5;have d0:w9.cell? ⟨g3,0,none⟩=some (.bool false):=(zzk BY9.out 0).trans rfl;have d1:w9.cell? ⟨g3,1,none⟩=some (.bool true):=(zzk BY9.out 1).trans rfl;have d2:w9.cell? ⟨g3,2,none⟩=some (.int .i64 a0):=(zzk BY9.out 2).trans rfl;have d3:w9.cell? ⟨g3,3,none⟩=some (.int .i64 a1):=(zzk BY9.out 3).trans rfl;have d4:w9.cell? ⟨g3,4,none⟩=some (.int .i64 0):=(zzk BY9.out 4).trans rfl;have d5:w9.cell? ⟨g3,5,none⟩=some (.slice An ([(⟨a2,a3,false,[],true,[1]⟩:S34)]:List S34).length cn):=(zzk BY9.out 5).trans rfl;cases t))
  ·
   have h2:=HH.out;simp only [if_true,Bool.false_eq_true,if_false,Option.some.injEq,Prod.mk.injEq] at h2;obtain ⟨rfl,rfl,rfl,rfl,rfl,rfl,rfl⟩:=h2;refine bodyPost_ret (results_ct rfl _ _ g1 27 #[.bool false,.bool false,.int .i64 0,.int .i64 0,.int .i64 0,.slice none 0 0] (0,0) _ rfl (zzi (cs:=#[.bool false,.bool false,.int .i64 0,.int .i64 0,.int .i64 0,.slice none 0 0]) (cs':=#[.bool false,.bool false,.int .i64 0,.int .i64 0,.int .i64 0,.slice none 0 0]) (zzi (cs:=#[.bool false,.bool false,.int .i64 0,.int .i64 0,.int .i64 0,.slice none 0 0]) (cs':=#[.bool false,.bool false,.int .i64 0,.int .i64 0,.int .i64 0,.slice none 0 0]) (zzi (cs:=#[.bool false,.bool false,.int .i64 0,.int .i64 0,.int .i64 0,.slice none 0 0]) (cs':=#[.bool false,.bool false,.int .i64 0,.int .i64 0,.int .i64 0,.slice none 0 0]) (zzi (cs:=#[.bool false,.bool false,.int .i64 0,.int .i64 0,.int .i64 0,.slice none 0 0]) (cs':=#[.bool false,.bool false,.int .i64 0,.int .i64 0,.int .i64 0,.slice none 0 0]) (zzi (cs:=#[.bool false,.bool false,.int .i64 0,.int .i64 0,.int .i64 0,.slice none 0 0]) (cs':=#[.bool false,.bool false,.int .i64 0,.int .i64 0,.int .i64 0,.slice none 0 0]) (zzi (cs:=#[.bool false,.bool false,.int .i64 0,.int .i64 0,.int .i64 0,.slice none 0 0]) (cs':=#[.bool false,.bool false,.int .i64 0,.int .i64 0,.int .i64 0,.slice none 0 0]) (BK9.out) 0 (.bool false) rfl) 1 (.bool false) rfl) 2 (.int .i64 0) rfl) 3 (.int .i64 0) rfl) 4 (.int .i64 0) rfl) 5 (.slice none 0 0) rfl) Try.underlying27 rfl (by kernel_rfl)) rfl ?_;exact ⟨_,rfl,Kd.N_nil _ _ _ _ _,zzd (zzd (zzd (zzd (zzd (zzd (HB9.out) GE1.out (j:=0) (v:=.bool false)) GE1.out (j:=1) (v:=.bool false)) GE1.out (j:=2) (v:=.int .i64 0)) GE1.out (j:=3) (v:=.int .i64 0)) GE1.out (j:=4) (v:=.int .i64 0)) GE1.out (j:=5) (v:=.slice none 0 0)⟩
  ·
   have h2:=HH.out;simp only [if_true,Bool.false_eq_true,if_false,Option.some.injEq,Prod.mk.injEq] at h2;obtain ⟨rfl,rfl,rfl,rfl,rfl,rfl,rfl⟩:=h2;refine bodyPost_ret (results_ct rfl _ _ g1 27 #[.bool false,.bool true,.int .i64 a0,.int .i64 a1,.int .i64 0,.slice An ([(⟨a2,a3,false,[],true,[1]⟩:S34)]:List S34).length cn] (0,0) _ rfl (zzi (cs:=#[.bool false,.bool true,.int .i64 a0,.int .i64 a1,.int .i64 0,.slice none 0 0]) (cs':=#[.bool false,.bool true,.int .i64 a0,.int .i64 a1,.int .i64 0,.slice An ([(⟨a2,a3,false,[],true,[1]⟩:S34)]:List S34).length cn]) (zzi (cs:=#[.bool false,.bool true,.int .i64 a0,.int .i64 a1,.int .i64 0,.slice none 0 0]) (cs':=#[.bool false,.bool true,.int .i64 a0,.int .i64 a1,.int .i64 0,.slice none 0 0]) (zzi (cs:=#[.bool false,.bool true,.int .i64 a0,.int .i64 0,.int .i64 0,.slice none 0 0]) (cs':=#[.bool false,.bool true,.int .i64 a0,.int .i64 a1,.int .i64 0,.slice none 0 0]) (zzi (cs:=#[.bool false,.bool true,.int .i64 0,.int .i64 0,.int .i64 0,.slice none 0 0]) (cs':=#[.bool false,.bool true,.int .i64 a0,.int .i64 0,.int .i64 0,.slice none 0 0]) (zzi (cs:=#[.bool false,.bool false,.int .i64 0,.int .i64 0,.int .i64 0,.slice none 0 0]) (cs':=#[.bool false,.bool true,.int .i64 0,.int .i64 0,.int .i64 0,.slice none 0 0]) (zzi (cs:=#[.bool false,.bool false,.int .i64 0,.int .i64 0,.int .i64 0,.slice none 0 0]) (cs':=#[.bool false,.bool false,.int .i64 0,.int .i64 0,.int .i64 0,.slice none 0 0]) (BK9.out) 0 (.bool false) rfl) 1 (.bool true) rfl) 2 (.int .i64 a0) rfl) 3 (.int .i64 a1) rfl) 4 (.int .i64 0) rfl) 5 (.slice An ([(⟨a2,a3,false,[],true,[1]⟩:S34)]:List S34).length cn) rfl) Try.underlying27 rfl (by kernel_rfl)) rfl ?_;exact ⟨_,rfl,Kd.N_mono (Kd.N_far (p:=⟨g1,5,none⟩) (Kd.N_far (p:=⟨g1,4,none⟩) (Kd.N_far (p:=⟨g1,3,none⟩) (Kd.N_far (p:=⟨g1,2,none⟩) (Kd.N_far (p:=⟨g1,1,none⟩) (Kd.N_far (p:=⟨g1,0,none⟩) (Kd.N_mono HN9.out (fun k hk=>(⟨hk.1.1,hk.1.2⟩:_∧k≠g1))) (fun _ hk=>hk.2) (.bool false)) (fun _ hk=>hk.2) (.bool true)) (fun _ hk=>hk.2) (.int .i64 a0)) (fun _ hk=>hk.2) (.int .i64 a1)) (fun _ hk=>hk.2) (.int .i64 0)) (fun _ hk=>hk.2) (.slice An ([(⟨a2,a3,false,[],true,[1]⟩:S34)]:List S34).length cn)) (fun _ hk=>hk.1),zzd (zzd (zzd (zzd (zzd (zzd (HB9.out) GE1.out (j:=0) (v:=.bool false)) GE1.out (j:=1) (v:=.bool true)) GE1.out (j:=2) (v:=.int .i64 a0)) GE1.out (j:=3) (v:=.int .i64 a1)) GE1.out (j:=4) (v:=.int .i64 0)) GE1.out (j:=5) (v:=.slice An ([(⟨a2,a3,false,[],true,[1]⟩:S34)]:List S34).length cn)⟩
 | false=>
  simp only [if_true,Bool.false_eq_true,if_false] at h A7;have HH:=zzm h;clear h;go_enter Try.func20,Try.ntmps20;go_upto_region 5 with (first|((with_reducible refine gate_dst (N:=10) rfl ?_);refine box_event ?hg (N:=10) ?hd (cs:=#[.bool false,.bool false,.int .i64 0,.int .i64 0,.int .i64 0,.slice none 0 0]) (t:=27) ?hr ?_;(case hd=>rfl);(case hg=>rfl);(case hr=>first|(go_simp;done)|(go_simp;rfl));intro g1 hg w1 hbox hb;have HB1:=zzm (zzp HB.out hb);have BK1:=zzm hbox;have GE1:=zzm (show w.heap.size≤g1 by rw [hg];exact HB.out.size);clear hb hbox hg)|((with_reducible refine gate_dst (N:=18) rfl ?_);refine Kd.R_lit (Kd.int .i64) _ 3 ?hg (N:=18) ?hd (xs:=([]:List Int)) (inner:=[]) (ok:=fun _=>True) (okp:=fun _=>True) ?hr ?hp (fun _ hk=>hk) trivial (Below.refl _ _) (Nat.le_refl _) (by simp) ?_;(case hd=>rfl);(case hg=>rfl);(case hr=>first|(go_simp;done)|(go_simp;rfl));(case hp=>exact (Reps.none _ _));intro v18 w2 ho hb hg_ hnew_;have HK2:=zzm (Kd.R_lower (Kd.R_mono (Kd.R_bound (Kd.R_newB ho BK1.out)) (fun k hk=>(⟨Nat.le_trans HB1.out.size hk.2.1,hk.1.2⟩:w.heap.size≤k∧k≠g1))) HB1.out.size);have HB2:=zzm (zzp HB1.out hb);have BK2:=zzm (zzh BK1.out hb);clear hg_ hnew_ ho hb;obtain ⟨Ak,ck,e_⟩:=Kd.R_slice HK2.out;subst e_)|((with_reducible refine gate_dst (N:=20) rfl ?_);refine Kd.R_lit (Kd.int .i64) _ 3 ?hg (N:=20) ?hd (xs:=([0]:List Int)) (inner:=[.int .i64 0]) (ok:=fun _=>True) (okp:=fun _=>True) ?hr ?hp (fun _ hk=>hk) trivial (Below.refl _ _) (Nat.le_refl _) (by simp) ?_;(case hd=>rfl);(case hg=>rfl);(case hr=>first|(go_simp;done)|(go_simp;rfl));(case hp=>exact (Reps.one (show Kd.M (Kd.int .i64) _ _ _ 0 [.int .i64 0] from rfl) (Reps.none _ _)));intro v20 w3 ho hb hg_ hnew_;have HV3:=zzm (Kd.R_lower (Kd.R_mono (Kd.R_bound (Kd.R_newB ho BK2.out)) (fun k hk=>(⟨Nat.le_trans HB2.out.size hk.2.1,hk.1.2⟩:w.heap.size≤k∧k≠g1))) HB2.out.size);have HB3:=zzm (zzp HB2.out hb);have BK3:=zzm (zzh BK2.out hb);have HK3:=zzm (Kd.R_below HK2.out hb);clear hg_ hnew_ ho hb;obtain ⟨Av,cv,e_⟩:=Kd.R_slice HV3.out;subst e_)|((with_reducible refine gate_dst (N:=13) rfl ?_);refine box_event ?hg (N:=13) ?hd (cs:=#[.int .i64 0,.int .i64 0,.bool false,.slice none 0 0,.bool false,.slice none 0 0]) (t:=34) ?hr ?_;(case hd=>rfl);(case hg=>rfl);(case hr=>first|(go_simp;done)|(go_simp;rfl));intro g2 hg w4 hbox hb;have HB4:=zzm (zzp HB3.out hb);have BK4:=zzm (zzh BK3.out hb);have HK4:=zzm (Kd.R_below HK3.out hb);have HV4:=zzm (Kd.R_below HV3.out hb);have BX:=zzm hbox;have GE2:=zzm (show w.heap.size≤g2 by rw [hg];exact HB3.out.size);have NE:=zzm (show g1≠g2 by rw [hg];exact Nat.ne_of_lt (blk_lt BK3.out));clear hb hbox hg;have hz0:w4.cell? ⟨_,0,none⟩=some _:=(zzk BX.out 0).trans rfl;have hf0:=zzl BX.out 0;have hz1:w4.cell? ⟨_,1,none⟩=some _:=(zzk BX.out 1).trans rfl;have hf1:=zzl BX.out 1;have hz2:w4.cell? ⟨_,2,none⟩=some _:=(zzk BX.out 2).trans rfl;have hf2:=zzl BX.out 2;have hz3:w4.cell? ⟨_,3,none⟩=some _:=(zzk BX.out 3).trans rfl;have hf3:=zzl BX.out 3;have hz4:w4.cell? ⟨_,4,none⟩=some _:=(zzk BX.out 4).trans rfl;have hf4:=zzl BX.out 4;have hz5:w4.cell? ⟨_,5,none⟩=some _:=(zzk BX.out 5).trans rfl;have hf5:=zzl BX.out 5));have HK5:=zzm (Kd.R_mono (Kd.R_far (p:=⟨g2,5,none⟩) (Kd.R_far (p:=⟨g2,4,none⟩) (Kd.R_far (p:=⟨g2,3,none⟩) (Kd.R_far (p:=⟨g2,2,none⟩) (Kd.R_far (p:=⟨g2,1,none⟩) (Kd.R_far (p:=⟨g2,0,none⟩) (Kd.R_types HK4.out BX.out (by decide)) (fun _ hk=>hk.2) (.int .i64 a2)) (fun _ hk=>hk.2) (.int .i64 a3)) (fun _ hk=>hk.2) (.bool false)) (fun _ hk=>hk.2) (.slice Ak ([]:List Int).length ck)) (fun _ hk=>hk.2) (.bool true)) (fun _ hk=>hk.2) (.slice Av ([0]:List Int).length cv)) (fun k hk=>hk.1));have HV5:=zzm (Kd.R_mono (Kd.R_far (p:=⟨g2,5,none⟩) (Kd.R_far (p:=⟨g2,4,none⟩) (Kd.R_far (p:=⟨g2,3,none⟩) (Kd.R_far (p:=⟨g2,2,none⟩) (Kd.R_far (p:=⟨g2,1,none⟩) (Kd.R_far (p:=⟨g2,0,none⟩) (Kd.R_types HV4.out BX.out (by decide)) (fun _ hk=>hk.2) (.int .i64 a2)) (fun _ hk=>hk.2) (.int .i64 a3)) (fun _ hk=>hk.2) (.bool false)) (fun _ hk=>hk.2) (.slice Ak ([]:List Int).length ck)) (fun _ hk=>hk.2) (.bool true)) (fun _ hk=>hk.2) (.slice Av ([0]:List Int).length cv)) (fun k hk=>hk.1));have BK5:=zzm (zzj (p:=⟨g2,5,none⟩) (zzj (p:=⟨g2,4,none⟩) (zzj (p:=⟨g2,3,none⟩) (zzj (p:=⟨g2,2,none⟩) (zzj (p:=⟨g2,1,none⟩) (zzj (p:=⟨g2,0,none⟩) (BK4.out) NE.out (.int .i64 a2)) NE.out (.int .i64 a3)) NE.out (.bool false)) NE.out (.slice Ak ([]:List Int).length ck)) NE.out (.bool true)) NE.out (.slice Av ([0]:List Int).length cv));have BX5:=zzm (zzi (cs:=#[.int .i64 a2,.int .i64 a3,.bool false,.slice Ak ([]:List Int).length ck,.bool true,.slice none 0 0]) (cs':=#[.int .i64 a2,.int .i64 a3,.bool false,.slice Ak ([]:List Int).length ck,.bool true,.slice Av ([0]:List Int).length cv]) (zzi (cs:=#[.int .i64 a2,.int .i64 a3,.bool false,.slice Ak ([]:List Int).length ck,.bool false,.slice none 0 0]) (cs':=#[.int .i64 a2,.int .i64 a3,.bool false,.slice Ak ([]:List Int).length ck,.bool true,.slice none 0 0]) (zzi (cs:=#[.int .i64 a2,.int .i64 a3,.bool false,.slice none 0 0,.bool false,.slice none 0 0]) (cs':=#[.int .i64 a2,.int .i64 a3,.bool false,.slice Ak ([]:List Int).length ck,.bool false,.slice none 0 0]) (zzi (cs:=#[.int .i64 a2,.int .i64 a3,.bool false,.slice none 0 0,.bool false,.slice none 0 0]) (cs':=#[.int .i64 a2,.int .i64 a3,.bool false,.slice none 0 0,.bool false,.slice none 0 0]) (zzi (cs:=#[.int .i64 a2,.int .i64 0,.bool false,.slice none 0 0,.bool false,.slice none 0 0]) (cs':=#[.int .i64 a2,.int .i64 a3,.bool false,.slice none 0 0,.bool false,.slice none 0 0]) (zzi (cs:=#[.int .i64 0,.int .i64 0,.bool false,.slice none 0 0,.bool false,.slice none 0 0]) (cs':=#[.int .i64 a2,.int .i64 0,.bool false,.slice none 0 0,.bool false,.slice none 0 0]) (BX.out) 0 (.int .i64 a2) rfl) 1 (.int .i64 a3) rfl) 2 (.bool false) rfl) 3 (.slice Ak ([]:List Int).length ck) rfl) 4 (.bool true) rfl) 5 (.slice Av ([0]:List Int).length cv) rfl);have HB5:=zzm (zzd (zzd (zzd (zzd (zzd (zzd (HB4.out) GE2.out (j:=0) (v:=.int .i64 a2)) GE2.out (j:=1) (v:=.int .i64 a3)) GE2.out (j:=2) (v:=.bool false)) GE2.out (j:=3) (v:=.slice Ak ([]:List Int).length ck)) GE2.out (j:=4) (v:=.bool true)) GE2.out (j:=5) (v:=.slice Av ([0]:List Int).length cv));clear hz0 hz1 hz2 hz3 hz4 hz5 hf0 hf1 hf2 hf3 hf4 hf5 HB1 HB2 HB3 HB4 BK1 BK2 BK3 BK4 HK2 HK3 HK4 HV3 HV4 BX;generalize (((((w4.setCell ⟨g2,0,none⟩ (.int .i64 a2)).setCell ⟨g2,1,none⟩ (.int .i64 a3)).setCell ⟨g2,2,none⟩ (.bool false)).setCell ⟨g2,3,none⟩ (.slice Ak ([]:List Int).length ck)).setCell ⟨g2,4,none⟩ (.bool true)).setCell ⟨g2,5,none⟩ (.slice Av ([0]:List Int).length cv)=w5 at HK5 HV5 BK5 BX5 HB5 ⊢;have d0:w5.cell? ⟨g2,0,none⟩=some (.int .i64 a2):=(zzk BX5.out 0).trans rfl;have d1:w5.cell? ⟨g2,1,none⟩=some (.int .i64 a3):=(zzk BX5.out 1).trans rfl;have d2:w5.cell? ⟨g2,2,none⟩=some (.bool false):=(zzk BX5.out 2).trans rfl;have d3:w5.cell? ⟨g2,3,none⟩=some (.slice Ak ([]:List Int).length ck):=(zzk BX5.out 3).trans rfl;have d4:w5.cell? ⟨g2,4,none⟩=some (.bool true):=(zzk BX5.out 4).trans rfl;have d5:w5.cell? ⟨g2,5,none⟩=some (.slice Av ([0]:List Int).length cv):=(zzk BX5.out 5).trans rfl;go_upto_region 6 with (first|((with_reducible refine gate_dst (N:=25) rfl ?_);refine Kd.N_lit k34 _ 34 ?hg (N':=25) ?hd (xs:=([(⟨a2,a3,false,[],true,[0]⟩:S34)]:List (S34))) (inner:=[.int .i64 a2,.int .i64 a3,.bool false,.slice Ak ([]:List Int).length ck,.bool true,.slice Av ([0]:List Int).length cv]) (ok:=(fun k=>w.heap.size≤k∧k≠g1)) (okp:=(fun k=>w.heap.size≤k∧k≠g1)) ?hr ?hp (fun _ hk=>hk) ((show ∀ k,w5.heap.size≤k→(fun k=>w.heap.size≤k∧k≠g1) k from fun k hk=>⟨Nat.le_trans HB5.out.size hk,fun e=>by have:=blk_lt BK5.out;omega⟩) _ (Nat.le_refl _)) (Below.refl _ _) (Nat.le_refl _) (by simp) ?_;(case hd=>rfl);(case hg=>rfl);(case hr=>first|(go_simp;done)|(go_simp;rfl));(case hp=>exact (Reps.c6 (show Kd.FK k34 _ _ (⟨a2,a3,false,[],true,[0]⟩:S34) [.int .i64 a2,.int .i64 a3,.bool false,.slice Ak ([]:List Int).length ck,.bool true,.slice Av ([0]:List Int).length cv] from (k34_mkF _ _ (⟨a2,a3,false,[],true,[0]⟩:S34) (Kd.R_reads' HK5.out).2.1 (Kd.R_F HK5.out) (Kd.R_reads' HV5.out).2.1 (Kd.R_F HV5.out))) (Reps.none _ _)));intro v25 w6 ho hb hg_ hnew_;have HN6:=zzm (Kd.N_lower ho HB5.out.size);have HB6:=zzm (zzp HB5.out hb);have BK6:=zzm (zzh BK5.out hb);clear hg_ hnew_ ho hb;obtain ⟨An,cn,e_⟩:=Kd.N_slice HN6.out;subst e_)|((with_reducible refine gate_dst (N:=14) rfl ?_);refine box_event ?hg (N:=14) ?hd (cs:=#[.bool false,.bool false,.int .i64 0,.int .i64 0,.int .i64 0,.slice none 0 0]) (t:=27) ?hr ?_;(case hd=>rfl);(case hg=>rfl);(case hr=>first|(go_simp;done)|(go_simp;rfl));intro g3 hg w7 hbox hb;have HB7:=zzm (zzp HB6.out hb);have BK7:=zzm (zzh BK6.out hb);have HN7:=zzm (Kd.N_below (Kd.N_elderB HN6.out g3 (Nat.le_of_eq hg.symm)) hb);have BY:=zzm hbox;have GE3:=zzm (show w.heap.size≤g3 by rw [hg];exact HB6.out.size);have NE3:=zzm (show g1≠g3 by rw [hg];exact Nat.ne_of_lt (blk_lt BK6.out));clear hb hbox hg d0 d1 d2 d3 d4 d5;have hz0:w7.cell? ⟨_,0,none⟩=some _:=(zzk BY.out 0).trans rfl;have hf0:=zzl BY.out 0;have hz1:w7.cell? ⟨_,1,none⟩=some _:=(zzk BY.out 1).trans rfl;have hf1:=zzl BY.out 1;have hz2:w7.cell? ⟨_,2,none⟩=some _:=(zzk BY.out 2).trans rfl;have hf2:=zzl BY.out 2;have hz3:w7.cell? ⟨_,3,none⟩=some _:=(zzk BY.out 3).trans rfl;have hf3:=zzl BY.out 3;have hz4:w7.cell? ⟨_,4,none⟩=some _:=(zzk BY.out 4).trans rfl;have hf4:=zzl BY.out 4;have hz5:w7.cell? ⟨_,5,none⟩=some _:=(zzk BY.out 5).trans rfl;have hf5:=zzl BY.out 5));have HN8:=zzm (Kd.N_far (p:=⟨g3,5,none⟩) (Kd.N_far (p:=⟨g3,4,none⟩) (Kd.N_far (p:=⟨g3,3,none⟩) (Kd.N_far (p:=⟨g3,2,none⟩) (Kd.N_far (p:=⟨g3,1,none⟩) (Kd.N_far (p:=⟨g3,0,none⟩) (HN7.out) (fun _ hk=>hk.2) (.bool false)) (fun _ hk=>hk.2) (.bool true)) (fun _ hk=>hk.2) (.int .i64 a0)) (fun _ hk=>hk.2) (.int .i64 a1)) (fun _ hk=>hk.2) (.int .i64 0)) (fun _ hk=>hk.2) (.slice An ([(⟨a2,a3,false,[],true,[0]⟩:S34)]:List S34).length cn));have BK8:=zzm (zzj (p:=⟨g3,5,none⟩) (zzj (p:=⟨g3,4,none⟩) (zzj (p:=⟨g3,3,none⟩) (zzj (p:=⟨g3,2,none⟩) (zzj (p:=⟨g3,1,none⟩) (zzj (p:=⟨g3,0,none⟩) (BK7.out) NE3.out (.bool false)) NE3.out (.bool true)) NE3.out (.int .i64 a0)) NE3.out (.int .i64 a1)) NE3.out (.int .i64 0)) NE3.out (.slice An ([(⟨a2,a3,false,[],true,[0]⟩:S34)]:List S34).length cn));have BY8:=zzm (zzi (cs:=#[.bool false,.bool true,.int .i64 a0,.int .i64 a1,.int .i64 0,.slice none 0 0]) (cs':=#[.bool false,.bool true,.int .i64 a0,.int .i64 a1,.int .i64 0,.slice An ([(⟨a2,a3,false,[],true,[0]⟩:S34)]:List S34).length cn]) (zzi (cs:=#[.bool false,.bool true,.int .i64 a0,.int .i64 a1,.int .i64 0,.slice none 0 0]) (cs':=#[.bool false,.bool true,.int .i64 a0,.int .i64 a1,.int .i64 0,.slice none 0 0]) (zzi (cs:=#[.bool false,.bool true,.int .i64 a0,.int .i64 0,.int .i64 0,.slice none 0 0]) (cs':=#[.bool false,.bool true,.int .i64 a0,.int .i64 a1,.int .i64 0,.slice none 0 0]) (zzi (cs:=#[.bool false,.bool true,.int .i64 0,.int .i64 0,.int .i64 0,.slice none 0 0]) (cs':=#[.bool false,.bool true,.int .i64 a0,.int .i64 0,.int .i64 0,.slice none 0 0]) (zzi (cs:=#[.bool false,.bool false,.int .i64 0,.int .i64 0,.int .i64 0,.slice none 0 0]) (cs':=#[.bool false,.bool true,.int .i64 0,.int .i64 0,.int .i64 0,.slice none 0 0]) (zzi (cs:=#[.bool false,.bool false,.int .i64 0,.int .i64 0,.int .i64 0,.slice none 0 0]) (cs':=#[.bool false,.bool false,.int .i64 0,.int .i64 0,.int .i64 0,.slice none 0 0]) (BY.out) 0 (.bool false) rfl) 1 (.bool true) rfl) 2 (.int .i64 a0) rfl) 3 (.int .i64 a1) rfl) 4 (.int .i64 0) rfl) 5 (.slice An ([(⟨a2,a3,false,[],true,[0]⟩:S34)]:List S34).length cn) rfl);have HB8:=zzm (zzd (zzd (zzd (zzd (zzd (zzd (HB7.out) GE3.out (j:=0) (v:=.bool false)) GE3.out (j:=1) (v:=.bool true)) GE3.out (j:=2) (v:=.int .i64 a0)) GE3.out (j:=3) (v:=.int .i64 a1)) GE3.out (j:=4) (v:=.int .i64 0)) GE3.out (j:=5) (v:=.slice An ([(⟨a2,a3,false,[],true,[0]⟩:S34)]:List S34).length cn));clear hz0 hz1 hz2 hz3 hz4 hz5 hf0 hf1 hf2 hf3 hf4 hf5 HB5 HB6 HB7 BK5 BK6 BK7 HN6 HN7 HK5 HV5 BX5 BY;generalize (((((w7.setCell ⟨g3,0,none⟩ (.bool false)).setCell ⟨g3,1,none⟩ (.bool true)).setCell ⟨g3,2,none⟩ (.int .i64 a0)).setCell ⟨g3,3,none⟩ (.int .i64 a1)).setCell ⟨g3,4,none⟩ (.int .i64 0)).setCell ⟨g3,5,none⟩ (.slice An ([(⟨a2,a3,false,[],true,[0]⟩:S34)]:List S34).length cn)=w8 at HN8 BK8 BY8 HB8 ⊢;have d0:w8.cell? ⟨g3,0,none⟩=some (.bool false):=(zzk BY8.out 0).trans rfl;have d1:w8.cell? ⟨g3,1,none⟩=some (.bool true):=(zzk BY8.out 1).trans rfl;have d2:w8.cell? ⟨g3,2,none⟩=some (.int .i64 a0):=(zzk BY8.out 2).trans rfl;have d3:w8.cell? ⟨g3,3,none⟩=some (.int .i64 a1):=(zzk BY8.out 3).trans rfl;have d4:w8.cell? ⟨g3,4,none⟩=some (.int .i64 0):=(zzk BY8.out 4).trans rfl;have d5:w8.cell? ⟨g3,5,none⟩=some (.slice An ([(⟨a2,a3,false,[],true,[0]⟩:S34)]:List S34).length cn):=(zzk BY8.out 5).trans rfl;go_wp2_with (((with_reducible refine gate_callee (f:=55) rfl ?_);refine goesL_ (some 28) rfl rfl Try.func55 (by kernel_rfl) rfl #[.agg #[.bool false,.bool true,.int .i64 a0,.int .i64 a1,.int .i64 0,.slice An ([(⟨a2,a3,false,[],true,[0]⟩:S34)]:List S34).length cn]] rfl (by (try simp only [map_toArray,map_cons,map_nil]);first|done|rfl) ?_;(with_reducible refine (spec_BatchValid.calls k false true a0 a1 0 _ _ ([(⟨a2,a3,false,[],true,[0]⟩:S34)]:List S34) t _ ?s1 ?s2 A7.out).mono ?_);(case s1=>exact (Kd.N_reads' HN8.out).2.2);(case s2=>exact (Kd.N_reads' HN8.out).2.1);rintro e w9 ⟨rfl,hb⟩;refine ⟨_,rfl,?_⟩;have HN9:=zzm (Kd.N_below HN8.out hb);have BK9:=zzm (zzh BK8.out hb);have BY9:=zzm (zzh BY8.out hb);have HB9:=zzm (zzp HB8.out hb);clear hb d0 d1 d2 d3 d4 d5;have hz0:w9.cell? ⟨_,0,none⟩=some _:=(zzk BK9.out 0).trans rfl;have hf0:=zzl BK9.out 0;have hz1:w9.cell? ⟨_,1,none⟩=some _:=(zzk BK9.out 1).trans rfl;have hf1:=zzl BK9.out 1;have hz2:w9.cell? ⟨_,2,none⟩=some _:=(zzk BK9.out 2).trans rfl;have hf2:=zzl BK9.out 2;have hz3:w9.cell? ⟨_,3,none⟩=some _:=(zzk BK9.out 3).trans rfl;have hf3:=zzl BK9.out 3;have hz4:w9.cell? ⟨_,4,none⟩=some _:=(zzk BK9.out 4).trans rfl;have hf4:=zzl BK9.out 4;have hz5:w9.cell? ⟨_,5,none⟩=some _:=(zzk BK9.out 5).trans rfl;have hf5:=zzl BK9.out 5;have d0:w9.cell? ⟨g3,0,none⟩=some (.bool false):=(zzk BY9.out 0).trans rfl;have d1:w9.cell? ⟨g3,1,none⟩=some (.bool true):=(zzk BY9.out 1).trans rfl;have d2:w9.cell? ⟨g3,2,none⟩=some (.int .i64 a0):=(zzk BY9.out 2).trans rfl;have d3:w9.cell? ⟨g3,3,none⟩=some (.int .i64 a1):=(zzk BY9.out 3).trans rfl;have d4:w9.cell? ⟨g3,4,none⟩=some (.int .i64 0):=(zzk BY9.out 4).trans rfl;have d5:w9.cell? ⟨g3,5,none⟩=some (.slice An ([(⟨a2,a3,false,[],true,[0]⟩:S34)]:List S34).length cn):=(zzk BY9.out 5).trans rfl;cases t))
  ·
   have h2:=HH.out;simp only [if_true,Bool.false_eq_true,if_false,Option.some.injEq,Prod.mk.injEq] at h2;obtain ⟨rfl,rfl,rfl,rfl,rfl,rfl,rfl⟩:=h2;refine bodyPost_ret (results_ct rfl _ _ g1 27 #[.bool false,.bool false,.int .i64 0,.int .i64 0,.int .i64 0,.slice none 0 0] (0,0) _ rfl (zzi (cs:=#[.bool false,.bool false,.int .i64 0,.int .i64 0,.int .i64 0,.slice none 0 0]) (cs':=#[.bool false,.bool false,.int .i64 0,.int .i64 0,.int .i64 0,.slice none 0 0]) (zzi (cs:=#[.bool false,.bool false,.int .i64 0,.int .i64 0,.int .i64 0,.slice none 0 0]) (cs':=#[.bool false,.bool false,.int .i64 0,.int .i64 0,.int .i64 0,.slice none 0 0]) (zzi (cs:=#[.bool false,.bool false,.int .i64 0,.int .i64 0,.int .i64 0,.slice none 0 0]) (cs':=#[.bool false,.bool false,.int .i64 0,.int .i64 0,.int .i64 0,.slice none 0 0]) (zzi (cs:=#[.bool false,.bool false,.int .i64 0,.int .i64 0,.int .i64 0,.slice none 0 0]) (cs':=#[.bool false,.bool false,.int .i64 0,.int .i64 0,.int .i64 0,.slice none 0 0]) (zzi (cs:=#[.bool false,.bool false,.int .i64 0,.int .i64 0,.int .i64 0,.slice none 0 0]) (cs':=#[.bool false,.bool false,.int .i64 0,.int .i64 0,.int .i64 0,.slice none 0 0]) (zzi (cs:=#[.bool false,.bool false,.int .i64 0,.int .i64 0,.int .i64 0,.slice none 0 0]) (cs':=#[.bool false,.bool false,.int .i64 0,.int .i64 0,.int .i64 0,.slice none 0 0]) (BK9.out) 0 (.bool false) rfl) 1 (.bool false) rfl) 2 (.int .i64 0) rfl) 3 (.int .i64 0) rfl) 4 (.int .i64 0) rfl) 5 (.slice none 0 0) rfl) Try.underlying27 rfl (by kernel_rfl)) rfl ?_;exact ⟨_,rfl,Kd.N_nil _ _ _ _ _,zzd (zzd (zzd (zzd (zzd (zzd (HB9.out) GE1.out (j:=0) (v:=.bool false)) GE1.out (j:=1) (v:=.bool false)) GE1.out (j:=2) (v:=.int .i64 0)) GE1.out (j:=3) (v:=.int .i64 0)) GE1.out (j:=4) (v:=.int .i64 0)) GE1.out (j:=5) (v:=.slice none 0 0)⟩
  ·
   have h2:=HH.out;simp only [if_true,Bool.false_eq_true,if_false,Option.some.injEq,Prod.mk.injEq] at h2;obtain ⟨rfl,rfl,rfl,rfl,rfl,rfl,rfl⟩:=h2;refine bodyPost_ret (results_ct rfl _ _ g1 27 #[.bool false,.bool true,.int .i64 a0,.int .i64 a1,.int .i64 0,.slice An ([(⟨a2,a3,false,[],true,[0]⟩:S34)]:List S34).length cn] (0,0) _ rfl (zzi (cs:=#[.bool false,.bool true,.int .i64 a0,.int .i64 a1,.int .i64 0,.slice none 0 0]) (cs':=#[.bool false,.bool true,.int .i64 a0,.int .i64 a1,.int .i64 0,.slice An ([(⟨a2,a3,false,[],true,[0]⟩:S34)]:List S34).length cn]) (zzi (cs:=#[.bool false,.bool true,.int .i64 a0,.int .i64 a1,.int .i64 0,.slice none 0 0]) (cs':=#[.bool false,.bool true,.int .i64 a0,.int .i64 a1,.int .i64 0,.slice none 0 0]) (zzi (cs:=#[.bool false,.bool true,.int .i64 a0,.int .i64 0,.int .i64 0,.slice none 0 0]) (cs':=#[.bool false,.bool true,.int .i64 a0,.int .i64 a1,.int .i64 0,.slice none 0 0]) (zzi (cs:=#[.bool false,.bool true,.int .i64 0,.int .i64 0,.int .i64 0,.slice none 0 0]) (cs':=#[.bool false,.bool true,.int .i64 a0,.int .i64 0,.int .i64 0,.slice none 0 0]) (zzi (cs:=#[.bool false,.bool false,.int .i64 0,.int .i64 0,.int .i64 0,.slice none 0 0]) (cs':=#[.bool false,.bool true,.int .i64 0,.int .i64 0,.int .i64 0,.slice none 0 0]) (zzi (cs:=#[.bool false,.bool false,.int .i64 0,.int .i64 0,.int .i64 0,.slice none 0 0]) (cs':=#[.bool false,.bool false,.int .i64 0,.int .i64 0,.int .i64 0,.slice none 0 0]) (BK9.out) 0 (.bool false) rfl) 1 (.bool true) rfl) 2 (.int .i64 a0) rfl) 3 (.int .i64 a1) rfl) 4 (.int .i64 0) rfl) 5 (.slice An ([(⟨a2,a3,false,[],true,[0]⟩:S34)]:List S34).length cn) rfl) Try.underlying27 rfl (by kernel_rfl)) rfl ?_;exact ⟨_,rfl,Kd.N_mono (Kd.N_far (p:=⟨g1,5,none⟩) (Kd.N_far (p:=⟨g1,4,none⟩) (Kd.N_far (p:=⟨g1,3,none⟩) (Kd.N_far (p:=⟨g1,2,none⟩) (Kd.N_far (p:=⟨g1,1,none⟩) (Kd.N_far (p:=⟨g1,0,none⟩) (Kd.N_mono HN9.out (fun k hk=>(⟨hk.1.1,hk.1.2⟩:_∧k≠g1))) (fun _ hk=>hk.2) (.bool false)) (fun _ hk=>hk.2) (.bool true)) (fun _ hk=>hk.2) (.int .i64 a0)) (fun _ hk=>hk.2) (.int .i64 a1)) (fun _ hk=>hk.2) (.int .i64 0)) (fun _ hk=>hk.2) (.slice An ([(⟨a2,a3,false,[],true,[0]⟩:S34)]:List S34).length cn)) (fun _ hk=>hk.1),zzd (zzd (zzd (zzd (zzd (zzd (HB9.out) GE1.out (j:=0) (v:=.bool false)) GE1.out (j:=1) (v:=.bool true)) GE1.out (j:=2) (v:=.int .i64 a0)) GE1.out (j:=3) (v:=.int .i64 a1)) GE1.out (j:=4) (v:=.int .i64 0)) GE1.out (j:=5) (v:=.slice An ([(⟨a2,a3,false,[],true,[0]⟩:S34)]:List S34).length cn)⟩
def spec_l6Rd_pick.j0:Nat→Int→Bool→List Int→Int→Option (Int×Int)
 | 0,_,_,_,_=>none
 | k+1,x1,x24,x1000,x1001=>if x24=true then (some (0,x1001)) else (if (wrap64 (x1001 - 1)) < (x1000.length:Int) then (if 0≤(wrap64 (x1001 - 1)) then (if x1=0 then (none) else (some (Int.tmod (wrap64 (rd x1000 (wrap64 (x1001 - 1)))) x1,x1001))) else (none)) else (if (x1000.length:Int)=0 then (none) else (if 0≤(Int.tmod (wrap64 (x1001 - 1)) (x1000.length:Int)) then (if (Int.tmod (wrap64 (x1001 - 1)) (x1000.length:Int)) < (x1000.length:Int) then (if 0≤(Int.tmod (wrap64 ((wrap64 ((wrap64 (x1001 - 1)) * 7))+3)) (x1000.length:Int)) then (if (Int.tmod (wrap64 ((wrap64 ((wrap64 (x1001 - 1)) * 7))+3)) (x1000.length:Int)) < (x1000.length:Int) then (if x1=0 then (none) else (some (Int.tmod (Go.bits .xor .i64 (wrap64 ((wrap64 ((wrap64 ((wrap64 ((wrap64 (rd x1000 (Int.tmod (wrap64 (x1001 - 1)) (x1000.length:Int)))) * 131))+(wrap64 ((wrap64 (rd x1000 (Int.tmod (wrap64 ((wrap64 ((wrap64 (x1001 - 1)) * 7))+3)) (x1000.length:Int)))) * 1117))))+(wrap64 ((wrap64 (x1001 - 1)) * 29))))+(wrap64 ((wrap64 (Int.tdiv (wrap64 (x1001 - 1)) (x1000.length:Int))) * 53)))) (wrap64 (Int.tdiv (wrap64 ((wrap64 ((wrap64 ((wrap64 ((wrap64 (rd x1000 (Int.tmod (wrap64 (x1001 - 1)) (x1000.length:Int)))) * 131))+(wrap64 ((wrap64 (rd x1000 (Int.tmod (wrap64 ((wrap64 ((wrap64 (x1001 - 1)) * 7))+3)) (x1000.length:Int)))) * 1117))))+(wrap64 ((wrap64 (x1001 - 1)) * 29))))+(wrap64 ((wrap64 (Int.tdiv (wrap64 (x1001 - 1)) (x1000.length:Int))) * 53)))) 64))) x1,x1001))) else (none)) else (none)) else (none)) else (none))))
def spec_l6Rd_pick.f (k:Nat) (s0_0:List Int) (s0_1:Int) (a1:Int):Option (Int×Int):=if a1 < 1 then (spec_l6Rd_pick.j0 k a1 true s0_0 (wrap64 (s0_1+1))) else (spec_l6Rd_pick.j0 k a1 ((s0_0.length:Int)==0) s0_0 (wrap64 (s0_1+1)))
set_option maxHeartbeats 8000000 in
set_option maxRecDepth 100000 in
theorem spec_l6Rd_pick.calls (k:Nat) (g:Nat) (s0_0:List Int) (s0_1:Int) (a1:Int) (r1:Int) (r2:Int) (w0 w:World) (hI:IsS94 w0 w g s0_0 s0_1) (hB:Below w0.heap.size w0 w) (h:spec_l6Rd_pick.f k s0_0 s0_1 a1=some (r1,r2)) :
  Calls Try.prog 54 #[.pointer (some ⟨g,0,none⟩),.int .i64 a1] w fun e w'=>e = .returned (.int .i64 r1)∧IsS94 w0 w' g s0_0 r2∧Below w0.heap.size w0 w'∧KeepBut w w' g none:=by
 have HI0:=zzm hI;have HK:=zzm (KeepBut.refl w g none);have HL:=zzm hB.size;clear hI;have HW0:=zzm hB.size;have HB:=zzm hB;clear hB;have H:(if a1 < 1 then (spec_l6Rd_pick.j0 k a1 true s0_0 (wrap64 (s0_1+1))) else (spec_l6Rd_pick.j0 k a1 ((s0_0.length:Int)==0) s0_0 (wrap64 (s0_1+1))))=some (r1,r2):=h;clear h;have HC3:=zzm H;clear H;obtain ⟨ASz4_0,cSz4_0,HGz4,hgz4,HSz4_0⟩:=HI0.out;have hcz4_0:=cellS94_0 HGz4;have hcz4_1:=cellS94_1 HGz4;have hfz4_1:=zzl HGz4 1;clear HGz4 hgz4;go_enter Try.func54,Try.ntmps54;go_upto_region 2 with (fail);repeat (go_quiet (fail);go_upto_region 2 with (fail))
 go_cut [24] (fun v24 wc=>∃ (kq:Nat) (x24_2:Bool),v24 = .bool x24_2∧Aside0 (spec_l6Rd_pick.j0 kq a1 x24_2 s0_0 (wrap64 (s0_1+1))=some (r1,r2))∧Aside0 (kq≤k)∧Aside0 (IsS94 w0 wc g s0_0 (wrap64 (s0_1+1)))∧Aside0 (KeepBut w wc g none)∧Aside0 (Below w0.heap.size w0 wc))
 case first=>
  have H:=HC3.out;clear HC3;by_cases c5:a1 < 1
  ·
   rw [if_pos c5] at H;have c5b0:decide (a1 < 1)=true:=decide_eq_true c5;clear c5;(first|rw [c5b0]|(simp only [i64_w,i32_w];rw [c5b0])|skip);have H':=zzm H;clear H;go_wp2;repeat (go_quiet (fail);try go_wp2)
   go_meet
   case rel=>exact ⟨_,(true),(by first|rfl|(simp;done)|(simp [*];done)),H',⟨by first|omega|exact Nat.le_refl _⟩,⟨by repeat (first|(with_reducible first|exact HI0.out|apply IsS94.alloc|apply IsS94.drewN|apply IsS94.drew|apply IsS94.set_1)|exact HI0.out)⟩,⟨by repeat (first|(with_reducible first|exact HK.out|apply KeepBut.set_|apply keep_drewN|apply keep_drew|apply keep_alloc)|exact HK.out)⟩,⟨by repeat (first|(with_reducible first|exact HB.out|apply zza|apply zzb|apply zzc|refine zzd ?_ (IsS94.ge HI0.out))|exact HB.out)⟩⟩
  ·
   rw [if_neg c5] at H;have c5b0:decide (a1 < 1)=false:=decide_eq_false c5;clear c5;(first|rw [c5b0]|(simp only [i64_w,i32_w];rw [c5b0])|skip);have H':=zzm H;clear H;obtain ⟨ASz6_0,cSz6_0,HGz6,hgz6,HSz6_0⟩:=HI0.out;have hcz6_0:=cellS94_0 HGz6;have hcz6_1:=cellS94_1 HGz6;have hfz6_1:=zzl HGz6 1;clear HGz6 hgz6;go_wp2;repeat (go_quiet (fail);try go_wp2)
   go_meet
   case rel=>exact ⟨_,(((s0_0.length:Int)==0)),(by first|rfl|(simp;done)|(simp [*];done)),H',⟨by first|omega|exact Nat.le_refl _⟩,⟨by repeat (first|(with_reducible first|exact HI0.out|apply IsS94.alloc|apply IsS94.drewN|apply IsS94.drew|apply IsS94.set_1)|exact HI0.out)⟩,⟨by repeat (first|(with_reducible first|exact HK.out|apply KeepBut.set_|apply keep_drewN|apply keep_drew|apply keep_alloc)|exact HK.out)⟩,⟨by repeat (first|(with_reducible first|exact HB.out|apply zza|apply zzb|apply zzc|refine zzd ?_ (IsS94.ge HI0.out))|exact HB.out)⟩⟩
 case rest=>
  clear HC3;try clear p2
  try clear c5
  try clear c5b0
  try clear p6
  try clear hcz4_0
  try clear hcz4_1
  try clear hcz6_0
  try clear hcz6_1
  try clear hfz4_1
  try clear hfz6_1
  obtain ⟨kq,x24_2,rfl,HA,HJ2,HI0,HK,HB⟩:=hcut;cases kq with
  | zero=>exact absurd HA.out (by simp [spec_l6Rd_pick.j0])
  | succ kj2=>
   have H:=HA.out;clear HA;simp only [spec_l6Rd_pick.j0] at H;by_cases c7:x24_2=true
   ·
    subst c7;have H1:(some (0,(wrap64 (s0_1+1))))=some (r1,r2):=by rw [if_pos rfl] at H;exact H
    clear H;have H:=H1;clear H1;simp only [Option.some.injEq,Prod.mk.injEq] at H;obtain ⟨rfl,rfl⟩:=H;go_wp2;repeat (go_quiet (fail);try go_wp2)
    go_ret;exact ⟨by first|rfl|(simp [errW_none,errW_some] <;> rfl)|(simp [*,errW_none,errW_some] <;> rfl),by repeat (first|(with_reducible first|exact HI0.out|apply IsS94.alloc|apply IsS94.drewN|apply IsS94.drew|apply IsS94.set_1)|exact HI0.out),by repeat (first|(with_reducible first|exact HB.out|apply zza|apply zzb|apply zzc|refine zzd ?_ (IsS94.ge HI0.out))|exact HB.out),by repeat (first|(with_reducible first|exact HK.out|apply KeepBut.set_|apply keep_drewN|apply keep_drew|apply keep_alloc)|exact HK.out)⟩
   ·
    replace c7:=Bool.eq_false_iff.mpr c7;subst c7;have H1:(if (wrap64 ((wrap64 (s0_1+1)) - 1)) < (s0_0.length:Int) then (if 0≤(wrap64 ((wrap64 (s0_1+1)) - 1)) then (if a1=0 then (none) else (some (Int.tmod (wrap64 (rd s0_0 (wrap64 ((wrap64 (s0_1+1)) - 1)))) a1,(wrap64 (s0_1+1))))) else (none)) else (if (s0_0.length:Int)=0 then (none) else (if 0≤(Int.tmod (wrap64 ((wrap64 (s0_1+1)) - 1)) (s0_0.length:Int)) then (if (Int.tmod (wrap64 ((wrap64 (s0_1+1)) - 1)) (s0_0.length:Int)) < (s0_0.length:Int) then (if 0≤(Int.tmod (wrap64 ((wrap64 ((wrap64 ((wrap64 (s0_1+1)) - 1)) * 7))+3)) (s0_0.length:Int)) then (if (Int.tmod (wrap64 ((wrap64 ((wrap64 ((wrap64 (s0_1+1)) - 1)) * 7))+3)) (s0_0.length:Int)) < (s0_0.length:Int) then (if a1=0 then (none) else (some (Int.tmod (Go.bits .xor .i64 (wrap64 ((wrap64 ((wrap64 ((wrap64 ((wrap64 (rd s0_0 (Int.tmod (wrap64 ((wrap64 (s0_1+1)) - 1)) (s0_0.length:Int)))) * 131))+(wrap64 ((wrap64 (rd s0_0 (Int.tmod (wrap64 ((wrap64 ((wrap64 ((wrap64 (s0_1+1)) - 1)) * 7))+3)) (s0_0.length:Int)))) * 1117))))+(wrap64 ((wrap64 ((wrap64 (s0_1+1)) - 1)) * 29))))+(wrap64 ((wrap64 (Int.tdiv (wrap64 ((wrap64 (s0_1+1)) - 1)) (s0_0.length:Int))) * 53)))) (wrap64 (Int.tdiv (wrap64 ((wrap64 ((wrap64 ((wrap64 ((wrap64 (rd s0_0 (Int.tmod (wrap64 ((wrap64 (s0_1+1)) - 1)) (s0_0.length:Int)))) * 131))+(wrap64 ((wrap64 (rd s0_0 (Int.tmod (wrap64 ((wrap64 ((wrap64 ((wrap64 (s0_1+1)) - 1)) * 7))+3)) (s0_0.length:Int)))) * 1117))))+(wrap64 ((wrap64 ((wrap64 (s0_1+1)) - 1)) * 29))))+(wrap64 ((wrap64 (Int.tdiv (wrap64 ((wrap64 (s0_1+1)) - 1)) (s0_0.length:Int))) * 53)))) 64))) a1,(wrap64 (s0_1+1))))) else (none)) else (none)) else (none)) else (none))))=some (r1,r2):=by rw [if_neg (show ¬ (false=true) by decide)] at H;exact H
    clear H;have H:=H1;clear H1;by_cases c8:(wrap64 ((wrap64 (s0_1+1)) - 1)) < (s0_0.length:Int)
    ·
     rw [if_pos c8] at H;have c8b0:decide ((wrap64 ((wrap64 (s0_1+1)) - 1)) < (s0_0.length:Int))=true:=decide_eq_true c8;clear c8;obtain ⟨ji9,hji9⟩:∃ j_:Int,(wrap64 ((wrap64 (s0_1+1)) - 1))=j_:=⟨_,rfl⟩;replace H:(if 0≤(ji9) then (if a1=0 then (none) else (some (Int.tmod (wrap64 (rd s0_0 (ji9))) a1,(wrap64 (s0_1+1))))) else (none))=some (r1,r2):=by first|(rw [hji9] at H;exact H)|(simp only [hji9] at H ⊢;exact H)
     (try rw [hji9] at c8b0);have hji9w:(IntKind.i64.wrap ((wrap64 (s0_1+1)) - 1))=ji9:=(i64_w _).trans hji9;by_cases c10 : 0≤(ji9)
     ·
      rw [if_pos c10] at H;have c10b0:decide (0≤(ji9))=true:=decide_eq_true c10;clear c10;by_cases c11:a1=0
      ·
       rw [if_pos c11] at H;exact absurd H (by simp)
      ·
       rw [if_neg c11] at H;have c11b0:(a1==0)=false:=beq_eq_false_iff_ne.mpr c11;have c11b1:(a1 != 0)=true:=bne_iff_ne.mpr c11;simp only [Option.some.injEq,Prod.mk.injEq] at H;obtain ⟨rfl,rfl⟩:=H;obtain ⟨ASz12_0,cSz12_0,HGz12,hgz12,HSz12_0⟩:=HI0.out;have hcz12_0:=cellS94_0 HGz12;have hcz12_1:=cellS94_1 HGz12;have hfz12_1:=zzl HGz12 1;clear HGz12 hgz12;have p123 : 0≤((ji9):Int):=zzt;have q123:(ji9) < (s0_0.length:Int):=zzt;obtain ⟨ad123,e123,hx123_0⟩:=Kd.at_int HSz12_0 (ji9) p123 q123;cases e123;replace hx123_0:=pw_cell_below HB.out hx123_0;replace p123:=eq_true p123;replace q123:=eq_true q123;go_wp2;repeat (go_quiet (fail);try go_wp2)
       go_ret;exact ⟨by first|rfl|(simp [errW_none,errW_some] <;> rfl)|(simp only [← hji9];first|rfl|(simp [errW_none,errW_some] <;> rfl))|(simp [*,errW_none,errW_some] <;> rfl),by repeat (first|(with_reducible first|exact HI0.out|apply IsS94.alloc|apply IsS94.drewN|apply IsS94.drew|apply IsS94.set_1)|exact HI0.out),by repeat (first|(with_reducible first|exact HB.out|apply zza|apply zzb|apply zzc|refine zzd ?_ (IsS94.ge HI0.out))|exact HB.out),by repeat (first|(with_reducible first|exact HK.out|apply KeepBut.set_|apply keep_drewN|apply keep_drew|apply keep_alloc)|exact HK.out)⟩
     ·
      rw [if_neg c10] at H;exact absurd H (by simp)
    ·
     rw [if_neg c8] at H;have c8b0:decide ((wrap64 ((wrap64 (s0_1+1)) - 1)) < (s0_0.length:Int))=false:=decide_eq_false c8;clear c8;by_cases c13:(s0_0.length:Int)=0
     ·
      rw [if_pos c13] at H;exact absurd H (by simp)
     ·
      rw [if_neg c13] at H;have c13b0:((s0_0.length:Int)==0)=false:=beq_eq_false_iff_ne.mpr c13;have c13b1:((s0_0.length:Int) != 0)=true:=bne_iff_ne.mpr c13;have c13b2:¬ (s0_0 = []):=fun h_=>c13 (by rw [h_];rfl);obtain ⟨ji14,hji14⟩:∃ j_:Int,(Int.tmod (wrap64 ((wrap64 (s0_1+1)) - 1)) (s0_0.length:Int))=j_:=⟨_,rfl⟩;replace H:(if 0≤(ji14) then (if (ji14) < (s0_0.length:Int) then (if 0≤(Int.tmod (wrap64 ((wrap64 ((wrap64 ((wrap64 (s0_1+1)) - 1)) * 7))+3)) (s0_0.length:Int)) then (if (Int.tmod (wrap64 ((wrap64 ((wrap64 ((wrap64 (s0_1+1)) - 1)) * 7))+3)) (s0_0.length:Int)) < (s0_0.length:Int) then (if a1=0 then (none) else (some (Int.tmod (Go.bits .xor .i64 (wrap64 ((wrap64 ((wrap64 ((wrap64 ((wrap64 (rd s0_0 (ji14))) * 131))+(wrap64 ((wrap64 (rd s0_0 (Int.tmod (wrap64 ((wrap64 ((wrap64 ((wrap64 (s0_1+1)) - 1)) * 7))+3)) (s0_0.length:Int)))) * 1117))))+(wrap64 ((wrap64 ((wrap64 (s0_1+1)) - 1)) * 29))))+(wrap64 ((wrap64 (Int.tdiv (wrap64 ((wrap64 (s0_1+1)) - 1)) (s0_0.length:Int))) * 53)))) (wrap64 (Int.tdiv (wrap64 ((wrap64 ((wrap64 ((wrap64 ((wrap64 (rd s0_0 (ji14))) * 131))+(wrap64 ((wrap64 (rd s0_0 (Int.tmod (wrap64 ((wrap64 ((wrap64 ((wrap64 (s0_1+1)) - 1)) * 7))+3)) (s0_0.length:Int)))) * 1117))))+(wrap64 ((wrap64 ((wrap64 (s0_1+1)) - 1)) * 29))))+(wrap64 ((wrap64 (Int.tdiv (wrap64 ((wrap64 (s0_1+1)) - 1)) (s0_0.length:Int))) * 53)))) 64))) a1,(wrap64 (s0_1+1))))) else (none)) else (none)) else (none)) else (none))=some (r1,r2):=by first|(rw [hji14] at H;exact H)|(simp only [hji14] at H ⊢;exact H)
      by_cases c15 : 0≤(ji14)
      ·
       rw [if_pos c15] at H;have c15b0:decide (0≤(ji14))=true:=decide_eq_true c15;clear c15;by_cases c16:(ji14) < (s0_0.length:Int)
       ·
        rw [if_pos c16] at H;have c16b0:decide ((ji14) < (s0_0.length:Int))=true:=decide_eq_true c16;clear c16;obtain ⟨ji17,hji17⟩:∃ j_:Int,(Int.tmod (wrap64 ((wrap64 ((wrap64 ((wrap64 (s0_1+1)) - 1)) * 7))+3)) (s0_0.length:Int))=j_:=⟨_,rfl⟩;replace H:(if 0≤(ji17) then (if (ji17) < (s0_0.length:Int) then (if a1=0 then (none) else (some (Int.tmod (Go.bits .xor .i64 (wrap64 ((wrap64 ((wrap64 ((wrap64 ((wrap64 (rd s0_0 (ji14))) * 131))+(wrap64 ((wrap64 (rd s0_0 (ji17))) * 1117))))+(wrap64 ((wrap64 ((wrap64 (s0_1+1)) - 1)) * 29))))+(wrap64 ((wrap64 (Int.tdiv (wrap64 ((wrap64 (s0_1+1)) - 1)) (s0_0.length:Int))) * 53)))) (wrap64 (Int.tdiv (wrap64 ((wrap64 ((wrap64 ((wrap64 ((wrap64 (rd s0_0 (ji14))) * 131))+(wrap64 ((wrap64 (rd s0_0 (ji17))) * 1117))))+(wrap64 ((wrap64 ((wrap64 (s0_1+1)) - 1)) * 29))))+(wrap64 ((wrap64 (Int.tdiv (wrap64 ((wrap64 (s0_1+1)) - 1)) (s0_0.length:Int))) * 53)))) 64))) a1,(wrap64 (s0_1+1))))) else (none)) else (none))=some (r1,r2):=by first|(rw [hji17] at H;exact H)|(simp only [hji17] at H ⊢;exact H)
        by_cases c18 : 0≤(ji17)
        ·
         rw [if_pos c18] at H;have c18b0:decide (0≤(ji17))=true:=decide_eq_true c18;clear c18;by_cases c19:(ji17) < (s0_0.length:Int)
         ·
          rw [if_pos c19] at H;have c19b0:decide ((ji17) < (s0_0.length:Int))=true:=decide_eq_true c19;clear c19;by_cases c20:a1=0
          ·
           rw [if_pos c20] at H;exact absurd H (by simp)
          ·
           rw [if_neg c20] at H;have c20b0:(a1==0)=false:=beq_eq_false_iff_ne.mpr c20;have c20b1:(a1 != 0)=true:=bne_iff_ne.mpr c20;simp only [Option.some.injEq,Prod.mk.injEq] at H;obtain ⟨rfl,rfl⟩:=H;obtain ⟨ASz21_0,cSz21_0,HGz21,hgz21,HSz21_0⟩:=HI0.out;have hcz21_0:=cellS94_0 HGz21;have hcz21_1:=cellS94_1 HGz21;have hfz21_1:=zzl HGz21 1;clear HGz21 hgz21;have p124 : 0≤((ji14):Int):=zzt;have q124:(ji14) < (s0_0.length:Int):=zzt;obtain ⟨ad124,e124,hx124_0⟩:=Kd.at_int HSz21_0 (ji14) p124 q124;cases e124;replace hx124_0:=pw_cell_below HB.out hx124_0;replace p124:=eq_true p124;replace q124:=eq_true q124;have p125 : 0≤((ji17):Int):=zzt;have q125:(ji17) < (s0_0.length:Int):=zzt;obtain ⟨ad125,e125,hx125_0⟩:=Kd.at_int HSz21_0 (ji17) p125 q125;obtain rfl:ad124=ad125:=(by injection e125);replace hx125_0:=pw_cell_below HB.out hx125_0;replace p125:=eq_true p125;replace q125:=eq_true q125;go_wp2;repeat (go_quiet (fail);try go_wp2)
           go_ret;exact ⟨by first|rfl|(simp [errW_none,errW_some] <;> rfl)|(simp only [← hji14,← hji17];first|rfl|(simp [errW_none,errW_some] <;> rfl))|(simp [*,errW_none,errW_some] <;> rfl),by repeat (first|(with_reducible first|exact HI0.out|apply IsS94.alloc|apply IsS94.drewN|apply IsS94.drew|apply IsS94.set_1)|exact HI0.out),by repeat (first|(with_reducible first|exact HB.out|apply zza|apply zzb|apply zzc|refine zzd ?_ (IsS94.ge HI0.out))|exact HB.out),by repeat (first|(with_reducible first|exact HK.out|apply KeepBut.set_|apply keep_drewN|apply keep_drew|apply keep_alloc)|exact HK.out)⟩
         ·
          rw [if_neg c19] at H;exact absurd H (by simp)
        ·
         rw [if_neg c18] at H;exact absurd H (by simp)
       ·
        rw [if_neg c16] at H;exact absurd H (by simp)
      ·
       rw [if_neg c15] at H;exact absurd H (by simp)
mutual
def spec_l91Part.j0:Nat→List Int→Int→List Int→Int→Option (Bool×List Int×Int)
 | 0,_,_,_,_=>none
 | k+1,x4,x5,x1000,x1001=>spec_l91Part.l0 k x4 x5 0 x1000 x1001
def spec_l91Part.l0:Nat→List Int→Int→Int→List Int→Int→Option (Bool×List Int×Int)
 | 0,_,_,_,_,_=>none
 | k+1,x4,x5,x6,x1000,x1001=>if x6 < x5 then ((spec_l6Rd_pick.f k x1000 x1001 256).bind fun bt138=>((some (([1,2,3,bt138.1]:List Int):List Int)).bind fun y140=>((spec_l6Rd_pick.f k x1000 bt138.2 4).bind fun bt143=>(if 0≤bt143.1 then (if bt143.1 < (y140.length:Int) then (if x4.length < 17592186044416 then (spec_l91Part.l0 k (x4 ++ [rd y140 bt143.1]) x5 (wrap64 (x6+1)) x1000 bt143.2) else (none)) else (none)) else (none))))) else (some (true,x4,x1001))
end
def spec_l91Part.f (k:Nat) (s0_0:List Int) (s0_1:Int):Option (Bool×List Int×Int):=(spec_l6Rd_pick.f k s0_0 s0_1 4).bind fun bt126=>(if bt126.1=0 then (some (false,(([]:List Int)),bt126.2)) else ((some (([]:List Int):List Int)).bind fun y131=>((spec_l6Rd_pick.f k s0_0 bt126.2 5).bind fun bt134=>((spec_l6Rd_pick.f k s0_0 bt134.2 12).bind fun bt136=>(if bt136.1=0 then (spec_l91Part.j0 k y131 12 s0_0 bt136.2) else (spec_l91Part.j0 k y131 bt134.1 s0_0 bt136.2))))))
set_option maxHeartbeats 8000000 in
set_option maxRecDepth 100000 in
theorem spec_l91Part.calls (k:Nat) (g:Nat) (s0_0:List Int) (s0_1:Int) (r1:Bool) (r2:List Int) (r3:Int) (w0 w:World) (hI:IsS94 w0 w g s0_0 s0_1) (hB:Below w0.heap.size w0 w) (h:spec_l91Part.f k s0_0 s0_1=some (r1,r2,r3)) :
  Calls Try.prog 101 #[.pointer (some ⟨g,0,none⟩)] w fun e w'=>∃ v1_:Value,e = .returned (.tuple #[.bool r1,v1_])∧Kd.R (Kd.int .i64) 3 w' w.heap.size (fun _=>True) v1_ r2∧IsS94 w0 w' g s0_0 r3∧Below w0.heap.size w0 w'∧KeepBut w w' g none:=by
 have HI0:=zzm hI;have HK:=zzm (KeepBut.refl w g none);have HL:=zzm hB.size;clear hI;have HW0:=zzm hB.size;have HB:=zzm hB;clear hB;have H:((spec_l6Rd_pick.f k s0_0 s0_1 4).bind fun bt126=>(if bt126.1=0 then (some (false,(([]:List Int)),bt126.2)) else ((some (([]:List Int):List Int)).bind fun y131=>((spec_l6Rd_pick.f k s0_0 bt126.2 5).bind fun bt134=>((spec_l6Rd_pick.f k s0_0 bt134.2 12).bind fun bt136=>(if bt136.1=0 then (spec_l91Part.j0 k y131 12 s0_0 bt136.2) else (spec_l91Part.j0 k y131 bt134.1 s0_0 bt136.2)))))))=some (r1,r2,r3):=h;clear h;replace H:=Option.bind_eq_some_iff.mp H;obtain ⟨⟨t126,t127⟩,A20,H⟩:=H;replace H:(if t126=0 then (some (false,(([]:List Int)),t127)) else ((some (([]:List Int):List Int)).bind fun y131=>((spec_l6Rd_pick.f k s0_0 t127 5).bind fun bt134=>((spec_l6Rd_pick.f k s0_0 bt134.2 12).bind fun bt136=>(if bt136.1=0 then (spec_l91Part.j0 k y131 12 s0_0 bt136.2) else (spec_l91Part.j0 k y131 bt134.1 s0_0 bt136.2))))))=some (r1,r2,r3):=H;have A2:=zzm A20;clear A20;by_cases c3:t126=0
 ·
  rw [if_pos c3] at H;have c3b0:(t126==0)=true:=beq_iff_eq.mpr c3;have c3b1:(t126 != 0)=false:=bne_eq_false_iff_eq.mpr c3;clear c3;obtain ⟨y128,hy128⟩:∃ y_:List Int,y_=(([]:List Int)):=⟨_,rfl⟩;replace H:(some (false,y128,t127))=some (r1,r2,r3):=by first|(rw [hy128];with_reducible exact H)|(have H2_:=(Option.bind_some _ _).symm.trans H;rw [hy128];with_reducible exact H2_)|(have H2_:=(Option.bind_some _ _).symm.trans H;with_reducible exact H2_)|with_reducible exact H|(rw [hy128];exact H)|exact H
  have Ny128:=zzm hy128;clear hy128;simp only [Option.some.injEq,Prod.mk.injEq] at H;obtain ⟨rfl,rfl,rfl⟩:=H;go_enter Try.func101,Try.ntmps101;go_wp2_with (first|((with_reducible refine gate_callee (f:=54) rfl ?_);refine goesL_ (some 8) rfl rfl Try.func54 (by kernel_rfl) rfl #[.pointer (some ⟨g,0,none⟩),.int .i64 4] rfl zzM2 ?_;(with_reducible refine (spec_l6Rd_pick.calls k g s0_0 s0_1 4 t126 t127 w0 _ ?side1 ?side2 A2.out).mono ?_);(case side1=>repeat (first|(with_reducible first|exact HI0.out|apply IsS94.alloc|apply IsS94.drewN|apply IsS94.drew|apply IsS94.set_1)|exact HI0.out));(case side2=>repeat (first|(with_reducible first|exact HB.out|apply zza|apply zzb|apply zzc|refine zzd ?_ (IsS94.ge HI0.out))|exact HB.out));rintro e w4 ⟨rfl,hi,hb,hk⟩;refine ⟨_,rfl,?_⟩;have n0_:=zzm (KeepBut.trans (by repeat (first|(with_reducible first|exact HK.out|apply KeepBut.set_|apply keep_drewN|apply keep_drew|apply keep_alloc)|exact HK.out)) hk (.inl rfl));have n1_:=zzm (hb);have n2_:=zzm (hi);clear HK HB HI0;have HK:=n0_;have HB:=n1_;have HI0:=n2_;clear n0_ n1_ n2_;(try clear hb);(try clear hb2);(try clear hk);(try clear hi))|((with_reducible refine gate_dst (N:=10) rfl ?_);refine Kd.R_lit (Kd.int .i64) _ 3 ?hg (N:=10) ?hd (xs:=([]:List Int)) (inner:=[]) (ok:=fun _=>True) (okp:=fun _=>True) ?hr ?hp (fun _ hk=>hk) trivial (Below.refl _ _) (Nat.le_refl _) (by simp) ?_;(case hd=>rfl);(case hg=>rfl);(case hr=>first|(go_simp;done)|(go_simp;rfl));(case hp=>exact (Reps.none _ _));intro v129 w5 ho6 hb hg_ hnew_;clear hg_ hnew_;(first|rw [← Ny128.out] at ho6|(simp only [Int.reduceToNat] at ho6;rw [← Ny128.out] at ho6));have n0_:=zzm (Kd.R_lower ho6 (keep_size (w:=w) (g:=g) (row:=none) (by repeat (first|(with_reducible first|exact HK.out|apply KeepBut.set_|apply keep_drewN|apply keep_drew|apply keep_alloc)|exact HK.out))));have n1_:=zzm (IsS94.below (by repeat (first|(with_reducible first|exact HI0.out|apply IsS94.alloc|apply IsS94.drewN|apply IsS94.drew|apply IsS94.set_1)|exact HI0.out)) hb);have n2_:=zzm (KeepBut.trans (by repeat (first|(with_reducible first|exact HK.out|apply KeepBut.set_|apply keep_drewN|apply keep_drew|apply keep_alloc)|exact HK.out)) (KeepBut.of_below hb g none) (.inl rfl));have n3_:=zzm (zzp (by repeat (first|(with_reducible first|exact HB.out|apply zza|apply zzb|apply zzc|refine zzd ?_ (IsS94.ge HI0.out))|exact HB.out)) hb);clear HI0 HK HB;have HO130:=n0_;have HI0:=n1_;have HK:=n2_;have HB:=n3_;clear n0_ n1_ n2_ n3_ hb ho6));go_ret2;exact ⟨_,by first|rfl|(simp [errW_none,errW_some] <;> rfl)|(simp [*,errW_none,errW_some] <;> rfl),by (with_reducible repeat (first|apply Kd.R_alloc|apply Kd.R_drewN|apply Kd.R_drew));exact HO130.out,by repeat (first|(with_reducible first|exact HI0.out|apply IsS94.alloc|apply IsS94.drewN|apply IsS94.drew|apply IsS94.set_1)|exact HI0.out),by repeat (first|(with_reducible first|exact HB.out|apply zza|apply zzb|apply zzc|refine zzd ?_ (IsS94.ge HI0.out))|exact HB.out),by repeat (first|(with_reducible first|exact HK.out|apply KeepBut.set_|apply keep_drewN|apply keep_drew|apply keep_alloc)|exact HK.out)⟩
 ·
  rw [if_neg c3] at H;have c3b0:(t126==0)=false:=beq_eq_false_iff_ne.mpr c3;have c3b1:(t126 != 0)=true:=bne_iff_ne.mpr c3;obtain ⟨y131,hy131⟩:∃ y_:List Int,y_=(([]:List Int)):=⟨_,rfl⟩;replace H:((spec_l6Rd_pick.f k s0_0 t127 5).bind fun bt134=>((spec_l6Rd_pick.f k s0_0 bt134.2 12).bind fun bt136=>(if bt136.1=0 then (spec_l91Part.j0 k y131 12 s0_0 bt136.2) else (spec_l91Part.j0 k y131 bt134.1 s0_0 bt136.2))))=some (r1,r2,r3):=by first|(rw [hy131];with_reducible exact H)|(have H2_:=(Option.bind_some _ _).symm.trans H;rw [hy131];with_reducible exact H2_)|(have H2_:=(Option.bind_some _ _).symm.trans H;with_reducible exact H2_)|with_reducible exact H|(rw [hy131];exact H)|exact H
  have Ny131:=zzm hy131;clear hy131;replace H:=Option.bind_eq_some_iff.mp H;obtain ⟨⟨t134,t135⟩,A70,H⟩:=H;replace H:((spec_l6Rd_pick.f k s0_0 t135 12).bind fun bt136=>(if bt136.1=0 then (spec_l91Part.j0 k y131 12 s0_0 bt136.2) else (spec_l91Part.j0 k y131 t134 s0_0 bt136.2)))=some (r1,r2,r3):=H;have A7:=zzm A70;clear A70;replace H:=Option.bind_eq_some_iff.mp H;obtain ⟨⟨t136,t137⟩,A80,H⟩:=H;replace H:(if t136=0 then (spec_l91Part.j0 k y131 12 s0_0 t137) else (spec_l91Part.j0 k y131 t134 s0_0 t137))=some (r1,r2,r3):=H;have A8:=zzm A80;clear A80;have HC9:=zzm H;clear H;go_enter Try.func101,Try.ntmps101;go_upto_if 16 with (first|((with_reducible refine gate_callee (f:=54) rfl ?_);refine goesL_ (some 8) rfl rfl Try.func54 (by kernel_rfl) rfl #[.pointer (some ⟨g,0,none⟩),.int .i64 4] rfl zzM2 ?_;(with_reducible refine (spec_l6Rd_pick.calls k g s0_0 s0_1 4 t126 t127 w0 _ ?side1 ?side2 A2.out).mono ?_);(case side1=>repeat (first|(with_reducible first|exact HI0.out|apply IsS94.alloc|apply IsS94.drewN|apply IsS94.drew|apply IsS94.set_1)|exact HI0.out));(case side2=>repeat (first|(with_reducible first|exact HB.out|apply zza|apply zzb|apply zzc|refine zzd ?_ (IsS94.ge HI0.out))|exact HB.out));rintro e w10 ⟨rfl,hi,hb,hk⟩;refine ⟨_,rfl,?_⟩;have n0_:=zzm (KeepBut.trans (by repeat (first|(with_reducible first|exact HK.out|apply KeepBut.set_|apply keep_drewN|apply keep_drew|apply keep_alloc)|exact HK.out)) hk (.inl rfl));have n1_:=zzm (hb);have n2_:=zzm (hi);clear HK HB HI0;have HK:=n0_;have HB:=n1_;have HI0:=n2_;clear n0_ n1_ n2_;(try clear hb);(try clear hb2);(try clear hk);(try clear hi))|((with_reducible refine gate_dst (N:=11) rfl ?_);refine Kd.R_lit (Kd.int .i64) _ 3 ?hg (N:=11) ?hd (xs:=([]:List Int)) (inner:=[]) (ok:=fun _=>True) (okp:=fun _=>True) ?hr ?hp (fun _ hk=>hk) trivial (Below.refl _ _) (Nat.le_refl _) (by simp) ?_;(case hd=>rfl);(case hg=>rfl);(case hr=>first|(go_simp;done)|(go_simp;rfl));(case hp=>exact (Reps.none _ _));intro v132 w11 ho12 hb hg_ hnew_;clear hg_ hnew_;(first|rw [← Ny131.out] at ho12|(simp only [Int.reduceToNat] at ho12;rw [← Ny131.out] at ho12));have n0_:=zzm (Kd.R_lower ho12 (keep_size (w:=w) (g:=g) (row:=none) (by repeat (first|(with_reducible first|exact HK.out|apply KeepBut.set_|apply keep_drewN|apply keep_drew|apply keep_alloc)|exact HK.out))));have n1_:=zzm (IsS94.below (by repeat (first|(with_reducible first|exact HI0.out|apply IsS94.alloc|apply IsS94.drewN|apply IsS94.drew|apply IsS94.set_1)|exact HI0.out)) hb);have n2_:=zzm (KeepBut.trans (by repeat (first|(with_reducible first|exact HK.out|apply KeepBut.set_|apply keep_drewN|apply keep_drew|apply keep_alloc)|exact HK.out)) (KeepBut.of_below hb g none) (.inl rfl));have n3_:=zzm (zzp (by repeat (first|(with_reducible first|exact HB.out|apply zza|apply zzb|apply zzc|refine zzd ?_ (IsS94.ge HI0.out))|exact HB.out)) hb);clear HI0 HK HB;have HO133:=n0_;have HI0:=n1_;have HK:=n2_;have HB:=n3_;clear n0_ n1_ n2_ n3_ hb ho12)|((with_reducible refine gate_callee (f:=54) rfl ?_);refine goesL_ (some 13) rfl rfl Try.func54 (by kernel_rfl) rfl #[.pointer (some ⟨g,0,none⟩),.int .i64 5] rfl zzM2 ?_;(with_reducible refine (spec_l6Rd_pick.calls k g s0_0 t127 5 t134 t135 w0 _ ?side1 ?side2 A7.out).mono ?_);(case side1=>repeat (first|(with_reducible first|exact HI0.out|apply IsS94.alloc|apply IsS94.drewN|apply IsS94.drew|apply IsS94.set_1)|exact HI0.out));(case side2=>repeat (first|(with_reducible first|exact HB.out|apply zza|apply zzb|apply zzc|refine zzd ?_ (IsS94.ge HI0.out))|exact HB.out));rintro e w13 ⟨rfl,hi,hb,hk⟩;refine ⟨_,rfl,?_⟩;have n0_:=zzm (Kd.R_mono (Kd.R_keep (IsS94.apart (show IsS94 w0 _ g s0_0 t127 from by repeat (first|(with_reducible first|exact HI0.out|apply IsS94.alloc|apply IsS94.drewN|apply IsS94.drew|apply IsS94.set_1)|exact HI0.out)) (by (with_reducible repeat (first|apply Kd.R_alloc|apply Kd.R_drewN|apply Kd.R_drew));exact HO133.out) (by decide)) hk (fun _ h=>h.2)) (fun _ h=>h.1));have n1_:=zzm (KeepBut.trans (by repeat (first|(with_reducible first|exact HK.out|apply KeepBut.set_|apply keep_drewN|apply keep_drew|apply keep_alloc)|exact HK.out)) hk (.inl rfl));have n2_:=zzm (hb);have n3_:=zzm (hi);clear HO133 HK HB HI0;have HO133:=n0_;have HK:=n1_;have HB:=n2_;have HI0:=n3_;clear n0_ n1_ n2_ n3_;(try clear hb);(try clear hb2);(try clear hk);(try clear hi))|((with_reducible refine gate_callee (f:=54) rfl ?_);refine goesL_ (some 15) rfl rfl Try.func54 (by kernel_rfl) rfl #[.pointer (some ⟨g,0,none⟩),.int .i64 12] rfl zzM2 ?_;(with_reducible refine (spec_l6Rd_pick.calls k g s0_0 t135 12 t136 t137 w0 _ ?side1 ?side2 A8.out).mono ?_);(case side1=>repeat (first|(with_reducible first|exact HI0.out|apply IsS94.alloc|apply IsS94.drewN|apply IsS94.drew|apply IsS94.set_1)|exact HI0.out));(case side2=>repeat (first|(with_reducible first|exact HB.out|apply zza|apply zzb|apply zzc|refine zzd ?_ (IsS94.ge HI0.out))|exact HB.out));rintro e w14 ⟨rfl,hi,hb,hk⟩;refine ⟨_,rfl,?_⟩;have n0_:=zzm (Kd.R_mono (Kd.R_keep (IsS94.apart (show IsS94 w0 _ g s0_0 t135 from by repeat (first|(with_reducible first|exact HI0.out|apply IsS94.alloc|apply IsS94.drewN|apply IsS94.drew|apply IsS94.set_1)|exact HI0.out)) (by (with_reducible repeat (first|apply Kd.R_alloc|apply Kd.R_drewN|apply Kd.R_drew));exact HO133.out) (by decide)) hk (fun _ h=>h.2)) (fun _ h=>h.1));have n1_:=zzm (KeepBut.trans (by repeat (first|(with_reducible first|exact HK.out|apply KeepBut.set_|apply keep_drewN|apply keep_drew|apply keep_alloc)|exact HK.out)) hk (.inl rfl));have n2_:=zzm (hb);have n3_:=zzm (hi);clear HO133 HK HB HI0;have HO133:=n0_;have HK:=n1_;have HB:=n2_;have HI0:=n3_;clear n0_ n1_ n2_ n3_;(try clear hb);(try clear hb2);(try clear hk);(try clear hi)));(try simp only [Act.put,zzq,zzr,zzs]);go_cut [5] (fun v5 wc=>∃ (kq:Nat) (x5_8:Int),v5 = .int .i64 x5_8∧Aside0 (spec_l91Part.j0 kq y131 x5_8 s0_0 t137=some (r1,r2,r3))∧Aside0 (kq≤k)∧Aside0 (Kd.R (Kd.int .i64) 3 wc w.heap.size (fun _=>True) v132 y131)∧Aside0 (IsS94 w0 wc g s0_0 t137)∧Aside0 (KeepBut w wc g none)∧Aside0 (Below w0.heap.size w0 wc))
  case first=>
   have H:=HC9.out;clear HC9;by_cases c15:t136=0
   ·
    rw [if_pos c15] at H;have c15b0:(t136==0)=true:=beq_iff_eq.mpr c15;have c15b1:(t136 != 0)=false:=bne_eq_false_iff_eq.mpr c15;clear c15;(first|rw [c15b0]|(simp only [i64_w,i32_w];rw [c15b0])|skip);have H':=zzm H;clear H;go_wp2;go_meet
    case rel=>exact ⟨_,(12),(by first|rfl|(simp;done)|(simp [*];done)),H',⟨by first|omega|exact Nat.le_refl _⟩,⟨by (with_reducible repeat (first|apply Kd.R_alloc|apply Kd.R_drewN|apply Kd.R_drew));exact HO133.out⟩,⟨by repeat (first|(with_reducible first|exact HI0.out|apply IsS94.alloc|apply IsS94.drewN|apply IsS94.drew|apply IsS94.set_1)|exact HI0.out)⟩,⟨by repeat (first|(with_reducible first|exact HK.out|apply KeepBut.set_|apply keep_drewN|apply keep_drew|apply keep_alloc)|exact HK.out)⟩,⟨by repeat (first|(with_reducible first|exact HB.out|apply zza|apply zzb|apply zzc|refine zzd ?_ (IsS94.ge HI0.out))|exact HB.out)⟩⟩
   ·
    rw [if_neg c15] at H;have c15b0:(t136==0)=false:=beq_eq_false_iff_ne.mpr c15;have c15b1:(t136 != 0)=true:=bne_iff_ne.mpr c15;(first|rw [c15b0]|(simp only [i64_w,i32_w];rw [c15b0])|skip);have H':=zzm H;clear H;go_wp2;go_meet
    case rel=>exact ⟨_,(t134),(by first|rfl|(simp;done)|(simp [*];done)),H',⟨by first|omega|exact Nat.le_refl _⟩,⟨by (with_reducible repeat (first|apply Kd.R_alloc|apply Kd.R_drewN|apply Kd.R_drew));exact HO133.out⟩,⟨by repeat (first|(with_reducible first|exact HI0.out|apply IsS94.alloc|apply IsS94.drewN|apply IsS94.drew|apply IsS94.set_1)|exact HI0.out)⟩,⟨by repeat (first|(with_reducible first|exact HK.out|apply KeepBut.set_|apply keep_drewN|apply keep_drew|apply keep_alloc)|exact HK.out)⟩,⟨by repeat (first|(with_reducible first|exact HB.out|apply zza|apply zzb|apply zzc|refine zzd ?_ (IsS94.ge HI0.out))|exact HB.out)⟩⟩
  case rest=>
   clear HC9;try clear c1
   try clear p2
   try clear c3
   try clear c3b0
   try clear c3b1
   try clear c5
   try clear c10
   try clear c15
   try clear c15b0
   try clear c15b1
   obtain ⟨kq,x5_8,rfl,HA,HJ8,HO_4,HI0,HK,HB⟩:=hcut;cases kq with
   | zero=>exact absurd HA.out (by simp [spec_l91Part.j0])
   | succ kj8=>
    have H:=HA.out;clear HA;simp only [spec_l91Part.j0] at H;have H':=zzm H;clear H;go_wp2;go_loopg [4,6] kj8 (fun kq v4 v6 w'=>∃ (x4_2:List Int) (x6_2:Int) (x1001_2:Int),v6 = .int .i64 x6_2∧Aside0 (spec_l91Part.l0 kq x4_2 x5_8 x6_2 s0_0 x1001_2=some (r1,r2,r3))∧Aside0 (kq≤kj8)∧Aside0 (Kd.R (Kd.int .i64) 3 w' w.heap.size (fun _=>True) v4 x4_2)∧Aside0 (IsS94 w0 w' g s0_0 x1001_2)∧Aside0 (KeepBut w w' g none)∧Aside0 (Below w0.heap.size w0 w'))
    case atStart=>exact ⟨(y131),(0),(t137),(by first|rfl|(simp;done)|(simp [*];done)),H',⟨Nat.le_refl _⟩,⟨by (with_reducible repeat (first|apply Kd.R_alloc|apply Kd.R_drewN|apply Kd.R_drew));exact HO_4.out⟩,⟨by repeat (first|(with_reducible first|exact HI0.out|apply IsS94.alloc|apply IsS94.drewN|apply IsS94.drew|apply IsS94.set_1)|exact HI0.out)⟩,⟨by repeat (first|(with_reducible first|exact HK.out|apply KeepBut.set_|apply keep_drewN|apply keep_drew|apply keep_alloc)|exact HK.out)⟩,⟨by repeat (first|(with_reducible first|exact HB.out|apply zza|apply zzb|apply zzc|refine zzd ?_ (IsS94.ge HI0.out))|exact HB.out)⟩⟩
    case round=>
     clear H';try clear c1
     try clear p2
     try clear c3
     try clear c3b0
     try clear c3b1
     try clear c5
     try clear c10
     try clear c15
     try clear c15b0
     try clear c15b1
     try clear p2
     obtain ⟨x4_2,x6_2,x1001_2,rfl,HA,HK2,HO_4,HI0,HK,HB⟩:=hrel;cases gk with
     | zero=>exact absurd HA.out (by simp [spec_l91Part.l0])
     | succ k2=>
      have H:=HA.out;clear HA;simp only [spec_l91Part.l0] at H;by_cases c16:x6_2 < x5_8
      ·
       rw [if_pos c16] at H;have c16b0:decide (x6_2 < x5_8)=true:=decide_eq_true c16;clear c16;replace H:=Option.bind_eq_some_iff.mp H;obtain ⟨⟨t138,t139⟩,A170,H⟩:=H;replace H:((some (([1,2,3,t138]:List Int):List Int)).bind fun y140=>((spec_l6Rd_pick.f k2 s0_0 t139 4).bind fun bt143=>(if 0≤bt143.1 then (if bt143.1 < (y140.length:Int) then (if x4_2.length < 17592186044416 then (spec_l91Part.l0 k2 (x4_2 ++ [rd y140 bt143.1]) x5_8 (wrap64 (x6_2+1)) s0_0 bt143.2) else (none)) else (none)) else (none))))=some (r1,r2,r3):=H;have A17:=zzm A170;clear A170;obtain ⟨y140,hy140⟩:∃ y_:List Int,y_=(([1,2,3,t138]:List Int)):=⟨_,rfl⟩;replace H:((spec_l6Rd_pick.f k2 s0_0 t139 4).bind fun bt143=>(if 0≤bt143.1 then (if bt143.1 < (y140.length:Int) then (if x4_2.length < 17592186044416 then (spec_l91Part.l0 k2 (x4_2 ++ [rd y140 bt143.1]) x5_8 (wrap64 (x6_2+1)) s0_0 bt143.2) else (none)) else (none)) else (none)))=some (r1,r2,r3):=by first|(rw [hy140];with_reducible exact H)|(have H2_:=(Option.bind_some _ _).symm.trans H;rw [hy140];with_reducible exact H2_)|(have H2_:=(Option.bind_some _ _).symm.trans H;with_reducible exact H2_)|with_reducible exact H|(rw [hy140];exact H)|exact H
       have Ny140:=zzm hy140;clear hy140;replace H:=Option.bind_eq_some_iff.mp H;obtain ⟨⟨t143,t144⟩,A180,H⟩:=H;replace H:(if 0≤t143 then (if t143 < (y140.length:Int) then (if x4_2.length < 17592186044416 then (spec_l91Part.l0 k2 (x4_2 ++ [rd y140 t143]) x5_8 (wrap64 (x6_2+1)) s0_0 t144) else (none)) else (none)) else (none))=some (r1,r2,r3):=H;have A18:=zzm A180;clear A180;by_cases c19 : 0≤t143
       ·
        rw [if_pos c19] at H;have c19b0:decide (0≤t143)=true:=decide_eq_true c19;clear c19;by_cases c20:t143 < (y140.length:Int)
        ·
         rw [if_pos c20] at H;have c20b0:decide (t143 < (y140.length:Int))=true:=decide_eq_true c20;clear c20;by_cases c21:x4_2.length < 17592186044416
         ·
          rw [if_pos c21] at H;have LMc21:=zzm c21;clear c21;obtain ⟨y146,hy146⟩:∃ y_:List Int,y_=(x4_2 ++ [rd y140 t143]):=⟨_,rfl⟩;replace H:(spec_l91Part.l0 k2 y146 x5_8 (wrap64 (x6_2+1)) s0_0 t144)=some (r1,r2,r3):=by first|(rw [hy146];with_reducible exact H)|(have H2_:=(Option.bind_some _ _).symm.trans H;rw [hy146];with_reducible exact H2_)|(have H2_:=(Option.bind_some _ _).symm.trans H;with_reducible exact H2_)|with_reducible exact H|(rw [hy146];exact H)|exact H
          have Ny146:=zzm hy146;clear hy146;have H':=zzm H;clear H;go_wp2_with (first|((with_reducible refine gate_callee (f:=54) rfl ?_);refine goesL_ (some 24) rfl rfl Try.func54 (by kernel_rfl) rfl #[.pointer (some ⟨g,0,none⟩),.int .i64 256] rfl zzM2 ?_;(with_reducible refine (spec_l6Rd_pick.calls k2 g s0_0 x1001_2 256 t138 t139 w0 _ ?side1 ?side2 A17.out).mono ?_);(case side1=>repeat (first|(with_reducible first|exact HI0.out|apply IsS94.alloc|apply IsS94.drewN|apply IsS94.drew|apply IsS94.set_1)|exact HI0.out));(case side2=>repeat (first|(with_reducible first|exact HB.out|apply zza|apply zzb|apply zzc|refine zzd ?_ (IsS94.ge HI0.out))|exact HB.out));rintro e w22 ⟨rfl,hi,hb,hk⟩;refine ⟨_,rfl,?_⟩;have n0_:=zzm (Kd.R_mono (Kd.R_keep (IsS94.apart (show IsS94 w0 _ g s0_0 x1001_2 from by repeat (first|(with_reducible first|exact HI0.out|apply IsS94.alloc|apply IsS94.drewN|apply IsS94.drew|apply IsS94.set_1)|exact HI0.out)) (by (with_reducible repeat (first|apply Kd.R_alloc|apply Kd.R_drewN|apply Kd.R_drew));exact HO_4.out) (by decide)) hk (fun _ h=>h.2)) (fun _ h=>h.1));have n1_:=zzm (KeepBut.trans (by repeat (first|(with_reducible first|exact HK.out|apply KeepBut.set_|apply keep_drewN|apply keep_drew|apply keep_alloc)|exact HK.out)) hk (.inl rfl));have n2_:=zzm (hb);have n3_:=zzm (hi);clear HO_4 HK HB HI0;have HO_4:=n0_;have HK:=n1_;have HB:=n2_;have HI0:=n3_;clear n0_ n1_ n2_ n3_;(try clear hb);(try clear hb2);(try clear hk);(try clear hi))|((with_reducible refine gate_dst (N:=25) rfl ?_);refine Kd.R_lit (Kd.int .i64) _ 3 ?hg (N:=25) ?hd (xs:=([1,2,3,t138]:List Int)) (inner:=[.int .i64 1,.int .i64 2,.int .i64 3,.int .i64 t138]) (ok:=fun _=>True) (okp:=fun _=>True) ?hr ?hp (fun _ hk=>hk) trivial (Below.refl _ _) (Nat.le_refl _) (by simp) ?_;(case hd=>rfl);(case hg=>rfl);(case hr=>first|(go_simp;done)|(go_simp;rfl));(case hp=>exact (Reps.one (show Kd.M (Kd.int .i64) _ _ _ 1 [.int .i64 1] from rfl) (Reps.one (show Kd.M (Kd.int .i64) _ _ _ 2 [.int .i64 2] from rfl) (Reps.one (show Kd.M (Kd.int .i64) _ _ _ 3 [.int .i64 3] from rfl) (Reps.one (show Kd.M (Kd.int .i64) _ _ _ t138 [.int .i64 t138] from rfl) (Reps.none _ _))))));intro v141 w23 ho24 hb hg_ hnew_;clear hg_ hnew_;(first|rw [← Ny140.out] at ho24|(simp only [Int.reduceToNat] at ho24;rw [← Ny140.out] at ho24));have n0_:=zzm (Kd.R_elder' (by (with_reducible repeat (first|apply Kd.R_alloc|apply Kd.R_drewN|apply Kd.R_drew));exact HO_4.out) (Kd.R_base ho24) hb);have n1_:=zzm (Kd.R_lower (Kd.R_new' ho24 (Kd.R_lt (by (with_reducible repeat (first|apply Kd.R_alloc|apply Kd.R_drewN|apply Kd.R_drew));exact HO_4.out))) (keep_size (w:=w) (g:=g) (row:=none) (by repeat (first|(with_reducible first|exact HK.out|apply KeepBut.set_|apply keep_drewN|apply keep_drew|apply keep_alloc)|exact HK.out))));have n2_:=zzm (IsS94.below (by repeat (first|(with_reducible first|exact HI0.out|apply IsS94.alloc|apply IsS94.drewN|apply IsS94.drew|apply IsS94.set_1)|exact HI0.out)) hb);have n3_:=zzm (KeepBut.trans (by repeat (first|(with_reducible first|exact HK.out|apply KeepBut.set_|apply keep_drewN|apply keep_drew|apply keep_alloc)|exact HK.out)) (KeepBut.of_below hb g none) (.inl rfl));have n4_:=zzm (zzp (by repeat (first|(with_reducible first|exact HB.out|apply zza|apply zzb|apply zzc|refine zzd ?_ (IsS94.ge HI0.out))|exact HB.out)) hb);clear HO_4 HI0 HK HB;have HO_4:=n0_;have HO142:=n1_;have HI0:=n2_;have HK:=n3_;have HB:=n4_;clear n0_ n1_ n2_ n3_ n4_ hb ho24)|((with_reducible refine gate_callee (f:=54) rfl ?_);refine goesL_ (some 27) rfl rfl Try.func54 (by kernel_rfl) rfl #[.pointer (some ⟨g,0,none⟩),.int .i64 4] rfl zzM2 ?_;(with_reducible refine (spec_l6Rd_pick.calls k2 g s0_0 t139 4 t143 t144 w0 _ ?side1 ?side2 A18.out).mono ?_);(case side1=>repeat (first|(with_reducible first|exact HI0.out|apply IsS94.alloc|apply IsS94.drewN|apply IsS94.drew|apply IsS94.set_1)|exact HI0.out));(case side2=>repeat (first|(with_reducible first|exact HB.out|apply zza|apply zzb|apply zzc|refine zzd ?_ (IsS94.ge HI0.out))|exact HB.out));rintro e w25 ⟨rfl,hi,hb,hk⟩;refine ⟨_,rfl,?_⟩;have n0_:=zzm (Kd.R_mono (Kd.R_keep (IsS94.apart (show IsS94 w0 _ g s0_0 t139 from by repeat (first|(with_reducible first|exact HI0.out|apply IsS94.alloc|apply IsS94.drewN|apply IsS94.drew|apply IsS94.set_1)|exact HI0.out)) (by (with_reducible repeat (first|apply Kd.R_alloc|apply Kd.R_drewN|apply Kd.R_drew));exact HO_4.out) (by decide)) hk (fun _ h=>h.2)) (fun _ h=>h.1));have n1_:=zzm (Kd.R_mono (Kd.R_keep (IsS94.apart (show IsS94 w0 _ g s0_0 t139 from by repeat (first|(with_reducible first|exact HI0.out|apply IsS94.alloc|apply IsS94.drewN|apply IsS94.drew|apply IsS94.set_1)|exact HI0.out)) (by (with_reducible repeat (first|apply Kd.R_alloc|apply Kd.R_drewN|apply Kd.R_drew));exact HO142.out) (by decide)) hk (fun _ h=>h.2)) (fun _ h=>h.1));have n2_:=zzm (KeepBut.trans (by repeat (first|(with_reducible first|exact HK.out|apply KeepBut.set_|apply keep_drewN|apply keep_drew|apply keep_alloc)|exact HK.out)) hk (.inl rfl));have n3_:=zzm (hb);have n4_:=zzm (hi);clear HO_4 HO142 HK HB HI0;have HO_4:=n0_;have HO142:=n1_;have HK:=n2_;have HB:=n3_;have HI0:=n4_;clear n0_ n1_ n2_ n3_ n4_;(try clear hb);(try clear hb2);(try clear hk);(try clear hi);obtain ⟨Ao26,co26,eo26⟩:=Kd.R_slice HO142.out;subst eo26;have p145 : 0≤(t143:Int):=zzt;have q145:t143 < (y140.length:Int):=zzt;obtain ⟨ad145,e145,hx145_0⟩:=Kd.at_int (Kd.R_reads' HO142.out).2.2 t143 p145 q145;cases e145;replace p145:=eq_true p145;replace q145:=eq_true q145)|((with_reducible refine gate_builtin (b:=.append) (xs:=#[.tmp 22,.tmp 30]) rfl ?_);at_builtin;refine Kd.R_append (Kd.int .i64) w.heap.size rfl (.tmp 22) (.tmp 30) 32 3 (.int .i64 0) 8 rfl Try.underlying32 info3 rfl (by decide) (by omega) u4 x4_2 (rd y140 t143) [.int .i64 (rd y140 t143)] (fun k_=>some k_≠(.slice (some ad145) y140.length co26:Value).ownBlock) (fun _=>False) rfl rfl ?aP (fun _ hk=>hk.elim) ?aF ?aO (Below.refl _ _) ?aS ?aL ?_;(case aP=>exact rfl);(case aF=>exact (fun k_ hk=>Kd.fresh' (Kd.R_lt (by (with_reducible repeat (first|apply Kd.R_alloc|apply Kd.R_drewN|apply Kd.R_drew));exact HO142.out)) k_ hk));(case aO=>exact (by (with_reducible repeat (first|apply Kd.R_alloc|apply Kd.R_drewN|apply Kd.R_drew));exact Kd.R_mono HO_4.out (fun _ hk=>hk.2)));(case aS=>exact (keep_size (w:=w) (g:=g) (row:=none) (by repeat (first|(with_reducible first|exact HK.out|apply KeepBut.set_|apply keep_drewN|apply keep_drew|apply keep_alloc)|exact HK.out))));(case aL=>have:=LMc21.out;omega);intro v147 w27 ho hb hg hat;rw [← Ny146.out] at ho;have n0_:=zzm (IsS94.grown (by repeat (first|(with_reducible first|exact HI0.out|apply IsS94.alloc|apply IsS94.drewN|apply IsS94.drew|apply IsS94.set_1)|exact HI0.out)) hg (IsS94.own_ne HI0.out HO_4.out (by decide)));have n1_:=zzm (Kd.R_after (ok:=(fun _=>True)) (by (with_reducible repeat (first|apply Kd.R_alloc|apply Kd.R_drewN|apply Kd.R_drew));exact HO142.out) hg hat);have n2_:=zzm (below_weaken (by repeat (first|(with_reducible first|exact HB.out|apply zza|apply zzb|apply zzc|refine zzd ?_ (IsS94.ge HI0.out))|exact HB.out)) HL.out hb);have n3_:=zzm (KeepBut.trans (by repeat (first|(with_reducible first|exact HK.out|apply KeepBut.set_|apply keep_drewN|apply keep_drew|apply keep_alloc)|exact HK.out)) (KeepBut.of_grown hg g) (Kd.R_base2 HO_4.out));have n4_:=zzm (ho);clear HI0 HO142 HB HK HO_4;have HI0:=n0_;have HO142:=n1_;have HB:=n2_;have HK:=n3_;have HO148:=n4_;clear n0_ n1_ n2_ n3_ n4_ ho hb hg hat));go_roundg k2
          case measure=>have:=HJ8.out;have:=HK2.out;omega
          case rel=>exact ⟨(y146),(wrap64 (x6_2+1)),(t144),(by first|rfl|(simp;done)|(simp [*];done)),H',⟨by have:=HJ8.out;have:=HK2.out;omega⟩,⟨by (with_reducible repeat (first|apply Kd.R_alloc|apply Kd.R_drewN|apply Kd.R_drew));exact Kd.R_mono HO148.out (fun _ hk=>trivial)⟩,⟨by repeat (first|(with_reducible first|exact HI0.out|apply IsS94.alloc|apply IsS94.drewN|apply IsS94.drew|apply IsS94.set_1)|exact HI0.out)⟩,⟨by repeat (first|(with_reducible first|exact HK.out|apply KeepBut.set_|apply keep_drewN|apply keep_drew|apply keep_alloc)|exact HK.out)⟩,⟨by repeat (first|(with_reducible first|exact HB.out|apply zza|apply zzb|apply zzc|refine zzd ?_ (IsS94.ge HI0.out))|exact HB.out)⟩⟩
         ·
          rw [if_neg c21] at H;exact absurd H (by simp)
        ·
         rw [if_neg c20] at H;exact absurd H (by simp)
       ·
        rw [if_neg c19] at H;exact absurd H (by simp)
      ·
       rw [if_neg c16] at H;have c16b0:decide (x6_2 < x5_8)=false:=decide_eq_false c16;clear c16;simp only [Option.some.injEq,Prod.mk.injEq] at H;obtain ⟨rfl,rfl,rfl⟩:=H;go_wp2;go_ret2;exact ⟨_,by first|rfl|(simp [errW_none,errW_some] <;> rfl)|(simp [*,errW_none,errW_some] <;> rfl),by (with_reducible repeat (first|apply Kd.R_alloc|apply Kd.R_drewN|apply Kd.R_drew));exact HO_4.out,by repeat (first|(with_reducible first|exact HI0.out|apply IsS94.alloc|apply IsS94.drewN|apply IsS94.drew|apply IsS94.set_1)|exact HI0.out),by repeat (first|(with_reducible first|exact HB.out|apply zza|apply zzb|apply zzc|refine zzd ?_ (IsS94.ge HI0.out))|exact HB.out),by repeat (first|(with_reducible first|exact HK.out|apply KeepBut.set_|apply keep_drewN|apply keep_drew|apply keep_alloc)|exact HK.out)⟩
end Go.Proofs.Yticpnjhkdfdkkaa.T
