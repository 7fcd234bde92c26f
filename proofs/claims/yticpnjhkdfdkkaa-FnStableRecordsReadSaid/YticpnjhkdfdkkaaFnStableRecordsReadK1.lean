/- The law FnStableRecordsRead holds (part 2 of 7; merged by pack2.py). -/
import Derived.Test.YticpnjhkdfdkkaaRows
import Derived.JoinedOf
import Derived.Test.YticpnjhkdfdkkaaProg
import Derived.Test.YticpnjhkdfdkkaaFnStableRecordsReadK0
open List (setIfInBounds_toArray set_cons_zero set_cons_succ map_toArray map_cons map_nil length_drop length_take)
namespace Go.Proofs.YticpnjhkdfdkkaaW.PrintWords
open Go.RowKit Go.Proofs.YticpnjhkdfdkkaaW.PrintLast
inductive Grew (W : World) : World → Prop
  | refl : Grew W W
  | alloc {V : World} (h : Grew W V) (o : Obj) : Grew W (V.alloc o)
  | drewN {V : World} (h : Grew W V) (n : Nat) : Grew W (V.drewN n)
  | drew {V : World} (h : Grew W V) : Grew W V.drew
theorem zzV {α : Type} {d : Kd α} {e base : Nat} {W W' : World} {ok : Nat → Prop} {v : Value} {xs : List α} (h : Kd.V d e W base ok v xs) (g : Grew W W' := by with_reducible repeat (first | exact Grew.refl | refine Grew.alloc ?_ _ | refine Grew.drewN ?_ _ | refine Grew.drew ?_)) : Kd.V d e W' base ok v xs := by
  induction g with
  | refl => exact h
  | alloc _ _ ih => exact Kd.V_alloc ih _
  | drewN _ _ ih => exact Kd.V_drewN ih _
  | drew _ ih => exact Kd.V_drew ih
theorem zzN {α : Type} {d : Kd α} {e base : Nat} {W W' : World} {ok : Nat → Prop} {v : Value} {xs : List α} (h : Kd.N d e W base ok v xs) (g : Grew W W' := by with_reducible repeat (first | exact Grew.refl | refine Grew.alloc ?_ _ | refine Grew.drewN ?_ _ | refine Grew.drew ?_)) : Kd.N d e W' base ok v xs := by
  induction g with
  | refl => exact h
  | alloc _ _ ih => exact Kd.N_alloc ih _
  | drewN _ _ ih => exact Kd.N_drewN ih _
  | drew _ ih => exact Kd.N_drew ih
theorem zzS {α : Type} {d : Kd α} {e base : Nat} {W W' : World} {ok : Nat → Prop} {v : Value} {xs : List α} (h : Kd.S d e W base ok v xs) (g : Grew W W' := by with_reducible repeat (first | exact Grew.refl | refine Grew.alloc ?_ _ | refine Grew.drewN ?_ _ | refine Grew.drew ?_)) : Kd.S d e W' base ok v xs := by
  induction g with
  | refl => exact h
  | alloc _ _ ih => exact Kd.S_alloc ih _
  | drewN _ _ ih => exact Kd.S_drewN ih _
  | drew _ ih => exact Kd.S_drew ih
theorem zzC {α : Type} {d : Kd α} {W W' : World} {A : Option Addr} {n : Nat} {xs : List α} (h : Kd.C d W A n xs) (g : Grew W W' := by with_reducible repeat (first | exact Grew.refl | refine Grew.alloc ?_ _ | refine Grew.drewN ?_ _ | refine Grew.drew ?_)) : Kd.C d W' A n xs := by
  induction g with
  | refl => exact h
  | alloc _ _ ih => exact Kd.C_alloc ih _
  | drewN _ _ ih => exact Kd.C_drewN ih _
  | drew _ ih => exact Kd.C_drew ih
theorem zzE {W W' : World} {b : Nat} {o : Obj} (h : W.heap[b]? = some o) (g : Grew W W' := by with_reducible repeat (first | exact Grew.refl | refine Grew.alloc ?_ _ | refine Grew.drewN ?_ _ | refine Grew.drew ?_)) : W'.heap[b]? = some o := by
  induction g with
  | refl => exact h
  | alloc _ _ ih => exact blk_alloc ih _
  | drewN _ _ ih => exact blk_drewN ih _
  | drew _ ih => exact blk_drew ih
theorem zzh2 {w W : World} (h : Below w.heap.size w W := by repeat (first | (with_reducible first | exact HB.out | apply zza | apply zzb | apply zzc | refine zzd ?_ (Aside0.out (by with_reducible assumption))) | exact HB.out)) : Below w.heap.size w W := h
theorem zzM2 {α : Type} {x y : α} (h : x = y := by (try simp only [List.map_toArray, List.map_cons, List.map_nil]); first | done | rfl | (simp only [List.length_drop, List.length_take]; rfl)) : x = y := h
theorem zzA2 {md : Region.Mode} {ops : Array Oper} {T : Bool × List (List Nat × List Nat)} {l l' : Array Bool} {i : Nat} (hT : rtab md ops = T) (h : anyT T l.toList l'.toList i = true := by kernel_rfl) : anyB md ops l l' i = true := any_of hT h
end Go.Proofs.YticpnjhkdfdkkaaW.PrintWords
namespace Go.Proofs.Yticpnjhkdfdkkaa.Head
open Go
theorem make_of (P : Program) (w : List Char) (R : List (List Char)) (h : behindMainWord (wordsSigns P.initOrder.toList) = w :: R) (h1 : (w == "gc".toList || w == "spec".toList) = false) (h2 : (w == "cut".toList) = true) : P.make = some .cut := by
 unfold Program.make
 rw [h]
 simp only [h1,h2,Bool.true_or,if_true,Bool.false_eq_true,if_false]
theorem enter_of (P : Program) (w : List Char) (R : List (List Char)) (h : behindMainWord (wordsSigns P.initOrder.toList) = w :: R) (h2 : stripLifts liftWords (w :: R) = ([], w :: R)) (h3 : ((w :: R).head? == some "cut".toList) = true)
  (h4:P.laysLater=false) (h5:P.bearsReflect=false) (h6:P.doorFits []=true):P.mayEnter=true:=by
 unfold Program.mayEnter
 rw [h]
 simp only [h2,h3,h4,h5,h6,List.contains_nil,Bool.not_false,Bool.and_self,Bool.or_true]
theorem lifts_of (P : Program) (w : List Char) (R : List (List Char)) (h : behindMainWord (wordsSigns P.initOrder.toList) = w :: R) (h2 : stripLifts liftWords (w :: R) = ([], w :: R)) (h3 : ((w :: R).head? == some "carried".toList) = false) : P.liftsFinal = false := by
 unfold Program.liftsFinal Program.headLifts
 rw [h]
 simp only [h2,h3,Bool.false_and,Bool.false_or,List.contains_nil,ite_self]
def chs (l:List Nat):List Char:=l.map Char.ofNat
theorem wordsSigns_word:∀ (w r:List Char),(∀ c∈w,c≠Char.ofNat 32)→wordsSigns (w++Char.ofNat 32::r)=w::wordsSigns r
 | [],r,_=>rfl
 | c::w,r,h=>by
  have ih:=wordsSigns_word w r (fun x hx=>h x (List.mem_cons_of_mem _ hx))
  have hc:c≠Char.ofNat 32:=h c List.mem_cons_self
  rw [List.cons_append,wordsSigns,ih]
  exact hc
def word1:List Nat:=[104,97,114,110,101,115,115]
def word2:List Nat:=[100,57,50,55,99,52,97,101,102,50,49,98,49,50,102,99,100,48,100,48,56,51,53,53,99,57,50,101,52,99,49,101,51,48,100,55,54,97,53,55,100,56,57,52,97,48,57,51,48,99,99,57,98,99,52,57,101,99,101,49,49,50,51,54]
def word3:List Nat:=[99,117,116]
def signs:List Nat:=[97,116,32,108,111,111,112,46,101,120,97,109,112,108,101,47,114,101,99,111,114,100,98,97,116,99,104,101,115,47,108,97,119,115,46,70,110,77,97,114,107,66,97,116,99,104,32,108,111,111,112,46,101,120,97,109,112,108,101,47,114,101,99,111,114,100,98,97,116,99,104,101,115,47,108,97,119,115,46,70,110,77,97,114,107,66,97,116,99,104,84,119,111,32,108,111,111,112,46,101,120,97,109,112,108,101,47,114,101,99,111,114,100,98,97,116,99,104,101,115,47,108,97,119,115,46,70,110,69,120,97,99,116,77,97,114,107,66,97,116,99,104,32,108,111,111,112,46,101,120,97,109,112,108,101,47,114,101,99,111,114,100,98,97,116,99,104,101,115,47,108,97,119,115,46,70,110,83,116,97,98,108,101,32,108,111,111,112,46,101,120,97,109,112,108,101,47,114,101,99,111,114,100,98,97,116,99,104,101,115,47,108,97,119,115,46,70,110,85,110,100,111,110,101,32,108,111,111,112,46,101,120,97,109,112,108,101,47,114,101,99,111,114,100,98,97,116,99,104,101,115,47,108,97,119,115,46,70,110,85,110,100,111,110,101,78,111,110,101,32,108,111,111,112,46,101,120,97,109,112,108,101,47,114,101,99,111,114,100,98,97,116,99,104,101,115,47,108,97,119,115,46,70,110,85,110,100,111,110,101,79,114,100,101,114,32,108,111,111,112,46,101,120,97,109,112,108,101,47,114,101,99,111,114,100,98,97,116,99,104,101,115,47,108,97,119,115,46,70,110,83,116,97,98,108,101,77,111,114,101,32,108,111,111,112,46,101,120,97,109,112,108,101,47,114,101,99,111,114,100,98,97,116,99,104,101,115,47,108,97,119,115,46,70,110,83,116,97,98,108,101,68,101,99,105,100,101,32,108,111,111,112,46,101,120,97,109,112,108,101,47,114,101,99,111,114,100,98,97,116,99,104,101,115,47,108,97,119,115,46,70,110,83,116,97,98,108,101,65,108,108,32,108,111,111,112,46,101,120,97,109,112,108,101,47,114,101,99,111,114,100,98,97,116,99,104,101,115,47,108,97,119,115,46,70,110,69,120,97,99,116,83,116,97,98,108,101,69,110,100,32,108,111,111,112,46,101,120,97,109,112,108,101,47,114,101,99,111,114,100,98,97,116,99,104,101,115,47,108,97,119,115,46,70,110,83,116,97,98,108,101,82,101,99,111,114,100,115,82,101,97,100,32,108,111,111,112,46,101,120,97,109,112,108,101,47,114,101,99,111,114,100,98,97,116,99,104,101,115,47,108,97,119,115,46,70,110,83,116,97,98,108,101,82,101,99,111,114,100,115,32,108,111,111,112,46,101,120,97,109,112,108,101,47,114,101,99,111,114,100,98,97,116,99,104,101,115,47,108,97,119,115,46,70,110,69,120,97,99,116,85,110,100,111,110,101,79,102,32,108,111,111,112,46,101,120,97,109,112,108,101,47,114,101,99,111,114,100,98,97,116,99,104,101,115,47,108,97,119,115,46,70,110,69,120,97,99,116,83,116,97,98,108,101,82,101,99,111,114,100,115]
theorem init_is:Try.prog.initOrder=String.ofList (chs word1++Char.ofNat 32::(chs word2++Char.ofNat 32::(chs word3++Char.ofNat 32::chs signs))):=by kernel_rfl
theorem init_words:wordsSigns Try.prog.initOrder.toList=chs word1::chs word2::chs word3::wordsSigns (chs signs):=by
 rw [init_is,String.toList_ofList,wordsSigns_word _ _ (by decide +kernel),wordsSigns_word _ _ (by decide +kernel),wordsSigns_word _ _ (by decide +kernel)]
theorem behind_is:∃ R,behindMainWord (wordsSigns Try.prog.initOrder.toList)=chs word3::R:=by
 rw [init_words]
 generalize wordsSigns (chs signs)=R
 exact ⟨R,by kernel_rfl⟩
theorem strip_is (R:List (List Char)):stripLifts liftWords (chs word3::R)=([],chs word3::R):=by kernel_rfl
theorem make_is:Try.prog.make=some .cut:=by
 obtain ⟨R,h⟩:=behind_is
 exact make_of _ _ R h (by kernel_rfl) (by kernel_rfl)
theorem lays_later:Try.prog.laysLater=false:=by kernel_rfl
theorem bears_reflect:Try.prog.bearsReflect=false:=by kernel_rfl
theorem door_fits:Try.prog.doorFits []=true:=by kernel_rfl
theorem may_enter:Try.prog.mayEnter=true:=by
 obtain ⟨R,h⟩:=behind_is
 exact enter_of _ _ R h (strip_is R) (by kernel_rfl) lays_later bears_reflect door_fits
theorem lifts_final:Try.prog.liftsFinal=false:=by
 obtain ⟨R,h⟩:=behind_is
 exact lifts_of _ _ R h (strip_is R) (by kernel_rfl)
theorem and2 {a b:Bool} (h:a=true) (h2:b=true):(a&&b)=true:=by rw [h,h2];rfl
theorem closed_of (P:Program) (f:FuncId) (fn:Func) (s:ChangeSpec) (c:OpenClaim) (k0:(c.wf (OpenSpec.ofChange s))=true) (k1:(laidOutB P)=true) (k2:(mapsRowed P)=true) (k3:(fn.params.all (P.readableRec ·))=true) (k4:(namedTie P c.named s.vars)=true) (k5:((c.stops == []))=true) (k6:((P.stops == []))=true) (k7:((c.knobs == []))=true) (k8:((P.stopKnobs == []))=true) (k9:((c.inPlace==P.inPlace f))=true) (k10:((c.unfollowed==P.unfollowed f))=true) (k11:((c.recurses==P.recurses f))=true) (k12:((c.named==P.varsNamed f))=true) (k13:((c.maps==(fn.params.toList++s.plain.varTypes P).any (P.mapsRec ·)))=true) (k14:((c.ifaces==(fn.params.toList++s.plain.varTypes P).any (P.ifacesRec ·)))=true) (k15:((c.mapsOut==P.mapsAmong fn.resultTypes.toList))=true) (k16:((c.loops==(fn.params.toList++s.plain.varTypes P).any (P.loopsFrom ·)))=true) (k17:((c.wideKeys==(fn.params.toList++s.plain.varTypes P++fn.resultTypes.toList).any (P.wideKeysFrom ·)))=true) (k18:(s.vars.all (P.varReadable ·))=true) (k19:(fn.resultTypes.all (fun t=>P.readableRec t&&decide (t < P.types.size)))=true) (k20:((c.ifacesOut==fn.resultTypes.toList.any (P.ifacesRec ·)))=true) (k21:((c.loopsOut==fn.resultTypes.toList.any (P.loopsFrom ·)))=true) (k22:((c.plainKeys==P.plainKeys))=true) (k23:(c.shortTexts.isNone)=true) (k24:(P.stopsHeard)=true) (k25:(P.mayEnter)=true) (k26:((c.lifted==P.liftsFinal))=true) (k27:((P.make==some c.make))=true) (k28:((c.kinds==(if c.domain.isEmpty then [] else fn.params.toList.map fun t=>match P.underlying t with|some (.int k)=>some k|_=>none)))=true) (k29:((c.pinned==c.pinnedBy))=true) (k30:((c.veiled==(fn.params.toList++s.plain.varTypes P++fn.resultTypes.toList).any (P.veiledRec ·)))=true) (k31:(c.veiledFits P fn.params.toList (fn.params.toList++s.plain.varTypes P++fn.resultTypes.toList))=true):joinedFacts P f fn s c=true:=by
 unfold joinedFacts
 exact (and2 (and2 (and2 (and2 (and2 (and2 (and2 (and2 (and2 (and2 (and2 (and2 (and2 (and2 (and2 (and2 (and2 (and2 (and2 (and2 (and2 (and2 (and2 (and2 (and2 (and2 (and2 (and2 (and2 (and2 (and2 k0 k1) k2) k3) k4) k5) k6) k7) k8) k9) k10) k11) k12) k13) k14) k15) k16) k17) k18) k19) k20) k21) k22) k23) k24) k25) k26) k27) k28) k29) k30) k31)
end Go.Proofs.Yticpnjhkdfdkkaa.Head
namespace Go.Proofs.Yticpnjhkdfdkkaa.U
open Go.RowKit Go.Proofs.YticpnjhkdfdkkaaW.PrintWords Go.Proofs.YticpnjhkdfdkkaaW.PrintLast Go.Proofs.YticpnjhkdfdkkaaW.PrintMore
attribute [local go_sem] max2_int max_two
set_option linter.unusedVariables false
set_option linter.unusedSimpArgs false
def errW:Option Int→Value
 | none=>.nilIface
 | some c=>.iface 0 (.int .i64 c)
theorem errW_none:errW none = .nilIface:=rfl
theorem errW_some (c:Int):errW (some c) = .iface 0 (.int .i64 c):=rfl
theorem info3:(Try.prog.info? 3).map (fun i=>(i.zero,i.size,i.bytes))=some (some (.int .i64 0),1,8):=by kernel_rfl
theorem info5:(Try.prog.info? 5).map (fun i=>(i.zero,i.size,i.bytes))=some (some (.int .u8 0),1,1):=by kernel_rfl
theorem info27:(Try.prog.info? 27).map (fun i=>(i.zero,i.size,i.bytes))=some (some (.agg #[(.bool false),(.bool false),(.int .i64 0),(.int .i64 0),(.int .i64 0),(.slice none 0 0)]),6,56):=by kernel_rfl
theorem info34:(Try.prog.info? 34).map (fun i=>(i.zero,i.size,i.bytes))=some (some (.agg #[(.int .i64 0),(.int .i64 0),(.bool false),(.slice none 0 0),(.bool false),(.slice none 0 0)]),6,80):=by kernel_rfl
structure S34 where
 f0:Int
 f1:Int
 f2:Bool
 f3:(List Int)
 f4:Bool
 f5:(List Int)
def z34:S34:=⟨(0:Int),(0:Int),false,([]:List Int),false,([]:List Int)⟩
def k34:Kd S34:=Kd.iso (Kd.pair (Kd.int .i64) (Kd.pair (Kd.int .i64) (Kd.pair Kd.bool (Kd.pair (Kd.slice 3 (Kd.int .i64)) (Kd.pair Kd.bool (Kd.slice 3 (Kd.int .i64))))))) (fun x:S34=>(x.f0,x.f1,x.f2,x.f3,x.f4,x.f5))
theorem k34_open {w:World} {x:S34} {cs:List Value} (h:k34.K w x cs):∃ A3 c3 A5 c5,cs = [.int .i64 x.f0,.int .i64 x.f1,.bool x.f2,.slice A3 x.f3.length c3,.bool x.f4,.slice A5 x.f5.length c5]∧x.f3.length≤c3∧(Kd.int .i64).C w A3 x.f3.length x.f3∧x.f5.length≤c5∧(Kd.int .i64).C w A5 x.f5.length x.f5:=by
 obtain ⟨_,_,rfl,rfl,⟨_,_,rfl,rfl,⟨_,_,rfl,rfl,⟨_,_,rfl,⟨A3,c3,rfl,l3,g3⟩,⟨_,_,rfl,rfl,⟨A5,c5,rfl,l5,g5⟩⟩⟩⟩⟩⟩:=h;exact ⟨A3,c3,A5,c5,rfl,l3,g3,l5,g5⟩
theorem k34_mk (w:World) (x:S34) {A3:Option Addr} {c3:Nat} (l3:x.f3.length≤c3) (g3:(Kd.int .i64).C w A3 x.f3.length x.f3) {A5:Option Addr} {c5:Nat} (l5:x.f5.length≤c5) (g5:(Kd.int .i64).C w A5 x.f5.length x.f5):k34.K w x [.int .i64 x.f0,.int .i64 x.f1,.bool x.f2,.slice A3 x.f3.length c3,.bool x.f4,.slice A5 x.f5.length c5]:=⟨[.int .i64 x.f0],[.int .i64 x.f1,.bool x.f2,.slice A3 x.f3.length c3,.bool x.f4,.slice A5 x.f5.length c5],rfl,rfl,⟨[.int .i64 x.f1],[.bool x.f2,.slice A3 x.f3.length c3,.bool x.f4,.slice A5 x.f5.length c5],rfl,rfl,⟨[.bool x.f2],[.slice A3 x.f3.length c3,.bool x.f4,.slice A5 x.f5.length c5],rfl,rfl,⟨[.slice A3 x.f3.length c3],[.bool x.f4,.slice A5 x.f5.length c5],rfl,⟨A3,c3,rfl,l3,g3⟩,⟨[.bool x.f4],[.slice A5 x.f5.length c5],rfl,rfl,⟨A5,c5,rfl,l5,g5⟩⟩⟩⟩⟩⟩
theorem k34_mkM (w:World) (base:Nat) (ok:Nat→Prop) (x:S34) {v3:Value} (g3:(Kd.int .i64).R 3 w base ok v3 x.f3) {v5:Value} (g5:(Kd.int .i64).R 3 w base ok v5 x.f5):k34.M w base ok x [.int .i64 x.f0,.int .i64 x.f1,.bool x.f2,v3,.bool x.f4,v5]:=⟨[.int .i64 x.f0],[.int .i64 x.f1,.bool x.f2,v3,.bool x.f4,v5],rfl,rfl,⟨[.int .i64 x.f1],[.bool x.f2,v3,.bool x.f4,v5],rfl,rfl,⟨[.bool x.f2],[v3,.bool x.f4,v5],rfl,rfl,⟨[v3],[.bool x.f4,v5],rfl,⟨v3,rfl,g3⟩,⟨[.bool x.f4],[v5],rfl,rfl,⟨v5,rfl,g5⟩⟩⟩⟩⟩⟩
theorem k34_openF {W:World} {ok:Nat→Prop} {x:S34} {cs:List Value} (h:Kd.FK k34 W ok x cs):∃ A3 c3 A5 c5,cs = [.int .i64 x.f0,.int .i64 x.f1,.bool x.f2,.slice A3 x.f3.length c3,.bool x.f4,.slice A5 x.f5.length c5]∧x.f3.length≤c3∧Kd.F (Kd.int .i64) W ok A3 x.f3.length x.f3∧x.f5.length≤c5∧Kd.F (Kd.int .i64) W ok A5 x.f5.length x.f5:=by
 obtain ⟨A3,c3,A5,c5,rfl,l3,_,l5,_⟩:=k34_open (Kd.FK_now h);exact ⟨A3,c3,A5,c5,rfl,l3,(fun W' hW=>by obtain ⟨A3_,c3_,A5_,c5_,he,l3_,g3_,l5_,g5_⟩:=k34_open (h W' hW);injection (Option.some.inj (show some (Value.slice A3 x.f3.length c3)=some (Value.slice A3_ x.f3.length c3_) from congrArg (fun l=>l[3]?) he)) with ha_ _ _;rw [ha_];exact g3_),l5,(fun W' hW=>by obtain ⟨A3_,c3_,A5_,c5_,he,l3_,g3_,l5_,g5_⟩:=k34_open (h W' hW);injection (Option.some.inj (show some (Value.slice A5 x.f5.length c5)=some (Value.slice A5_ x.f5.length c5_) from congrArg (fun l=>l[5]?) he)) with ha_ _ _;rw [ha_];exact g5_)⟩
theorem k34_mkF (W:World) (ok:Nat→Prop) (x:S34) {A3:Option Addr} {c3:Nat} (l3:x.f3.length≤c3) (g3:Kd.F (Kd.int .i64) W ok A3 x.f3.length x.f3) {A5:Option Addr} {c5:Nat} (l5:x.f5.length≤c5) (g5:Kd.F (Kd.int .i64) W ok A5 x.f5.length x.f5):Kd.FK k34 W ok x [.int .i64 x.f0,.int .i64 x.f1,.bool x.f2,.slice A3 x.f3.length c3,.bool x.f4,.slice A5 x.f5.length c5]:=fun W2 hW=>k34_mk W2 x l3 (g3 W2 hW) l5 (g5 W2 hW)
def rd_T34 (xs:List S34) (i:Int):S34:=xs.getD i.toNat z34
theorem at_T34 {w:World} {A:Option Addr} {n:Nat} {xs:List S34} (h:Kd.C k34 w A n xs) (i:Int) (h0 : 0≤i) (h1:i < n):∃ ad A3 c3 A5 c5,A=some ad∧w.cell? (ad.add (i.toNat * 6))=some (.int .i64 (rd_T34 xs i).f0)∧w.cell? ⟨(ad.add (i.toNat * 6)).block,(ad.add (i.toNat * 6)).off+1,none⟩=some (.int .i64 (rd_T34 xs i).f1)∧w.cell? ⟨(ad.add (i.toNat * 6)).block,(ad.add (i.toNat * 6)).off+2,none⟩=some (.bool (rd_T34 xs i).f2)∧w.cell? ⟨(ad.add (i.toNat * 6)).block,(ad.add (i.toNat * 6)).off+3,none⟩=some (.slice A3 (rd_T34 xs i).f3.length c3)∧w.cell? ⟨(ad.add (i.toNat * 6)).block,(ad.add (i.toNat * 6)).off+4,none⟩=some (.bool (rd_T34 xs i).f4)∧w.cell? ⟨(ad.add (i.toNat * 6)).block,(ad.add (i.toNat * 6)).off+5,none⟩=some (.slice A5 (rd_T34 xs i).f5.length c5)∧(rd_T34 xs i).f3.length≤c3∧(Kd.int .i64).C w A3 (rd_T34 xs i).f3.length (rd_T34 xs i).f3∧(rd_T34 xs i).f5.length≤c5∧(Kd.int .i64).C w A5 (rd_T34 xs i).f5.length (rd_T34 xs i).f5:=by
 obtain ⟨ad,c,e,_,hK,hc0⟩:=Kd.C_get h z34 i h0 h1;have hc:∀ j u,c[j]? = some u→w.cell? (ad.add (i.toNat * 6+j))=some u:=hc0;obtain ⟨A3,c3,A5,c5,rfl,l3,g3,l5,g5⟩:=k34_open hK;exact ⟨ad,A3,c3,A5,c5,e,hc 0 _ rfl,by rw [← add_field _ _ 1 (by omega)];exact hc 1 _ rfl,by rw [← add_field _ _ 2 (by omega)];exact hc 2 _ rfl,by rw [← add_field _ _ 3 (by omega)];exact hc 3 _ rfl,by rw [← add_field _ _ 4 (by omega)];exact hc 4 _ rfl,by rw [← add_field _ _ 5 (by omega)];exact hc 5 _ rfl,l3,g3,l5,g5⟩
structure S27 where
 f0:Bool
 f1:Bool
 f2:Int
 f3:Int
 f4:Int
 f5:(List S34)
def z27:S27:=⟨false,false,(0:Int),(0:Int),(0:Int),([]:List S34)⟩
def k27:Kd S27:=Kd.iso (Kd.pair Kd.bool (Kd.pair Kd.bool (Kd.pair (Kd.int .i64) (Kd.pair (Kd.int .i64) (Kd.pair (Kd.int .i64) (Kd.slice 34 k34)))))) (fun x:S27=>(x.f0,x.f1,x.f2,x.f3,x.f4,x.f5))
theorem k27_open {w:World} {x:S27} {cs:List Value} (h:k27.K w x cs):∃ A5 c5,cs = [.bool x.f0,.bool x.f1,.int .i64 x.f2,.int .i64 x.f3,.int .i64 x.f4,.slice A5 x.f5.length c5]∧x.f5.length≤c5∧k34.C w A5 x.f5.length x.f5:=by
 obtain ⟨_,_,rfl,rfl,⟨_,_,rfl,rfl,⟨_,_,rfl,rfl,⟨_,_,rfl,rfl,⟨_,_,rfl,rfl,⟨A5,c5,rfl,l5,g5⟩⟩⟩⟩⟩⟩:=h;exact ⟨A5,c5,rfl,l5,g5⟩
theorem k27_mk (w:World) (x:S27) {A5:Option Addr} {c5:Nat} (l5:x.f5.length≤c5) (g5:k34.C w A5 x.f5.length x.f5):k27.K w x [.bool x.f0,.bool x.f1,.int .i64 x.f2,.int .i64 x.f3,.int .i64 x.f4,.slice A5 x.f5.length c5]:=⟨[.bool x.f0],[.bool x.f1,.int .i64 x.f2,.int .i64 x.f3,.int .i64 x.f4,.slice A5 x.f5.length c5],rfl,rfl,⟨[.bool x.f1],[.int .i64 x.f2,.int .i64 x.f3,.int .i64 x.f4,.slice A5 x.f5.length c5],rfl,rfl,⟨[.int .i64 x.f2],[.int .i64 x.f3,.int .i64 x.f4,.slice A5 x.f5.length c5],rfl,rfl,⟨[.int .i64 x.f3],[.int .i64 x.f4,.slice A5 x.f5.length c5],rfl,rfl,⟨[.int .i64 x.f4],[.slice A5 x.f5.length c5],rfl,rfl,⟨A5,c5,rfl,l5,g5⟩⟩⟩⟩⟩⟩
theorem k27_openF {W:World} {ok:Nat→Prop} {x:S27} {cs:List Value} (h:Kd.FK k27 W ok x cs):∃ A5 c5,cs = [.bool x.f0,.bool x.f1,.int .i64 x.f2,.int .i64 x.f3,.int .i64 x.f4,.slice A5 x.f5.length c5]∧x.f5.length≤c5∧Kd.F k34 W ok A5 x.f5.length x.f5:=by
 obtain ⟨A5,c5,rfl,l5,_⟩:=k27_open (Kd.FK_now h);exact ⟨A5,c5,rfl,l5,(fun W' hW=>by obtain ⟨A5_,c5_,he,l5_,g5_⟩:=k27_open (h W' hW);injection (Option.some.inj (show some (Value.slice A5 x.f5.length c5)=some (Value.slice A5_ x.f5.length c5_) from congrArg (fun l=>l[5]?) he)) with ha_ _ _;rw [ha_];exact g5_)⟩
theorem k27_mkF (W:World) (ok:Nat→Prop) (x:S27) {A5:Option Addr} {c5:Nat} (l5:x.f5.length≤c5) (g5:Kd.F k34 W ok A5 x.f5.length x.f5):Kd.FK k27 W ok x [.bool x.f0,.bool x.f1,.int .i64 x.f2,.int .i64 x.f3,.int .i64 x.f4,.slice A5 x.f5.length c5]:=fun W2 hW=>k27_mk W2 x l5 (g5 W2 hW)
def rd_T27 (xs:List S27) (i:Int):S27:=xs.getD i.toNat z27
theorem at_T27 {w:World} {A:Option Addr} {n:Nat} {xs:List S27} (h:Kd.C k27 w A n xs) (i:Int) (h0 : 0≤i) (h1:i < n):∃ ad A5 c5,A=some ad∧w.cell? (ad.add (i.toNat * 6))=some (.bool (rd_T27 xs i).f0)∧w.cell? ⟨(ad.add (i.toNat * 6)).block,(ad.add (i.toNat * 6)).off+1,none⟩=some (.bool (rd_T27 xs i).f1)∧w.cell? ⟨(ad.add (i.toNat * 6)).block,(ad.add (i.toNat * 6)).off+2,none⟩=some (.int .i64 (rd_T27 xs i).f2)∧w.cell? ⟨(ad.add (i.toNat * 6)).block,(ad.add (i.toNat * 6)).off+3,none⟩=some (.int .i64 (rd_T27 xs i).f3)∧w.cell? ⟨(ad.add (i.toNat * 6)).block,(ad.add (i.toNat * 6)).off+4,none⟩=some (.int .i64 (rd_T27 xs i).f4)∧w.cell? ⟨(ad.add (i.toNat * 6)).block,(ad.add (i.toNat * 6)).off+5,none⟩=some (.slice A5 (rd_T27 xs i).f5.length c5)∧(rd_T27 xs i).f5.length≤c5∧k34.C w A5 (rd_T27 xs i).f5.length (rd_T27 xs i).f5:=by
 obtain ⟨ad,c,e,_,hK,hc0⟩:=Kd.C_get h z27 i h0 h1;have hc:∀ j u,c[j]? = some u→w.cell? (ad.add (i.toNat * 6+j))=some u:=hc0;obtain ⟨A5,c5,rfl,l5,g5⟩:=k27_open hK;exact ⟨ad,A5,c5,e,hc 0 _ rfl,by rw [← add_field _ _ 1 (by omega)];exact hc 1 _ rfl,by rw [← add_field _ _ 2 (by omega)];exact hc 2 _ rfl,by rw [← add_field _ _ 3 (by omega)];exact hc 3 _ rfl,by rw [← add_field _ _ 4 (by omega)];exact hc 4 _ rfl,by rw [← add_field _ _ 5 (by omega)];exact hc 5 _ rfl,l5,g5⟩
end Go.Proofs.Yticpnjhkdfdkkaa.U
namespace Go.Proofs.Yticpnjhkdfdkkaa.U
open Go.RowKit Go.Proofs.YticpnjhkdfdkkaaW.PrintWords Go.Proofs.YticpnjhkdfdkkaaW.PrintLast Go.Proofs.YticpnjhkdfdkkaaW.PrintMore
attribute [local go_sem] max2_int max_two
set_option linter.unusedVariables false
set_option linter.unusedSimpArgs false
def IsS94 (w0 W:World) (g:Nat) (f0:List Int) (f1:Int):Prop:=∃ A0 c0,W.heap[g]? = some (.cells #[.slice A0 f0.length c0,.int .i64 f1] 94 (0,0))∧w0.heap.size≤g∧Kd.C (Kd.int .u8) w0 A0 f0.length f0
theorem IsS94.grown {w0 W:World} {g:Nat} {f0:List Int} {f1:Int} {W1:World} {row:Option Nat} (h:IsS94 w0 W g f0 f1) (hw:W.grownBy W1 row) (hne:some g≠row):IsS94 w0 W1 g f0 f1:=by
 obtain ⟨A0,c0,hb,hg,hr0⟩:=h;exact ⟨A0,c0,blk_grown hb hw hne,hg,hr0⟩
theorem IsS94.own_neN {w0 W:World} {g:Nat} {f0:List Int} {f1:Int} {α:Type} {d:Kd α} {e:Nat} {base:Nat} {ok:Nat→Prop} {v:Value} {xs:List α} (h:IsS94 w0 W g f0 f1) (ho:Kd.N d e W base ok v xs) (ht:e≠94):some g≠v.ownBlock:=by
 obtain ⟨A0,c0,hb,hg,hr0⟩:=h;exact Kd.N_ne ho hb ht
theorem IsS94.fresh {w0 W:World} {g:Nat} {f0:List Int} {f1:Int} (h:IsS94 w0 W g f0 f1):∀ k,W.heap.size≤k→k≠g:=by
 obtain ⟨A0,c0,hb,hg,hr0⟩:=h;exact Kd.freshB hb
theorem IsS94.below {w0 W:World} {g:Nat} {f0:List Int} {f1:Int} {W1:World} (h:IsS94 w0 W g f0 f1) (hw:Below W.heap.size W W1):IsS94 w0 W1 g f0 f1:=h.grown (grown_of_below hw none) (by simp)
theorem IsS94.drewN {w0 W:World} {g:Nat} {f0:List Int} {f1:Int} (h:IsS94 w0 W g f0 f1) (m:Nat):IsS94 w0 (W.drewN m) g f0 f1:=h
theorem IsS94.apart {w0 W:World} {g:Nat} {f0:List Int} {f1:Int} {α:Type} {d:Kd α} {e:Nat} {base:Nat} {ok:Nat→Prop} {v:Value} {xs:List α} (h:IsS94 w0 W g f0 f1) (ho:d.R e W base ok v xs) (ht:∀ q,q∈e::d.E→q≠94):d.R e W base (fun k=>ok k∧k≠g) v xs:=by
 obtain ⟨A0,c0,hb,hg,hr0⟩:=h;exact Kd.R_types ho hb ht
theorem IsS94.own_ne {w0 W:World} {g:Nat} {f0:List Int} {f1:Int} {α:Type} {d:Kd α} {e:Nat} {base:Nat} {ok:Nat→Prop} {v:Value} {xs:List α} (h:IsS94 w0 W g f0 f1) (ho:d.R e W base ok v xs) (ht:e≠94):some g≠v.ownBlock:=by
 obtain ⟨A0,c0,hb,hg,hr0⟩:=h;exact Kd.R_ne ho hb ht
theorem IsS94.apartS {w0 W:World} {g:Nat} {f0:List Int} {f1:Int} {α:Type} {d:Kd α} {e:Nat} {base:Nat} {ok:Nat→Prop} {v:Value} {xs:List α} (h:IsS94 w0 W g f0 f1) (ho:d.S e W base ok v xs) (ht:∀ q,q∈e::d.E→q≠94):d.S e W base (fun k=>ok k∧k≠g) v xs:=by
 obtain ⟨A0,c0,hb,hg,hr0⟩:=h;exact Kd.S_types ho hb ht
theorem IsS94.own_neS {w0 W:World} {g:Nat} {f0:List Int} {f1:Int} {α:Type} {d:Kd α} {e:Nat} {base:Nat} {ok:Nat→Prop} {v:Value} {xs:List α} (h:IsS94 w0 W g f0 f1) (ho:d.S e W base ok v xs) (ht:e≠94):some g≠v.ownBlock:=by
 obtain ⟨A0,c0,hb,hg,hr0⟩:=h;exact Kd.S_ne ho hb ht
theorem IsS94.lt {w0 W:World} {g:Nat} {f0:List Int} {f1:Int} (h:IsS94 w0 W g f0 f1):g < W.heap.size:=by
 obtain ⟨A0,c0,hb,hg,hr0⟩:=h;exact blk_lt hb
theorem IsS94.ge {w0 W:World} {g:Nat} {f0:List Int} {f1:Int} (h:IsS94 w0 W g f0 f1):w0.heap.size≤g:=by
 obtain ⟨A0,c0,hb,hg,hr0⟩:=h;exact hg
theorem IsS94.far {w0 W:World} {g:Nat} {f0:List Int} {f1:Int} {p:Addr} (h:IsS94 w0 W g f0 f1) (hne:g≠p.block) (u:Value):IsS94 w0 (W.setCell p u) g f0 f1:=by
 obtain ⟨A0,c0,hb,hg,hr0⟩:=h;exact ⟨A0,c0,zzj hb hne u,hg,hr0⟩
theorem cellS94_0 {W:World} {g:Nat} {A0:Option Addr} {c0:Nat} {f0:List Int} {f1:Int} (h:W.heap[g]? = some (.cells #[.slice A0 f0.length c0,.int .i64 f1] 94 (0,0))):W.cell? ⟨g,0,none⟩=some (.slice A0 f0.length c0):=(zzk h 0).trans rfl
theorem cellS94_1 {W:World} {g:Nat} {A0:Option Addr} {c0:Nat} {f0:List Int} {f1:Int} (h:W.heap[g]? = some (.cells #[.slice A0 f0.length c0,.int .i64 f1] 94 (0,0))):W.cell? ⟨g,1,none⟩=some (.int .i64 f1):=(zzk h 1).trans rfl
theorem IsS94.set_1 {w0 W:World} {g:Nat} {f0:List Int} {f1:Int} (h:IsS94 w0 W g f0 f1) (x:Int):IsS94 w0 (W.setCell ⟨g,1,none⟩ (.int .i64 x)) g f0 x:=by
 obtain ⟨A0,c0,hb,hg,hr0⟩:=h;exact ⟨A0,c0,by simpa using blk_set hb 1 (.int .i64 x),hg,hr0⟩
def spec_l6Open.f (l0:List Int):Option (List Int×Int):=if (l0.length:Int) > 2000 then (if 2000≤(l0.length:Int) then (some (l0.take 2000,0)) else (none)) else (some (l0,0))
set_option maxHeartbeats 8000000 in
set_option maxRecDepth 100000 in
theorem spec_l6Open.calls (A0:Option Addr) (c0:Nat) (l0:List Int) (r1:List Int) (r2:Int) (w0 w:World) (hB:Below w0.heap.size w0 w) (hr0:Kd.C (Kd.int .u8) w0 A0 l0.length l0) (hc0:l0.length≤c0) (h:spec_l6Open.f l0=some (r1,r2)) :
  Calls Try.prog 53 #[.slice A0 l0.length c0] w fun e w'=>∃ g_:Nat,e = .returned (.pointer (some ⟨g_,0,none⟩))∧IsS94 w0 w' g_ r1 r2∧Below w0.heap.size w0 w'∧Below w.heap.size w w':=by
 have hu94:=Try.underlying94;have HR0:=zzm hr0;have HC0:=zzm hc0;clear hr0 hc0;have HBW:=zzm (Below.refl w.heap.size w);have HW0:=zzm hB.size;have HB:=zzm hB;clear hB;have H:(if (l0.length:Int) > 2000 then (if 2000≤(l0.length:Int) then (some (l0.take 2000,0)) else (none)) else (some (l0,0)))=some (r1,r2):=h;clear h;by_cases c2:(l0.length:Int) > 2000
 ·
  rw [if_pos c2] at H;have c2b0:decide (2000 < (l0.length:Int))=true:=decide_eq_true c2;have c2b1:decide (2000 < l0.length)=true:=decide_eq_true (by omega);clear c2;by_cases c3 : 2000≤(l0.length:Int)
  ·
   rw [if_pos c3] at H;have c3b0:=eq_true c3;have c3b1:decide (2000≤(l0.length:Int))=true:=decide_eq_true c3;clear c3;simp only [Option.some.injEq,Prod.mk.injEq] at H;obtain ⟨rfl,rfl⟩:=H;obtain ⟨i04,hi04,_,hsz4,_⟩:=info_parts info5;obtain ⟨hcut4,hA4,hC4⟩:=print_take_of (P:=Try.prog) (Value.int .u8) 0 22 5 .i64 Try.underlying22 hi04 hsz4 A0 c0 l0 2000 (by omega) (zzt) HC0.out;have HR101:=zzm (Kd.C_of_reads (h1:=fun _=>rfl) (hA4 _ (Kd.reads_of_C HR0.out)));have HC101:=zzm hC4;clear hA4 hC4 hi04 hsz4;go_enter Try.func53,Try.ntmps53;go_wp2_with (first|((with_reducible refine gate_dst (N:=10) rfl ?_);refine box_event ?hg (N:=10) ?hd (cs:=#[.slice A0 (l0.take 2000).length c0,.int .i64 0]) (t:=94) ?hr ?_;(case hd=>rfl);(case hg=>rfl);(case hr=>first|(go_simp;done)|(go_simp;rfl));intro gb102 hg w5 hbox hb;have n0_:=zzm (zzp HBW.out hb);have n1_:=zzm (zzp zzh1 hb);have n2_:=zzm (hbox);have n3_:=zzm ((by rw [hg];exact (zzo (by repeat (first|(with_reducible first|exact HBW.out|apply zza|apply zzb|apply zzc)|exact HBW.out))):w.heap.size≤gb102));have n4_:=zzm ((Nat.le_trans HW0.out (by rw [hg];exact (zzo (by repeat (first|(with_reducible first|exact HBW.out|apply zza|apply zzb|apply zzc)|exact HBW.out))):w.heap.size≤gb102):w0.heap.size≤gb102));clear HBW HB;have HBW:=n0_;have HB:=n1_;have BK102:=n2_;have GW102:=n3_;have GE102:=n4_;clear n0_ n1_ n2_ n3_ n4_ hb hbox hg));go_ret;exact ⟨_,rfl,(show IsS94 w0 _ gb102 (l0.take 2000) 0 from ⟨_,_,by (with_reducible repeat (first|apply zzf|apply zzg|apply zze));exact BK102.out,GE102.out,HR101.out⟩),by repeat (first|(with_reducible first|exact HB.out|apply zza|apply zzb|apply zzc|refine zzd ?_ GE102.out)|exact HB.out),by repeat (first|(with_reducible first|exact HBW.out|apply zza|apply zzb|apply zzc|refine zzd ?_ GW102.out)|exact HBW.out)⟩
  ·
   rw [if_neg c3] at H;exact absurd H (by simp)
 ·
  rw [if_neg c2] at H;have c2b0:decide (2000 < (l0.length:Int))=false:=decide_eq_false c2;have c2b1:decide (2000 < l0.length)=false:=decide_eq_false (by omega);clear c2;simp only [Option.some.injEq,Prod.mk.injEq] at H;obtain ⟨rfl,rfl⟩:=H;go_enter Try.func53,Try.ntmps53;go_wp2_with (first|((with_reducible refine gate_dst (N:=10) rfl ?_);refine box_event ?hg (N:=10) ?hd (cs:=#[.slice A0 l0.length c0,.int .i64 0]) (t:=94) ?hr ?_;(case hd=>rfl);(case hg=>rfl);(case hr=>first|(go_simp;done)|(go_simp;rfl));intro gb103 hg w6 hbox hb;have n0_:=zzm (zzp HBW.out hb);have n1_:=zzm (zzp zzh1 hb);have n2_:=zzm (hbox);have n3_:=zzm ((by rw [hg];exact (zzo (by repeat (first|(with_reducible first|exact HBW.out|apply zza|apply zzb|apply zzc)|exact HBW.out))):w.heap.size≤gb103));have n4_:=zzm ((Nat.le_trans HW0.out (by rw [hg];exact (zzo (by repeat (first|(with_reducible first|exact HBW.out|apply zza|apply zzb|apply zzc)|exact HBW.out))):w.heap.size≤gb103):w0.heap.size≤gb103));clear HBW HB;have HBW:=n0_;have HB:=n1_;have BK103:=n2_;have GW103:=n3_;have GE103:=n4_;clear n0_ n1_ n2_ n3_ n4_ hb hbox hg));go_ret;exact ⟨_,rfl,(show IsS94 w0 _ gb103 l0 0 from ⟨_,_,by (with_reducible repeat (first|apply zzf|apply zzg|apply zze));exact BK103.out,GE103.out,HR0.out⟩),by repeat (first|(with_reducible first|exact HB.out|apply zza|apply zzb|apply zzc|refine zzd ?_ GE103.out)|exact HB.out),by repeat (first|(with_reducible first|exact HBW.out|apply zza|apply zzb|apply zzc|refine zzd ?_ GW103.out)|exact HBW.out)⟩
def spec_l6In.f (a0:Int) (a1:Int) (a2:Int):Option (Bool):=if a0 ≥ a1 then (some (decide (a0≤a2))) else (some false)
set_option maxHeartbeats 8000000 in
set_option maxRecDepth 100000 in
theorem spec_l6In.calls (a0:Int) (a1:Int) (a2:Int) (r:Bool) (w:World) (h:spec_l6In.f a0 a1 a2=some r) :
  Calls Try.prog 84 #[.int .i64 a0,.int .i64 a1,.int .i64 a2] w fun e w'=>e = .returned (.bool r)∧Drawn0 w w':=by
 have H:(if a0 ≥ a1 then (some (decide (a0≤a2))) else (some false))=some r:=h;clear h;by_cases c4:a0 ≥ a1
 ·
  rw [if_pos c4] at H;have c4b0:decide (a1≤a0)=true:=decide_eq_true c4;clear c4;obtain rfl:=Option.some.inj H;go_enter Try.func84,Try.ntmps84;go_wp2;go_ret;exact ⟨by first|rfl|(simp;done)|(simp [*];done),by repeat (first|exact Drawn0.refl _|apply Drawn0.step)⟩
 ·
  rw [if_neg c4] at H;have c4b0:decide (a1≤a0)=false:=decide_eq_false c4;clear c4;obtain rfl:=Option.some.inj H;go_enter Try.func84,Try.ntmps84;go_wp2;go_ret;exact ⟨by first|rfl|(simp;done)|(simp [*];done),by repeat (first|exact Drawn0.refl _|apply Drawn0.step)⟩
def spec_l1Ok.l0:Nat→List Int→Int→Option (Bool)
 | 0,_,_=>none
 | k+1,x0,x3=>if x3 < (x0.length:Int) then (if 0≤x3 then ((spec_l6In.f (rd x0 x3) 0 255).bind fun t105=>(if t105=true then (spec_l1Ok.l0 k x0 (wrap64 (x3+1))) else (some false))) else (none)) else (some true)
def spec_l1Ok.f (k:Nat) (l0:List Int):Option (Bool):=spec_l1Ok.l0 k l0 0
set_option maxHeartbeats 8000000 in
set_option maxRecDepth 100000 in
theorem spec_l1Ok.calls (k:Nat) (A0:Option Addr) (c0:Nat) (l0:List Int) (r:Bool) (w:World) (hr0:Kd.C (Kd.int .i64) w A0 l0.length l0) (hc0:l0.length≤c0) (h:spec_l1Ok.f k l0=some r) :
  Calls Try.prog 114 #[.slice A0 l0.length c0] w fun e w'=>e = .returned (.bool r)∧Drawn0 w w':=by
 have HR0:=zzm hr0;have HC0:=zzm hc0;clear hr0 hc0;have H:(spec_l1Ok.l0 k l0 0)=some r:=h;clear h;have H':=zzm H;clear H;go_enter Try.func114,Try.ntmps114;go_wp2;go_loopg [3] k (fun kq v3 w'=>∃ (x3_1:Int),v3 = .int .i64 x3_1∧Aside0 (spec_l1Ok.l0 kq l0 x3_1=some r)∧Aside0 (kq≤k)∧Drawn0 w w')
 case atStart=>exact ⟨(0),(by first|rfl|(simp;done)|(simp [*];done)),H',⟨Nat.le_refl _⟩,by repeat (first|exact Drawn0.refl _|apply Drawn0.step)⟩
 case round=>
  clear H';try clear c1
  obtain ⟨x3_1,rfl,HA,HK1,⟨m1,rfl⟩⟩:=hrel;cases gk with
  | zero=>exact absurd HA.out (by simp [spec_l1Ok.l0])
  | succ k1=>
   have H:=HA.out;clear HA;simp only [spec_l1Ok.l0] at H;by_cases c2:x3_1 < (l0.length:Int)
   ·
    rw [if_pos c2] at H;have c2b0:decide (x3_1 < (l0.length:Int))=true:=decide_eq_true c2;clear c2;by_cases c3 : 0≤x3_1
    ·
     rw [if_pos c3] at H;have c3b0:decide (0≤x3_1)=true:=decide_eq_true c3;clear c3;replace H:=Option.bind_eq_some_iff.mp H;obtain ⟨t105,A40,H⟩:=H;replace H:(if t105=true then (spec_l1Ok.l0 k1 l0 (wrap64 (x3_1+1))) else (some false))=some r:=H;have A4:=zzm A40;clear A40;by_cases c5:t105=true
     ·
      subst c5;have H1:(spec_l1Ok.l0 k1 l0 (wrap64 (x3_1+1)))=some r:=by rw [if_pos rfl] at H;exact H
      clear H;have H:=H1;clear H1;have H':=zzm H;clear H;have p104 : 0≤(x3_1:Int):=zzt;have q104:x3_1 < (l0.length:Int):=zzt;obtain ⟨ad104,e104,hx104_0⟩:=Kd.at_int HR0.out x3_1 p104 q104;cases e104;replace p104:=eq_true p104;replace q104:=eq_true q104;go_wp2_with (first|((with_reducible refine gate_callee (f:=84) rfl ?_);refine goesL_ (some 14) rfl rfl Try.func84 (by kernel_rfl) rfl #[.int .i64 (rd l0 x3_1),.int .i64 0,.int .i64 255] rfl zzM2 ?_;(with_reducible refine (spec_l6In.calls (rd l0 x3_1) 0 255 true _ A4.out).mono ?_);rintro e w' ⟨rfl,⟨nd,rfl⟩⟩;refine ⟨_,rfl,?_⟩));go_roundg k1
      case measure=>have:=HK1.out;omega
      case rel=>exact ⟨(wrap64 (x3_1+1)),(by first|rfl|(simp;done)|(simp [*];done)),H',⟨by have:=HK1.out;omega⟩,by repeat (first|exact Drawn0.refl _|apply Drawn0.step)⟩
     ·
      replace c5:=Bool.eq_false_iff.mpr c5;subst c5;have H1:(some false)=some r:=by rw [if_neg (show ¬ (false=true) by decide)] at H;exact H
      clear H;have H:=H1;clear H1;obtain rfl:=Option.some.inj H;have p104 : 0≤(x3_1:Int):=zzt;have q104:x3_1 < (l0.length:Int):=zzt;obtain ⟨ad104,e104,hx104_0⟩:=Kd.at_int HR0.out x3_1 p104 q104;cases e104;replace p104:=eq_true p104;replace q104:=eq_true q104;go_wp2_with (first|((with_reducible refine gate_callee (f:=84) rfl ?_);refine goesL_ (some 14) rfl rfl Try.func84 (by kernel_rfl) rfl #[.int .i64 (rd l0 x3_1),.int .i64 0,.int .i64 255] rfl zzM2 ?_;(with_reducible refine (spec_l6In.calls (rd l0 x3_1) 0 255 false _ A4.out).mono ?_);rintro e w' ⟨rfl,⟨nd,rfl⟩⟩;refine ⟨_,rfl,?_⟩));go_ret;exact ⟨by first|rfl|(simp;done)|(simp [*];done),by repeat (first|exact Drawn0.refl _|apply Drawn0.step)⟩
    ·
     rw [if_neg c3] at H;exact absurd H (by simp)
   ·
    rw [if_neg c2] at H;have c2b0:decide (x3_1 < (l0.length:Int))=false:=decide_eq_false c2;clear c2;obtain rfl:=Option.some.inj H;go_wp2;go_ret;exact ⟨by first|rfl|(simp;done)|(simp [*];done),by repeat (first|exact Drawn0.refl _|apply Drawn0.step)⟩
def spec_l3Part.f (k:Nat) (a0:Bool) (l1:List Int):Option (Bool):=if a0=true then ((spec_l1Ok.f k l1).bind fun t106=>(if t106=true then (some (decide ((l1.length:Int)≤12))) else (some false))) else (if (l1.length:Int)=0 then ((spec_l1Ok.f k l1).bind fun t107=>(if t107=true then (some (decide ((l1.length:Int)≤12))) else (some false))) else (some false))
set_option maxHeartbeats 8000000 in
set_option maxRecDepth 100000 in
theorem spec_l3Part.calls (k:Nat) (a0:Bool) (A1:Option Addr) (c1:Nat) (l1:List Int) (r:Bool) (w:World) (hr1:Kd.C (Kd.int .i64) w A1 l1.length l1) (hc1:l1.length≤c1) (h:spec_l3Part.f k a0 l1=some r) :
  Calls Try.prog 109 #[.bool a0,.slice A1 l1.length c1] w fun e w'=>e = .returned (.bool r)∧Drawn0 w w':=by
 have HR1:=zzm hr1;have HC1:=zzm hc1;clear hr1 hc1;have H:(if a0=true then ((spec_l1Ok.f k l1).bind fun t106=>(if t106=true then (some (decide ((l1.length:Int)≤12))) else (some false))) else (if (l1.length:Int)=0 then ((spec_l1Ok.f k l1).bind fun t107=>(if t107=true then (some (decide ((l1.length:Int)≤12))) else (some false))) else (some false)))=some r:=h;clear h;by_cases c3:a0=true
 ·
  subst c3;have H1:((spec_l1Ok.f k l1).bind fun t106=>(if t106=true then (some (decide ((l1.length:Int)≤12))) else (some false)))=some r:=by rw [if_pos rfl] at H;exact H
  clear H;have H:=H1;clear H1;replace H:=Option.bind_eq_some_iff.mp H;obtain ⟨t106,A40,H⟩:=H;replace H:(if t106=true then (some (decide ((l1.length:Int)≤12))) else (some false))=some r:=H;have A4:=zzm A40;clear A40;by_cases c5:t106=true
  ·
   subst c5;have H1:(some (decide ((l1.length:Int)≤12)))=some r:=by rw [if_pos rfl] at H;exact H
   clear H;have H:=H1;clear H1;obtain rfl:=Option.some.inj H;go_enter Try.func109,Try.ntmps109;go_wp2_with (first|(go_at_call 114;(with_reducible refine (spec_l1Ok.calls k _ _ l1 true _ ?side1 ?side2 A4.out).mono ?_);(case side1=>repeat (first|exact HR1.out|(with_reducible refine Kd.C_alloc ?_ _)|(with_reducible refine Kd.C_drewN ?_ _)|(with_reducible refine Kd.C_drew ?_)));(case side2=>exact HC1.out);rintro e w' ⟨rfl,⟨nd,rfl⟩⟩));go_ret;exact ⟨by first|rfl|(simp;done)|(simp [*];done),by repeat (first|exact Drawn0.refl _|apply Drawn0.step)⟩
  ·
   replace c5:=Bool.eq_false_iff.mpr c5;subst c5;have H1:(some false)=some r:=by rw [if_neg (show ¬ (false=true) by decide)] at H;exact H
   clear H;have H:=H1;clear H1;obtain rfl:=Option.some.inj H;go_enter Try.func109,Try.ntmps109;go_wp2_with (first|(go_at_call 114;(with_reducible refine (spec_l1Ok.calls k _ _ l1 false _ ?side1 ?side2 A4.out).mono ?_);(case side1=>repeat (first|exact HR1.out|(with_reducible refine Kd.C_alloc ?_ _)|(with_reducible refine Kd.C_drewN ?_ _)|(with_reducible refine Kd.C_drew ?_)));(case side2=>exact HC1.out);rintro e w' ⟨rfl,⟨nd,rfl⟩⟩));go_ret;exact ⟨by first|rfl|(simp;done)|(simp [*];done),by repeat (first|exact Drawn0.refl _|apply Drawn0.step)⟩
 ·
  replace c3:=Bool.eq_false_iff.mpr c3;subst c3;have H1:(if (l1.length:Int)=0 then ((spec_l1Ok.f k l1).bind fun t107=>(if t107=true then (some (decide ((l1.length:Int)≤12))) else (some false))) else (some false))=some r:=by rw [if_neg (show ¬ (false=true) by decide)] at H;exact H
  clear H;have H:=H1;clear H1;by_cases c6:(l1.length:Int)=0
  ·
   rw [if_pos c6] at H;have c6b0:((l1.length:Int)==0)=true:=beq_iff_eq.mpr c6;have c6b1:((l1.length:Int) != 0)=false:=bne_eq_false_iff_eq.mpr c6;clear c6;replace H:=Option.bind_eq_some_iff.mp H;obtain ⟨t107,A70,H⟩:=H;replace H:(if t107=true then (some (decide ((l1.length:Int)≤12))) else (some false))=some r:=H;have A7:=zzm A70;clear A70;by_cases c8:t107=true
   ·
    subst c8;have H1:(some (decide ((l1.length:Int)≤12)))=some r:=by rw [if_pos rfl] at H;exact H
    clear H;have H:=H1;clear H1;obtain rfl:=Option.some.inj H;go_enter Try.func109,Try.ntmps109;go_wp2_with (first|(go_at_call 114;(with_reducible refine (spec_l1Ok.calls k _ _ l1 true _ ?side1 ?side2 A7.out).mono ?_);(case side1=>repeat (first|exact HR1.out|(with_reducible refine Kd.C_alloc ?_ _)|(with_reducible refine Kd.C_drewN ?_ _)|(with_reducible refine Kd.C_drew ?_)));(case side2=>exact HC1.out);rintro e w' ⟨rfl,⟨nd,rfl⟩⟩));go_ret;exact ⟨by first|rfl|(simp;done)|(simp [*];done),by repeat (first|exact Drawn0.refl _|apply Drawn0.step)⟩
   ·
    replace c8:=Bool.eq_false_iff.mpr c8;subst c8;have H1:(some false)=some r:=by rw [if_neg (show ¬ (false=true) by decide)] at H;exact H
    clear H;have H:=H1;clear H1;obtain rfl:=Option.some.inj H;go_enter Try.func109,Try.ntmps109;go_wp2_with (first|(go_at_call 114;(with_reducible refine (spec_l1Ok.calls k _ _ l1 false _ ?side1 ?side2 A7.out).mono ?_);(case side1=>repeat (first|exact HR1.out|(with_reducible refine Kd.C_alloc ?_ _)|(with_reducible refine Kd.C_drewN ?_ _)|(with_reducible refine Kd.C_drew ?_)));(case side2=>exact HC1.out);rintro e w' ⟨rfl,⟨nd,rfl⟩⟩));go_ret;exact ⟨by first|rfl|(simp;done)|(simp [*];done),by repeat (first|exact Drawn0.refl _|apply Drawn0.step)⟩
  ·
   rw [if_neg c6] at H;have c6b0:((l1.length:Int)==0)=false:=beq_eq_false_iff_ne.mpr c6;have c6b1:((l1.length:Int) != 0)=true:=bne_iff_ne.mpr c6;have c6b2:¬ (l1 = []):=fun h_=>c6 (by rw [h_];rfl);obtain rfl:=Option.some.inj H;go_enter Try.func109,Try.ntmps109;go_wp2;go_ret;exact ⟨by first|rfl|(simp;done)|(simp [*];done),by repeat (first|exact Drawn0.refl _|apply Drawn0.step)⟩
def spec_RecordValid.f (k:Nat) (a0_0:Int) (a0_1:Int) (a0_2:Bool) (l0_3:List Int) (a0_4:Bool) (l0_5:List Int):Option (Bool):=(spec_l6In.f a0_0 0 99999).bind fun t109=>(if t109=true then ((spec_l6In.f a0_1 0 99999).bind fun t110=>(if t110=true then ((spec_l3Part.f k a0_2 l0_3).bind fun t111=>(if t111=true then ((spec_l3Part.f k a0_4 l0_5).bind fun t112=>(some t112)) else (some false))) else (some false))) else (some false))
set_option maxHeartbeats 8000000 in
set_option maxRecDepth 100000 in
theorem spec_RecordValid.calls (k:Nat) (a0_0:Int) (a0_1:Int) (a0_2:Bool) (A0_3:Option Addr) (c0_3:Nat) (l0_3:List Int) (a0_4:Bool) (A0_5:Option Addr) (c0_5:Nat) (l0_5:List Int) (r:Bool) (w:World) (hr0_3:Kd.C (Kd.int .i64) w A0_3 l0_3.length l0_3) (hc0_3:l0_3.length≤c0_3) (hr0_5:Kd.C (Kd.int .i64) w A0_5 l0_5.length l0_5) (hc0_5:l0_5.length≤c0_5) (h:spec_RecordValid.f k a0_0 a0_1 a0_2 l0_3 a0_4 l0_5=some r) :
  Calls Try.prog 99 #[.agg #[.int .i64 a0_0,.int .i64 a0_1,.bool a0_2,.slice A0_3 l0_3.length c0_3,.bool a0_4,.slice A0_5 l0_5.length c0_5]] w fun e w'=>e = .returned (.bool r)∧Below w.heap.size w w':=by
 have hu34:=Try.underlying34;have HR0_3:=zzm hr0_3;have HC0_3:=zzm hc0_3;clear hr0_3 hc0_3;have HR0_5:=zzm hr0_5;have HC0_5:=zzm hc0_5;clear hr0_5 hc0_5;have HB:=zzm (Below.refl w.heap.size w);have H:((spec_l6In.f a0_0 0 99999).bind fun t109=>(if t109=true then ((spec_l6In.f a0_1 0 99999).bind fun t110=>(if t110=true then ((spec_l3Part.f k a0_2 l0_3).bind fun t111=>(if t111=true then ((spec_l3Part.f k a0_4 l0_5).bind fun t112=>(some t112)) else (some false))) else (some false))) else (some false)))=some r:=h;clear h;replace H:=Option.bind_eq_some_iff.mp H;obtain ⟨t109,A20,H⟩:=H;replace H:(if t109=true then ((spec_l6In.f a0_1 0 99999).bind fun t110=>(if t110=true then ((spec_l3Part.f k a0_2 l0_3).bind fun t111=>(if t111=true then ((spec_l3Part.f k a0_4 l0_5).bind fun t112=>(some t112)) else (some false))) else (some false))) else (some false))=some r:=H;have A2:=zzm A20;clear A20;by_cases c3:t109=true
 ·
  subst c3;have H1:((spec_l6In.f a0_1 0 99999).bind fun t110=>(if t110=true then ((spec_l3Part.f k a0_2 l0_3).bind fun t111=>(if t111=true then ((spec_l3Part.f k a0_4 l0_5).bind fun t112=>(some t112)) else (some false))) else (some false)))=some r:=by rw [if_pos rfl] at H;exact H
  clear H;have H:=H1;clear H1;replace H:=Option.bind_eq_some_iff.mp H;obtain ⟨t110,A40,H⟩:=H;replace H:(if t110=true then ((spec_l3Part.f k a0_2 l0_3).bind fun t111=>(if t111=true then ((spec_l3Part.f k a0_4 l0_5).bind fun t112=>(some t112)) else (some false))) else (some false))=some r:=H;have A4:=zzm A40;clear A40;by_cases c5:t110=true
  ·
   subst c5;have H1:((spec_l3Part.f k a0_2 l0_3).bind fun t111=>(if t111=true then ((spec_l3Part.f k a0_4 l0_5).bind fun t112=>(some t112)) else (some false)))=some r:=by rw [if_pos rfl] at H;exact H
   clear H;have H:=H1;clear H1;replace H:=Option.bind_eq_some_iff.mp H;obtain ⟨t111,A60,H⟩:=H;replace H:(if t111=true then ((spec_l3Part.f k a0_4 l0_5).bind fun t112=>(some t112)) else (some false))=some r:=H;have A6:=zzm A60;clear A60;by_cases c7:t111=true
   ·
    subst c7;have H1:((spec_l3Part.f k a0_4 l0_5).bind fun t112=>(some t112))=some r:=by rw [if_pos rfl] at H;exact H
    clear H;have H:=H1;clear H1;replace H:=Option.bind_eq_some_iff.mp H;obtain ⟨t112,A80,H⟩:=H;replace H:(some t112)=some r:=H;have A8:=zzm A80;clear A80;obtain rfl:=Option.some.inj H;go_enter Try.func99,Try.ntmps99;go_wp2_with (first|((with_reducible refine gate_dst (N:=1) rfl ?_);refine box_event ?hg (N:=1) ?hd (cs:=#[.int .i64 a0_0,.int .i64 a0_1,.bool a0_2,.slice A0_3 l0_3.length c0_3,.bool a0_4,.slice A0_5 l0_5.length c0_5]) (t:=34) ?hr ?_;(case hd=>rfl);(case hg=>rfl);(case hr=>first|(go_simp;done)|(go_simp;rfl));intro gb108 hg w9 hbox hb;have n0_:=zzm (zzp zzh1 hb);have n1_:=zzm (hbox);have n2_:=zzm ((by rw [hg];exact (zzo zzh1):w.heap.size≤gb108));have n3_:=zzm ((by rw [hg];exact (zzo zzh1):w.heap.size≤gb108));clear HB;have HB:=n0_;have BK108:=n1_;have GW108:=n2_;have GE108:=n3_;clear n0_ n1_ n2_ n3_ hb hbox hg;obtain ⟨hcz10_0,hcz10_1,hcz10_2,hcz10_3,hcz10_4,hcz10_5,hfz10_0,hfz10_1,hfz10_2,hfz10_3,hfz10_4,hfz10_5⟩:=zzc6 BK108.out)|((with_reducible refine gate_callee (f:=84) rfl ?_);refine goesL_ (some 5) rfl rfl Try.func84 (by kernel_rfl) rfl #[.int .i64 a0_0,.int .i64 0,.int .i64 99999] rfl zzM2 ?_;(with_reducible refine (spec_l6In.calls a0_0 0 99999 true _ A2.out).mono ?_);rintro e w' ⟨rfl,⟨nd,rfl⟩⟩;refine ⟨_,rfl,?_⟩)|(go_at_call 84;(with_reducible refine (spec_l6In.calls a0_1 0 99999 true _ A4.out).mono ?_);rintro e w' ⟨rfl,⟨nd,rfl⟩⟩)|(go_at_call 109;(with_reducible refine (spec_l3Part.calls k a0_2 _ _ l0_3 true _ ?side1 ?side2 A6.out).mono ?_);(case side1=>repeat (first|exact (Kd.C_below HR0_3.out zzh2)|(with_reducible refine Kd.C_alloc ?_ _)|(with_reducible refine Kd.C_drewN ?_ _)|(with_reducible refine Kd.C_drew ?_)));(case side2=>exact HC0_3.out);rintro e w' ⟨rfl,⟨nd,rfl⟩⟩)|(go_at_call 109;(with_reducible refine (spec_l3Part.calls k a0_4 _ _ l0_5 t112 _ ?side1 ?side2 A8.out).mono ?_);(case side1=>repeat (first|exact (Kd.C_below HR0_5.out zzh2)|(with_reducible refine Kd.C_alloc ?_ _)|(with_reducible refine Kd.C_drewN ?_ _)|(with_reducible refine Kd.C_drew ?_)));(case side2=>exact HC0_5.out);rintro e w' ⟨rfl,⟨nd,rfl⟩⟩));go_ret;exact ⟨by first|rfl|(simp [errW_none,errW_some] <;> rfl)|(simp [*,errW_none,errW_some] <;> rfl),by repeat (first|(with_reducible first|exact HB.out|apply zza|apply zzb|apply zzc|refine zzd ?_ GE108.out)|exact HB.out)⟩
   ·
    replace c7:=Bool.eq_false_iff.mpr c7;subst c7;have H1:(some false)=some r:=by rw [if_neg (show ¬ (false=true) by decide)] at H;exact H
    clear H;have H:=H1;clear H1;obtain rfl:=Option.some.inj H;go_enter Try.func99,Try.ntmps99;go_wp2_with (first|((with_reducible refine gate_dst (N:=1) rfl ?_);refine box_event ?hg (N:=1) ?hd (cs:=#[.int .i64 a0_0,.int .i64 a0_1,.bool a0_2,.slice A0_3 l0_3.length c0_3,.bool a0_4,.slice A0_5 l0_5.length c0_5]) (t:=34) ?hr ?_;(case hd=>rfl);(case hg=>rfl);(case hr=>first|(go_simp;done)|(go_simp;rfl));intro gb108 hg w11 hbox hb;have n0_:=zzm (zzp zzh1 hb);have n1_:=zzm (hbox);have n2_:=zzm ((by rw [hg];exact (zzo zzh1):w.heap.size≤gb108));have n3_:=zzm ((by rw [hg];exact (zzo zzh1):w.heap.size≤gb108));clear HB;have HB:=n0_;have BK108:=n1_;have GW108:=n2_;have GE108:=n3_;clear n0_ n1_ n2_ n3_ hb hbox hg;obtain ⟨hcz12_0,hcz12_1,hcz12_2,hcz12_3,hcz12_4,hcz12_5,hfz12_0,hfz12_1,hfz12_2,hfz12_3,hfz12_4,hfz12_5⟩:=zzc6 BK108.out)|((with_reducible refine gate_callee (f:=84) rfl ?_);refine goesL_ (some 5) rfl rfl Try.func84 (by kernel_rfl) rfl #[.int .i64 a0_0,.int .i64 0,.int .i64 99999] rfl zzM2 ?_;(with_reducible refine (spec_l6In.calls a0_0 0 99999 true _ A2.out).mono ?_);rintro e w' ⟨rfl,⟨nd,rfl⟩⟩;refine ⟨_,rfl,?_⟩)|(go_at_call 84;(with_reducible refine (spec_l6In.calls a0_1 0 99999 true _ A4.out).mono ?_);rintro e w' ⟨rfl,⟨nd,rfl⟩⟩)|(go_at_call 109;(with_reducible refine (spec_l3Part.calls k a0_2 _ _ l0_3 false _ ?side1 ?side2 A6.out).mono ?_);(case side1=>repeat (first|exact (Kd.C_below HR0_3.out zzh2)|(with_reducible refine Kd.C_alloc ?_ _)|(with_reducible refine Kd.C_drewN ?_ _)|(with_reducible refine Kd.C_drew ?_)));(case side2=>exact HC0_3.out);rintro e w' ⟨rfl,⟨nd,rfl⟩⟩));go_ret;exact ⟨by first|rfl|(simp [errW_none,errW_some] <;> rfl)|(simp [*,errW_none,errW_some] <;> rfl),by repeat (first|(with_reducible first|exact HB.out|apply zza|apply zzb|apply zzc|refine zzd ?_ GE108.out)|exact HB.out)⟩
  ·
   replace c5:=Bool.eq_false_iff.mpr c5;subst c5;have H1:(some false)=some r:=by rw [if_neg (show ¬ (false=true) by decide)] at H;exact H
   clear H;have H:=H1;clear H1;obtain rfl:=Option.some.inj H;go_enter Try.func99,Try.ntmps99;go_wp2_with (first|((with_reducible refine gate_dst (N:=1) rfl ?_);refine box_event ?hg (N:=1) ?hd (cs:=#[.int .i64 a0_0,.int .i64 a0_1,.bool a0_2,.slice A0_3 l0_3.length c0_3,.bool a0_4,.slice A0_5 l0_5.length c0_5]) (t:=34) ?hr ?_;(case hd=>rfl);(case hg=>rfl);(case hr=>first|(go_simp;done)|(go_simp;rfl));intro gb108 hg w13 hbox hb;have n0_:=zzm (zzp zzh1 hb);have n1_:=zzm (hbox);have n2_:=zzm ((by rw [hg];exact (zzo zzh1):w.heap.size≤gb108));have n3_:=zzm ((by rw [hg];exact (zzo zzh1):w.heap.size≤gb108));clear HB;have HB:=n0_;have BK108:=n1_;have GW108:=n2_;have GE108:=n3_;clear n0_ n1_ n2_ n3_ hb hbox hg;obtain ⟨hcz14_0,hcz14_1,hcz14_2,hcz14_3,hcz14_4,hcz14_5,hfz14_0,hfz14_1,hfz14_2,hfz14_3,hfz14_4,hfz14_5⟩:=zzc6 BK108.out)|((with_reducible refine gate_callee (f:=84) rfl ?_);refine goesL_ (some 5) rfl rfl Try.func84 (by kernel_rfl) rfl #[.int .i64 a0_0,.int .i64 0,.int .i64 99999] rfl zzM2 ?_;(with_reducible refine (spec_l6In.calls a0_0 0 99999 true _ A2.out).mono ?_);rintro e w' ⟨rfl,⟨nd,rfl⟩⟩;refine ⟨_,rfl,?_⟩)|(go_at_call 84;(with_reducible refine (spec_l6In.calls a0_1 0 99999 false _ A4.out).mono ?_);rintro e w' ⟨rfl,⟨nd,rfl⟩⟩));go_ret;exact ⟨by first|rfl|(simp [errW_none,errW_some] <;> rfl)|(simp [*,errW_none,errW_some] <;> rfl),by repeat (first|(with_reducible first|exact HB.out|apply zza|apply zzb|apply zzc|refine zzd ?_ GE108.out)|exact HB.out)⟩
 ·
  replace c3:=Bool.eq_false_iff.mpr c3;subst c3;have H1:(some false)=some r:=by rw [if_neg (show ¬ (false=true) by decide)] at H;exact H
  clear H;have H:=H1;clear H1;obtain rfl:=Option.some.inj H;go_enter Try.func99,Try.ntmps99;go_wp2_with (first|((with_reducible refine gate_dst (N:=1) rfl ?_);refine box_event ?hg (N:=1) ?hd (cs:=#[.int .i64 a0_0,.int .i64 a0_1,.bool a0_2,.slice A0_3 l0_3.length c0_3,.bool a0_4,.slice A0_5 l0_5.length c0_5]) (t:=34) ?hr ?_;(case hd=>rfl);(case hg=>rfl);(case hr=>first|(go_simp;done)|(go_simp;rfl));intro gb108 hg w15 hbox hb;have n0_:=zzm (zzp zzh1 hb);have n1_:=zzm (hbox);have n2_:=zzm ((by rw [hg];exact (zzo zzh1):w.heap.size≤gb108));have n3_:=zzm ((by rw [hg];exact (zzo zzh1):w.heap.size≤gb108));clear HB;have HB:=n0_;have BK108:=n1_;have GW108:=n2_;have GE108:=n3_;clear n0_ n1_ n2_ n3_ hb hbox hg;obtain ⟨hcz16_0,hcz16_1,hcz16_2,hcz16_3,hcz16_4,hcz16_5,hfz16_0,hfz16_1,hfz16_2,hfz16_3,hfz16_4,hfz16_5⟩:=zzc6 BK108.out)|((with_reducible refine gate_callee (f:=84) rfl ?_);refine goesL_ (some 5) rfl rfl Try.func84 (by kernel_rfl) rfl #[.int .i64 a0_0,.int .i64 0,.int .i64 99999] rfl zzM2 ?_;(with_reducible refine (spec_l6In.calls a0_0 0 99999 false _ A2.out).mono ?_);rintro e w' ⟨rfl,⟨nd,rfl⟩⟩;refine ⟨_,rfl,?_⟩));go_ret;exact ⟨by first|rfl|(simp [errW_none,errW_some] <;> rfl)|(simp [*,errW_none,errW_some] <;> rfl),by repeat (first|(with_reducible first|exact HB.out|apply zza|apply zzb|apply zzc|refine zzd ?_ GE108.out)|exact HB.out)⟩
def spec_l5Records.l0:Nat→List (S34)→Int→Option (Bool)
 | 0,_,_=>none
 | k+1,x0,x3=>if x3 < (x0.length:Int) then (if 0≤x3 then ((spec_RecordValid.f k ((rd_T34 x0 x3).f0) ((rd_T34 x0 x3).f1) ((rd_T34 x0 x3).f2) ((rd_T34 x0 x3).f3) ((rd_T34 x0 x3).f4) ((rd_T34 x0 x3).f5)).bind fun t114=>(if t114=true then (if x3 > 0 then (if 0≤(wrap64 (x3 - 1)) then (if (wrap64 (x3 - 1)) < (x0.length:Int) then (if ((rd_T34 x0 (wrap64 (x3 - 1))).f0) ≥ ((rd_T34 x0 x3).f0) then (some false) else (spec_l5Records.l0 k x0 (wrap64 (x3+1)))) else (none)) else (none)) else (spec_l5Records.l0 k x0 (wrap64 (x3+1)))) else (some false))) else (none)) else ((spec_l6In.f (x0.length:Int) 1 6).bind fun t117=>(some t117))
def spec_l5Records.f (k:Nat) (l0:List (S34)):Option (Bool):=spec_l5Records.l0 k l0 0
def spec_l5Records.T4:Bool×List (List Nat×List Nat):=(true,[([],[]),([],[]),([0,1],[0,1]),([2],[2]),([3],[3]),([4],[4]),([5,4],[5]),([6],[6]),([7,6],[6,7]),([8,6,6],[6,8]),([9],[9]),([9],[9]),([11,9],[9,11]),([10,12,9],[9,10,12]),([13,9],[9,13]),([14,9],[9,14]),([9],[9]),([9],[9]),([16,17,9],[9,16,17]),([18,9],[9,18]),([19,9],[9,19]),([15,20,9],[9,15,20]),([9,21,6],[6,9,21]),([6,22],[6,22])])
def spec_l5Records.B4:List Nat:=[0,0,3,7,15,31,63,127,255,511,1023,1023,3071,8191,16383,32767,1023,1023,197631,459775,984063,2097151,4194303,8388607]
theorem spec_l5Records.tab4:rtab .any (opsOf Try.f83 4)=spec_l5Records.T4:=by kernel_rfl
theorem spec_l5Records.bits4:waitsOk spec_l5Records.T4.2 spec_l5Records.B4=true:=by kernel_rfl
set_option maxHeartbeats 8000000 in
set_option maxRecDepth 100000 in
theorem spec_l5Records.calls (k:Nat) (A0:Option Addr) (c0:Nat) (l0:List (S34)) (r:Bool) (w:World) (hr0:Kd.C k34 w A0 l0.length l0) (hc0:l0.length≤c0) (h:spec_l5Records.f k l0=some r) :
  Calls Try.prog 83 #[.slice A0 l0.length c0] w fun e w'=>e = .returned (.bool r)∧Below w.heap.size w w':=by
 have hu34:=Try.underlying34;have HR0:=zzm hr0;have HC0:=zzm hc0;clear hr0 hc0;have HB:=zzm (Below.refl w.heap.size w);have H:(spec_l5Records.l0 k l0 0)=some r:=h;clear h;have H':=zzm H;clear H;go_enter Try.func83,Try.ntmps83;go_wp2;go_loopg [3] k (fun kq v3 w'=>∃ (x3_1:Int),v3 = .int .i64 x3_1∧Aside0 (spec_l5Records.l0 kq l0 x3_1=some r)∧Aside0 (kq≤k)∧Aside0 (Below w.heap.size w w'))
 case atStart=>exact ⟨(0),(by first|rfl|(simp;done)|(simp [*];done)),H',⟨Nat.le_refl _⟩,⟨zzh1⟩⟩
 case round=>
  clear H';obtain ⟨x3_1,rfl,HA,HK1,HB⟩:=hrel;cases gk with
  | zero=>exact absurd HA.out (by simp [spec_l5Records.l0])
  | succ k1=>
   have H:=HA.out;clear HA;simp only [spec_l5Records.l0] at H;by_cases c2:x3_1 < (l0.length:Int)
   ·
    rw [if_pos c2] at H;have c2b0:decide (x3_1 < (l0.length:Int))=true:=decide_eq_true c2;clear c2;by_cases c3 : 0≤x3_1
    ·
     rw [if_pos c3] at H;have c3b0:decide (0≤x3_1)=true:=decide_eq_true c3;clear c3;replace H:=Option.bind_eq_some_iff.mp H;obtain ⟨t114,A40,H⟩:=H;replace H:(if t114=true then (if x3_1 > 0 then (if 0≤(wrap64 (x3_1 - 1)) then (if (wrap64 (x3_1 - 1)) < (l0.length:Int) then (if ((rd_T34 l0 (wrap64 (x3_1 - 1))).f0) ≥ ((rd_T34 l0 x3_1).f0) then (some false) else (spec_l5Records.l0 k1 l0 (wrap64 (x3_1+1)))) else (none)) else (none)) else (spec_l5Records.l0 k1 l0 (wrap64 (x3_1+1)))) else (some false))=some r:=H;have A4:=zzm A40;clear A40;by_cases c5:t114=true
     ·
      subst c5;have H1:(if x3_1 > 0 then (if 0≤(wrap64 (x3_1 - 1)) then (if (wrap64 (x3_1 - 1)) < (l0.length:Int) then (if ((rd_T34 l0 (wrap64 (x3_1 - 1))).f0) ≥ ((rd_T34 l0 x3_1).f0) then (some false) else (spec_l5Records.l0 k1 l0 (wrap64 (x3_1+1)))) else (none)) else (none)) else (spec_l5Records.l0 k1 l0 (wrap64 (x3_1+1))))=some r:=by rw [if_pos rfl] at H;exact H
      clear H;have H:=H1;clear H1;by_cases c6:x3_1 > 0
      ·
       rw [if_pos c6] at H;have c6b0:decide (0 < x3_1)=true:=decide_eq_true c6;clear c6;obtain ⟨ji7,hji7⟩:∃ j_:Int,(wrap64 (x3_1 - 1))=j_:=⟨_,rfl⟩;replace H:(if 0≤(ji7) then (if (ji7) < (l0.length:Int) then (if ((rd_T34 l0 (ji7)).f0) ≥ ((rd_T34 l0 x3_1).f0) then (some false) else (spec_l5Records.l0 k1 l0 (wrap64 (x3_1+1)))) else (none)) else (none))=some r:=by first|(rw [hji7] at H;exact H)|(simp only [hji7] at H ⊢;exact H)
       (try rw [hji7] at A4);have hji7w:(IntKind.i64.wrap (x3_1 - 1))=ji7:=(i64_w _).trans hji7;by_cases c8 : 0≤(ji7)
       ·
        rw [if_pos c8] at H;have c8b0:decide (0≤(ji7))=true:=decide_eq_true c8;clear c8;by_cases c9:(ji7) < (l0.length:Int)
        ·
         rw [if_pos c9] at H;have c9b0:decide ((ji7) < (l0.length:Int))=true:=decide_eq_true c9;clear c9;by_cases c10:((rd_T34 l0 (ji7)).f0) ≥ ((rd_T34 l0 x3_1).f0)
         ·
          rw [if_pos c10] at H;have c10b0:decide (((rd_T34 l0 x3_1).f0)≤((rd_T34 l0 (ji7)).f0))=true:=decide_eq_true c10;clear c10;obtain rfl:=Option.some.inj H;try go_wp2
          have n0_:=zzm (zzc HB.out);clear HB;have HB:=n0_;clear n0_;have p113 : 0≤(x3_1:Int):=zzt;have q113:x3_1 < (l0.length:Int):=zzt;obtain ⟨ad113,A113_3,c113_3,A113_5,c113_5,e113,hx113_0,hx113_1,hx113_2,hx113_3,hx113_4,hx113_5,hl113_3,hi113_3,hl113_5,hi113_5⟩:=at_T34 HR0.out x3_1 p113 q113;have hw113_5:=hx113_5;have hw113_4:=hx113_4;have hw113_3:=hx113_3;have hw113_2:=hx113_2;have hw113_1:=hx113_1;have hw113_0:=hx113_0;cases e113;replace hx113_0:=zzx HB.out hx113_0;replace hx113_1:=zzx HB.out hx113_1;replace hx113_2:=zzx HB.out hx113_2;replace hx113_3:=zzx HB.out hx113_3;replace hx113_4:=zzx HB.out hx113_4;replace hx113_5:=zzx HB.out hx113_5;have HR113_3:=zzm hi113_3;have HC113_3:=zzm hl113_3;clear hi113_3 hl113_3;have HR113_5:=zzm hi113_5;have HC113_5:=zzm hl113_5;clear hi113_5 hl113_5;replace p113:=eq_true p113;replace q113:=eq_true q113;have p115 : 0≤((ji7):Int):=zzt;have q115:(ji7) < (l0.length:Int):=zzt;obtain ⟨ad115,A115_3,c115_3,A115_5,c115_5,e115,hx115_0,hx115_1,hx115_2,hx115_3,hx115_4,hx115_5,hl115_3,hi115_3,hl115_5,hi115_5⟩:=at_T34 HR0.out (ji7) p115 q115;have hw115_5:=hx115_5;have hw115_4:=hx115_4;have hw115_3:=hx115_3;have hw115_2:=hx115_2;have hw115_1:=hx115_1;have hw115_0:=hx115_0;obtain rfl:ad113=ad115:=(by injection e115);replace hx115_0:=zzx HB.out hx115_0;replace hx115_1:=zzx HB.out hx115_1;replace hx115_2:=zzx HB.out hx115_2;replace hx115_3:=zzx HB.out hx115_3;replace hx115_4:=zzx HB.out hx115_4;replace hx115_5:=zzx HB.out hx115_5;have HR115_3:=zzm hi115_3;have HC115_3:=zzm hl115_3;clear hi115_3 hl115_3;have HR115_5:=zzm hi115_5;have HC115_5:=zzm hl115_5;clear hi115_5 hl115_5;replace p115:=eq_true p115;replace q115:=eq_true q115;have p116 : 0≤(x3_1:Int):=zzt;have q116:x3_1 < (l0.length:Int):=zzt;obtain ⟨ad116,A116_3,c116_3,A116_5,c116_5,e116,hx116_0,hx116_1,hx116_2,hx116_3,hx116_4,hx116_5,hl116_3,hi116_3,hl116_5,hi116_5⟩:=at_T34 HR0.out x3_1 p116 q116;have hw116_5:=hx116_5;have hw116_4:=hx116_4;have hw116_3:=hx116_3;have hw116_2:=hx116_2;have hw116_1:=hx116_1;have hw116_0:=hx116_0;obtain rfl:ad113=ad116:=(by injection e116);replace hx116_0:=zzx HB.out hx116_0;replace hx116_1:=zzx HB.out hx116_1;replace hx116_2:=zzx HB.out hx116_2;replace hx116_3:=zzx HB.out hx116_3;replace hx116_4:=zzx HB.out hx116_4;replace hx116_5:=zzx HB.out hx116_5;have HR116_3:=zzm hi116_3;have HC116_3:=zzm hl116_3;clear hi116_3 hl116_3;have HR116_5:=zzm hi116_5;have HC116_5:=zzm hl116_5;clear hi116_5 hl116_5;replace p116:=eq_true p116;replace q116:=eq_true q116;refine start_ (n:=24) (S:=fun w'=>w'.cell? (ad113.add ((x3_1).toNat * 6))=some (.int .i64 ((rd_T34 l0 x3_1).f0))∧w'.cell? ⟨(ad113.add ((x3_1).toNat * 6)).block,(ad113.add ((x3_1).toNat * 6)).off+1,none⟩=some (.int .i64 ((rd_T34 l0 x3_1).f1))∧w'.cell? ⟨(ad113.add ((x3_1).toNat * 6)).block,(ad113.add ((x3_1).toNat * 6)).off+2,none⟩=some (.bool ((rd_T34 l0 x3_1).f2))∧w'.cell? ⟨(ad113.add ((x3_1).toNat * 6)).block,(ad113.add ((x3_1).toNat * 6)).off+3,none⟩=some (.slice A113_3 ((rd_T34 l0 x3_1).f3).length c113_3)∧w'.cell? ⟨(ad113.add ((x3_1).toNat * 6)).block,(ad113.add ((x3_1).toNat * 6)).off+4,none⟩=some (.bool ((rd_T34 l0 x3_1).f4))∧w'.cell? ⟨(ad113.add ((x3_1).toNat * 6)).block,(ad113.add ((x3_1).toNat * 6)).off+5,none⟩=some (.slice A113_5 ((rd_T34 l0 x3_1).f5).length c113_5)∧w'.cell? (ad113.add (((ji7)).toNat * 6))=some (.int .i64 ((rd_T34 l0 (ji7)).f0))∧w'.cell? ⟨(ad113.add (((ji7)).toNat * 6)).block,(ad113.add (((ji7)).toNat * 6)).off+1,none⟩=some (.int .i64 ((rd_T34 l0 (ji7)).f1))∧w'.cell? ⟨(ad113.add (((ji7)).toNat * 6)).block,(ad113.add (((ji7)).toNat * 6)).off+2,none⟩=some (.bool ((rd_T34 l0 (ji7)).f2))∧w'.cell? ⟨(ad113.add (((ji7)).toNat * 6)).block,(ad113.add (((ji7)).toNat * 6)).off+3,none⟩=some (.slice A115_3 ((rd_T34 l0 (ji7)).f3).length c115_3)∧w'.cell? ⟨(ad113.add (((ji7)).toNat * 6)).block,(ad113.add (((ji7)).toNat * 6)).off+4,none⟩=some (.bool ((rd_T34 l0 (ji7)).f4))∧w'.cell? ⟨(ad113.add (((ji7)).toNat * 6)).block,(ad113.add (((ji7)).toNat * 6)).off+5,none⟩=some (.slice A115_5 ((rd_T34 l0 (ji7)).f5).length c115_5)∧w'.cell? (ad113.add ((x3_1).toNat * 6))=some (.int .i64 ((rd_T34 l0 x3_1).f0))∧w'.cell? ⟨(ad113.add ((x3_1).toNat * 6)).block,(ad113.add ((x3_1).toNat * 6)).off+1,none⟩=some (.int .i64 ((rd_T34 l0 x3_1).f1))∧w'.cell? ⟨(ad113.add ((x3_1).toNat * 6)).block,(ad113.add ((x3_1).toNat * 6)).off+2,none⟩=some (.bool ((rd_T34 l0 x3_1).f2))∧w'.cell? ⟨(ad113.add ((x3_1).toNat * 6)).block,(ad113.add ((x3_1).toNat * 6)).off+3,none⟩=some (.slice A116_3 ((rd_T34 l0 x3_1).f3).length c116_3)∧w'.cell? ⟨(ad113.add ((x3_1).toNat * 6)).block,(ad113.add ((x3_1).toNat * 6)).off+4,none⟩=some (.bool ((rd_T34 l0 x3_1).f4))∧w'.cell? ⟨(ad113.add ((x3_1).toNat * 6)).block,(ad113.add ((x3_1).toNat * 6)).off+5,none⟩=some (.slice A116_5 ((rd_T34 l0 x3_1).f5).length c116_5)) (ds:=[]) (zzB 24 0) (by kernel_rfl) rfl rfl ⟨(zzx HB.out hw113_0),(zzx HB.out hw113_1),(zzx HB.out hw113_2),(zzx HB.out hw113_3),(zzx HB.out hw113_4),(zzx HB.out hw113_5),(zzx HB.out hw115_0),(zzx HB.out hw115_1),(zzx HB.out hw115_2),(zzx HB.out hw115_3),(zzx HB.out hw115_4),(zzx HB.out hw115_5),(zzx HB.out hw116_0),(zzx HB.out hw116_1),(zzx HB.out hw116_2),(zzx HB.out hw116_3),(zzx HB.out hw116_4),(zzx HB.out hw116_5)⟩ (fun hHeld=>?_);refine with_tabW spec_l5Records.tab4 spec_l5Records.bits4 (fun HT_ HW_=>?_);generalize wr.drew=w11 at HB HR113_3 HR113_5 HR115_3 HR115_5 HR116_3 HR116_5 hx113_0 hx113_1 hx113_2 hx113_3 hx113_4 hx113_5 hx115_0 hx115_1 hx115_2 hx115_3 hx115_4 hx115_5 hx116_0 hx116_1 hx116_2 hx116_3 hx116_4 hx116_5 hHeld ⊢;refine pure_ (i:=0) (N:=some 10) (v:=?_) (a':=?_) (zzB 24 1) rfl rfl (zzA2 HT_.out) (fun _ _ _ h=>h) (Or.inl ⟨by rfl,?_⟩) ?_ ?_;rotate_left
          ·
           intro w';go_simp;with_reducible rfl
          rotate_left
          ·
           simp only [Act.put,zzq,zzr,zzs,i64_w,i32_w];rfl
          refine pure_ (i:=1) (N:=some 11) (v:=?_) (a':=?_) (zzB 24 3) rfl rfl (zzA2 HT_.out) (fun _ _ _ h=>h) (Or.inl ⟨by rfl,?_⟩) ?_ ?_;rotate_left
          ·
           intro w';go_simp;with_reducible rfl
          rotate_left
          ·
           simp only [Act.put,zzq,zzr,zzs,i64_w,i32_w];rfl
          refine pure_ (i:=2) (N:=some 12) (v:=?_) (a':=?_) (zzB 24 7) rfl rfl (zzA2 HT_.out) (fun _ _ _ h=>h) (Or.inl ⟨by rfl,?_⟩) ?_ ?_;rotate_left
          ·
           intro w';go_simp;with_reducible rfl
          rotate_left
          ·
           simp only [Act.put,zzq,zzr,zzs,i64_w,i32_w];rfl
          refine take_ (i:=3) (N:=some 13) (v:=?_) (a':=?_) (zzB 24 15) rfl rfl (take_ofW HT_.out HW_.out (by kernel_rfl)) (fun _ _ _ h=>h) (Or.inl ⟨by rfl,?_⟩) hHeld ?_ ?_;rotate_left
          ·
           rintro w' ⟨s0,s1,s2,s3,s4,s5,s6,s7,s8,s9,s10,s11,s12,s13,s14,s15,s16,s17⟩;go_simp;with_reducible rfl
          rotate_left
          ·
           simp only [Act.put,zzq,zzr,zzs,i64_w,i32_w];rfl
          refine one_ (i:=4) (N:=some 14) (zzB 24 31) rfl rfl (one_of HT_.out (by kernel_rfl)) (by decide) (fun K hK=>?_);refine goes_ Try.func99 (by kernel_rfl) rfl #[.agg #[.int .i64 ((rd_T34 l0 x3_1).f0),.int .i64 ((rd_T34 l0 x3_1).f1),.bool ((rd_T34 l0 x3_1).f2),.slice A113_3 ((rd_T34 l0 x3_1).f3).length c113_3,.bool ((rd_T34 l0 x3_1).f4),.slice A113_5 ((rd_T34 l0 x3_1).f5).length c113_5]] (by rfl) rfl rfl zzM2 ?_;with_reducible refine (spec_RecordValid.calls k1 ((rd_T34 l0 x3_1).f0) ((rd_T34 l0 x3_1).f1) ((rd_T34 l0 x3_1).f2) _ _ ((rd_T34 l0 x3_1).f3) ((rd_T34 l0 x3_1).f4) _ _ ((rd_T34 l0 x3_1).f5) true _ ?side1 ?side2 ?side3 ?side4 A4.out).mono ?_
          (case side1=>repeat (first|exact (Kd.C_below HR113_3.out HB.out)|(with_reducible refine Kd.C_alloc ?_ _)|(with_reducible refine Kd.C_drewN ?_ _)|(with_reducible refine Kd.C_drew ?_)))
          (case side2=>exact HC113_3.out)
          (case side3=>repeat (first|exact (Kd.C_below HR113_5.out HB.out)|(with_reducible refine Kd.C_alloc ?_ _)|(with_reducible refine Kd.C_drewN ?_ _)|(with_reducible refine Kd.C_drew ?_)))
          (case side4=>exact HC113_5.out);rintro e w12 ⟨rfl,hb⟩;refine ⟨_,rfl,?_⟩;have n0_:=zzm (zzp zzh1 hb);clear HB;have HB:=n0_;clear n0_
          (try clear hb)
          (try clear hb2)
          (try clear hk)
          (try clear hi);refine hK.out _ _ ⟨(zzx HB.out hw113_0),(zzx HB.out hw113_1),(zzx HB.out hw113_2),(zzx HB.out hw113_3),(zzx HB.out hw113_4),(zzx HB.out hw113_5),(zzx HB.out hw115_0),(zzx HB.out hw115_1),(zzx HB.out hw115_2),(zzx HB.out hw115_3),(zzx HB.out hw115_4),(zzx HB.out hw115_5),(zzx HB.out hw116_0),(zzx HB.out hw116_1),(zzx HB.out hw116_2),(zzx HB.out hw116_3),(zzx HB.out hw116_4),(zzx HB.out hw116_5)⟩ (fun hHeld=>?_);clear hK K;refine norm_ (a':=?_) ?_ ?_;rotate_left
          ·
           show Act.put _ (some 14) _ = _;simp only [Act.put,zzq,zzr,zzs,i64_w,i32_w];rfl
          refine pure_ (i:=5) (N:=some 15) (v:=?_) (a':=?_) (zzB 24 63) rfl rfl (zzA2 HT_.out) (fun _ _ _ h=>h) (Or.inl ⟨by rfl,?_⟩) ?_ ?_;rotate_left
          ·
           intro w';go_simp;with_reducible rfl
          rotate_left
          ·
           simp only [Act.put,zzq,zzr,zzs,i64_w,i32_w];rfl
          refine pure_ (i:=6) (N:=some 16) (v:=?_) (a':=?_) (zzB 24 127) rfl rfl (zzA2 HT_.out) (fun _ _ _ h=>h) (Or.inl ⟨by rfl,?_⟩) ?_ ?_;rotate_left
          ·
           intro w';go_simp;with_reducible rfl
          rotate_left
          ·
           simp only [Act.put,zzq,zzr,zzs,i64_w,i32_w];rfl
          refine pure_ (i:=7) (N:=some 17) (v:=?_) (a':=?_) (zzB 24 255) rfl rfl (zzA2 HT_.out) (fun _ _ _ h=>h) (Or.inl ⟨by rfl,?_⟩) ?_ ?_;rotate_left
          ·
           intro w';go_simp;with_reducible rfl
          rotate_left
          ·
           simp only [Act.put,zzq,zzr,zzs,i64_w,i32_w];rfl
          refine pure_ (i:=8) (N:=some 18) (v:=?_) (a':=?_) (zzB 24 511) rfl rfl (zzA2 HT_.out) (fun _ _ _ h=>h) (Or.inl ⟨by rfl,?_⟩) ?_ ?_;rotate_left
          ·
           intro w';go_simp;with_reducible rfl
          rotate_left
          ·
           simp only [Act.put,zzq,zzr,zzs,i64_w,i32_w];rfl
          refine pure_ (i:=9) (N:=some 19) (v:=?_) (a':=?_) (zzB 24 1023) rfl rfl (zzA2 HT_.out) (fun _ _ _ h=>h) (Or.inl ⟨by rfl,?_⟩) ?_ ?_;rotate_left
          ·
           intro w';go_simp;with_reducible rfl
          rotate_left
          ·
           simp only [Act.put,zzq,zzr,zzs,i64_w,i32_w];rfl
          refine pure_ (i:=10) (N:=some 20) (v:=?_) (a':=?_) (zzB 24 2047) rfl rfl (zzA2 HT_.out) (fun _ _ _ h=>h) (Or.inl ⟨by rfl,?_⟩) ?_ ?_;rotate_left
          ·
           intro w';go_simp;with_reducible rfl
          rotate_left
          ·
           simp only [Act.put,zzq,zzr,zzs,i64_w,i32_w];rfl
          refine pure_ (i:=11) (N:=some 21) (v:=?_) (a':=?_) (zzB 24 4095) rfl rfl (zzA2 HT_.out) (fun _ _ _ h=>h) (Or.inl ⟨by rfl,?_⟩) ?_ ?_;rotate_left
          ·
           intro w';go_simp;with_reducible rfl
          rotate_left
          ·
           simp only [Act.put,zzq,zzr,zzs,i64_w,i32_w];rfl
          refine pure_ (i:=12) (N:=some 22) (v:=?_) (a':=?_) (zzB 24 8191) rfl rfl (zzA2 HT_.out) (fun _ _ _ h=>h) (Or.inl ⟨by rfl,?_⟩) ?_ ?_;rotate_left
          ·
           intro w';go_simp;with_reducible rfl
          rotate_left
          ·
           simp only [Act.put,zzq,zzr,zzs,i64_w,i32_w];rfl
          refine pure_ (i:=13) (N:=some 23) (v:=?_) (a':=?_) (zzB 24 16383) rfl rfl (zzA2 HT_.out) (fun _ _ _ h=>h) (Or.inl ⟨by rfl,?_⟩) ?_ ?_;rotate_left
          ·
           intro w';go_simp;with_reducible rfl
          rotate_left
          ·
           simp only [Act.put,zzq,zzr,zzs,i64_w,i32_w];rfl
          refine pure_ (i:=14) (N:=some 24) (v:=?_) (a':=?_) (zzB 24 32767) rfl rfl (zzA2 HT_.out) (fun _ _ _ h=>h) (Or.inl ⟨by rfl,?_⟩) ?_ ?_;rotate_left
          ·
           intro w';go_simp;with_reducible rfl
          rotate_left
          ·
           simp only [Act.put,zzq,zzr,zzs,i64_w,i32_w];rfl
          refine pure_ (i:=16) (N:=some 26) (v:=?_) (a':=?_) (zzB 24 98303) rfl rfl (zzA2 HT_.out) (fun _ _ _ h=>h) (Or.inl ⟨by rfl,?_⟩) ?_ ?_;rotate_left
          ·
           intro w';go_simp;with_reducible rfl
          rotate_left
          ·
           simp only [Act.put,zzq,zzr,zzs,i64_w,i32_w];rfl
          refine pure_ (i:=17) (N:=some 27) (v:=?_) (a':=?_) (zzB 24 229375) rfl rfl (zzA2 HT_.out) (fun _ _ _ h=>h) (Or.inl ⟨by rfl,?_⟩) ?_ ?_;rotate_left
          ·
           intro w';go_simp;with_reducible rfl
          rotate_left
          ·
           simp only [Act.put,zzq,zzr,zzs,i64_w,i32_w];rfl
          refine pure_ (i:=18) (N:=some 28) (v:=?_) (a':=?_) (zzB 24 491519) rfl rfl (zzA2 HT_.out) (fun _ _ _ h=>h) (Or.inl ⟨by rfl,?_⟩) ?_ ?_;rotate_left
          ·
           intro w';go_simp;with_reducible rfl
          rotate_left
          ·
           simp only [Act.put,zzq,zzr,zzs,i64_w,i32_w];rfl
          refine pure_ (i:=19) (N:=some 29) (v:=?_) (a':=?_) (zzB 24 1015807) rfl rfl (zzA2 HT_.out) (fun _ _ _ h=>h) (Or.inl ⟨by rfl,?_⟩) ?_ ?_;rotate_left
          ·
           intro w';go_simp;with_reducible rfl
          rotate_left
          ·
           simp only [Act.put,zzq,zzr,zzs,i64_w,i32_w];rfl
          refine take_ (i:=15) (N:=some 25) (v:=?_) (a':=?_) (zzB 24 1048575) rfl rfl (take_ofW HT_.out HW_.out (by kernel_rfl)) (fun _ _ _ h=>h) (Or.inl ⟨by rfl,?_⟩) hHeld ?_ ?_;rotate_left
          ·
           rintro w' ⟨s0,s1,s2,s3,s4,s5,s6,s7,s8,s9,s10,s11,s12,s13,s14,s15,s16,s17⟩;go_simp;with_reducible rfl
          rotate_left
          ·
           simp only [Act.put,zzq,zzr,zzs,i64_w,i32_w];rfl
          refine take_ (i:=20) (N:=some 30) (v:=?_) (a':=?_) (zzB 24 2097151) rfl rfl (take_ofW HT_.out HW_.out (by kernel_rfl)) (fun _ _ _ h=>h) (Or.inl ⟨by rfl,?_⟩) hHeld ?_ ?_;rotate_left
          ·
           rintro w' ⟨s0,s1,s2,s3,s4,s5,s6,s7,s8,s9,s10,s11,s12,s13,s14,s15,s16,s17⟩;go_simp;with_reducible rfl
          rotate_left
          ·
           simp only [Act.put,zzq,zzr,zzs,i64_w,i32_w];rfl
          refine pure_ (i:=21) (N:=some 31) (v:=?_) (a':=?_) (zzB 24 4194303) rfl rfl (zzA2 HT_.out) (fun _ _ _ h=>h) (Or.inl ⟨by rfl,?_⟩) ?_ ?_;rotate_left
          ·
           intro w';go_simp;with_reducible rfl
          rotate_left
          ·
           simp only [Act.put,zzq,zzr,zzs,i64_w,i32_w];rfl
          refine pure_ (i:=22) (N:=some 32) (v:=?_) (a':=?_) (zzB 24 8388607) rfl rfl (zzA2 HT_.out) (fun _ _ _ h=>h) (Or.inl ⟨by rfl,?_⟩) ?_ ?_;rotate_left
          ·
           intro w';go_simp;with_reducible rfl
          rotate_left
          ·
           simp only [Act.put,zzq,zzr,zzs,i64_w,i32_w];rfl
          refine pure_ (i:=23) (N:=some 33) (v:=?_) (a':=?_) (zzB 24 16777215) rfl rfl (zzA2 HT_.out) (fun _ _ _ h=>h) (Or.inl ⟨by rfl,?_⟩) ?_ ?_;rotate_left
          ·
           intro w';go_simp;with_reducible rfl
          rotate_left
          ·
           simp only [Act.put,zzq,zzr,zzs,i64_w,i32_w];rfl
          refine done_ (done_of HT_.out (by kernel_rfl)) ?_;try go_wp2
          go_ret;exact ⟨by first|rfl|(simp [errW_none,errW_some] <;> rfl)|(simp only [← hji7];first|rfl|(simp [errW_none,errW_some] <;> rfl))|(simp [*,errW_none,errW_some] <;> rfl),zzh1⟩
         ·
          rw [if_neg c10] at H;have c10b0:decide (((rd_T34 l0 x3_1).f0)≤((rd_T34 l0 (ji7)).f0))=false:=decide_eq_false c10;clear c10;have H':=zzm H;clear H;try go_wp2
          have n0_:=zzm (zzc HB.out);clear HB;have HB:=n0_;clear n0_;have p113 : 0≤(x3_1:Int):=zzt;have q113:x3_1 < (l0.length:Int):=zzt;obtain ⟨ad113,A113_3,c113_3,A113_5,c113_5,e113,hx113_0,hx113_1,hx113_2,hx113_3,hx113_4,hx113_5,hl113_3,hi113_3,hl113_5,hi113_5⟩:=at_T34 HR0.out x3_1 p113 q113;have hw113_5:=hx113_5;have hw113_4:=hx113_4;have hw113_3:=hx113_3;have hw113_2:=hx113_2;have hw113_1:=hx113_1;have hw113_0:=hx113_0;cases e113;replace hx113_0:=zzx HB.out hx113_0;replace hx113_1:=zzx HB.out hx113_1;replace hx113_2:=zzx HB.out hx113_2;replace hx113_3:=zzx HB.out hx113_3;replace hx113_4:=zzx HB.out hx113_4;replace hx113_5:=zzx HB.out hx113_5;have HR113_3:=zzm hi113_3;have HC113_3:=zzm hl113_3;clear hi113_3 hl113_3;have HR113_5:=zzm hi113_5;have HC113_5:=zzm hl113_5;clear hi113_5 hl113_5;replace p113:=eq_true p113;replace q113:=eq_true q113;have p115 : 0≤((ji7):Int):=zzt;have q115:(ji7) < (l0.length:Int):=zzt;obtain ⟨ad115,A115_3,c115_3,A115_5,c115_5,e115,hx115_0,hx115_1,hx115_2,hx115_3,hx115_4,hx115_5,hl115_3,hi115_3,hl115_5,hi115_5⟩:=at_T34 HR0.out (ji7) p115 q115;have hw115_5:=hx115_5;have hw115_4:=hx115_4;have hw115_3:=hx115_3;have hw115_2:=hx115_2;have hw115_1:=hx115_1;have hw115_0:=hx115_0;obtain rfl:ad113=ad115:=(by injection e115);replace hx115_0:=zzx HB.out hx115_0;replace hx115_1:=zzx HB.out hx115_1;replace hx115_2:=zzx HB.out hx115_2;replace hx115_3:=zzx HB.out hx115_3;replace hx115_4:=zzx HB.out hx115_4;replace hx115_5:=zzx HB.out hx115_5;have HR115_3:=zzm hi115_3;have HC115_3:=zzm hl115_3;clear hi115_3 hl115_3;have HR115_5:=zzm hi115_5;have HC115_5:=zzm hl115_5;clear hi115_5 hl115_5;replace p115:=eq_true p115;replace q115:=eq_true q115;have p116 : 0≤(x3_1:Int):=zzt;have q116:x3_1 < (l0.length:Int):=zzt;obtain ⟨ad116,A116_3,c116_3,A116_5,c116_5,e116,hx116_0,hx116_1,hx116_2,hx116_3,hx116_4,hx116_5,hl116_3,hi116_3,hl116_5,hi116_5⟩:=at_T34 HR0.out x3_1 p116 q116;have hw116_5:=hx116_5;have hw116_4:=hx116_4;have hw116_3:=hx116_3;have hw116_2:=hx116_2;have hw116_1:=hx116_1;have hw116_0:=hx116_0;obtain rfl:ad113=ad116:=(by injection e116);replace hx116_0:=zzx HB.out hx116_0;replace hx116_1:=zzx HB.out hx116_1;replace hx116_2:=zzx HB.out hx116_2;replace hx116_3:=zzx HB.out hx116_3;replace hx116_4:=zzx HB.out hx116_4;replace hx116_5:=zzx HB.out hx116_5;have HR116_3:=zzm hi116_3;have HC116_3:=zzm hl116_3;clear hi116_3 hl116_3;have HR116_5:=zzm hi116_5;have HC116_5:=zzm hl116_5;clear hi116_5 hl116_5;replace p116:=eq_true p116;replace q116:=eq_true q116;refine start_ (n:=24) (S:=fun w'=>w'.cell? (ad113.add ((x3_1).toNat * 6))=some (.int .i64 ((rd_T34 l0 x3_1).f0))∧w'.cell? ⟨(ad113.add ((x3_1).toNat * 6)).block,(ad113.add ((x3_1).toNat * 6)).off+1,none⟩=some (.int .i64 ((rd_T34 l0 x3_1).f1))∧w'.cell? ⟨(ad113.add ((x3_1).toNat * 6)).block,(ad113.add ((x3_1).toNat * 6)).off+2,none⟩=some (.bool ((rd_T34 l0 x3_1).f2))∧w'.cell? ⟨(ad113.add ((x3_1).toNat * 6)).block,(ad113.add ((x3_1).toNat * 6)).off+3,none⟩=some (.slice A113_3 ((rd_T34 l0 x3_1).f3).length c113_3)∧w'.cell? ⟨(ad113.add ((x3_1).toNat * 6)).block,(ad113.add ((x3_1).toNat * 6)).off+4,none⟩=some (.bool ((rd_T34 l0 x3_1).f4))∧w'.cell? ⟨(ad113.add ((x3_1).toNat * 6)).block,(ad113.add ((x3_1).toNat * 6)).off+5,none⟩=some (.slice A113_5 ((rd_T34 l0 x3_1).f5).length c113_5)∧w'.cell? (ad113.add (((ji7)).toNat * 6))=some (.int .i64 ((rd_T34 l0 (ji7)).f0))∧w'.cell? ⟨(ad113.add (((ji7)).toNat * 6)).block,(ad113.add (((ji7)).toNat * 6)).off+1,none⟩=some (.int .i64 ((rd_T34 l0 (ji7)).f1))∧w'.cell? ⟨(ad113.add (((ji7)).toNat * 6)).block,(ad113.add (((ji7)).toNat * 6)).off+2,none⟩=some (.bool ((rd_T34 l0 (ji7)).f2))∧w'.cell? ⟨(ad113.add (((ji7)).toNat * 6)).block,(ad113.add (((ji7)).toNat * 6)).off+3,none⟩=some (.slice A115_3 ((rd_T34 l0 (ji7)).f3).length c115_3)∧w'.cell? ⟨(ad113.add (((ji7)).toNat * 6)).block,(ad113.add (((ji7)).toNat * 6)).off+4,none⟩=some (.bool ((rd_T34 l0 (ji7)).f4))∧w'.cell? ⟨(ad113.add (((ji7)).toNat * 6)).block,(ad113.add (((ji7)).toNat * 6)).off+5,none⟩=some (.slice A115_5 ((rd_T34 l0 (ji7)).f5).length c115_5)∧w'.cell? (ad113.add ((x3_1).toNat * 6))=some (.int .i64 ((rd_T34 l0 x3_1).f0))∧w'.cell? ⟨(ad113.add ((x3_1).toNat * 6)).block,(ad113.add ((x3_1).toNat * 6)).off+1,none⟩=some (.int .i64 ((rd_T34 l0 x3_1).f1))∧w'.cell? ⟨(ad113.add ((x3_1).toNat * 6)).block,(ad113.add ((x3_1).toNat * 6)).off+2,none⟩=some (.bool ((rd_T34 l0 x3_1).f2))∧w'.cell? ⟨(ad113.add ((x3_1).toNat * 6)).block,(ad113.add ((x3_1).toNat * 6)).off+3,none⟩=some (.slice A116_3 ((rd_T34 l0 x3_1).f3).length c116_3)∧w'.cell? ⟨(ad113.add ((x3_1).toNat * 6)).block,(ad113.add ((x3_1).toNat * 6)).off+4,none⟩=some (.bool ((rd_T34 l0 x3_1).f4))∧w'.cell? ⟨(ad113.add ((x3_1).toNat * 6)).block,(ad113.add ((x3_1).toNat * 6)).off+5,none⟩=some (.slice A116_5 ((rd_T34 l0 x3_1).f5).length c116_5)) (ds:=[]) (zzB 24 0) (by kernel_rfl) rfl rfl ⟨(zzx HB.out hw113_0),(zzx HB.out hw113_1),(zzx HB.out hw113_2),(zzx HB.out hw113_3),(zzx HB.out hw113_4),(zzx HB.out hw113_5),(zzx HB.out hw115_0),(zzx HB.out hw115_1),(zzx HB.out hw115_2),(zzx HB.out hw115_3),(zzx HB.out hw115_4),(zzx HB.out hw115_5),(zzx HB.out hw116_0),(zzx HB.out hw116_1),(zzx HB.out hw116_2),(zzx HB.out hw116_3),(zzx HB.out hw116_4),(zzx HB.out hw116_5)⟩ (fun hHeld=>?_);refine with_tabW spec_l5Records.tab4 spec_l5Records.bits4 (fun HT_ HW_=>?_);generalize wr.drew=w13 at HB HR113_3 HR113_5 HR115_3 HR115_5 HR116_3 HR116_5 hx113_0 hx113_1 hx113_2 hx113_3 hx113_4 hx113_5 hx115_0 hx115_1 hx115_2 hx115_3 hx115_4 hx115_5 hx116_0 hx116_1 hx116_2 hx116_3 hx116_4 hx116_5 hHeld ⊢;refine pure_ (i:=0) (N:=some 10) (v:=?_) (a':=?_) (zzB 24 1) rfl rfl (zzA2 HT_.out) (fun _ _ _ h=>h) (Or.inl ⟨by rfl,?_⟩) ?_ ?_;rotate_left
          ·
           intro w';go_simp;with_reducible rfl
          rotate_left
          ·
           simp only [Act.put,zzq,zzr,zzs,i64_w,i32_w];rfl
          refine pure_ (i:=1) (N:=some 11) (v:=?_) (a':=?_) (zzB 24 3) rfl rfl (zzA2 HT_.out) (fun _ _ _ h=>h) (Or.inl ⟨by rfl,?_⟩) ?_ ?_;rotate_left
          ·
           intro w';go_simp;with_reducible rfl
          rotate_left
          ·
           simp only [Act.put,zzq,zzr,zzs,i64_w,i32_w];rfl
          refine pure_ (i:=2) (N:=some 12) (v:=?_) (a':=?_) (zzB 24 7) rfl rfl (zzA2 HT_.out) (fun _ _ _ h=>h) (Or.inl ⟨by rfl,?_⟩) ?_ ?_;rotate_left
          ·
           intro w';go_simp;with_reducible rfl
          rotate_left
          ·
           simp only [Act.put,zzq,zzr,zzs,i64_w,i32_w];rfl
          refine take_ (i:=3) (N:=some 13) (v:=?_) (a':=?_) (zzB 24 15) rfl rfl (take_ofW HT_.out HW_.out (by kernel_rfl)) (fun _ _ _ h=>h) (Or.inl ⟨by rfl,?_⟩) hHeld ?_ ?_;rotate_left
          ·
           rintro w' ⟨s0,s1,s2,s3,s4,s5,s6,s7,s8,s9,s10,s11,s12,s13,s14,s15,s16,s17⟩;go_simp;with_reducible rfl
          rotate_left
          ·
           simp only [Act.put,zzq,zzr,zzs,i64_w,i32_w];rfl
          refine one_ (i:=4) (N:=some 14) (zzB 24 31) rfl rfl (one_of HT_.out (by kernel_rfl)) (by decide) (fun K hK=>?_);refine goes_ Try.func99 (by kernel_rfl) rfl #[.agg #[.int .i64 ((rd_T34 l0 x3_1).f0),.int .i64 ((rd_T34 l0 x3_1).f1),.bool ((rd_T34 l0 x3_1).f2),.slice A113_3 ((rd_T34 l0 x3_1).f3).length c113_3,.bool ((rd_T34 l0 x3_1).f4),.slice A113_5 ((rd_T34 l0 x3_1).f5).length c113_5]] (by rfl) rfl rfl zzM2 ?_;with_reducible refine (spec_RecordValid.calls k1 ((rd_T34 l0 x3_1).f0) ((rd_T34 l0 x3_1).f1) ((rd_T34 l0 x3_1).f2) _ _ ((rd_T34 l0 x3_1).f3) ((rd_T34 l0 x3_1).f4) _ _ ((rd_T34 l0 x3_1).f5) true _ ?side1 ?side2 ?side3 ?side4 A4.out).mono ?_
          (case side1=>repeat (first|exact (Kd.C_below HR113_3.out HB.out)|(with_reducible refine Kd.C_alloc ?_ _)|(with_reducible refine Kd.C_drewN ?_ _)|(with_reducible refine Kd.C_drew ?_)))
          (case side2=>exact HC113_3.out)
          (case side3=>repeat (first|exact (Kd.C_below HR113_5.out HB.out)|(with_reducible refine Kd.C_alloc ?_ _)|(with_reducible refine Kd.C_drewN ?_ _)|(with_reducible refine Kd.C_drew ?_)))
          (case side4=>exact HC113_5.out);rintro e w14 ⟨rfl,hb⟩;refine ⟨_,rfl,?_⟩;have n0_:=zzm (zzp zzh1 hb);clear HB;have HB:=n0_;clear n0_
          (try clear hb)
          (try clear hb2)
          (try clear hk)
          (try clear hi);refine hK.out _ _ ⟨(zzx HB.out hw113_0),(zzx HB.out hw113_1),(zzx HB.out hw113_2),(zzx HB.out hw113_3),(zzx HB.out hw113_4),(zzx HB.out hw113_5),(zzx HB.out hw115_0),(zzx HB.out hw115_1),(zzx HB.out hw115_2),(zzx HB.out hw115_3),(zzx HB.out hw115_4),(zzx HB.out hw115_5),(zzx HB.out hw116_0),(zzx HB.out hw116_1),(zzx HB.out hw116_2),(zzx HB.out hw116_3),(zzx HB.out hw116_4),(zzx HB.out hw116_5)⟩ (fun hHeld=>?_);clear hK K;refine norm_ (a':=?_) ?_ ?_;rotate_left
          ·
           show Act.put _ (some 14) _ = _;simp only [Act.put,zzq,zzr,zzs,i64_w,i32_w];rfl
          refine pure_ (i:=5) (N:=some 15) (v:=?_) (a':=?_) (zzB 24 63) rfl rfl (zzA2 HT_.out) (fun _ _ _ h=>h) (Or.inl ⟨by rfl,?_⟩) ?_ ?_;rotate_left
          ·
           intro w';go_simp;with_reducible rfl
          rotate_left
          ·
           simp only [Act.put,zzq,zzr,zzs,i64_w,i32_w];rfl
          refine pure_ (i:=6) (N:=some 16) (v:=?_) (a':=?_) (zzB 24 127) rfl rfl (zzA2 HT_.out) (fun _ _ _ h=>h) (Or.inl ⟨by rfl,?_⟩) ?_ ?_;rotate_left
          ·
           intro w';go_simp;with_reducible rfl
          rotate_left
          ·
           simp only [Act.put,zzq,zzr,zzs,i64_w,i32_w];rfl
          refine pure_ (i:=7) (N:=some 17) (v:=?_) (a':=?_) (zzB 24 255) rfl rfl (zzA2 HT_.out) (fun _ _ _ h=>h) (Or.inl ⟨by rfl,?_⟩) ?_ ?_;rotate_left
          ·
           intro w';go_simp;with_reducible rfl
          rotate_left
          ·
           simp only [Act.put,zzq,zzr,zzs,i64_w,i32_w];rfl
          refine pure_ (i:=8) (N:=some 18) (v:=?_) (a':=?_) (zzB 24 511) rfl rfl (zzA2 HT_.out) (fun _ _ _ h=>h) (Or.inl ⟨by rfl,?_⟩) ?_ ?_;rotate_left
          ·
           intro w';go_simp;with_reducible rfl
          rotate_left
          ·
           simp only [Act.put,zzq,zzr,zzs,i64_w,i32_w];rfl
          refine pure_ (i:=9) (N:=some 19) (v:=?_) (a':=?_) (zzB 24 1023) rfl rfl (zzA2 HT_.out) (fun _ _ _ h=>h) (Or.inl ⟨by rfl,?_⟩) ?_ ?_;rotate_left
          ·
           intro w';go_simp;with_reducible rfl
          rotate_left
          ·
           simp only [Act.put,zzq,zzr,zzs,i64_w,i32_w];rfl
          refine pure_ (i:=10) (N:=some 20) (v:=?_) (a':=?_) (zzB 24 2047) rfl rfl (zzA2 HT_.out) (fun _ _ _ h=>h) (Or.inl ⟨by rfl,?_⟩) ?_ ?_;rotate_left
          ·
           intro w';go_simp;with_reducible rfl
          rotate_left
          ·
           simp only [Act.put,zzq,zzr,zzs,i64_w,i32_w];rfl
          refine pure_ (i:=11) (N:=some 21) (v:=?_) (a':=?_) (zzB 24 4095) rfl rfl (zzA2 HT_.out) (fun _ _ _ h=>h) (Or.inl ⟨by rfl,?_⟩) ?_ ?_;rotate_left
          ·
           intro w';go_simp;with_reducible rfl
          rotate_left
          ·
           simp only [Act.put,zzq,zzr,zzs,i64_w,i32_w];rfl
          refine pure_ (i:=12) (N:=some 22) (v:=?_) (a':=?_) (zzB 24 8191) rfl rfl (zzA2 HT_.out) (fun _ _ _ h=>h) (Or.inl ⟨by rfl,?_⟩) ?_ ?_;rotate_left
          ·
           intro w';go_simp;with_reducible rfl
          rotate_left
          ·
           simp only [Act.put,zzq,zzr,zzs,i64_w,i32_w];rfl
          refine pure_ (i:=13) (N:=some 23) (v:=?_) (a':=?_) (zzB 24 16383) rfl rfl (zzA2 HT_.out) (fun _ _ _ h=>h) (Or.inl ⟨by rfl,?_⟩) ?_ ?_;rotate_left
          ·
           intro w';go_simp;with_reducible rfl
          rotate_left
          ·
           simp only [Act.put,zzq,zzr,zzs,i64_w,i32_w];rfl
          refine pure_ (i:=14) (N:=some 24) (v:=?_) (a':=?_) (zzB 24 32767) rfl rfl (zzA2 HT_.out) (fun _ _ _ h=>h) (Or.inl ⟨by rfl,?_⟩) ?_ ?_;rotate_left
          ·
           intro w';go_simp;with_reducible rfl
          rotate_left
          ·
           simp only [Act.put,zzq,zzr,zzs,i64_w,i32_w];rfl
          refine pure_ (i:=16) (N:=some 26) (v:=?_) (a':=?_) (zzB 24 98303) rfl rfl (zzA2 HT_.out) (fun _ _ _ h=>h) (Or.inl ⟨by rfl,?_⟩) ?_ ?_;rotate_left
          ·
           intro w';go_simp;with_reducible rfl
          rotate_left
          ·
           simp only [Act.put,zzq,zzr,zzs,i64_w,i32_w];rfl
          refine pure_ (i:=17) (N:=some 27) (v:=?_) (a':=?_) (zzB 24 229375) rfl rfl (zzA2 HT_.out) (fun _ _ _ h=>h) (Or.inl ⟨by rfl,?_⟩) ?_ ?_;rotate_left
          ·
           intro w';go_simp;with_reducible rfl
          rotate_left
          ·
           simp only [Act.put,zzq,zzr,zzs,i64_w,i32_w];rfl
          refine pure_ (i:=18) (N:=some 28) (v:=?_) (a':=?_) (zzB 24 491519) rfl rfl (zzA2 HT_.out) (fun _ _ _ h=>h) (Or.inl ⟨by rfl,?_⟩) ?_ ?_;rotate_left
          ·
           intro w';go_simp;with_reducible rfl
          rotate_left
          ·
           simp only [Act.put,zzq,zzr,zzs,i64_w,i32_w];rfl
          refine pure_ (i:=19) (N:=some 29) (v:=?_) (a':=?_) (zzB 24 1015807) rfl rfl (zzA2 HT_.out) (fun _ _ _ h=>h) (Or.inl ⟨by rfl,?_⟩) ?_ ?_;rotate_left
          ·
           intro w';go_simp;with_reducible rfl
          rotate_left
          ·
           simp only [Act.put,zzq,zzr,zzs,i64_w,i32_w];rfl
          refine take_ (i:=15) (N:=some 25) (v:=?_) (a':=?_) (zzB 24 1048575) rfl rfl (take_ofW HT_.out HW_.out (by kernel_rfl)) (fun _ _ _ h=>h) (Or.inl ⟨by rfl,?_⟩) hHeld ?_ ?_;rotate_left
          ·
           rintro w' ⟨s0,s1,s2,s3,s4,s5,s6,s7,s8,s9,s10,s11,s12,s13,s14,s15,s16,s17⟩;go_simp;with_reducible rfl
          rotate_left
          ·
           simp only [Act.put,zzq,zzr,zzs,i64_w,i32_w];rfl
          refine take_ (i:=20) (N:=some 30) (v:=?_) (a':=?_) (zzB 24 2097151) rfl rfl (take_ofW HT_.out HW_.out (by kernel_rfl)) (fun _ _ _ h=>h) (Or.inl ⟨by rfl,?_⟩) hHeld ?_ ?_;rotate_left
          ·
           rintro w' ⟨s0,s1,s2,s3,s4,s5,s6,s7,s8,s9,s10,s11,s12,s13,s14,s15,s16,s17⟩;go_simp;with_reducible rfl
          rotate_left
          ·
           simp only [Act.put,zzq,zzr,zzs,i64_w,i32_w];rfl
          refine pure_ (i:=21) (N:=some 31) (v:=?_) (a':=?_) (zzB 24 4194303) rfl rfl (zzA2 HT_.out) (fun _ _ _ h=>h) (Or.inl ⟨by rfl,?_⟩) ?_ ?_;rotate_left
          ·
           intro w';go_simp;with_reducible rfl
          rotate_left
          ·
           simp only [Act.put,zzq,zzr,zzs,i64_w,i32_w];rfl
          refine pure_ (i:=22) (N:=some 32) (v:=?_) (a':=?_) (zzB 24 8388607) rfl rfl (zzA2 HT_.out) (fun _ _ _ h=>h) (Or.inl ⟨by rfl,?_⟩) ?_ ?_;rotate_left
          ·
           intro w';go_simp;with_reducible rfl
          rotate_left
          ·
           simp only [Act.put,zzq,zzr,zzs,i64_w,i32_w];rfl
          refine pure_ (i:=23) (N:=some 33) (v:=?_) (a':=?_) (zzB 24 16777215) rfl rfl (zzA2 HT_.out) (fun _ _ _ h=>h) (Or.inl ⟨by rfl,?_⟩) ?_ ?_;rotate_left
          ·
           intro w';go_simp;with_reducible rfl
          rotate_left
          ·
           simp only [Act.put,zzq,zzr,zzs,i64_w,i32_w];rfl
          refine done_ (done_of HT_.out (by kernel_rfl)) ?_;try go_wp2
          go_roundg k1
          case measure=>have:=HK1.out;omega
          case rel=>exact ⟨(wrap64 (x3_1+1)),(by first|rfl|(simp;done)|(simp [*];done)),H',⟨by have:=HK1.out;omega⟩,⟨zzh1⟩⟩
        ·
         rw [if_neg c9] at H;exact absurd H (by simp)
       ·
        rw [if_neg c8] at H;exact absurd H (by simp)
      ·
       rw [if_neg c6] at H;have c6b0:decide (0 < x3_1)=false:=decide_eq_false c6;clear c6;have H':=zzm H;clear H;try go_wp2
       have n0_:=zzm (zzc HB.out);clear HB;have HB:=n0_;clear n0_;have p113 : 0≤(x3_1:Int):=zzt;have q113:x3_1 < (l0.length:Int):=zzt;obtain ⟨ad113,A113_3,c113_3,A113_5,c113_5,e113,hx113_0,hx113_1,hx113_2,hx113_3,hx113_4,hx113_5,hl113_3,hi113_3,hl113_5,hi113_5⟩:=at_T34 HR0.out x3_1 p113 q113;have hw113_5:=hx113_5;have hw113_4:=hx113_4;have hw113_3:=hx113_3;have hw113_2:=hx113_2;have hw113_1:=hx113_1;have hw113_0:=hx113_0;cases e113;replace hx113_0:=zzx HB.out hx113_0;replace hx113_1:=zzx HB.out hx113_1;replace hx113_2:=zzx HB.out hx113_2;replace hx113_3:=zzx HB.out hx113_3;replace hx113_4:=zzx HB.out hx113_4;replace hx113_5:=zzx HB.out hx113_5;have HR113_3:=zzm hi113_3;have HC113_3:=zzm hl113_3;clear hi113_3 hl113_3;have HR113_5:=zzm hi113_5;have HC113_5:=zzm hl113_5;clear hi113_5 hl113_5;replace p113:=eq_true p113;replace q113:=eq_true q113;refine start_ (n:=24) (S:=fun w'=>w'.cell? (ad113.add ((x3_1).toNat * 6))=some (.int .i64 ((rd_T34 l0 x3_1).f0))∧w'.cell? ⟨(ad113.add ((x3_1).toNat * 6)).block,(ad113.add ((x3_1).toNat * 6)).off+1,none⟩=some (.int .i64 ((rd_T34 l0 x3_1).f1))∧w'.cell? ⟨(ad113.add ((x3_1).toNat * 6)).block,(ad113.add ((x3_1).toNat * 6)).off+2,none⟩=some (.bool ((rd_T34 l0 x3_1).f2))∧w'.cell? ⟨(ad113.add ((x3_1).toNat * 6)).block,(ad113.add ((x3_1).toNat * 6)).off+3,none⟩=some (.slice A113_3 ((rd_T34 l0 x3_1).f3).length c113_3)∧w'.cell? ⟨(ad113.add ((x3_1).toNat * 6)).block,(ad113.add ((x3_1).toNat * 6)).off+4,none⟩=some (.bool ((rd_T34 l0 x3_1).f4))∧w'.cell? ⟨(ad113.add ((x3_1).toNat * 6)).block,(ad113.add ((x3_1).toNat * 6)).off+5,none⟩=some (.slice A113_5 ((rd_T34 l0 x3_1).f5).length c113_5)) (ds:=[]) (zzB 24 0) (by kernel_rfl) rfl rfl ⟨(zzx HB.out hw113_0),(zzx HB.out hw113_1),(zzx HB.out hw113_2),(zzx HB.out hw113_3),(zzx HB.out hw113_4),(zzx HB.out hw113_5)⟩ (fun hHeld=>?_);refine with_tabW spec_l5Records.tab4 spec_l5Records.bits4 (fun HT_ HW_=>?_);generalize wr.drew=w15 at HB HR113_3 HR113_5 hx113_0 hx113_1 hx113_2 hx113_3 hx113_4 hx113_5 hHeld ⊢;refine pure_ (i:=0) (N:=some 10) (v:=?_) (a':=?_) (zzB 24 1) rfl rfl (zzA2 HT_.out) (fun _ _ _ h=>h) (Or.inl ⟨by rfl,?_⟩) ?_ ?_;rotate_left
       ·
        intro w';go_simp;with_reducible rfl
       rotate_left
       ·
        simp only [Act.put,zzq,zzr,zzs,i64_w,i32_w];rfl
       refine pure_ (i:=1) (N:=some 11) (v:=?_) (a':=?_) (zzB 24 3) rfl rfl (zzA2 HT_.out) (fun _ _ _ h=>h) (Or.inl ⟨by rfl,?_⟩) ?_ ?_;rotate_left
       ·
        intro w';go_simp;with_reducible rfl
       rotate_left
       ·
        simp only [Act.put,zzq,zzr,zzs,i64_w,i32_w];rfl
       refine pure_ (i:=2) (N:=some 12) (v:=?_) (a':=?_) (zzB 24 7) rfl rfl (zzA2 HT_.out) (fun _ _ _ h=>h) (Or.inl ⟨by rfl,?_⟩) ?_ ?_;rotate_left
       ·
        intro w';go_simp;with_reducible rfl
       rotate_left
       ·
        simp only [Act.put,zzq,zzr,zzs,i64_w,i32_w];rfl
       refine take_ (i:=3) (N:=some 13) (v:=?_) (a':=?_) (zzB 24 15) rfl rfl (take_ofW HT_.out HW_.out (by kernel_rfl)) (fun _ _ _ h=>h) (Or.inl ⟨by rfl,?_⟩) hHeld ?_ ?_;rotate_left
       ·
        rintro w' ⟨s0,s1,s2,s3,s4,s5⟩;go_simp;with_reducible rfl
       rotate_left
       ·
        simp only [Act.put,zzq,zzr,zzs,i64_w,i32_w];rfl
       refine one_ (i:=4) (N:=some 14) (zzB 24 31) rfl rfl (one_of HT_.out (by kernel_rfl)) (by decide) (fun K hK=>?_);refine goes_ Try.func99 (by kernel_rfl) rfl #[.agg #[.int .i64 ((rd_T34 l0 x3_1).f0),.int .i64 ((rd_T34 l0 x3_1).f1),.bool ((rd_T34 l0 x3_1).f2),.slice A113_3 ((rd_T34 l0 x3_1).f3).length c113_3,.bool ((rd_T34 l0 x3_1).f4),.slice A113_5 ((rd_T34 l0 x3_1).f5).length c113_5]] (by rfl) rfl rfl zzM2 ?_;with_reducible refine (spec_RecordValid.calls k1 ((rd_T34 l0 x3_1).f0) ((rd_T34 l0 x3_1).f1) ((rd_T34 l0 x3_1).f2) _ _ ((rd_T34 l0 x3_1).f3) ((rd_T34 l0 x3_1).f4) _ _ ((rd_T34 l0 x3_1).f5) true _ ?side1 ?side2 ?side3 ?side4 A4.out).mono ?_
       (case side1=>repeat (first|exact (Kd.C_below HR113_3.out HB.out)|(with_reducible refine Kd.C_alloc ?_ _)|(with_reducible refine Kd.C_drewN ?_ _)|(with_reducible refine Kd.C_drew ?_)))
       (case side2=>exact HC113_3.out)
       (case side3=>repeat (first|exact (Kd.C_below HR113_5.out HB.out)|(with_reducible refine Kd.C_alloc ?_ _)|(with_reducible refine Kd.C_drewN ?_ _)|(with_reducible refine Kd.C_drew ?_)))
       (case side4=>exact HC113_5.out);rintro e w16 ⟨rfl,hb⟩;refine ⟨_,rfl,?_⟩;have n0_:=zzm (zzp zzh1 hb);clear HB;have HB:=n0_;clear n0_
       (try clear hb)
       (try clear hb2)
       (try clear hk)
       (try clear hi);refine hK.out _ _ ⟨(zzx HB.out hw113_0),(zzx HB.out hw113_1),(zzx HB.out hw113_2),(zzx HB.out hw113_3),(zzx HB.out hw113_4),(zzx HB.out hw113_5)⟩ (fun hHeld=>?_);clear hK K;refine norm_ (a':=?_) ?_ ?_;rotate_left
       ·
        show Act.put _ (some 14) _ = _;simp only [Act.put,zzq,zzr,zzs,i64_w,i32_w];rfl
       refine pure_ (i:=5) (N:=some 15) (v:=?_) (a':=?_) (zzB 24 63) rfl rfl (zzA2 HT_.out) (fun _ _ _ h=>h) (Or.inl ⟨by rfl,?_⟩) ?_ ?_;rotate_left
       ·
        intro w';go_simp;with_reducible rfl
       rotate_left
       ·
        simp only [Act.put,zzq,zzr,zzs,i64_w,i32_w];rfl
       refine pure_ (i:=6) (N:=some 16) (v:=?_) (a':=?_) (zzB 24 127) rfl rfl (zzA2 HT_.out) (fun _ _ _ h=>h) (Or.inl ⟨by rfl,?_⟩) ?_ ?_;rotate_left
       ·
        intro w';go_simp;with_reducible rfl
       rotate_left
       ·
        simp only [Act.put,zzq,zzr,zzs,i64_w,i32_w];rfl
       refine pure_ (i:=7) (N:=some 17) (v:=?_) (a':=?_) (zzB 24 255) rfl rfl (zzA2 HT_.out) (fun _ _ _ h=>h) (Or.inl ⟨by rfl,?_⟩) ?_ ?_;rotate_left
       ·
        intro w';go_simp;with_reducible rfl
       rotate_left
       ·
        simp only [Act.put,zzq,zzr,zzs,i64_w,i32_w];rfl
       refine pure_ (i:=8) (N:=some 18) (v:=?_) (a':=?_) (zzB 24 511) rfl rfl (zzA2 HT_.out) (fun _ _ _ h=>h) (Or.inl ⟨by rfl,?_⟩) ?_ ?_;rotate_left
       ·
        intro w';go_simp;with_reducible rfl
       rotate_left
       ·
        simp only [Act.put,zzq,zzr,zzs,i64_w,i32_w];rfl
       refine pure_ (i:=9) (N:=some 19) (v:=?_) (a':=?_) (zzB 24 1023) rfl rfl (zzA2 HT_.out) (fun _ _ _ h=>h) (Or.inl ⟨by rfl,?_⟩) ?_ ?_;rotate_left
       ·
        intro w';go_simp;with_reducible rfl
       rotate_left
       ·
        simp only [Act.put,zzq,zzr,zzs,i64_w,i32_w];rfl
       refine pure_ (i:=10) (N:=some 20) (v:=undef) (a':=?_) (zzB 24 2047) rfl rfl (zzA2 HT_.out) (fun _ _ _ h=>h) (Or.inr ⟨by rfl,rfl⟩) ?_ ?_;rotate_left
       ·
        simp only [Act.put,zzq,zzr,zzs,i64_w,i32_w];rfl
       refine pure_ (i:=11) (N:=some 21) (v:=undef) (a':=?_) (zzB 24 4095) rfl rfl (zzA2 HT_.out) (fun _ _ _ h=>h) (Or.inr ⟨by rfl,rfl⟩) ?_ ?_;rotate_left
       ·
        simp only [Act.put,zzq,zzr,zzs,i64_w,i32_w];rfl
       refine pure_ (i:=12) (N:=some 22) (v:=undef) (a':=?_) (zzB 24 8191) rfl rfl (zzA2 HT_.out) (fun _ _ _ h=>h) (Or.inr ⟨by rfl,rfl⟩) ?_ ?_;rotate_left
       ·
        simp only [Act.put,zzq,zzr,zzs,i64_w,i32_w];rfl
       refine pure_ (i:=13) (N:=some 23) (v:=undef) (a':=?_) (zzB 24 16383) rfl rfl (zzA2 HT_.out) (fun _ _ _ h=>h) (Or.inr ⟨by rfl,rfl⟩) ?_ ?_;rotate_left
       ·
        simp only [Act.put,zzq,zzr,zzs,i64_w,i32_w];rfl
       refine pure_ (i:=14) (N:=some 24) (v:=undef) (a':=?_) (zzB 24 32767) rfl rfl (zzA2 HT_.out) (fun _ _ _ h=>h) (Or.inr ⟨by rfl,rfl⟩) ?_ ?_;rotate_left
       ·
        simp only [Act.put,zzq,zzr,zzs,i64_w,i32_w];rfl
       refine pure_ (i:=15) (N:=some 25) (v:=undef) (a':=?_) (zzB 24 65535) rfl rfl (zzA2 HT_.out) (fun _ _ _ h=>h) (Or.inr ⟨by rfl,rfl⟩) ?_ ?_;rotate_left
       ·
        simp only [Act.put,zzq,zzr,zzs,i64_w,i32_w];rfl
       refine pure_ (i:=16) (N:=some 26) (v:=undef) (a':=?_) (zzB 24 131071) rfl rfl (zzA2 HT_.out) (fun _ _ _ h=>h) (Or.inr ⟨by rfl,rfl⟩) ?_ ?_;rotate_left
       ·
        simp only [Act.put,zzq,zzr,zzs,i64_w,i32_w];rfl
       refine pure_ (i:=17) (N:=some 27) (v:=undef) (a':=?_) (zzB 24 262143) rfl rfl (zzA2 HT_.out) (fun _ _ _ h=>h) (Or.inr ⟨by rfl,rfl⟩) ?_ ?_;rotate_left
       ·
        simp only [Act.put,zzq,zzr,zzs,i64_w,i32_w];rfl
       refine pure_ (i:=18) (N:=some 28) (v:=undef) (a':=?_) (zzB 24 524287) rfl rfl (zzA2 HT_.out) (fun _ _ _ h=>h) (Or.inr ⟨by rfl,rfl⟩) ?_ ?_;rotate_left
       ·
        simp only [Act.put,zzq,zzr,zzs,i64_w,i32_w];rfl
       refine pure_ (i:=19) (N:=some 29) (v:=undef) (a':=?_) (zzB 24 1048575) rfl rfl (zzA2 HT_.out) (fun _ _ _ h=>h) (Or.inr ⟨by rfl,rfl⟩) ?_ ?_;rotate_left
       ·
        simp only [Act.put,zzq,zzr,zzs,i64_w,i32_w];rfl
       refine pure_ (i:=20) (N:=some 30) (v:=undef) (a':=?_) (zzB 24 2097151) rfl rfl (zzA2 HT_.out) (fun _ _ _ h=>h) (Or.inr ⟨by rfl,rfl⟩) ?_ ?_;rotate_left
       ·
        simp only [Act.put,zzq,zzr,zzs,i64_w,i32_w];rfl
       refine pure_ (i:=21) (N:=some 31) (v:=undef) (a':=?_) (zzB 24 4194303) rfl rfl (zzA2 HT_.out) (fun _ _ _ h=>h) (Or.inr ⟨by rfl,rfl⟩) ?_ ?_;rotate_left
       ·
        simp only [Act.put,zzq,zzr,zzs,i64_w,i32_w];rfl
       refine pure_ (i:=22) (N:=some 32) (v:=?_) (a':=?_) (zzB 24 8388607) rfl rfl (zzA2 HT_.out) (fun _ _ _ h=>h) (Or.inl ⟨by rfl,?_⟩) ?_ ?_;rotate_left
       ·
        intro w';go_simp;with_reducible rfl
       rotate_left
       ·
        simp only [Act.put,zzq,zzr,zzs,i64_w,i32_w];rfl
       refine pure_ (i:=23) (N:=some 33) (v:=?_) (a':=?_) (zzB 24 16777215) rfl rfl (zzA2 HT_.out) (fun _ _ _ h=>h) (Or.inl ⟨by rfl,?_⟩) ?_ ?_;rotate_left
       ·
        intro w';go_simp;with_reducible rfl
       rotate_left
       ·
        simp only [Act.put,zzq,zzr,zzs,i64_w,i32_w];rfl
       refine done_ (done_of HT_.out (by kernel_rfl)) ?_;try go_wp2
       go_roundg k1
       case measure=>have:=HK1.out;omega
       case rel=>exact ⟨(wrap64 (x3_1+1)),(by first|rfl|(simp;done)|(simp [*];done)),H',⟨by have:=HK1.out;omega⟩,⟨zzh1⟩⟩
     ·
      replace c5:=Bool.eq_false_iff.mpr c5;subst c5;have H1:(some false)=some r:=by rw [if_neg (show ¬ (false=true) by decide)] at H;exact H
      clear H;have H:=H1;clear H1;obtain rfl:=Option.some.inj H;try go_wp2
      have n0_:=zzm (zzc HB.out);clear HB;have HB:=n0_;clear n0_;have p113 : 0≤(x3_1:Int):=zzt;have q113:x3_1 < (l0.length:Int):=zzt;obtain ⟨ad113,A113_3,c113_3,A113_5,c113_5,e113,hx113_0,hx113_1,hx113_2,hx113_3,hx113_4,hx113_5,hl113_3,hi113_3,hl113_5,hi113_5⟩:=at_T34 HR0.out x3_1 p113 q113;have hw113_5:=hx113_5;have hw113_4:=hx113_4;have hw113_3:=hx113_3;have hw113_2:=hx113_2;have hw113_1:=hx113_1;have hw113_0:=hx113_0;cases e113;replace hx113_0:=zzx HB.out hx113_0;replace hx113_1:=zzx HB.out hx113_1;replace hx113_2:=zzx HB.out hx113_2;replace hx113_3:=zzx HB.out hx113_3;replace hx113_4:=zzx HB.out hx113_4;replace hx113_5:=zzx HB.out hx113_5;have HR113_3:=zzm hi113_3;have HC113_3:=zzm hl113_3;clear hi113_3 hl113_3;have HR113_5:=zzm hi113_5;have HC113_5:=zzm hl113_5;clear hi113_5 hl113_5;replace p113:=eq_true p113;replace q113:=eq_true q113;refine start_ (n:=24) (S:=fun w'=>w'.cell? (ad113.add ((x3_1).toNat * 6))=some (.int .i64 ((rd_T34 l0 x3_1).f0))∧w'.cell? ⟨(ad113.add ((x3_1).toNat * 6)).block,(ad113.add ((x3_1).toNat * 6)).off+1,none⟩=some (.int .i64 ((rd_T34 l0 x3_1).f1))∧w'.cell? ⟨(ad113.add ((x3_1).toNat * 6)).block,(ad113.add ((x3_1).toNat * 6)).off+2,none⟩=some (.bool ((rd_T34 l0 x3_1).f2))∧w'.cell? ⟨(ad113.add ((x3_1).toNat * 6)).block,(ad113.add ((x3_1).toNat * 6)).off+3,none⟩=some (.slice A113_3 ((rd_T34 l0 x3_1).f3).length c113_3)∧w'.cell? ⟨(ad113.add ((x3_1).toNat * 6)).block,(ad113.add ((x3_1).toNat * 6)).off+4,none⟩=some (.bool ((rd_T34 l0 x3_1).f4))∧w'.cell? ⟨(ad113.add ((x3_1).toNat * 6)).block,(ad113.add ((x3_1).toNat * 6)).off+5,none⟩=some (.slice A113_5 ((rd_T34 l0 x3_1).f5).length c113_5)) (ds:=[]) (zzB 24 0) (by kernel_rfl) rfl rfl ⟨(zzx HB.out hw113_0),(zzx HB.out hw113_1),(zzx HB.out hw113_2),(zzx HB.out hw113_3),(zzx HB.out hw113_4),(zzx HB.out hw113_5)⟩ (fun hHeld=>?_);refine with_tabW spec_l5Records.tab4 spec_l5Records.bits4 (fun HT_ HW_=>?_);generalize wr.drew=w17 at HB HR113_3 HR113_5 hx113_0 hx113_1 hx113_2 hx113_3 hx113_4 hx113_5 hHeld ⊢;refine pure_ (i:=0) (N:=some 10) (v:=?_) (a':=?_) (zzB 24 1) rfl rfl (zzA2 HT_.out) (fun _ _ _ h=>h) (Or.inl ⟨by rfl,?_⟩) ?_ ?_;rotate_left
      ·
       intro w';go_simp;with_reducible rfl
      rotate_left
      ·
       simp only [Act.put,zzq,zzr,zzs,i64_w,i32_w];rfl
      refine pure_ (i:=1) (N:=some 11) (v:=?_) (a':=?_) (zzB 24 3) rfl rfl (zzA2 HT_.out) (fun _ _ _ h=>h) (Or.inl ⟨by rfl,?_⟩) ?_ ?_;rotate_left
      ·
       intro w';go_simp;with_reducible rfl
      rotate_left
      ·
       simp only [Act.put,zzq,zzr,zzs,i64_w,i32_w];rfl
      refine pure_ (i:=2) (N:=some 12) (v:=?_) (a':=?_) (zzB 24 7) rfl rfl (zzA2 HT_.out) (fun _ _ _ h=>h) (Or.inl ⟨by rfl,?_⟩) ?_ ?_;rotate_left
      ·
       intro w';go_simp;with_reducible rfl
      rotate_left
      ·
       simp only [Act.put,zzq,zzr,zzs,i64_w,i32_w];rfl
      refine take_ (i:=3) (N:=some 13) (v:=?_) (a':=?_) (zzB 24 15) rfl rfl (take_ofW HT_.out HW_.out (by kernel_rfl)) (fun _ _ _ h=>h) (Or.inl ⟨by rfl,?_⟩) hHeld ?_ ?_;rotate_left
      ·
       rintro w' ⟨s0,s1,s2,s3,s4,s5⟩;go_simp;with_reducible rfl
      rotate_left
      ·
       simp only [Act.put,zzq,zzr,zzs,i64_w,i32_w];rfl
      refine one_ (i:=4) (N:=some 14) (zzB 24 31) rfl rfl (one_of HT_.out (by kernel_rfl)) (by decide) (fun K hK=>?_);refine goes_ Try.func99 (by kernel_rfl) rfl #[.agg #[.int .i64 ((rd_T34 l0 x3_1).f0),.int .i64 ((rd_T34 l0 x3_1).f1),.bool ((rd_T34 l0 x3_1).f2),.slice A113_3 ((rd_T34 l0 x3_1).f3).length c113_3,.bool ((rd_T34 l0 x3_1).f4),.slice A113_5 ((rd_T34 l0 x3_1).f5).length c113_5]] (by rfl) rfl rfl zzM2 ?_;with_reducible refine (spec_RecordValid.calls k1 ((rd_T34 l0 x3_1).f0) ((rd_T34 l0 x3_1).f1) ((rd_T34 l0 x3_1).f2) _ _ ((rd_T34 l0 x3_1).f3) ((rd_T34 l0 x3_1).f4) _ _ ((rd_T34 l0 x3_1).f5) false _ ?side1 ?side2 ?side3 ?side4 A4.out).mono ?_
      (case side1=>repeat (first|exact (Kd.C_below HR113_3.out HB.out)|(with_reducible refine Kd.C_alloc ?_ _)|(with_reducible refine Kd.C_drewN ?_ _)|(with_reducible refine Kd.C_drew ?_)))
      (case side2=>exact HC113_3.out)
      (case side3=>repeat (first|exact (Kd.C_below HR113_5.out HB.out)|(with_reducible refine Kd.C_alloc ?_ _)|(with_reducible refine Kd.C_drewN ?_ _)|(with_reducible refine Kd.C_drew ?_)))
      (case side4=>exact HC113_5.out);rintro e w18 ⟨rfl,hb⟩;refine ⟨_,rfl,?_⟩;have n0_:=zzm (zzp zzh1 hb);clear HB;have HB:=n0_;clear n0_
      (try clear hb)
      (try clear hb2)
      (try clear hk)
      (try clear hi);refine hK.out _ _ ⟨(zzx HB.out hw113_0),(zzx HB.out hw113_1),(zzx HB.out hw113_2),(zzx HB.out hw113_3),(zzx HB.out hw113_4),(zzx HB.out hw113_5)⟩ (fun hHeld=>?_);clear hK K;refine norm_ (a':=?_) ?_ ?_;rotate_left
      ·
       show Act.put _ (some 14) _ = _;simp only [Act.put,zzq,zzr,zzs,i64_w,i32_w];rfl
      refine pure_ (i:=5) (N:=some 15) (v:=?_) (a':=?_) (zzB 24 63) rfl rfl (zzA2 HT_.out) (fun _ _ _ h=>h) (Or.inl ⟨by rfl,?_⟩) ?_ ?_;rotate_left
      ·
       intro w';go_simp;with_reducible rfl
      rotate_left
      ·
       simp only [Act.put,zzq,zzr,zzs,i64_w,i32_w];rfl
      refine pure_ (i:=6) (N:=some 16) (v:=?_) (a':=?_) (zzB 24 127) rfl rfl (zzA2 HT_.out) (fun _ _ _ h=>h) (Or.inl ⟨by rfl,?_⟩) ?_ ?_;rotate_left
      ·
       intro w';go_simp;with_reducible rfl
      rotate_left
      ·
       simp only [Act.put,zzq,zzr,zzs,i64_w,i32_w];rfl
      refine pure_ (i:=7) (N:=some 17) (v:=undef) (a':=?_) (zzB 24 255) rfl rfl (zzA2 HT_.out) (fun _ _ _ h=>h) (Or.inr ⟨by rfl,rfl⟩) ?_ ?_;rotate_left
      ·
       simp only [Act.put,zzq,zzr,zzs,i64_w,i32_w];rfl
      refine pure_ (i:=8) (N:=some 18) (v:=undef) (a':=?_) (zzB 24 511) rfl rfl (zzA2 HT_.out) (fun _ _ _ h=>h) (Or.inr ⟨by rfl,rfl⟩) ?_ ?_;rotate_left
      ·
       simp only [Act.put,zzq,zzr,zzs,i64_w,i32_w];rfl
      refine pure_ (i:=9) (N:=some 19) (v:=undef) (a':=?_) (zzB 24 1023) rfl rfl (zzA2 HT_.out) (fun _ _ _ h=>h) (Or.inr ⟨by rfl,rfl⟩) ?_ ?_;rotate_left
      ·
       simp only [Act.put,zzq,zzr,zzs,i64_w,i32_w];rfl
      refine pure_ (i:=10) (N:=some 20) (v:=undef) (a':=?_) (zzB 24 2047) rfl rfl (zzA2 HT_.out) (fun _ _ _ h=>h) (Or.inr ⟨by rfl,rfl⟩) ?_ ?_;rotate_left
      ·
       simp only [Act.put,zzq,zzr,zzs,i64_w,i32_w];rfl
      refine pure_ (i:=11) (N:=some 21) (v:=undef) (a':=?_) (zzB 24 4095) rfl rfl (zzA2 HT_.out) (fun _ _ _ h=>h) (Or.inr ⟨by rfl,rfl⟩) ?_ ?_;rotate_left
      ·
       simp only [Act.put,zzq,zzr,zzs,i64_w,i32_w];rfl
      refine pure_ (i:=12) (N:=some 22) (v:=undef) (a':=?_) (zzB 24 8191) rfl rfl (zzA2 HT_.out) (fun _ _ _ h=>h) (Or.inr ⟨by rfl,rfl⟩) ?_ ?_;rotate_left
      ·
       simp only [Act.put,zzq,zzr,zzs,i64_w,i32_w];rfl
      refine pure_ (i:=13) (N:=some 23) (v:=undef) (a':=?_) (zzB 24 16383) rfl rfl (zzA2 HT_.out) (fun _ _ _ h=>h) (Or.inr ⟨by rfl,rfl⟩) ?_ ?_;rotate_left
      ·
       simp only [Act.put,zzq,zzr,zzs,i64_w,i32_w];rfl
      refine pure_ (i:=14) (N:=some 24) (v:=undef) (a':=?_) (zzB 24 32767) rfl rfl (zzA2 HT_.out) (fun _ _ _ h=>h) (Or.inr ⟨by rfl,rfl⟩) ?_ ?_;rotate_left
      ·
       simp only [Act.put,zzq,zzr,zzs,i64_w,i32_w];rfl
      refine pure_ (i:=15) (N:=some 25) (v:=undef) (a':=?_) (zzB 24 65535) rfl rfl (zzA2 HT_.out) (fun _ _ _ h=>h) (Or.inr ⟨by rfl,rfl⟩) ?_ ?_;rotate_left
      ·
       simp only [Act.put,zzq,zzr,zzs,i64_w,i32_w];rfl
      refine pure_ (i:=16) (N:=some 26) (v:=undef) (a':=?_) (zzB 24 131071) rfl rfl (zzA2 HT_.out) (fun _ _ _ h=>h) (Or.inr ⟨by rfl,rfl⟩) ?_ ?_;rotate_left
      ·
       simp only [Act.put,zzq,zzr,zzs,i64_w,i32_w];rfl
      refine pure_ (i:=17) (N:=some 27) (v:=undef) (a':=?_) (zzB 24 262143) rfl rfl (zzA2 HT_.out) (fun _ _ _ h=>h) (Or.inr ⟨by rfl,rfl⟩) ?_ ?_;rotate_left
      ·
       simp only [Act.put,zzq,zzr,zzs,i64_w,i32_w];rfl
      refine pure_ (i:=18) (N:=some 28) (v:=undef) (a':=?_) (zzB 24 524287) rfl rfl (zzA2 HT_.out) (fun _ _ _ h=>h) (Or.inr ⟨by rfl,rfl⟩) ?_ ?_;rotate_left
      ·
       simp only [Act.put,zzq,zzr,zzs,i64_w,i32_w];rfl
      refine pure_ (i:=19) (N:=some 29) (v:=undef) (a':=?_) (zzB 24 1048575) rfl rfl (zzA2 HT_.out) (fun _ _ _ h=>h) (Or.inr ⟨by rfl,rfl⟩) ?_ ?_;rotate_left
      ·
       simp only [Act.put,zzq,zzr,zzs,i64_w,i32_w];rfl
      refine pure_ (i:=20) (N:=some 30) (v:=undef) (a':=?_) (zzB 24 2097151) rfl rfl (zzA2 HT_.out) (fun _ _ _ h=>h) (Or.inr ⟨by rfl,rfl⟩) ?_ ?_;rotate_left
      ·
       simp only [Act.put,zzq,zzr,zzs,i64_w,i32_w];rfl
      refine pure_ (i:=21) (N:=some 31) (v:=undef) (a':=?_) (zzB 24 4194303) rfl rfl (zzA2 HT_.out) (fun _ _ _ h=>h) (Or.inr ⟨by rfl,rfl⟩) ?_ ?_;rotate_left
      ·
       simp only [Act.put,zzq,zzr,zzs,i64_w,i32_w];rfl
      refine pure_ (i:=22) (N:=some 32) (v:=undef) (a':=?_) (zzB 24 8388607) rfl rfl (zzA2 HT_.out) (fun _ _ _ h=>h) (Or.inr ⟨by rfl,rfl⟩) ?_ ?_;rotate_left
      ·
       simp only [Act.put,zzq,zzr,zzs,i64_w,i32_w];rfl
      refine pure_ (i:=23) (N:=some 33) (v:=?_) (a':=?_) (zzB 24 16777215) rfl rfl (zzA2 HT_.out) (fun _ _ _ h=>h) (Or.inl ⟨by rfl,?_⟩) ?_ ?_;rotate_left
      ·
       intro w';go_simp;with_reducible rfl
      rotate_left
      ·
       simp only [Act.put,zzq,zzr,zzs,i64_w,i32_w];rfl
      refine done_ (done_of HT_.out (by kernel_rfl)) ?_;try go_wp2
      go_ret;exact ⟨by first|rfl|(simp [errW_none,errW_some] <;> rfl)|(simp [*,errW_none,errW_some] <;> rfl),zzh1⟩
    ·
     rw [if_neg c3] at H;exact absurd H (by simp)
   ·
    rw [if_neg c2] at H;have c2b0:decide (x3_1 < (l0.length:Int))=false:=decide_eq_false c2;clear c2;replace H:=Option.bind_eq_some_iff.mp H;obtain ⟨t117,A190,H⟩:=H;replace H:(some t117)=some r:=H;have A19:=zzm A190;clear A190;obtain rfl:=Option.some.inj H;go_wp2_with (first|((with_reducible refine gate_callee (f:=84) rfl ?_);refine goesL_ (some 36) rfl rfl Try.func84 (by kernel_rfl) rfl #[.int .i64 (l0.length:Int),.int .i64 1,.int .i64 6] rfl zzM2 ?_;(with_reducible refine (spec_l6In.calls (l0.length:Int) 1 6 t117 _ A19.out).mono ?_);rintro e w' ⟨rfl,⟨nd,rfl⟩⟩;refine ⟨_,rfl,?_⟩));go_ret;exact ⟨by first|rfl|(simp [errW_none,errW_some] <;> rfl)|(simp [*,errW_none,errW_some] <;> rfl),zzh1⟩
def spec_BatchValid.j0:Nat→Bool→Bool→Bool→Int→Int→Int→List (S34)→Option (Bool)
 | 0,_,_,_,_,_,_,_=>none
 | k+1,x24,x119000,x119001,x119002,x119003,x119004,x119005=>if x24=true then (some false) else (if x119002=255 then (if x119003=0 then (if x119004=0 then (some (!x119001)) else (some false)) else (some false)) else (if x119001=true then (some ((x119005.length:Int)==1)) else (some true)))
def spec_BatchValid.f (k:Nat) (a0_0:Bool) (a0_1:Bool) (a0_2:Int) (a0_3:Int) (a0_4:Int) (l0_5:List (S34)):Option (Bool):=(spec_l5Records.f k l0_5).bind fun t119=>(if t119=true then ((spec_l6In.f a0_2 0 255).bind fun t120=>(if t120=true then ((spec_l6In.f a0_3 0 99).bind fun t121=>(if t121=true then ((spec_l6In.f a0_4 0 9999).bind fun t122=>(spec_BatchValid.j0 k (!t122) a0_0 a0_1 a0_2 a0_3 a0_4 l0_5)) else (spec_BatchValid.j0 k true a0_0 a0_1 a0_2 a0_3 a0_4 l0_5))) else (spec_BatchValid.j0 k true a0_0 a0_1 a0_2 a0_3 a0_4 l0_5))) else (spec_BatchValid.j0 k true a0_0 a0_1 a0_2 a0_3 a0_4 l0_5))
set_option maxHeartbeats 8000000 in
set_option maxRecDepth 100000 in
theorem spec_BatchValid.calls (k:Nat) (a0_0:Bool) (a0_1:Bool) (a0_2:Int) (a0_3:Int) (a0_4:Int) (A0_5:Option Addr) (c0_5:Nat) (l0_5:List (S34)) (r:Bool) (w:World) (hr0_5:Kd.C k34 w A0_5 l0_5.length l0_5) (hc0_5:l0_5.length≤c0_5) (h:spec_BatchValid.f k a0_0 a0_1 a0_2 a0_3 a0_4 l0_5=some r) :
  Calls Try.prog 55 #[.agg #[.bool a0_0,.bool a0_1,.int .i64 a0_2,.int .i64 a0_3,.int .i64 a0_4,.slice A0_5 l0_5.length c0_5]] w fun e w'=>e = .returned (.bool r)∧Below w.heap.size w w':=by
 have hu27:=Try.underlying27;have HR0_5:=zzm hr0_5;have HC0_5:=zzm hc0_5;clear hr0_5 hc0_5;have HB:=zzm (Below.refl w.heap.size w);have H:((spec_l5Records.f k l0_5).bind fun t119=>(if t119=true then ((spec_l6In.f a0_2 0 255).bind fun t120=>(if t120=true then ((spec_l6In.f a0_3 0 99).bind fun t121=>(if t121=true then ((spec_l6In.f a0_4 0 9999).bind fun t122=>(spec_BatchValid.j0 k (!t122) a0_0 a0_1 a0_2 a0_3 a0_4 l0_5)) else (spec_BatchValid.j0 k true a0_0 a0_1 a0_2 a0_3 a0_4 l0_5))) else (spec_BatchValid.j0 k true a0_0 a0_1 a0_2 a0_3 a0_4 l0_5))) else (spec_BatchValid.j0 k true a0_0 a0_1 a0_2 a0_3 a0_4 l0_5)))=some r:=h;clear h;have HC2:=zzm H;clear H;go_enter Try.func55,Try.ntmps55;go_upto_region 1 with (first|((with_reducible refine gate_dst (N:=1) rfl ?_);(try (refine gate_guard (by rfl) ?_;dsimp only));refine box_event ?hg (N:=1) ?hd (cs:=#[.bool a0_0,.bool a0_1,.int .i64 a0_2,.int .i64 a0_3,.int .i64 a0_4,.slice A0_5 l0_5.length c0_5]) (t:=27) ?hr ?_;(case hd=>rfl);(case hg=>rfl);(case hr=>first|(go_simp;done)|(go_simp;rfl));intro gb118 hg w3 hbox hb;have n0_:=zzm (zzp zzh1 hb);have n1_:=zzm (hbox);have n2_:=zzm ((by rw [hg];exact (zzo zzh1):w.heap.size≤gb118));have n3_:=zzm ((by rw [hg];exact (zzo zzh1):w.heap.size≤gb118));clear HB;have HB:=n0_;have BK118:=n1_;have GW118:=n2_;have GE118:=n3_;clear n0_ n1_ n2_ n3_ hb hbox hg))
 (try simp only [Act.put,zzq,zzr,zzs]);go_cut [24] (fun v24 wc=>∃ (kq:Nat) (x24_1:Bool),v24 = .bool x24_1∧Aside0 (spec_BatchValid.j0 kq x24_1 a0_0 a0_1 a0_2 a0_3 a0_4 l0_5=some r)∧Aside0 (kq≤k)∧Aside0 (wc.heap[gb118]? = some (.cells #[.bool a0_0,.bool a0_1,.int .i64 a0_2,.int .i64 a0_3,.int .i64 a0_4,(.slice A0_5 l0_5.length c0_5)] 27 (0,0)))∧Aside0 (Below w.heap.size w wc))
 case first=>
  have H:=HC2.out;clear HC2;replace H:=Option.bind_eq_some_iff.mp H;obtain ⟨t119,A40,H⟩:=H;replace H:(if t119=true then ((spec_l6In.f a0_2 0 255).bind fun t120=>(if t120=true then ((spec_l6In.f a0_3 0 99).bind fun t121=>(if t121=true then ((spec_l6In.f a0_4 0 9999).bind fun t122=>(spec_BatchValid.j0 k (!t122) a0_0 a0_1 a0_2 a0_3 a0_4 l0_5)) else (spec_BatchValid.j0 k true a0_0 a0_1 a0_2 a0_3 a0_4 l0_5))) else (spec_BatchValid.j0 k true a0_0 a0_1 a0_2 a0_3 a0_4 l0_5))) else (spec_BatchValid.j0 k true a0_0 a0_1 a0_2 a0_3 a0_4 l0_5))=some r:=H;have A4:=zzm A40;clear A40;by_cases c5:t119=true
  ·
   subst c5;have H1:((spec_l6In.f a0_2 0 255).bind fun t120=>(if t120=true then ((spec_l6In.f a0_3 0 99).bind fun t121=>(if t121=true then ((spec_l6In.f a0_4 0 9999).bind fun t122=>(spec_BatchValid.j0 k (!t122) a0_0 a0_1 a0_2 a0_3 a0_4 l0_5)) else (spec_BatchValid.j0 k true a0_0 a0_1 a0_2 a0_3 a0_4 l0_5))) else (spec_BatchValid.j0 k true a0_0 a0_1 a0_2 a0_3 a0_4 l0_5)))=some r:=by rw [if_pos rfl] at H;exact H
   clear H;have H:=H1;clear H1;replace H:=Option.bind_eq_some_iff.mp H;obtain ⟨t120,A60,H⟩:=H;replace H:(if t120=true then ((spec_l6In.f a0_3 0 99).bind fun t121=>(if t121=true then ((spec_l6In.f a0_4 0 9999).bind fun t122=>(spec_BatchValid.j0 k (!t122) a0_0 a0_1 a0_2 a0_3 a0_4 l0_5)) else (spec_BatchValid.j0 k true a0_0 a0_1 a0_2 a0_3 a0_4 l0_5))) else (spec_BatchValid.j0 k true a0_0 a0_1 a0_2 a0_3 a0_4 l0_5))=some r:=H;have A6:=zzm A60;clear A60;by_cases c7:t120=true
   ·
    subst c7;have H1:((spec_l6In.f a0_3 0 99).bind fun t121=>(if t121=true then ((spec_l6In.f a0_4 0 9999).bind fun t122=>(spec_BatchValid.j0 k (!t122) a0_0 a0_1 a0_2 a0_3 a0_4 l0_5)) else (spec_BatchValid.j0 k true a0_0 a0_1 a0_2 a0_3 a0_4 l0_5)))=some r:=by rw [if_pos rfl] at H;exact H
    clear H;have H:=H1;clear H1;replace H:=Option.bind_eq_some_iff.mp H;obtain ⟨t121,A80,H⟩:=H;replace H:(if t121=true then ((spec_l6In.f a0_4 0 9999).bind fun t122=>(spec_BatchValid.j0 k (!t122) a0_0 a0_1 a0_2 a0_3 a0_4 l0_5)) else (spec_BatchValid.j0 k true a0_0 a0_1 a0_2 a0_3 a0_4 l0_5))=some r:=H;have A8:=zzm A80;clear A80;by_cases c9:t121=true
    ·
     subst c9;have H1:((spec_l6In.f a0_4 0 9999).bind fun t122=>(spec_BatchValid.j0 k (!t122) a0_0 a0_1 a0_2 a0_3 a0_4 l0_5))=some r:=by rw [if_pos rfl] at H;exact H
     clear H;have H:=H1;clear H1;replace H:=Option.bind_eq_some_iff.mp H;obtain ⟨t122,A100,H⟩:=H;replace H:(spec_BatchValid.j0 k (!t122) a0_0 a0_1 a0_2 a0_3 a0_4 l0_5)=some r:=H;have A10:=zzm A100;clear A100;have H':=zzm H;clear H;obtain ⟨hcz11_0,hcz11_1,hcz11_2,hcz11_3,hcz11_4,hcz11_5,hfz11_0,hfz11_1,hfz11_2,hfz11_3,hfz11_4,hfz11_5⟩:=zzc6 BK118.out;go_wp2_with (first|((with_reducible refine gate_callee (f:=83) rfl ?_);refine goesL_ (some 5) rfl rfl Try.func83 (by kernel_rfl) rfl #[.slice A0_5 l0_5.length c0_5] rfl zzM2 ?_;(with_reducible refine (spec_l5Records.calls k _ _ l0_5 true _ ?side1 ?side2 A4.out).mono ?_);(case side1=>repeat (first|exact (Kd.C_below HR0_5.out HB.out)|(with_reducible refine Kd.C_alloc ?_ _)|(with_reducible refine Kd.C_drewN ?_ _)|(with_reducible refine Kd.C_drew ?_)));(case side2=>exact HC0_5.out);rintro e w12 ⟨rfl,hb⟩;refine ⟨_,rfl,?_⟩;have n0_:=zzm (zzh (g:=gb118) (o:=.cells #[.bool a0_0,.bool a0_1,.int .i64 a0_2,.int .i64 a0_3,.int .i64 a0_4,.slice A0_5 l0_5.length c0_5] 27 (0,0)) (zzE BK118.out) hb);have n1_:=zzm (zzp zzh2 hb);clear BK118 HB;have BK118:=n0_;have HB:=n1_;clear n0_ n1_;(try clear hb);(try clear hb2);(try clear hk);(try clear hi);obtain ⟨hcz13_0,hcz13_1,hcz13_2,hcz13_3,hcz13_4,hcz13_5,hfz13_0,hfz13_1,hfz13_2,hfz13_3,hfz13_4,hfz13_5⟩:=zzc6 BK118.out)|(go_at_call 84;(with_reducible refine (spec_l6In.calls a0_2 0 255 true _ A6.out).mono ?_);rintro e w' ⟨rfl,⟨nd,rfl⟩⟩)|(go_at_call 84;(with_reducible refine (spec_l6In.calls a0_3 0 99 true _ A8.out).mono ?_);rintro e w' ⟨rfl,⟨nd,rfl⟩⟩)|(go_at_call 84;(with_reducible refine (spec_l6In.calls a0_4 0 9999 t122 _ A10.out).mono ?_);rintro e w' ⟨rfl,⟨nd,rfl⟩⟩));go_meet
     case rel=>exact ⟨_,(!t122),(by first|rfl|(simp;done)|(simp [*];done)),H',⟨by first|omega|exact Nat.le_refl _⟩,⟨by (with_reducible repeat (first|apply zzf|apply zzg|apply zze));exact BK118.out⟩,⟨by repeat (first|(with_reducible first|exact HB.out|apply zza|apply zzb|apply zzc|refine zzd ?_ GE118.out)|exact HB.out)⟩⟩
    ·
     replace c9:=Bool.eq_false_iff.mpr c9;subst c9;have H1:(spec_BatchValid.j0 k true a0_0 a0_1 a0_2 a0_3 a0_4 l0_5)=some r:=by rw [if_neg (show ¬ (false=true) by decide)] at H;exact H
     clear H;have H:=H1;clear H1;have H':=zzm H;clear H;obtain ⟨hcz14_0,hcz14_1,hcz14_2,hcz14_3,hcz14_4,hcz14_5,hfz14_0,hfz14_1,hfz14_2,hfz14_3,hfz14_4,hfz14_5⟩:=zzc6 BK118.out;go_wp2_with (first|((with_reducible refine gate_callee (f:=83) rfl ?_);refine goesL_ (some 5) rfl rfl Try.func83 (by kernel_rfl) rfl #[.slice A0_5 l0_5.length c0_5] rfl zzM2 ?_;(with_reducible refine (spec_l5Records.calls k _ _ l0_5 true _ ?side1 ?side2 A4.out).mono ?_);(case side1=>repeat (first|exact (Kd.C_below HR0_5.out HB.out)|(with_reducible refine Kd.C_alloc ?_ _)|(with_reducible refine Kd.C_drewN ?_ _)|(with_reducible refine Kd.C_drew ?_)));(case side2=>exact HC0_5.out);rintro e w15 ⟨rfl,hb⟩;refine ⟨_,rfl,?_⟩;have n0_:=zzm (zzh (g:=gb118) (o:=.cells #[.bool a0_0,.bool a0_1,.int .i64 a0_2,.int .i64 a0_3,.int .i64 a0_4,.slice A0_5 l0_5.length c0_5] 27 (0,0)) (zzE BK118.out) hb);have n1_:=zzm (zzp zzh2 hb);clear BK118 HB;have BK118:=n0_;have HB:=n1_;clear n0_ n1_;(try clear hb);(try clear hb2);(try clear hk);(try clear hi);obtain ⟨hcz16_0,hcz16_1,hcz16_2,hcz16_3,hcz16_4,hcz16_5,hfz16_0,hfz16_1,hfz16_2,hfz16_3,hfz16_4,hfz16_5⟩:=zzc6 BK118.out)|(go_at_call 84;(with_reducible refine (spec_l6In.calls a0_2 0 255 true _ A6.out).mono ?_);rintro e w' ⟨rfl,⟨nd,rfl⟩⟩)|(go_at_call 84;(with_reducible refine (spec_l6In.calls a0_3 0 99 false _ A8.out).mono ?_);rintro e w' ⟨rfl,⟨nd,rfl⟩⟩));go_meet
     case rel=>exact ⟨_,(true),(by first|rfl|(simp;done)|(simp [*];done)),H',⟨by first|omega|exact Nat.le_refl _⟩,⟨by (with_reducible repeat (first|apply zzf|apply zzg|apply zze));exact BK118.out⟩,⟨by repeat (first|(with_reducible first|exact HB.out|apply zza|apply zzb|apply zzc|refine zzd ?_ GE118.out)|exact HB.out)⟩⟩
   ·
    replace c7:=Bool.eq_false_iff.mpr c7;subst c7;have H1:(spec_BatchValid.j0 k true a0_0 a0_1 a0_2 a0_3 a0_4 l0_5)=some r:=by rw [if_neg (show ¬ (false=true) by decide)] at H;exact H
    clear H;have H:=H1;clear H1;have H':=zzm H;clear H;obtain ⟨hcz17_0,hcz17_1,hcz17_2,hcz17_3,hcz17_4,hcz17_5,hfz17_0,hfz17_1,hfz17_2,hfz17_3,hfz17_4,hfz17_5⟩:=zzc6 BK118.out;go_wp2_with (first|((with_reducible refine gate_callee (f:=83) rfl ?_);refine goesL_ (some 5) rfl rfl Try.func83 (by kernel_rfl) rfl #[.slice A0_5 l0_5.length c0_5] rfl zzM2 ?_;(with_reducible refine (spec_l5Records.calls k _ _ l0_5 true _ ?side1 ?side2 A4.out).mono ?_);(case side1=>repeat (first|exact (Kd.C_below HR0_5.out HB.out)|(with_reducible refine Kd.C_alloc ?_ _)|(with_reducible refine Kd.C_drewN ?_ _)|(with_reducible refine Kd.C_drew ?_)));(case side2=>exact HC0_5.out);rintro e w18 ⟨rfl,hb⟩;refine ⟨_,rfl,?_⟩;have n0_:=zzm (zzh (g:=gb118) (o:=.cells #[.bool a0_0,.bool a0_1,.int .i64 a0_2,.int .i64 a0_3,.int .i64 a0_4,.slice A0_5 l0_5.length c0_5] 27 (0,0)) (zzE BK118.out) hb);have n1_:=zzm (zzp zzh2 hb);clear BK118 HB;have BK118:=n0_;have HB:=n1_;clear n0_ n1_;(try clear hb);(try clear hb2);(try clear hk);(try clear hi);obtain ⟨hcz19_0,hcz19_1,hcz19_2,hcz19_3,hcz19_4,hcz19_5,hfz19_0,hfz19_1,hfz19_2,hfz19_3,hfz19_4,hfz19_5⟩:=zzc6 BK118.out)|(go_at_call 84;(with_reducible refine (spec_l6In.calls a0_2 0 255 false _ A6.out).mono ?_);rintro e w' ⟨rfl,⟨nd,rfl⟩⟩));go_meet
    case rel=>exact ⟨_,(true),(by first|rfl|(simp;done)|(simp [*];done)),H',⟨by first|omega|exact Nat.le_refl _⟩,⟨by (with_reducible repeat (first|apply zzf|apply zzg|apply zze));exact BK118.out⟩,⟨by repeat (first|(with_reducible first|exact HB.out|apply zza|apply zzb|apply zzc|refine zzd ?_ GE118.out)|exact HB.out)⟩⟩
  ·
   replace c5:=Bool.eq_false_iff.mpr c5;subst c5;have H1:(spec_BatchValid.j0 k true a0_0 a0_1 a0_2 a0_3 a0_4 l0_5)=some r:=by rw [if_neg (show ¬ (false=true) by decide)] at H;exact H
   clear H;have H:=H1;clear H1;have H':=zzm H;clear H;obtain ⟨hcz20_0,hcz20_1,hcz20_2,hcz20_3,hcz20_4,hcz20_5,hfz20_0,hfz20_1,hfz20_2,hfz20_3,hfz20_4,hfz20_5⟩:=zzc6 BK118.out;go_wp2_with (first|((with_reducible refine gate_callee (f:=83) rfl ?_);refine goesL_ (some 5) rfl rfl Try.func83 (by kernel_rfl) rfl #[.slice A0_5 l0_5.length c0_5] rfl zzM2 ?_;(with_reducible refine (spec_l5Records.calls k _ _ l0_5 false _ ?side1 ?side2 A4.out).mono ?_);(case side1=>repeat (first|exact (Kd.C_below HR0_5.out HB.out)|(with_reducible refine Kd.C_alloc ?_ _)|(with_reducible refine Kd.C_drewN ?_ _)|(with_reducible refine Kd.C_drew ?_)));(case side2=>exact HC0_5.out);rintro e w21 ⟨rfl,hb⟩;refine ⟨_,rfl,?_⟩;have n0_:=zzm (zzh (g:=gb118) (o:=.cells #[.bool a0_0,.bool a0_1,.int .i64 a0_2,.int .i64 a0_3,.int .i64 a0_4,.slice A0_5 l0_5.length c0_5] 27 (0,0)) (zzE BK118.out) hb);have n1_:=zzm (zzp zzh2 hb);clear BK118 HB;have BK118:=n0_;have HB:=n1_;clear n0_ n1_;(try clear hb);(try clear hb2);(try clear hk);(try clear hi)));go_meet
   case rel=>exact ⟨_,(true),(by first|rfl|(simp;done)|(simp [*];done)),H',⟨by first|omega|exact Nat.le_refl _⟩,⟨by (with_reducible repeat (first|apply zzf|apply zzg|apply zze));exact BK118.out⟩,⟨by repeat (first|(with_reducible first|exact HB.out|apply zza|apply zzb|apply zzc|refine zzd ?_ GE118.out)|exact HB.out)⟩⟩
 case rest=>
  clear HC2;try clear p2
  try clear c5
  try clear c7
  try clear c8
  try clear c9
  try clear hcz11_0
  try clear hcz11_1
  try clear hcz11_2
  try clear hcz11_3
  try clear hcz11_4
  try clear hcz11_5
  try clear hcz13_0
  try clear hcz13_1
  try clear hcz13_2
  try clear hcz13_3
  try clear hcz13_4
  try clear hcz13_5
  try clear hcz14_0
  try clear hcz14_1
  try clear hcz14_2
  try clear hcz14_3
  try clear hcz14_4
  try clear hcz14_5
  try clear hcz16_0
  try clear hcz16_1
  try clear hcz16_2
  try clear hcz16_3
  try clear hcz16_4
  try clear hcz16_5
  try clear hcz17_0
  try clear hcz17_1
  try clear hcz17_2
  try clear hcz17_3
  try clear hcz17_4
  try clear hcz17_5
  try clear hcz19_0
  try clear hcz19_1
  try clear hcz19_2
  try clear hcz19_3
  try clear hcz19_4
  try clear hcz19_5
  try clear hcz20_0
  try clear hcz20_1
  try clear hcz20_2
  try clear hcz20_3
  try clear hcz20_4
  try clear hcz20_5
  try clear hfz11_0
  try clear hfz11_1
  try clear hfz11_2
  try clear hfz11_3
  try clear hfz11_4
  try clear hfz11_5
  try clear hfz13_0
  try clear hfz13_1
  try clear hfz13_2
  try clear hfz13_3
  try clear hfz13_4
  try clear hfz13_5
  try clear hfz14_0
  try clear hfz14_1
  try clear hfz14_2
  try clear hfz14_3
  try clear hfz14_4
  try clear hfz14_5
  try clear hfz16_0
  try clear hfz16_1
  try clear hfz16_2
  try clear hfz16_3
  try clear hfz16_4
  try clear hfz16_5
  try clear hfz17_0
  try clear hfz17_1
  try clear hfz17_2
  try clear hfz17_3
  try clear hfz17_4
  try clear hfz17_5
  try clear hfz19_0
  try clear hfz19_1
  try clear hfz19_2
  try clear hfz19_3
  try clear hfz19_4
  try clear hfz19_5
  try clear hfz20_0
  try clear hfz20_1
  try clear hfz20_2
  try clear hfz20_3
  try clear hfz20_4
  try clear hfz20_5
  obtain ⟨kq,x24_1,rfl,HA,HJ1,BK118,HB⟩:=hcut;cases kq with
  | zero=>exact absurd HA.out (by simp [spec_BatchValid.j0])
  | succ kj1=>
   have H:=HA.out;clear HA;simp only [spec_BatchValid.j0] at H;by_cases c22:x24_1=true
   ·
    subst c22;have H1:(some false)=some r:=by rw [if_pos rfl] at H;exact H
    clear H;have H:=H1;clear H1;obtain rfl:=Option.some.inj H;go_wp2;go_ret;exact ⟨by first|rfl|(simp [errW_none,errW_some] <;> rfl)|(simp [*,errW_none,errW_some] <;> rfl),by repeat (first|(with_reducible first|exact HB.out|apply zza|apply zzb|apply zzc|refine zzd ?_ GE118.out)|exact HB.out)⟩
   ·
    replace c22:=Bool.eq_false_iff.mpr c22;subst c22;have H1:(if a0_2=255 then (if a0_3=0 then (if a0_4=0 then (some (!a0_1)) else (some false)) else (some false)) else (if a0_1=true then (some ((l0_5.length:Int)==1)) else (some true)))=some r:=by rw [if_neg (show ¬ (false=true) by decide)] at H;exact H
    clear H;have H:=H1;clear H1;by_cases c23:a0_2=255
    ·
     rw [if_pos c23] at H;have c23b0:(a0_2==255)=true:=beq_iff_eq.mpr c23;have c23b1:(a0_2 != 255)=false:=bne_eq_false_iff_eq.mpr c23;clear c23;by_cases c24:a0_3=0
     ·
      rw [if_pos c24] at H;have c24b0:(a0_3==0)=true:=beq_iff_eq.mpr c24;have c24b1:(a0_3 != 0)=false:=bne_eq_false_iff_eq.mpr c24;clear c24;by_cases c25:a0_4=0
      ·
       rw [if_pos c25] at H;have c25b0:(a0_4==0)=true:=beq_iff_eq.mpr c25;have c25b1:(a0_4 != 0)=false:=bne_eq_false_iff_eq.mpr c25;clear c25;obtain rfl:=Option.some.inj H;obtain ⟨hcz26_0,hcz26_1,hcz26_2,hcz26_3,hcz26_4,hcz26_5,hfz26_0,hfz26_1,hfz26_2,hfz26_3,hfz26_4,hfz26_5⟩:=zzc6 BK118.out;go_wp2;go_ret;exact ⟨by first|rfl|(simp [errW_none,errW_some] <;> rfl)|(simp [*,errW_none,errW_some] <;> rfl),by repeat (first|(with_reducible first|exact HB.out|apply zza|apply zzb|apply zzc|refine zzd ?_ GE118.out)|exact HB.out)⟩
      ·
       rw [if_neg c25] at H;have c25b0:(a0_4==0)=false:=beq_eq_false_iff_ne.mpr c25;have c25b1:(a0_4 != 0)=true:=bne_iff_ne.mpr c25;obtain rfl:=Option.some.inj H;obtain ⟨hcz27_0,hcz27_1,hcz27_2,hcz27_3,hcz27_4,hcz27_5,hfz27_0,hfz27_1,hfz27_2,hfz27_3,hfz27_4,hfz27_5⟩:=zzc6 BK118.out;go_wp2;go_ret;exact ⟨by first|rfl|(simp [errW_none,errW_some] <;> rfl)|(simp [*,errW_none,errW_some] <;> rfl),by repeat (first|(with_reducible first|exact HB.out|apply zza|apply zzb|apply zzc|refine zzd ?_ GE118.out)|exact HB.out)⟩
     ·
      rw [if_neg c24] at H;have c24b0:(a0_3==0)=false:=beq_eq_false_iff_ne.mpr c24;have c24b1:(a0_3 != 0)=true:=bne_iff_ne.mpr c24;obtain rfl:=Option.some.inj H;obtain ⟨hcz28_0,hcz28_1,hcz28_2,hcz28_3,hcz28_4,hcz28_5,hfz28_0,hfz28_1,hfz28_2,hfz28_3,hfz28_4,hfz28_5⟩:=zzc6 BK118.out;go_wp2;go_ret;exact ⟨by first|rfl|(simp [errW_none,errW_some] <;> rfl)|(simp [*,errW_none,errW_some] <;> rfl),by repeat (first|(with_reducible first|exact HB.out|apply zza|apply zzb|apply zzc|refine zzd ?_ GE118.out)|exact HB.out)⟩
    ·
     rw [if_neg c23] at H;have c23b0:(a0_2==255)=false:=beq_eq_false_iff_ne.mpr c23;have c23b1:(a0_2 != 255)=true:=bne_iff_ne.mpr c23;by_cases c29:a0_1=true
     ·
      subst c29;have H1:(some ((l0_5.length:Int)==1))=some r:=by rw [if_pos rfl] at H;exact H
      clear H;have H:=H1;clear H1;obtain rfl:=Option.some.inj H;obtain ⟨hcz30_0,hcz30_1,hcz30_2,hcz30_3,hcz30_4,hcz30_5,hfz30_0,hfz30_1,hfz30_2,hfz30_3,hfz30_4,hfz30_5⟩:=zzc6 BK118.out;go_wp2;go_ret;exact ⟨by first|rfl|(simp [errW_none,errW_some] <;> rfl)|(simp [*,errW_none,errW_some] <;> rfl),by repeat (first|(with_reducible first|exact HB.out|apply zza|apply zzb|apply zzc|refine zzd ?_ GE118.out)|exact HB.out)⟩
     ·
      replace c29:=Bool.eq_false_iff.mpr c29;subst c29;have H1:(some true)=some r:=by rw [if_neg (show ¬ (false=true) by decide)] at H;exact H
      clear H;have H:=H1;clear H1;obtain rfl:=Option.some.inj H;obtain ⟨hcz31_0,hcz31_1,hcz31_2,hcz31_3,hcz31_4,hcz31_5,hfz31_0,hfz31_1,hfz31_2,hfz31_3,hfz31_4,hfz31_5⟩:=zzc6 BK118.out;go_wp2;go_ret;exact ⟨by first|rfl|(simp [errW_none,errW_some] <;> rfl)|(simp [*,errW_none,errW_some] <;> rfl),by repeat (first|(with_reducible first|exact HB.out|apply zza|apply zzb|apply zzc|refine zzd ?_ GE118.out)|exact HB.out)⟩
def spec_l12Last.f (a0_0:Bool) (a0_1:Bool) (a0_2:Int) (a0_3:Int) (a0_4:Int) (l0_5:List (S34)):Option (Int):=if 0≤(wrap64 ((l0_5.length:Int) - 1)) then (if (wrap64 ((l0_5.length:Int) - 1)) < (l0_5.length:Int) then (some ((rd_T34 l0_5 (wrap64 ((l0_5.length:Int) - 1))).f0)) else (none)) else (none)
set_option maxHeartbeats 8000000 in
set_option maxRecDepth 100000 in
theorem spec_l12Last.calls (a0_0:Bool) (a0_1:Bool) (a0_2:Int) (a0_3:Int) (a0_4:Int) (A0_5:Option Addr) (c0_5:Nat) (l0_5:List (S34)) (r:Int) (w:World) (hr0_5:Kd.C k34 w A0_5 l0_5.length l0_5) (hc0_5:l0_5.length≤c0_5) (h:spec_l12Last.f a0_0 a0_1 a0_2 a0_3 a0_4 l0_5=some r) :
  Calls Try.prog 76 #[.agg #[.bool a0_0,.bool a0_1,.int .i64 a0_2,.int .i64 a0_3,.int .i64 a0_4,.slice A0_5 l0_5.length c0_5]] w fun e w'=>e = .returned (.int .i64 r)∧Below w.heap.size w w':=by
 have hu27:=Try.underlying27;have HR0_5:=zzm hr0_5;have HC0_5:=zzm hc0_5;clear hr0_5 hc0_5;have HB:=zzm (Below.refl w.heap.size w);have H:(if 0≤(wrap64 ((l0_5.length:Int) - 1)) then (if (wrap64 ((l0_5.length:Int) - 1)) < (l0_5.length:Int) then (some ((rd_T34 l0_5 (wrap64 ((l0_5.length:Int) - 1))).f0)) else (none)) else (none))=some r:=h;clear h;obtain ⟨ji2,hji2⟩:∃ j_:Int,(wrap64 ((l0_5.length:Int) - 1))=j_:=⟨_,rfl⟩;replace H:(if 0≤(ji2) then (if (ji2) < (l0_5.length:Int) then (some ((rd_T34 l0_5 (ji2)).f0)) else (none)) else (none))=some r:=by first|(rw [hji2] at H;exact H)|(simp only [hji2] at H ⊢;exact H)
 have hji2w:(IntKind.i64.wrap ((l0_5.length:Int) - 1))=ji2:=(i64_w _).trans hji2;by_cases c3 : 0≤(ji2)
 ·
  rw [if_pos c3] at H;have c3b0:decide (0≤(ji2))=true:=decide_eq_true c3;clear c3;by_cases c4:(ji2) < (l0_5.length:Int)
  ·
   rw [if_pos c4] at H;have c4b0:decide ((ji2) < (l0_5.length:Int))=true:=decide_eq_true c4;clear c4;obtain rfl:=Option.some.inj H;go_enter Try.func76,Try.ntmps76;go_wp2_with (first|((with_reducible refine gate_dst (N:=1) rfl ?_);refine box_event ?hg (N:=1) ?hd (cs:=#[.bool a0_0,.bool a0_1,.int .i64 a0_2,.int .i64 a0_3,.int .i64 a0_4,.slice A0_5 l0_5.length c0_5]) (t:=27) ?hr ?_;(case hd=>rfl);(case hg=>rfl);(case hr=>first|(go_simp;done)|(go_simp;rfl));intro gb297 hg w5 hbox hb;have n0_:=zzm (zzp zzh1 hb);have n1_:=zzm (hbox);have n2_:=zzm ((by rw [hg];exact (zzo zzh1):w.heap.size≤gb297));have n3_:=zzm ((by rw [hg];exact (zzo zzh1):w.heap.size≤gb297));clear HB;have HB:=n0_;have BK297:=n1_;have GW297:=n2_;have GE297:=n3_;clear n0_ n1_ n2_ n3_ hb hbox hg;obtain ⟨hcz6_0,hcz6_1,hcz6_2,hcz6_3,hcz6_4,hcz6_5,hfz6_0,hfz6_1,hfz6_2,hfz6_3,hfz6_4,hfz6_5⟩:=zzc6 BK297.out;have p298 : 0≤((ji2):Int):=zzt;have q298:(ji2) < (l0_5.length:Int):=zzt;obtain ⟨ad298,A298_3,c298_3,A298_5,c298_5,e298,hx298_0,hx298_1,hx298_2,hx298_3,hx298_4,hx298_5,hl298_3,hi298_3,hl298_5,hi298_5⟩:=at_T34 HR0_5.out (ji2) p298 q298;cases e298;replace hx298_0:=zzx HB.out hx298_0;replace hx298_1:=zzx HB.out hx298_1;replace hx298_2:=zzx HB.out hx298_2;replace hx298_3:=zzx HB.out hx298_3;replace hx298_4:=zzx HB.out hx298_4;replace hx298_5:=zzx HB.out hx298_5;have HR298_3:=zzm hi298_3;have HC298_3:=zzm hl298_3;clear hi298_3 hl298_3;have HR298_5:=zzm hi298_5;have HC298_5:=zzm hl298_5;clear hi298_5 hl298_5;replace p298:=eq_true p298;replace q298:=eq_true q298));go_ret;exact ⟨by first|rfl|(simp [errW_none,errW_some] <;> rfl)|(simp only [← hji2];first|rfl|(simp [errW_none,errW_some] <;> rfl))|(simp [*,errW_none,errW_some] <;> rfl),by repeat (first|(with_reducible first|exact HB.out|apply zza|apply zzb|apply zzc|refine zzd ?_ GE297.out)|exact HB.out)⟩
  ·
   rw [if_neg c4] at H;exact absurd H (by simp)
 ·
  rw [if_neg c3] at H;exact absurd H (by simp)
def spec_LogValid.l0:Nat→List (S27)→Int→Option (Bool)
 | 0,_,_=>none
 | k+1,x0,x3=>if x3 < (x0.length:Int) then (if 0≤x3 then ((spec_BatchValid.f k ((rd_T27 x0 x3).f0) ((rd_T27 x0 x3).f1) ((rd_T27 x0 x3).f2) ((rd_T27 x0 x3).f3) ((rd_T27 x0 x3).f4) ((rd_T27 x0 x3).f5)).bind fun t300=>(if t300=true then (if x3 > 0 then (if 0≤(wrap64 (x3 - 1)) then (if (wrap64 (x3 - 1)) < (x0.length:Int) then ((spec_l12Last.f ((rd_T27 x0 (wrap64 (x3 - 1))).f0) ((rd_T27 x0 (wrap64 (x3 - 1))).f1) ((rd_T27 x0 (wrap64 (x3 - 1))).f2) ((rd_T27 x0 (wrap64 (x3 - 1))).f3) ((rd_T27 x0 (wrap64 (x3 - 1))).f4) ((rd_T27 x0 (wrap64 (x3 - 1))).f5)).bind fun t302=>(if 0 < (((rd_T27 x0 x3).f5).length:Int) then (if t302 ≥ ((rd_T34 ((rd_T27 x0 x3).f5) 0).f0) then (some false) else (spec_LogValid.l0 k x0 (wrap64 (x3+1)))) else (none))) else (none)) else (none)) else (spec_LogValid.l0 k x0 (wrap64 (x3+1)))) else (some false))) else (none)) else (some (decide ((x0.length:Int)≤8)))
def spec_LogValid.f (k:Nat) (l0:List (S27)):Option (Bool):=spec_LogValid.l0 k l0 0
def spec_LogValid.T4:Bool×List (List Nat×List Nat):=(true,[([],[]),([],[]),([0,1],[0,1]),([2],[2]),([3],[3]),([4],[4]),([5,4],[5]),([6],[6]),([7,6],[6,7]),([8,6,6],[6,8]),([9],[9]),([9],[9]),([11,9],[9,11]),([10,12,9],[9,10,12]),([13,9],[9,13]),([14,9,9],[9,14]),([9],[9]),([9],[9]),([16,17,9],[9,16,17]),([18,9],[9,18]),([19,9],[9,19]),([20,9],[9,20]),([21,9],[9,21]),([22,9],[9,22]),([15,23,9],[9,15,23]),([9,24,6],[6,9,24]),([6,25],[6,25])])
def spec_LogValid.B4:List Nat:=[0,0,3,7,15,31,63,127,255,511,1023,1023,3071,8191,16383,32767,1023,1023,197631,459775,984063,2032639,4129791,8324095,16777215,33554431,67108863]
theorem spec_LogValid.tab4:rtab .any (opsOf Try.f44 4)=spec_LogValid.T4:=by kernel_rfl
theorem spec_LogValid.bits4:waitsOk spec_LogValid.T4.2 spec_LogValid.B4=true:=by kernel_rfl
set_option maxHeartbeats 8000000 in
set_option maxRecDepth 100000 in
theorem spec_LogValid.calls (k:Nat) (A0:Option Addr) (c0:Nat) (l0:List (S27)) (r:Bool) (w:World) (hr0:Kd.C k27 w A0 l0.length l0) (hc0:l0.length≤c0) (h:spec_LogValid.f k l0=some r) :
  Calls Try.prog 44 #[.slice A0 l0.length c0] w fun e w'=>e = .returned (.bool r)∧Below w.heap.size w w':=by
 have hu27:=Try.underlying27;have HR0:=zzm hr0;have HC0:=zzm hc0;clear hr0 hc0;have HB:=zzm (Below.refl w.heap.size w);have H:(spec_LogValid.l0 k l0 0)=some r:=h;clear h;have H':=zzm H;clear H;go_enter Try.func44,Try.ntmps44;go_wp2;go_loopg [3] k (fun kq v3 w'=>∃ (x3_1:Int),v3 = .int .i64 x3_1∧Aside0 (spec_LogValid.l0 kq l0 x3_1=some r)∧Aside0 (kq≤k)∧Aside0 (Below w.heap.size w w'))
 case atStart=>exact ⟨(0),(by first|rfl|(simp;done)|(simp [*];done)),H',⟨Nat.le_refl _⟩,⟨zzh1⟩⟩
 case round=>
  clear H';obtain ⟨x3_1,rfl,HA,HK1,HB⟩:=hrel;cases gk with
  | zero=>exact absurd HA.out (by simp [spec_LogValid.l0])
  | succ k1=>
   have H:=HA.out;clear HA;simp only [spec_LogValid.l0] at H;by_cases c2:x3_1 < (l0.length:Int)
   ·
    rw [if_pos c2] at H;have c2b0:decide (x3_1 < (l0.length:Int))=true:=decide_eq_true c2;clear c2;by_cases c3 : 0≤x3_1
    ·
     rw [if_pos c3] at H;have c3b0:decide (0≤x3_1)=true:=decide_eq_true c3;clear c3;replace H:=Option.bind_eq_some_iff.mp H;obtain ⟨t300,A40,H⟩:=H;replace H:(if t300=true then (if x3_1 > 0 then (if 0≤(wrap64 (x3_1 - 1)) then (if (wrap64 (x3_1 - 1)) < (l0.length:Int) then ((spec_l12Last.f ((rd_T27 l0 (wrap64 (x3_1 - 1))).f0) ((rd_T27 l0 (wrap64 (x3_1 - 1))).f1) ((rd_T27 l0 (wrap64 (x3_1 - 1))).f2) ((rd_T27 l0 (wrap64 (x3_1 - 1))).f3) ((rd_T27 l0 (wrap64 (x3_1 - 1))).f4) ((rd_T27 l0 (wrap64 (x3_1 - 1))).f5)).bind fun t302=>(if 0 < (((rd_T27 l0 x3_1).f5).length:Int) then (if t302 ≥ ((rd_T34 ((rd_T27 l0 x3_1).f5) 0).f0) then (some false) else (spec_LogValid.l0 k1 l0 (wrap64 (x3_1+1)))) else (none))) else (none)) else (none)) else (spec_LogValid.l0 k1 l0 (wrap64 (x3_1+1)))) else (some false))=some r:=H;have A4:=zzm A40;clear A40;by_cases c5:t300=true
     ·
      subst c5;have H1:(if x3_1 > 0 then (if 0≤(wrap64 (x3_1 - 1)) then (if (wrap64 (x3_1 - 1)) < (l0.length:Int) then ((spec_l12Last.f ((rd_T27 l0 (wrap64 (x3_1 - 1))).f0) ((rd_T27 l0 (wrap64 (x3_1 - 1))).f1) ((rd_T27 l0 (wrap64 (x3_1 - 1))).f2) ((rd_T27 l0 (wrap64 (x3_1 - 1))).f3) ((rd_T27 l0 (wrap64 (x3_1 - 1))).f4) ((rd_T27 l0 (wrap64 (x3_1 - 1))).f5)).bind fun t302=>(if 0 < (((rd_T27 l0 x3_1).f5).length:Int) then (if t302 ≥ ((rd_T34 ((rd_T27 l0 x3_1).f5) 0).f0) then (some false) else (spec_LogValid.l0 k1 l0 (wrap64 (x3_1+1)))) else (none))) else (none)) else (none)) else (spec_LogValid.l0 k1 l0 (wrap64 (x3_1+1))))=some r:=by rw [if_pos rfl] at H;exact H
      clear H;have H:=H1;clear H1;by_cases c6:x3_1 > 0
      ·
       rw [if_pos c6] at H;have c6b0:decide (0 < x3_1)=true:=decide_eq_true c6;clear c6;obtain ⟨ji7,hji7⟩:∃ j_:Int,(wrap64 (x3_1 - 1))=j_:=⟨_,rfl⟩;replace H:(if 0≤(ji7) then (if (ji7) < (l0.length:Int) then ((spec_l12Last.f ((rd_T27 l0 (ji7)).f0) ((rd_T27 l0 (ji7)).f1) ((rd_T27 l0 (ji7)).f2) ((rd_T27 l0 (ji7)).f3) ((rd_T27 l0 (ji7)).f4) ((rd_T27 l0 (ji7)).f5)).bind fun t302=>(if 0 < (((rd_T27 l0 x3_1).f5).length:Int) then (if t302 ≥ ((rd_T34 ((rd_T27 l0 x3_1).f5) 0).f0) then (some false) else (spec_LogValid.l0 k1 l0 (wrap64 (x3_1+1)))) else (none))) else (none)) else (none))=some r:=by first|(rw [hji7] at H;exact H)|(simp only [hji7] at H ⊢;exact H)
       (try rw [hji7] at A4);have hji7w:(IntKind.i64.wrap (x3_1 - 1))=ji7:=(i64_w _).trans hji7;by_cases c8 : 0≤(ji7)
       ·
        rw [if_pos c8] at H;have c8b0:decide (0≤(ji7))=true:=decide_eq_true c8;clear c8;by_cases c9:(ji7) < (l0.length:Int)
        ·
         rw [if_pos c9] at H;have c9b0:decide ((ji7) < (l0.length:Int))=true:=decide_eq_true c9;clear c9;replace H:=Option.bind_eq_some_iff.mp H;obtain ⟨t302,A100,H⟩:=H;replace H:(if 0 < (((rd_T27 l0 x3_1).f5).length:Int) then (if t302 ≥ ((rd_T34 ((rd_T27 l0 x3_1).f5) 0).f0) then (some false) else (spec_LogValid.l0 k1 l0 (wrap64 (x3_1+1)))) else (none))=some r:=H;have A10:=zzm A100;clear A100;by_cases c11 : 0 < (((rd_T27 l0 x3_1).f5).length:Int)
         ·
          rw [if_pos c11] at H;have c11b0:decide (0 < (((rd_T27 l0 x3_1).f5).length:Int))=true:=decide_eq_true c11;have c11b1:decide (0 < ((rd_T27 l0 x3_1).f5).length)=true:=decide_eq_true (by omega);clear c11;by_cases c12:t302 ≥ ((rd_T34 ((rd_T27 l0 x3_1).f5) 0).f0)
          ·
           rw [if_pos c12] at H;have c12b0:decide (((rd_T34 ((rd_T27 l0 x3_1).f5) 0).f0)≤t302)=true:=decide_eq_true c12;clear c12;obtain rfl:=Option.some.inj H;try go_wp2
           have n0_:=zzm (zzc HB.out);clear HB;have HB:=n0_;clear n0_;have p299 : 0≤(x3_1:Int):=zzt;have q299:x3_1 < (l0.length:Int):=zzt;obtain ⟨ad299,A299_5,c299_5,e299,hx299_0,hx299_1,hx299_2,hx299_3,hx299_4,hx299_5,hl299_5,hi299_5⟩:=at_T27 HR0.out x3_1 p299 q299;have hw299_5:=hx299_5;have hw299_4:=hx299_4;have hw299_3:=hx299_3;have hw299_2:=hx299_2;have hw299_1:=hx299_1;have hw299_0:=hx299_0;cases e299;replace hx299_0:=zzx HB.out hx299_0;replace hx299_1:=zzx HB.out hx299_1;replace hx299_2:=zzx HB.out hx299_2;replace hx299_3:=zzx HB.out hx299_3;replace hx299_4:=zzx HB.out hx299_4;replace hx299_5:=zzx HB.out hx299_5;have HR299_5:=zzm hi299_5;have HC299_5:=zzm hl299_5;clear hi299_5 hl299_5;replace p299:=eq_true p299;replace q299:=eq_true q299;have p301 : 0≤((ji7):Int):=zzt;have q301:(ji7) < (l0.length:Int):=zzt;obtain ⟨ad301,A301_5,c301_5,e301,hx301_0,hx301_1,hx301_2,hx301_3,hx301_4,hx301_5,hl301_5,hi301_5⟩:=at_T27 HR0.out (ji7) p301 q301;have hw301_5:=hx301_5;have hw301_4:=hx301_4;have hw301_3:=hx301_3;have hw301_2:=hx301_2;have hw301_1:=hx301_1;have hw301_0:=hx301_0;obtain rfl:ad299=ad301:=(by injection e301);replace hx301_0:=zzx HB.out hx301_0;replace hx301_1:=zzx HB.out hx301_1;replace hx301_2:=zzx HB.out hx301_2;replace hx301_3:=zzx HB.out hx301_3;replace hx301_4:=zzx HB.out hx301_4;replace hx301_5:=zzx HB.out hx301_5;have HR301_5:=zzm hi301_5;have HC301_5:=zzm hl301_5;clear hi301_5 hl301_5;replace p301:=eq_true p301;replace q301:=eq_true q301;have p303 : 0≤(x3_1:Int):=zzt;have q303:x3_1 < (l0.length:Int):=zzt;obtain ⟨ad303,A303_5,c303_5,e303,hx303_0,hx303_1,hx303_2,hx303_3,hx303_4,hx303_5,hl303_5,hi303_5⟩:=at_T27 HR0.out x3_1 p303 q303;have hw303_5:=hx303_5;have hw303_4:=hx303_4;have hw303_3:=hx303_3;have hw303_2:=hx303_2;have hw303_1:=hx303_1;have hw303_0:=hx303_0;obtain rfl:ad299=ad303:=(by injection e303);replace hx303_0:=zzx HB.out hx303_0;replace hx303_1:=zzx HB.out hx303_1;replace hx303_2:=zzx HB.out hx303_2;replace hx303_3:=zzx HB.out hx303_3;replace hx303_4:=zzx HB.out hx303_4;replace hx303_5:=zzx HB.out hx303_5;have HR303_5:=zzm hi303_5;have HC303_5:=zzm hl303_5;clear hi303_5 hl303_5;replace p303:=eq_true p303;replace q303:=eq_true q303;have p304 : 0≤(0:Int):=(by omega);have q304 : 0 < (((rd_T27 l0 x3_1).f5).length:Int):=zzt;have eA_:A303_5=A299_5:=by have e_:=Option.some.inj (hw299_5.symm.trans hw303_5);injection e_ with e1_ _ e3_;exact e1_.symm
           have eC_:c303_5=c299_5:=by have e_:=Option.some.inj (hw299_5.symm.trans hw303_5);injection e_ with e1_ _ e3_;exact e3_.symm
           subst A303_5;subst c303_5;obtain ⟨ad304,A304_3,c304_3,A304_5,c304_5,e304,hx304_0,hx304_1,hx304_2,hx304_3,hx304_4,hx304_5,hl304_3,hi304_3,hl304_5,hi304_5⟩:=at_T34 HR303_5.out 0 p304 q304;have hw304_5:=hx304_5
           (try rw [show ((0:Int)).toNat=0 from rfl] at hw304_5)
           (try rw [show 0 * 6=0 from rfl] at hw304_5)
           (try rw [Addr.add_zero'] at hw304_5);have hw304_4:=hx304_4
           (try rw [show ((0:Int)).toNat=0 from rfl] at hw304_4)
           (try rw [show 0 * 6=0 from rfl] at hw304_4)
           (try rw [Addr.add_zero'] at hw304_4);have hw304_3:=hx304_3
           (try rw [show ((0:Int)).toNat=0 from rfl] at hw304_3)
           (try rw [show 0 * 6=0 from rfl] at hw304_3)
           (try rw [Addr.add_zero'] at hw304_3);have hw304_2:=hx304_2
           (try rw [show ((0:Int)).toNat=0 from rfl] at hw304_2)
           (try rw [show 0 * 6=0 from rfl] at hw304_2)
           (try rw [Addr.add_zero'] at hw304_2);have hw304_1:=hx304_1
           (try rw [show ((0:Int)).toNat=0 from rfl] at hw304_1)
           (try rw [show 0 * 6=0 from rfl] at hw304_1)
           (try rw [Addr.add_zero'] at hw304_1);have hw304_0:=hx304_0
           (try rw [show ((0:Int)).toNat=0 from rfl] at hw304_0)
           (try rw [show 0 * 6=0 from rfl] at hw304_0)
           (try rw [Addr.add_zero'] at hw304_0);cases e304;have qi304:(0 < ((rd_T27 l0 x3_1).f5).length)=True:=eq_true (by omega)
           (try rw [show ((0:Int)).toNat=0 from rfl] at hx304_0)
           (try rw [show 0 * 6=0 from rfl] at hx304_0)
           (try rw [Addr.add_zero'] at hx304_0)
           (try rw [show ((0:Int)).toNat=0 from rfl] at hx304_1)
           (try rw [show 0 * 6=0 from rfl] at hx304_1)
           (try rw [Addr.add_zero'] at hx304_1)
           (try rw [show ((0:Int)).toNat=0 from rfl] at hx304_2)
           (try rw [show 0 * 6=0 from rfl] at hx304_2)
           (try rw [Addr.add_zero'] at hx304_2)
           (try rw [show ((0:Int)).toNat=0 from rfl] at hx304_3)
           (try rw [show 0 * 6=0 from rfl] at hx304_3)
           (try rw [Addr.add_zero'] at hx304_3)
           (try rw [show ((0:Int)).toNat=0 from rfl] at hx304_4)
           (try rw [show 0 * 6=0 from rfl] at hx304_4)
           (try rw [Addr.add_zero'] at hx304_4)
           (try rw [show ((0:Int)).toNat=0 from rfl] at hx304_5)
           (try rw [show 0 * 6=0 from rfl] at hx304_5)
           (try rw [Addr.add_zero'] at hx304_5);replace hx304_0:=zzx HB.out hx304_0;replace hx304_1:=zzx HB.out hx304_1;replace hx304_2:=zzx HB.out hx304_2;replace hx304_3:=zzx HB.out hx304_3;replace hx304_4:=zzx HB.out hx304_4;replace hx304_5:=zzx HB.out hx304_5;have HR304_3:=zzm hi304_3;have HC304_3:=zzm hl304_3;clear hi304_3 hl304_3;have HR304_5:=zzm hi304_5;have HC304_5:=zzm hl304_5;clear hi304_5 hl304_5;replace p304:=eq_true p304;replace q304:=eq_true q304;refine start_ (n:=27) (S:=fun w'=>w'.cell? (ad299.add ((x3_1).toNat * 6))=some (.bool ((rd_T27 l0 x3_1).f0))∧w'.cell? ⟨(ad299.add ((x3_1).toNat * 6)).block,(ad299.add ((x3_1).toNat * 6)).off+1,none⟩=some (.bool ((rd_T27 l0 x3_1).f1))∧w'.cell? ⟨(ad299.add ((x3_1).toNat * 6)).block,(ad299.add ((x3_1).toNat * 6)).off+2,none⟩=some (.int .i64 ((rd_T27 l0 x3_1).f2))∧w'.cell? ⟨(ad299.add ((x3_1).toNat * 6)).block,(ad299.add ((x3_1).toNat * 6)).off+3,none⟩=some (.int .i64 ((rd_T27 l0 x3_1).f3))∧w'.cell? ⟨(ad299.add ((x3_1).toNat * 6)).block,(ad299.add ((x3_1).toNat * 6)).off+4,none⟩=some (.int .i64 ((rd_T27 l0 x3_1).f4))∧w'.cell? ⟨(ad299.add ((x3_1).toNat * 6)).block,(ad299.add ((x3_1).toNat * 6)).off+5,none⟩=some (.slice (some ad304) ((rd_T27 l0 x3_1).f5).length c299_5)∧w'.cell? (ad299.add (((ji7)).toNat * 6))=some (.bool ((rd_T27 l0 (ji7)).f0))∧w'.cell? ⟨(ad299.add (((ji7)).toNat * 6)).block,(ad299.add (((ji7)).toNat * 6)).off+1,none⟩=some (.bool ((rd_T27 l0 (ji7)).f1))∧w'.cell? ⟨(ad299.add (((ji7)).toNat * 6)).block,(ad299.add (((ji7)).toNat * 6)).off+2,none⟩=some (.int .i64 ((rd_T27 l0 (ji7)).f2))∧w'.cell? ⟨(ad299.add (((ji7)).toNat * 6)).block,(ad299.add (((ji7)).toNat * 6)).off+3,none⟩=some (.int .i64 ((rd_T27 l0 (ji7)).f3))∧w'.cell? ⟨(ad299.add (((ji7)).toNat * 6)).block,(ad299.add (((ji7)).toNat * 6)).off+4,none⟩=some (.int .i64 ((rd_T27 l0 (ji7)).f4))∧w'.cell? ⟨(ad299.add (((ji7)).toNat * 6)).block,(ad299.add (((ji7)).toNat * 6)).off+5,none⟩=some (.slice A301_5 ((rd_T27 l0 (ji7)).f5).length c301_5)∧w'.cell? (ad299.add ((x3_1).toNat * 6))=some (.bool ((rd_T27 l0 x3_1).f0))∧w'.cell? ⟨(ad299.add ((x3_1).toNat * 6)).block,(ad299.add ((x3_1).toNat * 6)).off+1,none⟩=some (.bool ((rd_T27 l0 x3_1).f1))∧w'.cell? ⟨(ad299.add ((x3_1).toNat * 6)).block,(ad299.add ((x3_1).toNat * 6)).off+2,none⟩=some (.int .i64 ((rd_T27 l0 x3_1).f2))∧w'.cell? ⟨(ad299.add ((x3_1).toNat * 6)).block,(ad299.add ((x3_1).toNat * 6)).off+3,none⟩=some (.int .i64 ((rd_T27 l0 x3_1).f3))∧w'.cell? ⟨(ad299.add ((x3_1).toNat * 6)).block,(ad299.add ((x3_1).toNat * 6)).off+4,none⟩=some (.int .i64 ((rd_T27 l0 x3_1).f4))∧w'.cell? ⟨(ad299.add ((x3_1).toNat * 6)).block,(ad299.add ((x3_1).toNat * 6)).off+5,none⟩=some (.slice (some ad304) ((rd_T27 l0 x3_1).f5).length c299_5)∧w'.cell? ad304=some (.int .i64 ((rd_T34 ((rd_T27 l0 x3_1).f5) 0).f0))∧w'.cell? ⟨ad304.block,ad304.off+1,none⟩=some (.int .i64 ((rd_T34 ((rd_T27 l0 x3_1).f5) 0).f1))∧w'.cell? ⟨ad304.block,ad304.off+2,none⟩=some (.bool ((rd_T34 ((rd_T27 l0 x3_1).f5) 0).f2))∧w'.cell? ⟨ad304.block,ad304.off+3,none⟩=some (.slice A304_3 ((rd_T34 ((rd_T27 l0 x3_1).f5) 0).f3).length c304_3)∧w'.cell? ⟨ad304.block,ad304.off+4,none⟩=some (.bool ((rd_T34 ((rd_T27 l0 x3_1).f5) 0).f4))∧w'.cell? ⟨ad304.block,ad304.off+5,none⟩=some (.slice A304_5 ((rd_T34 ((rd_T27 l0 x3_1).f5) 0).f5).length c304_5)) (ds:=[]) (zzB 27 0) (by kernel_rfl) rfl rfl ⟨(zzx HB.out hw299_0),(zzx HB.out hw299_1),(zzx HB.out hw299_2),(zzx HB.out hw299_3),(zzx HB.out hw299_4),(zzx HB.out hw299_5),(zzx HB.out hw301_0),(zzx HB.out hw301_1),(zzx HB.out hw301_2),(zzx HB.out hw301_3),(zzx HB.out hw301_4),(zzx HB.out hw301_5),(zzx HB.out hw303_0),(zzx HB.out hw303_1),(zzx HB.out hw303_2),(zzx HB.out hw303_3),(zzx HB.out hw303_4),(zzx HB.out hw303_5),(zzx HB.out hw304_0),(zzx HB.out hw304_1),(zzx HB.out hw304_2),(zzx HB.out hw304_3),(zzx HB.out hw304_4),(zzx HB.out hw304_5)⟩ (fun hHeld=>?_);refine with_tabW spec_LogValid.tab4 spec_LogValid.bits4 (fun HT_ HW_=>?_);generalize wr.drew=w13 at HB HR299_5 HR301_5 HR303_5 HR304_3 HR304_5 hx299_0 hx299_1 hx299_2 hx299_3 hx299_4 hx299_5 hx301_0 hx301_1 hx301_2 hx301_3 hx301_4 hx301_5 hx303_0 hx303_1 hx303_2 hx303_3 hx303_4 hx303_5 hx304_0 hx304_1 hx304_2 hx304_3 hx304_4 hx304_5 hHeld ⊢;refine pure_ (i:=0) (N:=some 10) (v:=?_) (a':=?_) (zzB 27 1) rfl rfl (zzA2 HT_.out) (fun _ _ _ h=>h) (Or.inl ⟨by rfl,?_⟩) ?_ ?_;rotate_left
           ·
            intro w';go_simp;with_reducible rfl
           rotate_left
           ·
            simp only [Act.put,zzq,zzr,zzs,i64_w,i32_w];rfl
           refine pure_ (i:=1) (N:=some 11) (v:=?_) (a':=?_) (zzB 27 3) rfl rfl (zzA2 HT_.out) (fun _ _ _ h=>h) (Or.inl ⟨by rfl,?_⟩) ?_ ?_;rotate_left
           ·
            intro w';go_simp;with_reducible rfl
           rotate_left
           ·
            simp only [Act.put,zzq,zzr,zzs,i64_w,i32_w];rfl
           refine pure_ (i:=2) (N:=some 12) (v:=?_) (a':=?_) (zzB 27 7) rfl rfl (zzA2 HT_.out) (fun _ _ _ h=>h) (Or.inl ⟨by rfl,?_⟩) ?_ ?_;rotate_left
           ·
            intro w';go_simp;with_reducible rfl
           rotate_left
           ·
            simp only [Act.put,zzq,zzr,zzs,i64_w,i32_w];rfl
           refine take_ (i:=3) (N:=some 13) (v:=?_) (a':=?_) (zzB 27 15) rfl rfl (take_ofW HT_.out HW_.out (by kernel_rfl)) (fun _ _ _ h=>h) (Or.inl ⟨by rfl,?_⟩) hHeld ?_ ?_;rotate_left
           ·
            rintro w' ⟨s0,s1,s2,s3,s4,s5,s6,s7,s8,s9,s10,s11,s12,s13,s14,s15,s16,s17,s18,s19,s20,s21,s22,s23⟩;go_simp;with_reducible rfl
           rotate_left
           ·
            simp only [Act.put,zzq,zzr,zzs,i64_w,i32_w];rfl
           refine one_ (i:=4) (N:=some 14) (zzB 27 31) rfl rfl (one_of HT_.out (by kernel_rfl)) (by decide) (fun K hK=>?_);refine goes_ Try.func55 (by kernel_rfl) rfl #[.agg #[.bool ((rd_T27 l0 x3_1).f0),.bool ((rd_T27 l0 x3_1).f1),.int .i64 ((rd_T27 l0 x3_1).f2),.int .i64 ((rd_T27 l0 x3_1).f3),.int .i64 ((rd_T27 l0 x3_1).f4),.slice (some ad304) ((rd_T27 l0 x3_1).f5).length c299_5]] (by rfl) rfl rfl zzM2 ?_;with_reducible refine (spec_BatchValid.calls k1 ((rd_T27 l0 x3_1).f0) ((rd_T27 l0 x3_1).f1) ((rd_T27 l0 x3_1).f2) ((rd_T27 l0 x3_1).f3) ((rd_T27 l0 x3_1).f4) _ _ ((rd_T27 l0 x3_1).f5) true _ ?side1 ?side2 A4.out).mono ?_
           (case side1=>repeat (first|exact (Kd.C_below HR299_5.out HB.out)|(with_reducible refine Kd.C_alloc ?_ _)|(with_reducible refine Kd.C_drewN ?_ _)|(with_reducible refine Kd.C_drew ?_)))
           (case side2=>exact HC299_5.out);rintro e w14 ⟨rfl,hb⟩;refine ⟨_,rfl,?_⟩;have n0_:=zzm (zzp zzh1 hb);clear HB;have HB:=n0_;clear n0_
           (try clear hb)
           (try clear hb2)
           (try clear hk)
           (try clear hi);refine hK.out _ _ ⟨(zzx HB.out hw299_0),(zzx HB.out hw299_1),(zzx HB.out hw299_2),(zzx HB.out hw299_3),(zzx HB.out hw299_4),(zzx HB.out hw299_5),(zzx HB.out hw301_0),(zzx HB.out hw301_1),(zzx HB.out hw301_2),(zzx HB.out hw301_3),(zzx HB.out hw301_4),(zzx HB.out hw301_5),(zzx HB.out hw303_0),(zzx HB.out hw303_1),(zzx HB.out hw303_2),(zzx HB.out hw303_3),(zzx HB.out hw303_4),(zzx HB.out hw303_5),(zzx HB.out hw304_0),(zzx HB.out hw304_1),(zzx HB.out hw304_2),(zzx HB.out hw304_3),(zzx HB.out hw304_4),(zzx HB.out hw304_5)⟩ (fun hHeld=>?_);clear hK K;refine norm_ (a':=?_) ?_ ?_;rotate_left
           ·
            show Act.put _ (some 14) _ = _;simp only [Act.put,zzq,zzr,zzs,i64_w,i32_w];rfl
           refine pure_ (i:=5) (N:=some 15) (v:=?_) (a':=?_) (zzB 27 63) rfl rfl (zzA2 HT_.out) (fun _ _ _ h=>h) (Or.inl ⟨by rfl,?_⟩) ?_ ?_;rotate_left
           ·
            intro w';go_simp;with_reducible rfl
           rotate_left
           ·
            simp only [Act.put,zzq,zzr,zzs,i64_w,i32_w];rfl
           refine pure_ (i:=6) (N:=some 16) (v:=?_) (a':=?_) (zzB 27 127) rfl rfl (zzA2 HT_.out) (fun _ _ _ h=>h) (Or.inl ⟨by rfl,?_⟩) ?_ ?_;rotate_left
           ·
            intro w';go_simp;with_reducible rfl
           rotate_left
           ·
            simp only [Act.put,zzq,zzr,zzs,i64_w,i32_w];rfl
           refine pure_ (i:=7) (N:=some 17) (v:=?_) (a':=?_) (zzB 27 255) rfl rfl (zzA2 HT_.out) (fun _ _ _ h=>h) (Or.inl ⟨by rfl,?_⟩) ?_ ?_;rotate_left
           ·
            intro w';go_simp;with_reducible rfl
           rotate_left
           ·
            simp only [Act.put,zzq,zzr,zzs,i64_w,i32_w];rfl
           refine pure_ (i:=8) (N:=some 18) (v:=?_) (a':=?_) (zzB 27 511) rfl rfl (zzA2 HT_.out) (fun _ _ _ h=>h) (Or.inl ⟨by rfl,?_⟩) ?_ ?_;rotate_left
           ·
            intro w';go_simp;with_reducible rfl
           rotate_left
           ·
            simp only [Act.put,zzq,zzr,zzs,i64_w,i32_w];rfl
           refine pure_ (i:=9) (N:=some 19) (v:=?_) (a':=?_) (zzB 27 1023) rfl rfl (zzA2 HT_.out) (fun _ _ _ h=>h) (Or.inl ⟨by rfl,?_⟩) ?_ ?_;rotate_left
           ·
            intro w';go_simp;with_reducible rfl
           rotate_left
           ·
            simp only [Act.put,zzq,zzr,zzs,i64_w,i32_w];rfl
           refine pure_ (i:=10) (N:=some 20) (v:=?_) (a':=?_) (zzB 27 2047) rfl rfl (zzA2 HT_.out) (fun _ _ _ h=>h) (Or.inl ⟨by rfl,?_⟩) ?_ ?_;rotate_left
           ·
            intro w';go_simp;with_reducible rfl
           rotate_left
           ·
            simp only [Act.put,zzq,zzr,zzs,i64_w,i32_w];rfl
           refine pure_ (i:=11) (N:=some 21) (v:=?_) (a':=?_) (zzB 27 4095) rfl rfl (zzA2 HT_.out) (fun _ _ _ h=>h) (Or.inl ⟨by rfl,?_⟩) ?_ ?_;rotate_left
           ·
            intro w';go_simp;with_reducible rfl
           rotate_left
           ·
            simp only [Act.put,zzq,zzr,zzs,i64_w,i32_w];rfl
           refine pure_ (i:=12) (N:=some 22) (v:=?_) (a':=?_) (zzB 27 8191) rfl rfl (zzA2 HT_.out) (fun _ _ _ h=>h) (Or.inl ⟨by rfl,?_⟩) ?_ ?_;rotate_left
           ·
            intro w';go_simp;with_reducible rfl
           rotate_left
           ·
            simp only [Act.put,zzq,zzr,zzs,i64_w,i32_w];rfl
           refine pure_ (i:=13) (N:=some 23) (v:=?_) (a':=?_) (zzB 27 16383) rfl rfl (zzA2 HT_.out) (fun _ _ _ h=>h) (Or.inl ⟨by rfl,?_⟩) ?_ ?_;rotate_left
           ·
            intro w';go_simp;with_reducible rfl
           rotate_left
           ·
            simp only [Act.put,zzq,zzr,zzs,i64_w,i32_w];rfl
           refine pure_ (i:=16) (N:=some 26) (v:=?_) (a':=?_) (zzB 27 81919) rfl rfl (zzA2 HT_.out) (fun _ _ _ h=>h) (Or.inl ⟨by rfl,?_⟩) ?_ ?_;rotate_left
           ·
            intro w';go_simp;with_reducible rfl
           rotate_left
           ·
            simp only [Act.put,zzq,zzr,zzs,i64_w,i32_w];rfl
           refine pure_ (i:=17) (N:=some 27) (v:=?_) (a':=?_) (zzB 27 212991) rfl rfl (zzA2 HT_.out) (fun _ _ _ h=>h) (Or.inl ⟨by rfl,?_⟩) ?_ ?_;rotate_left
           ·
            intro w';go_simp;with_reducible rfl
           rotate_left
           ·
            simp only [Act.put,zzq,zzr,zzs,i64_w,i32_w];rfl
           refine pure_ (i:=18) (N:=some 28) (v:=?_) (a':=?_) (zzB 27 475135) rfl rfl (zzA2 HT_.out) (fun _ _ _ h=>h) (Or.inl ⟨by rfl,?_⟩) ?_ ?_;rotate_left
           ·
            intro w';go_simp;with_reducible rfl
           rotate_left
           ·
            simp only [Act.put,zzq,zzr,zzs,i64_w,i32_w];rfl
           refine pure_ (i:=19) (N:=some 29) (v:=?_) (a':=?_) (zzB 27 999423) rfl rfl (zzA2 HT_.out) (fun _ _ _ h=>h) (Or.inl ⟨by rfl,?_⟩) ?_ ?_;rotate_left
           ·
            intro w';go_simp;with_reducible rfl
           rotate_left
           ·
            simp only [Act.put,zzq,zzr,zzs,i64_w,i32_w];rfl
           refine take_ (i:=14) (N:=some 24) (v:=?_) (a':=?_) (zzB 27 1015807) rfl rfl (take_ofW HT_.out HW_.out (by kernel_rfl)) (fun _ _ _ h=>h) (Or.inl ⟨by rfl,?_⟩) hHeld ?_ ?_;rotate_left
           ·
            rintro w' ⟨s0,s1,s2,s3,s4,s5,s6,s7,s8,s9,s10,s11,s12,s13,s14,s15,s16,s17,s18,s19,s20,s21,s22,s23⟩;go_simp;with_reducible rfl
           rotate_left
           ·
            simp only [Act.put,zzq,zzr,zzs,i64_w,i32_w];rfl
           refine take_ (i:=20) (N:=some 30) (v:=?_) (a':=?_) (zzB 27 2064383) rfl rfl (take_ofW HT_.out HW_.out (by kernel_rfl)) (fun _ _ _ h=>h) (Or.inl ⟨by rfl,?_⟩) hHeld ?_ ?_;rotate_left
           ·
            rintro w' ⟨s0,s1,s2,s3,s4,s5,s6,s7,s8,s9,s10,s11,s12,s13,s14,s15,s16,s17,s18,s19,s20,s21,s22,s23⟩;go_simp;with_reducible rfl
           rotate_left
           ·
            simp only [Act.put,zzq,zzr,zzs,i64_w,i32_w];rfl
           refine pure_ (i:=21) (N:=some 31) (v:=?_) (a':=?_) (zzB 27 4161535) rfl rfl (zzA2 HT_.out) (fun _ _ _ h=>h) (Or.inl ⟨by rfl,?_⟩) ?_ ?_;rotate_left
           ·
            intro w';go_simp;with_reducible rfl
           rotate_left
           ·
            simp only [Act.put,zzq,zzr,zzs,i64_w,i32_w];rfl
           refine pure_ (i:=22) (N:=some 32) (v:=?_) (a':=?_) (zzB 27 8355839) rfl rfl (zzA2 HT_.out) (fun _ _ _ h=>h) (Or.inl ⟨by rfl,?_⟩) ?_ ?_;rotate_left
           ·
            intro w';go_simp;with_reducible rfl
           rotate_left
           ·
            simp only [Act.put,zzq,zzr,zzs,i64_w,i32_w];rfl
           refine take_ (i:=23) (N:=some 33) (v:=?_) (a':=?_) (zzB 27 16744447) rfl rfl (take_ofW HT_.out HW_.out (by kernel_rfl)) (fun _ _ _ h=>h) (Or.inl ⟨by rfl,?_⟩) hHeld ?_ ?_;rotate_left
           ·
            rintro w' ⟨s0,s1,s2,s3,s4,s5,s6,s7,s8,s9,s10,s11,s12,s13,s14,s15,s16,s17,s18,s19,s20,s21,s22,s23⟩;go_simp;with_reducible rfl
           rotate_left
           ·
            simp only [Act.put,zzq,zzr,zzs,i64_w,i32_w];rfl
           refine one_ (i:=15) (N:=some 25) (zzB 27 16777215) rfl rfl (one_of HT_.out (by kernel_rfl)) (by decide) (fun K hK=>?_);refine goes_ Try.func76 (by kernel_rfl) rfl #[.agg #[.bool ((rd_T27 l0 (ji7)).f0),.bool ((rd_T27 l0 (ji7)).f1),.int .i64 ((rd_T27 l0 (ji7)).f2),.int .i64 ((rd_T27 l0 (ji7)).f3),.int .i64 ((rd_T27 l0 (ji7)).f4),.slice A301_5 ((rd_T27 l0 (ji7)).f5).length c301_5]] (by rfl) rfl rfl (by (try simp only [map_toArray,map_cons,map_nil]);first|done|(simp only [hji7];rfl)|rfl|(simp only [length_drop,length_take];rfl)) ?_;with_reducible refine (spec_l12Last.calls ((rd_T27 l0 (ji7)).f0) ((rd_T27 l0 (ji7)).f1) ((rd_T27 l0 (ji7)).f2) ((rd_T27 l0 (ji7)).f3) ((rd_T27 l0 (ji7)).f4) _ _ ((rd_T27 l0 (ji7)).f5) t302 _ ?side1 ?side2 A10.out).mono ?_
           (case side1=>repeat (first|exact (Kd.C_below HR301_5.out HB.out)|(with_reducible refine Kd.C_alloc ?_ _)|(with_reducible refine Kd.C_drewN ?_ _)|(with_reducible refine Kd.C_drew ?_)))
           (case side2=>exact HC301_5.out);rintro e w15 ⟨rfl,hb⟩;refine ⟨_,rfl,?_⟩;have n0_:=zzm (zzp zzh1 hb);clear HB;have HB:=n0_;clear n0_
           (try clear hb)
           (try clear hb2)
           (try clear hk)
           (try clear hi);refine hK.out _ _ ⟨(zzx HB.out hw299_0),(zzx HB.out hw299_1),(zzx HB.out hw299_2),(zzx HB.out hw299_3),(zzx HB.out hw299_4),(zzx HB.out hw299_5),(zzx HB.out hw301_0),(zzx HB.out hw301_1),(zzx HB.out hw301_2),(zzx HB.out hw301_3),(zzx HB.out hw301_4),(zzx HB.out hw301_5),(zzx HB.out hw303_0),(zzx HB.out hw303_1),(zzx HB.out hw303_2),(zzx HB.out hw303_3),(zzx HB.out hw303_4),(zzx HB.out hw303_5),(zzx HB.out hw304_0),(zzx HB.out hw304_1),(zzx HB.out hw304_2),(zzx HB.out hw304_3),(zzx HB.out hw304_4),(zzx HB.out hw304_5)⟩ (fun hHeld=>?_);clear hK K;refine norm_ (a':=?_) ?_ ?_;rotate_left
           ·
            show Act.put _ (some 25) _ = _;simp only [Act.put,zzq,zzr,zzs,i64_w,i32_w];rfl
           refine pure_ (i:=24) (N:=some 34) (v:=?_) (a':=?_) (zzB 27 33554431) rfl rfl (zzA2 HT_.out) (fun _ _ _ h=>h) (Or.inl ⟨by rfl,?_⟩) ?_ ?_;rotate_left
           ·
            intro w';go_simp;with_reducible rfl
           rotate_left
           ·
            simp only [Act.put,zzq,zzr,zzs,i64_w,i32_w];rfl
           refine pure_ (i:=25) (N:=some 35) (v:=?_) (a':=?_) (zzB 27 67108863) rfl rfl (zzA2 HT_.out) (fun _ _ _ h=>h) (Or.inl ⟨by rfl,?_⟩) ?_ ?_;rotate_left
           ·
            intro w';go_simp;with_reducible rfl
           rotate_left
           ·
            simp only [Act.put,zzq,zzr,zzs,i64_w,i32_w];rfl
           refine pure_ (i:=26) (N:=some 36) (v:=?_) (a':=?_) (zzB 27 134217727) rfl rfl (zzA2 HT_.out) (fun _ _ _ h=>h) (Or.inl ⟨by rfl,?_⟩) ?_ ?_;rotate_left
           ·
            intro w';go_simp;with_reducible rfl
           rotate_left
           ·
            simp only [Act.put,zzq,zzr,zzs,i64_w,i32_w];rfl
           refine done_ (done_of HT_.out (by kernel_rfl)) ?_;try go_wp2
           go_ret;exact ⟨by first|rfl|(simp [errW_none,errW_some] <;> rfl)|(simp only [← hji7];first|rfl|(simp [errW_none,errW_some] <;> rfl))|(simp [*,errW_none,errW_some] <;> rfl),zzh1⟩
          ·
           rw [if_neg c12] at H;have c12b0:decide (((rd_T34 ((rd_T27 l0 x3_1).f5) 0).f0)≤t302)=false:=decide_eq_false c12;clear c12;have H':=zzm H;clear H;try go_wp2
           have n0_:=zzm (zzc HB.out);clear HB;have HB:=n0_;clear n0_;have p299 : 0≤(x3_1:Int):=zzt;have q299:x3_1 < (l0.length:Int):=zzt;obtain ⟨ad299,A299_5,c299_5,e299,hx299_0,hx299_1,hx299_2,hx299_3,hx299_4,hx299_5,hl299_5,hi299_5⟩:=at_T27 HR0.out x3_1 p299 q299;have hw299_5:=hx299_5;have hw299_4:=hx299_4;have hw299_3:=hx299_3;have hw299_2:=hx299_2;have hw299_1:=hx299_1;have hw299_0:=hx299_0;cases e299;replace hx299_0:=zzx HB.out hx299_0;replace hx299_1:=zzx HB.out hx299_1;replace hx299_2:=zzx HB.out hx299_2;replace hx299_3:=zzx HB.out hx299_3;replace hx299_4:=zzx HB.out hx299_4;replace hx299_5:=zzx HB.out hx299_5;have HR299_5:=zzm hi299_5;have HC299_5:=zzm hl299_5;clear hi299_5 hl299_5;replace p299:=eq_true p299;replace q299:=eq_true q299;have p301 : 0≤((ji7):Int):=zzt;have q301:(ji7) < (l0.length:Int):=zzt;obtain ⟨ad301,A301_5,c301_5,e301,hx301_0,hx301_1,hx301_2,hx301_3,hx301_4,hx301_5,hl301_5,hi301_5⟩:=at_T27 HR0.out (ji7) p301 q301;have hw301_5:=hx301_5;have hw301_4:=hx301_4;have hw301_3:=hx301_3;have hw301_2:=hx301_2;have hw301_1:=hx301_1;have hw301_0:=hx301_0;obtain rfl:ad299=ad301:=(by injection e301);replace hx301_0:=zzx HB.out hx301_0;replace hx301_1:=zzx HB.out hx301_1;replace hx301_2:=zzx HB.out hx301_2;replace hx301_3:=zzx HB.out hx301_3;replace hx301_4:=zzx HB.out hx301_4;replace hx301_5:=zzx HB.out hx301_5;have HR301_5:=zzm hi301_5;have HC301_5:=zzm hl301_5;clear hi301_5 hl301_5;replace p301:=eq_true p301;replace q301:=eq_true q301;have p303 : 0≤(x3_1:Int):=zzt;have q303:x3_1 < (l0.length:Int):=zzt;obtain ⟨ad303,A303_5,c303_5,e303,hx303_0,hx303_1,hx303_2,hx303_3,hx303_4,hx303_5,hl303_5,hi303_5⟩:=at_T27 HR0.out x3_1 p303 q303;have hw303_5:=hx303_5;have hw303_4:=hx303_4;have hw303_3:=hx303_3;have hw303_2:=hx303_2;have hw303_1:=hx303_1;have hw303_0:=hx303_0;obtain rfl:ad299=ad303:=(by injection e303);replace hx303_0:=zzx HB.out hx303_0;replace hx303_1:=zzx HB.out hx303_1;replace hx303_2:=zzx HB.out hx303_2;replace hx303_3:=zzx HB.out hx303_3;replace hx303_4:=zzx HB.out hx303_4;replace hx303_5:=zzx HB.out hx303_5;have HR303_5:=zzm hi303_5;have HC303_5:=zzm hl303_5;clear hi303_5 hl303_5;replace p303:=eq_true p303;replace q303:=eq_true q303;have p304 : 0≤(0:Int):=(by omega);have q304 : 0 < (((rd_T27 l0 x3_1).f5).length:Int):=zzt;have eA_:A303_5=A299_5:=by have e_:=Option.some.inj (hw299_5.symm.trans hw303_5);injection e_ with e1_ _ e3_;exact e1_.symm
           have eC_:c303_5=c299_5:=by have e_:=Option.some.inj (hw299_5.symm.trans hw303_5);injection e_ with e1_ _ e3_;exact e3_.symm
           subst A303_5;subst c303_5;obtain ⟨ad304,A304_3,c304_3,A304_5,c304_5,e304,hx304_0,hx304_1,hx304_2,hx304_3,hx304_4,hx304_5,hl304_3,hi304_3,hl304_5,hi304_5⟩:=at_T34 HR303_5.out 0 p304 q304;have hw304_5:=hx304_5
           (try rw [show ((0:Int)).toNat=0 from rfl] at hw304_5)
           (try rw [show 0 * 6=0 from rfl] at hw304_5)
           (try rw [Addr.add_zero'] at hw304_5);have hw304_4:=hx304_4
           (try rw [show ((0:Int)).toNat=0 from rfl] at hw304_4)
           (try rw [show 0 * 6=0 from rfl] at hw304_4)
           (try rw [Addr.add_zero'] at hw304_4);have hw304_3:=hx304_3
           (try rw [show ((0:Int)).toNat=0 from rfl] at hw304_3)
           (try rw [show 0 * 6=0 from rfl] at hw304_3)
           (try rw [Addr.add_zero'] at hw304_3);have hw304_2:=hx304_2
           (try rw [show ((0:Int)).toNat=0 from rfl] at hw304_2)
           (try rw [show 0 * 6=0 from rfl] at hw304_2)
           (try rw [Addr.add_zero'] at hw304_2);have hw304_1:=hx304_1
           (try rw [show ((0:Int)).toNat=0 from rfl] at hw304_1)
           (try rw [show 0 * 6=0 from rfl] at hw304_1)
           (try rw [Addr.add_zero'] at hw304_1);have hw304_0:=hx304_0
           (try rw [show ((0:Int)).toNat=0 from rfl] at hw304_0)
           (try rw [show 0 * 6=0 from rfl] at hw304_0)
           (try rw [Addr.add_zero'] at hw304_0);cases e304;have qi304:(0 < ((rd_T27 l0 x3_1).f5).length)=True:=eq_true (by omega)
           (try rw [show ((0:Int)).toNat=0 from rfl] at hx304_0)
           (try rw [show 0 * 6=0 from rfl] at hx304_0)
           (try rw [Addr.add_zero'] at hx304_0)
           (try rw [show ((0:Int)).toNat=0 from rfl] at hx304_1)
           (try rw [show 0 * 6=0 from rfl] at hx304_1)
           (try rw [Addr.add_zero'] at hx304_1)
           (try rw [show ((0:Int)).toNat=0 from rfl] at hx304_2)
           (try rw [show 0 * 6=0 from rfl] at hx304_2)
           (try rw [Addr.add_zero'] at hx304_2)
           (try rw [show ((0:Int)).toNat=0 from rfl] at hx304_3)
           (try rw [show 0 * 6=0 from rfl] at hx304_3)
           (try rw [Addr.add_zero'] at hx304_3)
           (try rw [show ((0:Int)).toNat=0 from rfl] at hx304_4)
           (try rw [show 0 * 6=0 from rfl] at hx304_4)
           (try rw [Addr.add_zero'] at hx304_4)
           (try rw [show ((0:Int)).toNat=0 from rfl] at hx304_5)
           (try rw [show 0 * 6=0 from rfl] at hx304_5)
           (try rw [Addr.add_zero'] at hx304_5);replace hx304_0:=zzx HB.out hx304_0;replace hx304_1:=zzx HB.out hx304_1;replace hx304_2:=zzx HB.out hx304_2;replace hx304_3:=zzx HB.out hx304_3;replace hx304_4:=zzx HB.out hx304_4;replace hx304_5:=zzx HB.out hx304_5;have HR304_3:=zzm hi304_3;have HC304_3:=zzm hl304_3;clear hi304_3 hl304_3;have HR304_5:=zzm hi304_5;have HC304_5:=zzm hl304_5;clear hi304_5 hl304_5;replace p304:=eq_true p304;replace q304:=eq_true q304;refine start_ (n:=27) (S:=fun w'=>w'.cell? (ad299.add ((x3_1).toNat * 6))=some (.bool ((rd_T27 l0 x3_1).f0))∧w'.cell? ⟨(ad299.add ((x3_1).toNat * 6)).block,(ad299.add ((x3_1).toNat * 6)).off+1,none⟩=some (.bool ((rd_T27 l0 x3_1).f1))∧w'.cell? ⟨(ad299.add ((x3_1).toNat * 6)).block,(ad299.add ((x3_1).toNat * 6)).off+2,none⟩=some (.int .i64 ((rd_T27 l0 x3_1).f2))∧w'.cell? ⟨(ad299.add ((x3_1).toNat * 6)).block,(ad299.add ((x3_1).toNat * 6)).off+3,none⟩=some (.int .i64 ((rd_T27 l0 x3_1).f3))∧w'.cell? ⟨(ad299.add ((x3_1).toNat * 6)).block,(ad299.add ((x3_1).toNat * 6)).off+4,none⟩=some (.int .i64 ((rd_T27 l0 x3_1).f4))∧w'.cell? ⟨(ad299.add ((x3_1).toNat * 6)).block,(ad299.add ((x3_1).toNat * 6)).off+5,none⟩=some (.slice (some ad304) ((rd_T27 l0 x3_1).f5).length c299_5)∧w'.cell? (ad299.add (((ji7)).toNat * 6))=some (.bool ((rd_T27 l0 (ji7)).f0))∧w'.cell? ⟨(ad299.add (((ji7)).toNat * 6)).block,(ad299.add (((ji7)).toNat * 6)).off+1,none⟩=some (.bool ((rd_T27 l0 (ji7)).f1))∧w'.cell? ⟨(ad299.add (((ji7)).toNat * 6)).block,(ad299.add (((ji7)).toNat * 6)).off+2,none⟩=some (.int .i64 ((rd_T27 l0 (ji7)).f2))∧w'.cell? ⟨(ad299.add (((ji7)).toNat * 6)).block,(ad299.add (((ji7)).toNat * 6)).off+3,none⟩=some (.int .i64 ((rd_T27 l0 (ji7)).f3))∧w'.cell? ⟨(ad299.add (((ji7)).toNat * 6)).block,(ad299.add (((ji7)).toNat * 6)).off+4,none⟩=some (.int .i64 ((rd_T27 l0 (ji7)).f4))∧w'.cell? ⟨(ad299.add (((ji7)).toNat * 6)).block,(ad299.add (((ji7)).toNat * 6)).off+5,none⟩=some (.slice A301_5 ((rd_T27 l0 (ji7)).f5).length c301_5)∧w'.cell? (ad299.add ((x3_1).toNat * 6))=some (.bool ((rd_T27 l0 x3_1).f0))∧w'.cell? ⟨(ad299.add ((x3_1).toNat * 6)).block,(ad299.add ((x3_1).toNat * 6)).off+1,none⟩=some (.bool ((rd_T27 l0 x3_1).f1))∧w'.cell? ⟨(ad299.add ((x3_1).toNat * 6)).block,(ad299.add ((x3_1).toNat * 6)).off+2,none⟩=some (.int .i64 ((rd_T27 l0 x3_1).f2))∧w'.cell? ⟨(ad299.add ((x3_1).toNat * 6)).block,(ad299.add ((x3_1).toNat * 6)).off+3,none⟩=some (.int .i64 ((rd_T27 l0 x3_1).f3))∧w'.cell? ⟨(ad299.add ((x3_1).toNat * 6)).block,(ad299.add ((x3_1).toNat * 6)).off+4,none⟩=some (.int .i64 ((rd_T27 l0 x3_1).f4))∧w'.cell? ⟨(ad299.add ((x3_1).toNat * 6)).block,(ad299.add ((x3_1).toNat * 6)).off+5,none⟩=some (.slice (some ad304) ((rd_T27 l0 x3_1).f5).length c299_5)∧w'.cell? ad304=some (.int .i64 ((rd_T34 ((rd_T27 l0 x3_1).f5) 0).f0))∧w'.cell? ⟨ad304.block,ad304.off+1,none⟩=some (.int .i64 ((rd_T34 ((rd_T27 l0 x3_1).f5) 0).f1))∧w'.cell? ⟨ad304.block,ad304.off+2,none⟩=some (.bool ((rd_T34 ((rd_T27 l0 x3_1).f5) 0).f2))∧w'.cell? ⟨ad304.block,ad304.off+3,none⟩=some (.slice A304_3 ((rd_T34 ((rd_T27 l0 x3_1).f5) 0).f3).length c304_3)∧w'.cell? ⟨ad304.block,ad304.off+4,none⟩=some (.bool ((rd_T34 ((rd_T27 l0 x3_1).f5) 0).f4))∧w'.cell? ⟨ad304.block,ad304.off+5,none⟩=some (.slice A304_5 ((rd_T34 ((rd_T27 l0 x3_1).f5) 0).f5).length c304_5)) (ds:=[]) (zzB 27 0) (by kernel_rfl) rfl rfl ⟨(zzx HB.out hw299_0),(zzx HB.out hw299_1),(zzx HB.out hw299_2),(zzx HB.out hw299_3),(zzx HB.out hw299_4),(zzx HB.out hw299_5),(zzx HB.out hw301_0),(zzx HB.out hw301_1),(zzx HB.out hw301_2),(zzx HB.out hw301_3),(zzx HB.out hw301_4),(zzx HB.out hw301_5),(zzx HB.out hw303_0),(zzx HB.out hw303_1),(zzx HB.out hw303_2),(zzx HB.out hw303_3),(zzx HB.out hw303_4),(zzx HB.out hw303_5),(zzx HB.out hw304_0),(zzx HB.out hw304_1),(zzx HB.out hw304_2),(zzx HB.out hw304_3),(zzx HB.out hw304_4),(zzx HB.out hw304_5)⟩ (fun hHeld=>?_);refine with_tabW spec_LogValid.tab4 spec_LogValid.bits4 (fun HT_ HW_=>?_);generalize wr.drew=w16 at HB HR299_5 HR301_5 HR303_5 HR304_3 HR304_5 hx299_0 hx299_1 hx299_2 hx299_3 hx299_4 hx299_5 hx301_0 hx301_1 hx301_2 hx301_3 hx301_4 hx301_5 hx303_0 hx303_1 hx303_2 hx303_3 hx303_4 hx303_5 hx304_0 hx304_1 hx304_2 hx304_3 hx304_4 hx304_5 hHeld ⊢;refine pure_ (i:=0) (N:=some 10) (v:=?_) (a':=?_) (zzB 27 1) rfl rfl (zzA2 HT_.out) (fun _ _ _ h=>h) (Or.inl ⟨by rfl,?_⟩) ?_ ?_;rotate_left
           ·
            intro w';go_simp;with_reducible rfl
           rotate_left
           ·
            simp only [Act.put,zzq,zzr,zzs,i64_w,i32_w];rfl
           refine pure_ (i:=1) (N:=some 11) (v:=?_) (a':=?_) (zzB 27 3) rfl rfl (zzA2 HT_.out) (fun _ _ _ h=>h) (Or.inl ⟨by rfl,?_⟩) ?_ ?_;rotate_left
           ·
            intro w';go_simp;with_reducible rfl
           rotate_left
           ·
            simp only [Act.put,zzq,zzr,zzs,i64_w,i32_w];rfl
           refine pure_ (i:=2) (N:=some 12) (v:=?_) (a':=?_) (zzB 27 7) rfl rfl (zzA2 HT_.out) (fun _ _ _ h=>h) (Or.inl ⟨by rfl,?_⟩) ?_ ?_;rotate_left
           ·
            intro w';go_simp;with_reducible rfl
           rotate_left
           ·
            simp only [Act.put,zzq,zzr,zzs,i64_w,i32_w];rfl
           refine take_ (i:=3) (N:=some 13) (v:=?_) (a':=?_) (zzB 27 15) rfl rfl (take_ofW HT_.out HW_.out (by kernel_rfl)) (fun _ _ _ h=>h) (Or.inl ⟨by rfl,?_⟩) hHeld ?_ ?_;rotate_left
           ·
            rintro w' ⟨s0,s1,s2,s3,s4,s5,s6,s7,s8,s9,s10,s11,s12,s13,s14,s15,s16,s17,s18,s19,s20,s21,s22,s23⟩;go_simp;with_reducible rfl
           rotate_left
           ·
            simp only [Act.put,zzq,zzr,zzs,i64_w,i32_w];rfl
           refine one_ (i:=4) (N:=some 14) (zzB 27 31) rfl rfl (one_of HT_.out (by kernel_rfl)) (by decide) (fun K hK=>?_);refine goes_ Try.func55 (by kernel_rfl) rfl #[.agg #[.bool ((rd_T27 l0 x3_1).f0),.bool ((rd_T27 l0 x3_1).f1),.int .i64 ((rd_T27 l0 x3_1).f2),.int .i64 ((rd_T27 l0 x3_1).f3),.int .i64 ((rd_T27 l0 x3_1).f4),.slice (some ad304) ((rd_T27 l0 x3_1).f5).length c299_5]] (by rfl) rfl rfl zzM2 ?_;with_reducible refine (spec_BatchValid.calls k1 ((rd_T27 l0 x3_1).f0) ((rd_T27 l0 x3_1).f1) ((rd_T27 l0 x3_1).f2) ((rd_T27 l0 x3_1).f3) ((rd_T27 l0 x3_1).f4) _ _ ((rd_T27 l0 x3_1).f5) true _ ?side1 ?side2 A4.out).mono ?_
           (case side1=>repeat (first|exact (Kd.C_below HR299_5.out HB.out)|(with_reducible refine Kd.C_alloc ?_ _)|(with_reducible refine Kd.C_drewN ?_ _)|(with_reducible refine Kd.C_drew ?_)))
           (case side2=>exact HC299_5.out);rintro e w17 ⟨rfl,hb⟩;refine ⟨_,rfl,?_⟩;have n0_:=zzm (zzp zzh1 hb);clear HB;have HB:=n0_;clear n0_
           (try clear hb)
           (try clear hb2)
           (try clear hk)
           (try clear hi);refine hK.out _ _ ⟨(zzx HB.out hw299_0),(zzx HB.out hw299_1),(zzx HB.out hw299_2),(zzx HB.out hw299_3),(zzx HB.out hw299_4),(zzx HB.out hw299_5),(zzx HB.out hw301_0),(zzx HB.out hw301_1),(zzx HB.out hw301_2),(zzx HB.out hw301_3),(zzx HB.out hw301_4),(zzx HB.out hw301_5),(zzx HB.out hw303_0),(zzx HB.out hw303_1),(zzx HB.out hw303_2),(zzx HB.out hw303_3),(zzx HB.out hw303_4),(zzx HB.out hw303_5),(zzx HB.out hw304_0),(zzx HB.out hw304_1),(zzx HB.out hw304_2),(zzx HB.out hw304_3),(zzx HB.out hw304_4),(zzx HB.out hw304_5)⟩ (fun hHeld=>?_);clear hK K;refine norm_ (a':=?_) ?_ ?_;rotate_left
           ·
            show Act.put _ (some 14) _ = _;simp only [Act.put,zzq,zzr,zzs,i64_w,i32_w];rfl
           refine pure_ (i:=5) (N:=some 15) (v:=?_) (a':=?_) (zzB 27 63) rfl rfl (zzA2 HT_.out) (fun _ _ _ h=>h) (Or.inl ⟨by rfl,?_⟩) ?_ ?_;rotate_left
           ·
            intro w';go_simp;with_reducible rfl
           rotate_left
           ·
            simp only [Act.put,zzq,zzr,zzs,i64_w,i32_w];rfl
           refine pure_ (i:=6) (N:=some 16) (v:=?_) (a':=?_) (zzB 27 127) rfl rfl (zzA2 HT_.out) (fun _ _ _ h=>h) (Or.inl ⟨by rfl,?_⟩) ?_ ?_;rotate_left
           ·
            intro w';go_simp;with_reducible rfl
           rotate_left
           ·
            simp only [Act.put,zzq,zzr,zzs,i64_w,i32_w];rfl
           refine pure_ (i:=7) (N:=some 17) (v:=?_) (a':=?_) (zzB 27 255) rfl rfl (zzA2 HT_.out) (fun _ _ _ h=>h) (Or.inl ⟨by rfl,?_⟩) ?_ ?_;rotate_left
           ·
            intro w';go_simp;with_reducible rfl
           rotate_left
           ·
            simp only [Act.put,zzq,zzr,zzs,i64_w,i32_w];rfl
           refine pure_ (i:=8) (N:=some 18) (v:=?_) (a':=?_) (zzB 27 511) rfl rfl (zzA2 HT_.out) (fun _ _ _ h=>h) (Or.inl ⟨by rfl,?_⟩) ?_ ?_;rotate_left
           ·
            intro w';go_simp;with_reducible rfl
           rotate_left
           ·
            simp only [Act.put,zzq,zzr,zzs,i64_w,i32_w];rfl
           refine pure_ (i:=9) (N:=some 19) (v:=?_) (a':=?_) (zzB 27 1023) rfl rfl (zzA2 HT_.out) (fun _ _ _ h=>h) (Or.inl ⟨by rfl,?_⟩) ?_ ?_;rotate_left
           ·
            intro w';go_simp;with_reducible rfl
           rotate_left
           ·
            simp only [Act.put,zzq,zzr,zzs,i64_w,i32_w];rfl
           refine pure_ (i:=10) (N:=some 20) (v:=?_) (a':=?_) (zzB 27 2047) rfl rfl (zzA2 HT_.out) (fun _ _ _ h=>h) (Or.inl ⟨by rfl,?_⟩) ?_ ?_;rotate_left
           ·
            intro w';go_simp;with_reducible rfl
           rotate_left
           ·
            simp only [Act.put,zzq,zzr,zzs,i64_w,i32_w];rfl
           refine pure_ (i:=11) (N:=some 21) (v:=?_) (a':=?_) (zzB 27 4095) rfl rfl (zzA2 HT_.out) (fun _ _ _ h=>h) (Or.inl ⟨by rfl,?_⟩) ?_ ?_;rotate_left
           ·
            intro w';go_simp;with_reducible rfl
           rotate_left
           ·
            simp only [Act.put,zzq,zzr,zzs,i64_w,i32_w];rfl
           refine pure_ (i:=12) (N:=some 22) (v:=?_) (a':=?_) (zzB 27 8191) rfl rfl (zzA2 HT_.out) (fun _ _ _ h=>h) (Or.inl ⟨by rfl,?_⟩) ?_ ?_;rotate_left
           ·
            intro w';go_simp;with_reducible rfl
           rotate_left
           ·
            simp only [Act.put,zzq,zzr,zzs,i64_w,i32_w];rfl
           refine pure_ (i:=13) (N:=some 23) (v:=?_) (a':=?_) (zzB 27 16383) rfl rfl (zzA2 HT_.out) (fun _ _ _ h=>h) (Or.inl ⟨by rfl,?_⟩) ?_ ?_;rotate_left
           ·
            intro w';go_simp;with_reducible rfl
           rotate_left
           ·
            simp only [Act.put,zzq,zzr,zzs,i64_w,i32_w];rfl
           refine pure_ (i:=16) (N:=some 26) (v:=?_) (a':=?_) (zzB 27 81919) rfl rfl (zzA2 HT_.out) (fun _ _ _ h=>h) (Or.inl ⟨by rfl,?_⟩) ?_ ?_;rotate_left
           ·
            intro w';go_simp;with_reducible rfl
           rotate_left
           ·
            simp only [Act.put,zzq,zzr,zzs,i64_w,i32_w];rfl
           refine pure_ (i:=17) (N:=some 27) (v:=?_) (a':=?_) (zzB 27 212991) rfl rfl (zzA2 HT_.out) (fun _ _ _ h=>h) (Or.inl ⟨by rfl,?_⟩) ?_ ?_;rotate_left
           ·
            intro w';go_simp;with_reducible rfl
           rotate_left
           ·
            simp only [Act.put,zzq,zzr,zzs,i64_w,i32_w];rfl
           refine pure_ (i:=18) (N:=some 28) (v:=?_) (a':=?_) (zzB 27 475135) rfl rfl (zzA2 HT_.out) (fun _ _ _ h=>h) (Or.inl ⟨by rfl,?_⟩) ?_ ?_;rotate_left
           ·
            intro w';go_simp;with_reducible rfl
           rotate_left
           ·
            simp only [Act.put,zzq,zzr,zzs,i64_w,i32_w];rfl
           refine pure_ (i:=19) (N:=some 29) (v:=?_) (a':=?_) (zzB 27 999423) rfl rfl (zzA2 HT_.out) (fun _ _ _ h=>h) (Or.inl ⟨by rfl,?_⟩) ?_ ?_;rotate_left
           ·
            intro w';go_simp;with_reducible rfl
           rotate_left
           ·
            simp only [Act.put,zzq,zzr,zzs,i64_w,i32_w];rfl
           refine take_ (i:=14) (N:=some 24) (v:=?_) (a':=?_) (zzB 27 1015807) rfl rfl (take_ofW HT_.out HW_.out (by kernel_rfl)) (fun _ _ _ h=>h) (Or.inl ⟨by rfl,?_⟩) hHeld ?_ ?_;rotate_left
           ·
            rintro w' ⟨s0,s1,s2,s3,s4,s5,s6,s7,s8,s9,s10,s11,s12,s13,s14,s15,s16,s17,s18,s19,s20,s21,s22,s23⟩;go_simp;with_reducible rfl
           rotate_left
           ·
            simp only [Act.put,zzq,zzr,zzs,i64_w,i32_w];rfl
           refine take_ (i:=20) (N:=some 30) (v:=?_) (a':=?_) (zzB 27 2064383) rfl rfl (take_ofW HT_.out HW_.out (by kernel_rfl)) (fun _ _ _ h=>h) (Or.inl ⟨by rfl,?_⟩) hHeld ?_ ?_;rotate_left
           ·
            rintro w' ⟨s0,s1,s2,s3,s4,s5,s6,s7,s8,s9,s10,s11,s12,s13,s14,s15,s16,s17,s18,s19,s20,s21,s22,s23⟩;go_simp;with_reducible rfl
           rotate_left
           ·
            simp only [Act.put,zzq,zzr,zzs,i64_w,i32_w];rfl
           refine pure_ (i:=21) (N:=some 31) (v:=?_) (a':=?_) (zzB 27 4161535) rfl rfl (zzA2 HT_.out) (fun _ _ _ h=>h) (Or.inl ⟨by rfl,?_⟩) ?_ ?_;rotate_left
           ·
            intro w';go_simp;with_reducible rfl
           rotate_left
           ·
            simp only [Act.put,zzq,zzr,zzs,i64_w,i32_w];rfl
           refine pure_ (i:=22) (N:=some 32) (v:=?_) (a':=?_) (zzB 27 8355839) rfl rfl (zzA2 HT_.out) (fun _ _ _ h=>h) (Or.inl ⟨by rfl,?_⟩) ?_ ?_;rotate_left
           ·
            intro w';go_simp;with_reducible rfl
           rotate_left
           ·
            simp only [Act.put,zzq,zzr,zzs,i64_w,i32_w];rfl
           refine take_ (i:=23) (N:=some 33) (v:=?_) (a':=?_) (zzB 27 16744447) rfl rfl (take_ofW HT_.out HW_.out (by kernel_rfl)) (fun _ _ _ h=>h) (Or.inl ⟨by rfl,?_⟩) hHeld ?_ ?_;rotate_left
           ·
            rintro w' ⟨s0,s1,s2,s3,s4,s5,s6,s7,s8,s9,s10,s11,s12,s13,s14,s15,s16,s17,s18,s19,s20,s21,s22,s23⟩;go_simp;with_reducible rfl
           rotate_left
           ·
            simp only [Act.put,zzq,zzr,zzs,i64_w,i32_w];rfl
           refine one_ (i:=15) (N:=some 25) (zzB 27 16777215) rfl rfl (one_of HT_.out (by kernel_rfl)) (by decide) (fun K hK=>?_);refine goes_ Try.func76 (by kernel_rfl) rfl #[.agg #[.bool ((rd_T27 l0 (ji7)).f0),.bool ((rd_T27 l0 (ji7)).f1),.int .i64 ((rd_T27 l0 (ji7)).f2),.int .i64 ((rd_T27 l0 (ji7)).f3),.int .i64 ((rd_T27 l0 (ji7)).f4),.slice A301_5 ((rd_T27 l0 (ji7)).f5).length c301_5]] (by rfl) rfl rfl (by (try simp only [map_toArray,map_cons,map_nil]);first|done|(simp only [hji7];rfl)|rfl|(simp only [length_drop,length_take];rfl)) ?_;with_reducible refine (spec_l12Last.calls ((rd_T27 l0 (ji7)).f0) ((rd_T27 l0 (ji7)).f1) ((rd_T27 l0 (ji7)).f2) ((rd_T27 l0 (ji7)).f3) ((rd_T27 l0 (ji7)).f4) _ _ ((rd_T27 l0 (ji7)).f5) t302 _ ?side1 ?side2 A10.out).mono ?_
           (case side1=>repeat (first|exact (Kd.C_below HR301_5.out HB.out)|(with_reducible refine Kd.C_alloc ?_ _)|(with_reducible refine Kd.C_drewN ?_ _)|(with_reducible refine Kd.C_drew ?_)))
           (case side2=>exact HC301_5.out);rintro e w18 ⟨rfl,hb⟩;refine ⟨_,rfl,?_⟩;have n0_:=zzm (zzp zzh1 hb);clear HB;have HB:=n0_;clear n0_
           (try clear hb)
           (try clear hb2)
           (try clear hk)
           (try clear hi);refine hK.out _ _ ⟨(zzx HB.out hw299_0),(zzx HB.out hw299_1),(zzx HB.out hw299_2),(zzx HB.out hw299_3),(zzx HB.out hw299_4),(zzx HB.out hw299_5),(zzx HB.out hw301_0),(zzx HB.out hw301_1),(zzx HB.out hw301_2),(zzx HB.out hw301_3),(zzx HB.out hw301_4),(zzx HB.out hw301_5),(zzx HB.out hw303_0),(zzx HB.out hw303_1),(zzx HB.out hw303_2),(zzx HB.out hw303_3),(zzx HB.out hw303_4),(zzx HB.out hw303_5),(zzx HB.out hw304_0),(zzx HB.out hw304_1),(zzx HB.out hw304_2),(zzx HB.out hw304_3),(zzx HB.out hw304_4),(zzx HB.out hw304_5)⟩ (fun hHeld=>?_);clear hK K;refine norm_ (a':=?_) ?_ ?_;rotate_left
           ·
            show Act.put _ (some 25) _ = _;simp only [Act.put,zzq,zzr,zzs,i64_w,i32_w];rfl
           refine pure_ (i:=24) (N:=some 34) (v:=?_) (a':=?_) (zzB 27 33554431) rfl rfl (zzA2 HT_.out) (fun _ _ _ h=>h) (Or.inl ⟨by rfl,?_⟩) ?_ ?_;rotate_left
           ·
            intro w';go_simp;with_reducible rfl
           rotate_left
           ·
            simp only [Act.put,zzq,zzr,zzs,i64_w,i32_w];rfl
           refine pure_ (i:=25) (N:=some 35) (v:=?_) (a':=?_) (zzB 27 67108863) rfl rfl (zzA2 HT_.out) (fun _ _ _ h=>h) (Or.inl ⟨by rfl,?_⟩) ?_ ?_;rotate_left
           ·
            intro w';go_simp;with_reducible rfl
           rotate_left
           ·
            simp only [Act.put,zzq,zzr,zzs,i64_w,i32_w];rfl
           refine pure_ (i:=26) (N:=some 36) (v:=?_) (a':=?_) (zzB 27 134217727) rfl rfl (zzA2 HT_.out) (fun _ _ _ h=>h) (Or.inl ⟨by rfl,?_⟩) ?_ ?_;rotate_left
           ·
            intro w';go_simp;with_reducible rfl
           rotate_left
           ·
            simp only [Act.put,zzq,zzr,zzs,i64_w,i32_w];rfl
           refine done_ (done_of HT_.out (by kernel_rfl)) ?_;try go_wp2
           go_roundg k1
           case measure=>have:=HK1.out;omega
           case rel=>exact ⟨(wrap64 (x3_1+1)),(by first|rfl|(simp;done)|(simp [*];done)),H',⟨by have:=HK1.out;omega⟩,⟨zzh1⟩⟩
         ·
          rw [if_neg c11] at H;exact absurd H (by simp)
        ·
         rw [if_neg c9] at H;exact absurd H (by simp)
       ·
        rw [if_neg c8] at H;exact absurd H (by simp)
      ·
       rw [if_neg c6] at H;have c6b0:decide (0 < x3_1)=false:=decide_eq_false c6;clear c6;have H':=zzm H;clear H;try go_wp2
       have n0_:=zzm (zzc HB.out);clear HB;have HB:=n0_;clear n0_;have p299 : 0≤(x3_1:Int):=zzt;have q299:x3_1 < (l0.length:Int):=zzt;obtain ⟨ad299,A299_5,c299_5,e299,hx299_0,hx299_1,hx299_2,hx299_3,hx299_4,hx299_5,hl299_5,hi299_5⟩:=at_T27 HR0.out x3_1 p299 q299;have hw299_5:=hx299_5;have hw299_4:=hx299_4;have hw299_3:=hx299_3;have hw299_2:=hx299_2;have hw299_1:=hx299_1;have hw299_0:=hx299_0;cases e299;replace hx299_0:=zzx HB.out hx299_0;replace hx299_1:=zzx HB.out hx299_1;replace hx299_2:=zzx HB.out hx299_2;replace hx299_3:=zzx HB.out hx299_3;replace hx299_4:=zzx HB.out hx299_4;replace hx299_5:=zzx HB.out hx299_5;have HR299_5:=zzm hi299_5;have HC299_5:=zzm hl299_5;clear hi299_5 hl299_5;replace p299:=eq_true p299;replace q299:=eq_true q299;refine start_ (n:=27) (S:=fun w'=>w'.cell? (ad299.add ((x3_1).toNat * 6))=some (.bool ((rd_T27 l0 x3_1).f0))∧w'.cell? ⟨(ad299.add ((x3_1).toNat * 6)).block,(ad299.add ((x3_1).toNat * 6)).off+1,none⟩=some (.bool ((rd_T27 l0 x3_1).f1))∧w'.cell? ⟨(ad299.add ((x3_1).toNat * 6)).block,(ad299.add ((x3_1).toNat * 6)).off+2,none⟩=some (.int .i64 ((rd_T27 l0 x3_1).f2))∧w'.cell? ⟨(ad299.add ((x3_1).toNat * 6)).block,(ad299.add ((x3_1).toNat * 6)).off+3,none⟩=some (.int .i64 ((rd_T27 l0 x3_1).f3))∧w'.cell? ⟨(ad299.add ((x3_1).toNat * 6)).block,(ad299.add ((x3_1).toNat * 6)).off+4,none⟩=some (.int .i64 ((rd_T27 l0 x3_1).f4))∧w'.cell? ⟨(ad299.add ((x3_1).toNat * 6)).block,(ad299.add ((x3_1).toNat * 6)).off+5,none⟩=some (.slice A299_5 ((rd_T27 l0 x3_1).f5).length c299_5)) (ds:=[]) (zzB 27 0) (by kernel_rfl) rfl rfl ⟨(zzx HB.out hw299_0),(zzx HB.out hw299_1),(zzx HB.out hw299_2),(zzx HB.out hw299_3),(zzx HB.out hw299_4),(zzx HB.out hw299_5)⟩ (fun hHeld=>?_);refine with_tabW spec_LogValid.tab4 spec_LogValid.bits4 (fun HT_ HW_=>?_);generalize wr.drew=w19 at HB HR299_5 hx299_0 hx299_1 hx299_2 hx299_3 hx299_4 hx299_5 hHeld ⊢;refine pure_ (i:=0) (N:=some 10) (v:=?_) (a':=?_) (zzB 27 1) rfl rfl (zzA2 HT_.out) (fun _ _ _ h=>h) (Or.inl ⟨by rfl,?_⟩) ?_ ?_;rotate_left
       ·
        intro w';go_simp;with_reducible rfl
       rotate_left
       ·
        simp only [Act.put,zzq,zzr,zzs,i64_w,i32_w];rfl
       refine pure_ (i:=1) (N:=some 11) (v:=?_) (a':=?_) (zzB 27 3) rfl rfl (zzA2 HT_.out) (fun _ _ _ h=>h) (Or.inl ⟨by rfl,?_⟩) ?_ ?_;rotate_left
       ·
        intro w';go_simp;with_reducible rfl
       rotate_left
       ·
        simp only [Act.put,zzq,zzr,zzs,i64_w,i32_w];rfl
       refine pure_ (i:=2) (N:=some 12) (v:=?_) (a':=?_) (zzB 27 7) rfl rfl (zzA2 HT_.out) (fun _ _ _ h=>h) (Or.inl ⟨by rfl,?_⟩) ?_ ?_;rotate_left
       ·
        intro w';go_simp;with_reducible rfl
       rotate_left
       ·
        simp only [Act.put,zzq,zzr,zzs,i64_w,i32_w];rfl
       refine take_ (i:=3) (N:=some 13) (v:=?_) (a':=?_) (zzB 27 15) rfl rfl (take_ofW HT_.out HW_.out (by kernel_rfl)) (fun _ _ _ h=>h) (Or.inl ⟨by rfl,?_⟩) hHeld ?_ ?_;rotate_left
       ·
        rintro w' ⟨s0,s1,s2,s3,s4,s5⟩;go_simp;with_reducible rfl
       rotate_left
       ·
        simp only [Act.put,zzq,zzr,zzs,i64_w,i32_w];rfl
       refine one_ (i:=4) (N:=some 14) (zzB 27 31) rfl rfl (one_of HT_.out (by kernel_rfl)) (by decide) (fun K hK=>?_);refine goes_ Try.func55 (by kernel_rfl) rfl #[.agg #[.bool ((rd_T27 l0 x3_1).f0),.bool ((rd_T27 l0 x3_1).f1),.int .i64 ((rd_T27 l0 x3_1).f2),.int .i64 ((rd_T27 l0 x3_1).f3),.int .i64 ((rd_T27 l0 x3_1).f4),.slice A299_5 ((rd_T27 l0 x3_1).f5).length c299_5]] (by rfl) rfl rfl zzM2 ?_;with_reducible refine (spec_BatchValid.calls k1 ((rd_T27 l0 x3_1).f0) ((rd_T27 l0 x3_1).f1) ((rd_T27 l0 x3_1).f2) ((rd_T27 l0 x3_1).f3) ((rd_T27 l0 x3_1).f4) _ _ ((rd_T27 l0 x3_1).f5) true _ ?side1 ?side2 A4.out).mono ?_
       (case side1=>repeat (first|exact (Kd.C_below HR299_5.out HB.out)|(with_reducible refine Kd.C_alloc ?_ _)|(with_reducible refine Kd.C_drewN ?_ _)|(with_reducible refine Kd.C_drew ?_)))
       (case side2=>exact HC299_5.out);rintro e w20 ⟨rfl,hb⟩;refine ⟨_,rfl,?_⟩;have n0_:=zzm (zzp zzh1 hb);clear HB;have HB:=n0_;clear n0_
       (try clear hb)
       (try clear hb2)
       (try clear hk)
       (try clear hi);refine hK.out _ _ ⟨(zzx HB.out hw299_0),(zzx HB.out hw299_1),(zzx HB.out hw299_2),(zzx HB.out hw299_3),(zzx HB.out hw299_4),(zzx HB.out hw299_5)⟩ (fun hHeld=>?_);clear hK K;refine norm_ (a':=?_) ?_ ?_;rotate_left
       ·
        show Act.put _ (some 14) _ = _;simp only [Act.put,zzq,zzr,zzs,i64_w,i32_w];rfl
       refine pure_ (i:=5) (N:=some 15) (v:=?_) (a':=?_) (zzB 27 63) rfl rfl (zzA2 HT_.out) (fun _ _ _ h=>h) (Or.inl ⟨by rfl,?_⟩) ?_ ?_;rotate_left
       ·
        intro w';go_simp;with_reducible rfl
       rotate_left
       ·
        simp only [Act.put,zzq,zzr,zzs,i64_w,i32_w];rfl
       refine pure_ (i:=6) (N:=some 16) (v:=?_) (a':=?_) (zzB 27 127) rfl rfl (zzA2 HT_.out) (fun _ _ _ h=>h) (Or.inl ⟨by rfl,?_⟩) ?_ ?_;rotate_left
       ·
        intro w';go_simp;with_reducible rfl
       rotate_left
       ·
        simp only [Act.put,zzq,zzr,zzs,i64_w,i32_w];rfl
       refine pure_ (i:=7) (N:=some 17) (v:=?_) (a':=?_) (zzB 27 255) rfl rfl (zzA2 HT_.out) (fun _ _ _ h=>h) (Or.inl ⟨by rfl,?_⟩) ?_ ?_;rotate_left
       ·
        intro w';go_simp;with_reducible rfl
       rotate_left
       ·
        simp only [Act.put,zzq,zzr,zzs,i64_w,i32_w];rfl
       refine pure_ (i:=8) (N:=some 18) (v:=?_) (a':=?_) (zzB 27 511) rfl rfl (zzA2 HT_.out) (fun _ _ _ h=>h) (Or.inl ⟨by rfl,?_⟩) ?_ ?_;rotate_left
       ·
        intro w';go_simp;with_reducible rfl
       rotate_left
       ·
        simp only [Act.put,zzq,zzr,zzs,i64_w,i32_w];rfl
       refine pure_ (i:=9) (N:=some 19) (v:=?_) (a':=?_) (zzB 27 1023) rfl rfl (zzA2 HT_.out) (fun _ _ _ h=>h) (Or.inl ⟨by rfl,?_⟩) ?_ ?_;rotate_left
       ·
        intro w';go_simp;with_reducible rfl
       rotate_left
       ·
        simp only [Act.put,zzq,zzr,zzs,i64_w,i32_w];rfl
       refine pure_ (i:=10) (N:=some 20) (v:=undef) (a':=?_) (zzB 27 2047) rfl rfl (zzA2 HT_.out) (fun _ _ _ h=>h) (Or.inr ⟨by rfl,rfl⟩) ?_ ?_;rotate_left
       ·
        simp only [Act.put,zzq,zzr,zzs,i64_w,i32_w];rfl
       refine pure_ (i:=11) (N:=some 21) (v:=undef) (a':=?_) (zzB 27 4095) rfl rfl (zzA2 HT_.out) (fun _ _ _ h=>h) (Or.inr ⟨by rfl,rfl⟩) ?_ ?_;rotate_left
       ·
        simp only [Act.put,zzq,zzr,zzs,i64_w,i32_w];rfl
       refine pure_ (i:=12) (N:=some 22) (v:=undef) (a':=?_) (zzB 27 8191) rfl rfl (zzA2 HT_.out) (fun _ _ _ h=>h) (Or.inr ⟨by rfl,rfl⟩) ?_ ?_;rotate_left
       ·
        simp only [Act.put,zzq,zzr,zzs,i64_w,i32_w];rfl
       refine pure_ (i:=13) (N:=some 23) (v:=undef) (a':=?_) (zzB 27 16383) rfl rfl (zzA2 HT_.out) (fun _ _ _ h=>h) (Or.inr ⟨by rfl,rfl⟩) ?_ ?_;rotate_left
       ·
        simp only [Act.put,zzq,zzr,zzs,i64_w,i32_w];rfl
       refine pure_ (i:=14) (N:=some 24) (v:=undef) (a':=?_) (zzB 27 32767) rfl rfl (zzA2 HT_.out) (fun _ _ _ h=>h) (Or.inr ⟨by rfl,rfl⟩) ?_ ?_;rotate_left
       ·
        simp only [Act.put,zzq,zzr,zzs,i64_w,i32_w];rfl
       refine pure_ (i:=15) (N:=some 25) (v:=undef) (a':=?_) (zzB 27 65535) rfl rfl (zzA2 HT_.out) (fun _ _ _ h=>h) (Or.inr ⟨by rfl,rfl⟩) ?_ ?_;rotate_left
       ·
        simp only [Act.put,zzq,zzr,zzs,i64_w,i32_w];rfl
       refine pure_ (i:=16) (N:=some 26) (v:=undef) (a':=?_) (zzB 27 131071) rfl rfl (zzA2 HT_.out) (fun _ _ _ h=>h) (Or.inr ⟨by rfl,rfl⟩) ?_ ?_;rotate_left
       ·
        simp only [Act.put,zzq,zzr,zzs,i64_w,i32_w];rfl
       refine pure_ (i:=17) (N:=some 27) (v:=undef) (a':=?_) (zzB 27 262143) rfl rfl (zzA2 HT_.out) (fun _ _ _ h=>h) (Or.inr ⟨by rfl,rfl⟩) ?_ ?_;rotate_left
       ·
        simp only [Act.put,zzq,zzr,zzs,i64_w,i32_w];rfl
       refine pure_ (i:=18) (N:=some 28) (v:=undef) (a':=?_) (zzB 27 524287) rfl rfl (zzA2 HT_.out) (fun _ _ _ h=>h) (Or.inr ⟨by rfl,rfl⟩) ?_ ?_;rotate_left
       ·
        simp only [Act.put,zzq,zzr,zzs,i64_w,i32_w];rfl
       refine pure_ (i:=19) (N:=some 29) (v:=undef) (a':=?_) (zzB 27 1048575) rfl rfl (zzA2 HT_.out) (fun _ _ _ h=>h) (Or.inr ⟨by rfl,rfl⟩) ?_ ?_;rotate_left
       ·
        simp only [Act.put,zzq,zzr,zzs,i64_w,i32_w];rfl
       refine pure_ (i:=20) (N:=some 30) (v:=undef) (a':=?_) (zzB 27 2097151) rfl rfl (zzA2 HT_.out) (fun _ _ _ h=>h) (Or.inr ⟨by rfl,rfl⟩) ?_ ?_;rotate_left
       ·
        simp only [Act.put,zzq,zzr,zzs,i64_w,i32_w];rfl
       refine pure_ (i:=21) (N:=some 31) (v:=undef) (a':=?_) (zzB 27 4194303) rfl rfl (zzA2 HT_.out) (fun _ _ _ h=>h) (Or.inr ⟨by rfl,rfl⟩) ?_ ?_;rotate_left
       ·
        simp only [Act.put,zzq,zzr,zzs,i64_w,i32_w];rfl
       refine pure_ (i:=22) (N:=some 32) (v:=undef) (a':=?_) (zzB 27 8388607) rfl rfl (zzA2 HT_.out) (fun _ _ _ h=>h) (Or.inr ⟨by rfl,rfl⟩) ?_ ?_;rotate_left
       ·
        simp only [Act.put,zzq,zzr,zzs,i64_w,i32_w];rfl
       refine pure_ (i:=23) (N:=some 33) (v:=undef) (a':=?_) (zzB 27 16777215) rfl rfl (zzA2 HT_.out) (fun _ _ _ h=>h) (Or.inr ⟨by rfl,rfl⟩) ?_ ?_;rotate_left
       ·
        simp only [Act.put,zzq,zzr,zzs,i64_w,i32_w];rfl
       refine pure_ (i:=24) (N:=some 34) (v:=undef) (a':=?_) (zzB 27 33554431) rfl rfl (zzA2 HT_.out) (fun _ _ _ h=>h) (Or.inr ⟨by rfl,rfl⟩) ?_ ?_;rotate_left
       ·
        simp only [Act.put,zzq,zzr,zzs,i64_w,i32_w];rfl
       refine pure_ (i:=25) (N:=some 35) (v:=?_) (a':=?_) (zzB 27 67108863) rfl rfl (zzA2 HT_.out) (fun _ _ _ h=>h) (Or.inl ⟨by rfl,?_⟩) ?_ ?_;rotate_left
       ·
        intro w';go_simp;with_reducible rfl
       rotate_left
       ·
        simp only [Act.put,zzq,zzr,zzs,i64_w,i32_w];rfl
       refine pure_ (i:=26) (N:=some 36) (v:=?_) (a':=?_) (zzB 27 134217727) rfl rfl (zzA2 HT_.out) (fun _ _ _ h=>h) (Or.inl ⟨by rfl,?_⟩) ?_ ?_;rotate_left
       ·
        intro w';go_simp;with_reducible rfl
       rotate_left
       ·
        simp only [Act.put,zzq,zzr,zzs,i64_w,i32_w];rfl
       refine done_ (done_of HT_.out (by kernel_rfl)) ?_;try go_wp2
       go_roundg k1
       case measure=>have:=HK1.out;omega
       case rel=>exact ⟨(wrap64 (x3_1+1)),(by first|rfl|(simp;done)|(simp [*];done)),H',⟨by have:=HK1.out;omega⟩,⟨zzh1⟩⟩
     ·
      replace c5:=Bool.eq_false_iff.mpr c5;subst c5;have H1:(some false)=some r:=by rw [if_neg (show ¬ (false=true) by decide)] at H;exact H
      clear H;have H:=H1;clear H1;obtain rfl:=Option.some.inj H;try go_wp2
      have n0_:=zzm (zzc HB.out);clear HB;have HB:=n0_;clear n0_;have p299 : 0≤(x3_1:Int):=zzt;have q299:x3_1 < (l0.length:Int):=zzt;obtain ⟨ad299,A299_5,c299_5,e299,hx299_0,hx299_1,hx299_2,hx299_3,hx299_4,hx299_5,hl299_5,hi299_5⟩:=at_T27 HR0.out x3_1 p299 q299;have hw299_5:=hx299_5;have hw299_4:=hx299_4;have hw299_3:=hx299_3;have hw299_2:=hx299_2;have hw299_1:=hx299_1;have hw299_0:=hx299_0;cases e299;replace hx299_0:=zzx HB.out hx299_0;replace hx299_1:=zzx HB.out hx299_1;replace hx299_2:=zzx HB.out hx299_2;replace hx299_3:=zzx HB.out hx299_3;replace hx299_4:=zzx HB.out hx299_4;replace hx299_5:=zzx HB.out hx299_5;have HR299_5:=zzm hi299_5;have HC299_5:=zzm hl299_5;clear hi299_5 hl299_5;replace p299:=eq_true p299;replace q299:=eq_true q299;refine start_ (n:=27) (S:=fun w'=>w'.cell? (ad299.add ((x3_1).toNat * 6))=some (.bool ((rd_T27 l0 x3_1).f0))∧w'.cell? ⟨(ad299.add ((x3_1).toNat * 6)).block,(ad299.add ((x3_1).toNat * 6)).off+1,none⟩=some (.bool ((rd_T27 l0 x3_1).f1))∧w'.cell? ⟨(ad299.add ((x3_1).toNat * 6)).block,(ad299.add ((x3_1).toNat * 6)).off+2,none⟩=some (.int .i64 ((rd_T27 l0 x3_1).f2))∧w'.cell? ⟨(ad299.add ((x3_1).toNat * 6)).block,(ad299.add ((x3_1).toNat * 6)).off+3,none⟩=some (.int .i64 ((rd_T27 l0 x3_1).f3))∧w'.cell? ⟨(ad299.add ((x3_1).toNat * 6)).block,(ad299.add ((x3_1).toNat * 6)).off+4,none⟩=some (.int .i64 ((rd_T27 l0 x3_1).f4))∧w'.cell? ⟨(ad299.add ((x3_1).toNat * 6)).block,(ad299.add ((x3_1).toNat * 6)).off+5,none⟩=some (.slice A299_5 ((rd_T27 l0 x3_1).f5).length c299_5)) (ds:=[]) (zzB 27 0) (by kernel_rfl) rfl rfl ⟨(zzx HB.out hw299_0),(zzx HB.out hw299_1),(zzx HB.out hw299_2),(zzx HB.out hw299_3),(zzx HB.out hw299_4),(zzx HB.out hw299_5)⟩ (fun hHeld=>?_);refine with_tabW spec_LogValid.tab4 spec_LogValid.bits4 (fun HT_ HW_=>?_);generalize wr.drew=w21 at HB HR299_5 hx299_0 hx299_1 hx299_2 hx299_3 hx299_4 hx299_5 hHeld ⊢;refine pure_ (i:=0) (N:=some 10) (v:=?_) (a':=?_) (zzB 27 1) rfl rfl (zzA2 HT_.out) (fun _ _ _ h=>h) (Or.inl ⟨by rfl,?_⟩) ?_ ?_;rotate_left
      ·
       intro w';go_simp;with_reducible rfl
      rotate_left
      ·
       simp only [Act.put,zzq,zzr,zzs,i64_w,i32_w];rfl
      refine pure_ (i:=1) (N:=some 11) (v:=?_) (a':=?_) (zzB 27 3) rfl rfl (zzA2 HT_.out) (fun _ _ _ h=>h) (Or.inl ⟨by rfl,?_⟩) ?_ ?_;rotate_left
      ·
       intro w';go_simp;with_reducible rfl
      rotate_left
      ·
       simp only [Act.put,zzq,zzr,zzs,i64_w,i32_w];rfl
      refine pure_ (i:=2) (N:=some 12) (v:=?_) (a':=?_) (zzB 27 7) rfl rfl (zzA2 HT_.out) (fun _ _ _ h=>h) (Or.inl ⟨by rfl,?_⟩) ?_ ?_;rotate_left
      ·
       intro w';go_simp;with_reducible rfl
      rotate_left
      ·
       simp only [Act.put,zzq,zzr,zzs,i64_w,i32_w];rfl
      refine take_ (i:=3) (N:=some 13) (v:=?_) (a':=?_) (zzB 27 15) rfl rfl (take_ofW HT_.out HW_.out (by kernel_rfl)) (fun _ _ _ h=>h) (Or.inl ⟨by rfl,?_⟩) hHeld ?_ ?_;rotate_left
      ·
       rintro w' ⟨s0,s1,s2,s3,s4,s5⟩;go_simp;with_reducible rfl
      rotate_left
      ·
       simp only [Act.put,zzq,zzr,zzs,i64_w,i32_w];rfl
      refine one_ (i:=4) (N:=some 14) (zzB 27 31) rfl rfl (one_of HT_.out (by kernel_rfl)) (by decide) (fun K hK=>?_);refine goes_ Try.func55 (by kernel_rfl) rfl #[.agg #[.bool ((rd_T27 l0 x3_1).f0),.bool ((rd_T27 l0 x3_1).f1),.int .i64 ((rd_T27 l0 x3_1).f2),.int .i64 ((rd_T27 l0 x3_1).f3),.int .i64 ((rd_T27 l0 x3_1).f4),.slice A299_5 ((rd_T27 l0 x3_1).f5).length c299_5]] (by rfl) rfl rfl zzM2 ?_;with_reducible refine (spec_BatchValid.calls k1 ((rd_T27 l0 x3_1).f0) ((rd_T27 l0 x3_1).f1) ((rd_T27 l0 x3_1).f2) ((rd_T27 l0 x3_1).f3) ((rd_T27 l0 x3_1).f4) _ _ ((rd_T27 l0 x3_1).f5) false _ ?side1 ?side2 A4.out).mono ?_
      (case side1=>repeat (first|exact (Kd.C_below HR299_5.out HB.out)|(with_reducible refine Kd.C_alloc ?_ _)|(with_reducible refine Kd.C_drewN ?_ _)|(with_reducible refine Kd.C_drew ?_)))
      (case side2=>exact HC299_5.out);rintro e w22 ⟨rfl,hb⟩;refine ⟨_,rfl,?_⟩;have n0_:=zzm (zzp zzh1 hb);clear HB;have HB:=n0_;clear n0_
      (try clear hb)
      (try clear hb2)
      (try clear hk)
      (try clear hi);refine hK.out _ _ ⟨(zzx HB.out hw299_0),(zzx HB.out hw299_1),(zzx HB.out hw299_2),(zzx HB.out hw299_3),(zzx HB.out hw299_4),(zzx HB.out hw299_5)⟩ (fun hHeld=>?_);clear hK K;refine norm_ (a':=?_) ?_ ?_;rotate_left
      ·
       show Act.put _ (some 14) _ = _;simp only [Act.put,zzq,zzr,zzs,i64_w,i32_w];rfl
      refine pure_ (i:=5) (N:=some 15) (v:=?_) (a':=?_) (zzB 27 63) rfl rfl (zzA2 HT_.out) (fun _ _ _ h=>h) (Or.inl ⟨by rfl,?_⟩) ?_ ?_;rotate_left
      ·
       intro w';go_simp;with_reducible rfl
      rotate_left
      ·
       simp only [Act.put,zzq,zzr,zzs,i64_w,i32_w];rfl
      refine pure_ (i:=6) (N:=some 16) (v:=?_) (a':=?_) (zzB 27 127) rfl rfl (zzA2 HT_.out) (fun _ _ _ h=>h) (Or.inl ⟨by rfl,?_⟩) ?_ ?_;rotate_left
      ·
       intro w';go_simp;with_reducible rfl
      rotate_left
      ·
       simp only [Act.put,zzq,zzr,zzs,i64_w,i32_w];rfl
      refine pure_ (i:=7) (N:=some 17) (v:=undef) (a':=?_) (zzB 27 255) rfl rfl (zzA2 HT_.out) (fun _ _ _ h=>h) (Or.inr ⟨by rfl,rfl⟩) ?_ ?_;rotate_left
      ·
       simp only [Act.put,zzq,zzr,zzs,i64_w,i32_w];rfl
      refine pure_ (i:=8) (N:=some 18) (v:=undef) (a':=?_) (zzB 27 511) rfl rfl (zzA2 HT_.out) (fun _ _ _ h=>h) (Or.inr ⟨by rfl,rfl⟩) ?_ ?_;rotate_left
      ·
       simp only [Act.put,zzq,zzr,zzs,i64_w,i32_w];rfl
      refine pure_ (i:=9) (N:=some 19) (v:=undef) (a':=?_) (zzB 27 1023) rfl rfl (zzA2 HT_.out) (fun _ _ _ h=>h) (Or.inr ⟨by rfl,rfl⟩) ?_ ?_;rotate_left
      ·
       simp only [Act.put,zzq,zzr,zzs,i64_w,i32_w];rfl
      refine pure_ (i:=10) (N:=some 20) (v:=undef) (a':=?_) (zzB 27 2047) rfl rfl (zzA2 HT_.out) (fun _ _ _ h=>h) (Or.inr ⟨by rfl,rfl⟩) ?_ ?_;rotate_left
      ·
       simp only [Act.put,zzq,zzr,zzs,i64_w,i32_w];rfl
      refine pure_ (i:=11) (N:=some 21) (v:=undef) (a':=?_) (zzB 27 4095) rfl rfl (zzA2 HT_.out) (fun _ _ _ h=>h) (Or.inr ⟨by rfl,rfl⟩) ?_ ?_;rotate_left
      ·
       simp only [Act.put,zzq,zzr,zzs,i64_w,i32_w];rfl
      refine pure_ (i:=12) (N:=some 22) (v:=undef) (a':=?_) (zzB 27 8191) rfl rfl (zzA2 HT_.out) (fun _ _ _ h=>h) (Or.inr ⟨by rfl,rfl⟩) ?_ ?_;rotate_left
      ·
       simp only [Act.put,zzq,zzr,zzs,i64_w,i32_w];rfl
      refine pure_ (i:=13) (N:=some 23) (v:=undef) (a':=?_) (zzB 27 16383) rfl rfl (zzA2 HT_.out) (fun _ _ _ h=>h) (Or.inr ⟨by rfl,rfl⟩) ?_ ?_;rotate_left
      ·
       simp only [Act.put,zzq,zzr,zzs,i64_w,i32_w];rfl
      refine pure_ (i:=14) (N:=some 24) (v:=undef) (a':=?_) (zzB 27 32767) rfl rfl (zzA2 HT_.out) (fun _ _ _ h=>h) (Or.inr ⟨by rfl,rfl⟩) ?_ ?_;rotate_left
      ·
       simp only [Act.put,zzq,zzr,zzs,i64_w,i32_w];rfl
      refine pure_ (i:=15) (N:=some 25) (v:=undef) (a':=?_) (zzB 27 65535) rfl rfl (zzA2 HT_.out) (fun _ _ _ h=>h) (Or.inr ⟨by rfl,rfl⟩) ?_ ?_;rotate_left
      ·
       simp only [Act.put,zzq,zzr,zzs,i64_w,i32_w];rfl
      refine pure_ (i:=16) (N:=some 26) (v:=undef) (a':=?_) (zzB 27 131071) rfl rfl (zzA2 HT_.out) (fun _ _ _ h=>h) (Or.inr ⟨by rfl,rfl⟩) ?_ ?_;rotate_left
      ·
       simp only [Act.put,zzq,zzr,zzs,i64_w,i32_w];rfl
      refine pure_ (i:=17) (N:=some 27) (v:=undef) (a':=?_) (zzB 27 262143) rfl rfl (zzA2 HT_.out) (fun _ _ _ h=>h) (Or.inr ⟨by rfl,rfl⟩) ?_ ?_;rotate_left
      ·
       simp only [Act.put,zzq,zzr,zzs,i64_w,i32_w];rfl
      refine pure_ (i:=18) (N:=some 28) (v:=undef) (a':=?_) (zzB 27 524287) rfl rfl (zzA2 HT_.out) (fun _ _ _ h=>h) (Or.inr ⟨by rfl,rfl⟩) ?_ ?_;rotate_left
      ·
       simp only [Act.put,zzq,zzr,zzs,i64_w,i32_w];rfl
      refine pure_ (i:=19) (N:=some 29) (v:=undef) (a':=?_) (zzB 27 1048575) rfl rfl (zzA2 HT_.out) (fun _ _ _ h=>h) (Or.inr ⟨by rfl,rfl⟩) ?_ ?_;rotate_left
      ·
       simp only [Act.put,zzq,zzr,zzs,i64_w,i32_w];rfl
      refine pure_ (i:=20) (N:=some 30) (v:=undef) (a':=?_) (zzB 27 2097151) rfl rfl (zzA2 HT_.out) (fun _ _ _ h=>h) (Or.inr ⟨by rfl,rfl⟩) ?_ ?_;rotate_left
      ·
       simp only [Act.put,zzq,zzr,zzs,i64_w,i32_w];rfl
      refine pure_ (i:=21) (N:=some 31) (v:=undef) (a':=?_) (zzB 27 4194303) rfl rfl (zzA2 HT_.out) (fun _ _ _ h=>h) (Or.inr ⟨by rfl,rfl⟩) ?_ ?_;rotate_left
      ·
       simp only [Act.put,zzq,zzr,zzs,i64_w,i32_w];rfl
      refine pure_ (i:=22) (N:=some 32) (v:=undef) (a':=?_) (zzB 27 8388607) rfl rfl (zzA2 HT_.out) (fun _ _ _ h=>h) (Or.inr ⟨by rfl,rfl⟩) ?_ ?_;rotate_left
      ·
       simp only [Act.put,zzq,zzr,zzs,i64_w,i32_w];rfl
      refine pure_ (i:=23) (N:=some 33) (v:=undef) (a':=?_) (zzB 27 16777215) rfl rfl (zzA2 HT_.out) (fun _ _ _ h=>h) (Or.inr ⟨by rfl,rfl⟩) ?_ ?_;rotate_left
      ·
       simp only [Act.put,zzq,zzr,zzs,i64_w,i32_w];rfl
      refine pure_ (i:=24) (N:=some 34) (v:=undef) (a':=?_) (zzB 27 33554431) rfl rfl (zzA2 HT_.out) (fun _ _ _ h=>h) (Or.inr ⟨by rfl,rfl⟩) ?_ ?_;rotate_left
      ·
       simp only [Act.put,zzq,zzr,zzs,i64_w,i32_w];rfl
      refine pure_ (i:=25) (N:=some 35) (v:=undef) (a':=?_) (zzB 27 67108863) rfl rfl (zzA2 HT_.out) (fun _ _ _ h=>h) (Or.inr ⟨by rfl,rfl⟩) ?_ ?_;rotate_left
      ·
       simp only [Act.put,zzq,zzr,zzs,i64_w,i32_w];rfl
      refine pure_ (i:=26) (N:=some 36) (v:=?_) (a':=?_) (zzB 27 134217727) rfl rfl (zzA2 HT_.out) (fun _ _ _ h=>h) (Or.inl ⟨by rfl,?_⟩) ?_ ?_;rotate_left
      ·
       intro w';go_simp;with_reducible rfl
      rotate_left
      ·
       simp only [Act.put,zzq,zzr,zzs,i64_w,i32_w];rfl
      refine done_ (done_of HT_.out (by kernel_rfl)) ?_;try go_wp2
      go_ret;exact ⟨by first|rfl|(simp [errW_none,errW_some] <;> rfl)|(simp [*,errW_none,errW_some] <;> rfl),zzh1⟩
    ·
     rw [if_neg c3] at H;exact absurd H (by simp)
   ·
    rw [if_neg c2] at H;have c2b0:decide (x3_1 < (l0.length:Int))=false:=decide_eq_false c2;clear c2;obtain rfl:=Option.some.inj H;go_wp2;go_ret;exact ⟨by first|rfl|(simp [errW_none,errW_some] <;> rfl)|(simp [*,errW_none,errW_some] <;> rfl),zzh1⟩
def laws_sameInts.l0:Nat→List Int→List Int→Int→Option (Bool)
 | 0,_,_,_=>none
 | k+1,x0,x1,x5=>if x5 < (x0.length:Int) then (if 0≤x5 then (if x5 < (x1.length:Int) then (if (rd x0 x5)=(rd x1 x5) then (laws_sameInts.l0 k x0 x1 (wrap64 (x5+1))) else (some false)) else (none)) else (none)) else (some true)
def laws_sameInts.f (k:Nat) (l0:List Int) (l1:List Int):Option (Bool):=if (l0.length:Int)=(l1.length:Int) then (laws_sameInts.l0 k l0 l1 0) else (some false)
set_option maxHeartbeats 8000000 in
set_option maxRecDepth 100000 in
theorem laws_sameInts.calls (k:Nat) (A0:Option Addr) (c0:Nat) (l0:List Int) (A1:Option Addr) (c1:Nat) (l1:List Int) (r:Bool) (w:World) (hr0:Kd.C (Kd.int .i64) w A0 l0.length l0) (hc0:l0.length≤c0) (hr1:Kd.C (Kd.int .i64) w A1 l1.length l1) (hc1:l1.length≤c1) (h:laws_sameInts.f k l0 l1=some r) :
  Calls Try.prog 59 #[.slice A0 l0.length c0,.slice A1 l1.length c1] w fun e w'=>e = .returned (.bool r)∧Drawn0 w w':=by
 have HR0:=zzm hr0;have HC0:=zzm hc0;clear hr0 hc0;have HR1:=zzm hr1;have HC1:=zzm hc1;clear hr1 hc1;have H:(if (l0.length:Int)=(l1.length:Int) then (laws_sameInts.l0 k l0 l1 0) else (some false))=some r:=h;clear h;by_cases c3:(l0.length:Int)=(l1.length:Int)
 ·
  rw [if_pos c3] at H;have c3b0:((l0.length:Int)==(l1.length:Int))=true:=beq_iff_eq.mpr c3;have c3b1:((l0.length:Int) != (l1.length:Int))=false:=bne_eq_false_iff_eq.mpr c3;have c3b2:(l0.length==l1.length)=true:=by first|simpa using c3|(simp at c3 ⊢;omega)
  clear c3;have H':=zzm H;clear H;go_enter Try.func59,Try.ntmps59;go_wp2;repeat (go_quiet (fail);try go_wp2)
  go_loopg [5] k (fun kq v5 w'=>∃ (x5_1:Int),v5 = .int .i64 x5_1∧Aside0 (laws_sameInts.l0 kq l0 l1 x5_1=some r)∧Aside0 (kq≤k)∧Drawn0 w w')
  case atStart=>exact ⟨(0),(by first|rfl|(simp;done)|(simp [*];done)),H',⟨Nat.le_refl _⟩,by repeat (first|exact Drawn0.refl _|apply Drawn0.step)⟩
  case round=>
   clear H';try clear c1
   try clear p2
   try clear c3
   try clear c3b0
   try clear c3b1
   try clear c3b2
   obtain ⟨x5_1,rfl,HA,HK1,⟨m1,rfl⟩⟩:=hrel;cases gk with
   | zero=>exact absurd HA.out (by simp [laws_sameInts.l0])
   | succ k1=>
    have H:=HA.out;clear HA;simp only [laws_sameInts.l0] at H;by_cases c4:x5_1 < (l0.length:Int)
    ·
     rw [if_pos c4] at H;have c4b0:decide (x5_1 < (l0.length:Int))=true:=decide_eq_true c4;clear c4;by_cases c5 : 0≤x5_1
     ·
      rw [if_pos c5] at H;have c5b0:decide (0≤x5_1)=true:=decide_eq_true c5;clear c5;by_cases c6:x5_1 < (l1.length:Int)
      ·
       rw [if_pos c6] at H;have c6b0:decide (x5_1 < (l1.length:Int))=true:=decide_eq_true c6;clear c6;by_cases c7:(rd l0 x5_1)=(rd l1 x5_1)
       ·
        rw [if_pos c7] at H;have c7b0:((rd l0 x5_1)==(rd l1 x5_1))=true:=beq_iff_eq.mpr c7;have c7b1:((rd l0 x5_1) != (rd l1 x5_1))=false:=bne_eq_false_iff_eq.mpr c7;clear c7;have H':=zzm H;clear H;have p330 : 0≤(x5_1:Int):=zzt;have q330:x5_1 < (l0.length:Int):=zzt;obtain ⟨ad330,e330,hx330_0⟩:=Kd.at_int HR0.out x5_1 p330 q330;cases e330;replace p330:=eq_true p330;replace q330:=eq_true q330;have p331 : 0≤(x5_1:Int):=zzt;have q331:x5_1 < (l1.length:Int):=zzt;obtain ⟨ad331,e331,hx331_0⟩:=Kd.at_int HR1.out x5_1 p331 q331;cases e331;replace p331:=eq_true p331;replace q331:=eq_true q331;go_wp2;repeat (go_quiet (fail);try go_wp2)
        go_roundg k1
        case measure=>have:=HK1.out;omega
        case rel=>exact ⟨(wrap64 (x5_1+1)),(by first|rfl|(simp;done)|(simp [*];done)),H',⟨by have:=HK1.out;omega⟩,by repeat (first|exact Drawn0.refl _|apply Drawn0.step)⟩
       ·
        rw [if_neg c7] at H;have c7b0:((rd l0 x5_1)==(rd l1 x5_1))=false:=beq_eq_false_iff_ne.mpr c7;have c7b1:((rd l0 x5_1) != (rd l1 x5_1))=true:=bne_iff_ne.mpr c7;obtain rfl:=Option.some.inj H;have p330 : 0≤(x5_1:Int):=zzt;have q330:x5_1 < (l0.length:Int):=zzt;obtain ⟨ad330,e330,hx330_0⟩:=Kd.at_int HR0.out x5_1 p330 q330;cases e330;replace p330:=eq_true p330;replace q330:=eq_true q330;have p331 : 0≤(x5_1:Int):=zzt;have q331:x5_1 < (l1.length:Int):=zzt;obtain ⟨ad331,e331,hx331_0⟩:=Kd.at_int HR1.out x5_1 p331 q331;cases e331;replace p331:=eq_true p331;replace q331:=eq_true q331;go_wp2;repeat (go_quiet (fail);try go_wp2)
        go_ret;exact ⟨by first|rfl|(simp;done)|(simp [*];done),by repeat (first|exact Drawn0.refl _|apply Drawn0.step)⟩
      ·
       rw [if_neg c6] at H;exact absurd H (by simp)
     ·
      rw [if_neg c5] at H;exact absurd H (by simp)
    ·
     rw [if_neg c4] at H;have c4b0:decide (x5_1 < (l0.length:Int))=false:=decide_eq_false c4;clear c4;obtain rfl:=Option.some.inj H;go_wp2;repeat (go_quiet (fail);try go_wp2)
     go_ret;exact ⟨by first|rfl|(simp;done)|(simp [*];done),by repeat (first|exact Drawn0.refl _|apply Drawn0.step)⟩
 ·
  rw [if_neg c3] at H;have c3b0:((l0.length:Int)==(l1.length:Int))=false:=beq_eq_false_iff_ne.mpr c3;have c3b1:((l0.length:Int) != (l1.length:Int))=true:=bne_iff_ne.mpr c3;have c3b2:(l0.length==l1.length)=false:=by first|simpa using c3|(simp at c3 ⊢;omega)
  obtain rfl:=Option.some.inj H;go_enter Try.func59,Try.ntmps59;go_wp2;repeat (go_quiet (fail);try go_wp2)
  go_ret;exact ⟨by first|rfl|(simp;done)|(simp [*];done),by repeat (first|exact Drawn0.refl _|apply Drawn0.step)⟩
def laws_sameRecord.f (k:Nat) (a0_0:Int) (a0_1:Int) (a0_2:Bool) (l0_3:List Int) (a0_4:Bool) (l0_5:List Int) (a1_0:Int) (a1_1:Int) (a1_2:Bool) (l1_3:List Int) (a1_4:Bool) (l1_5:List Int):Option (Bool):=if a0_0=a1_0 then (if a0_1=a1_1 then (if (a0_2==a1_2)=true then (if (a0_4==a1_4)=true then ((laws_sameInts.f k l0_3 l1_3).bind fun t334=>(if t334=true then ((laws_sameInts.f k l0_5 l1_5).bind fun t335=>(some t335)) else (some false))) else (some false)) else (some false)) else (some false)) else (some false)
set_option maxHeartbeats 8000000 in
set_option maxRecDepth 100000 in
theorem laws_sameRecord.calls (k:Nat) (a0_0:Int) (a0_1:Int) (a0_2:Bool) (A0_3:Option Addr) (c0_3:Nat) (l0_3:List Int) (a0_4:Bool) (A0_5:Option Addr) (c0_5:Nat) (l0_5:List Int) (a1_0:Int) (a1_1:Int) (a1_2:Bool) (A1_3:Option Addr) (c1_3:Nat) (l1_3:List Int) (a1_4:Bool) (A1_5:Option Addr) (c1_5:Nat) (l1_5:List Int) (r:Bool) (w:World) (hr0_3:Kd.C (Kd.int .i64) w A0_3 l0_3.length l0_3) (hc0_3:l0_3.length≤c0_3) (hr0_5:Kd.C (Kd.int .i64) w A0_5 l0_5.length l0_5) (hc0_5:l0_5.length≤c0_5) (hr1_3:Kd.C (Kd.int .i64) w A1_3 l1_3.length l1_3) (hc1_3:l1_3.length≤c1_3) (hr1_5:Kd.C (Kd.int .i64) w A1_5 l1_5.length l1_5) (hc1_5:l1_5.length≤c1_5) (h:laws_sameRecord.f k a0_0 a0_1 a0_2 l0_3 a0_4 l0_5 a1_0 a1_1 a1_2 l1_3 a1_4 l1_5=some r) :
  Calls Try.prog 23 #[.agg #[.int .i64 a0_0,.int .i64 a0_1,.bool a0_2,.slice A0_3 l0_3.length c0_3,.bool a0_4,.slice A0_5 l0_5.length c0_5],.agg #[.int .i64 a1_0,.int .i64 a1_1,.bool a1_2,.slice A1_3 l1_3.length c1_3,.bool a1_4,.slice A1_5 l1_5.length c1_5]] w fun e w'=>e = .returned (.bool r)∧Below w.heap.size w w':=by
 have hu34:=Try.underlying34;have HR0_3:=zzm hr0_3;have HC0_3:=zzm hc0_3;clear hr0_3 hc0_3;have HR0_5:=zzm hr0_5;have HC0_5:=zzm hc0_5;clear hr0_5 hc0_5;have HR1_3:=zzm hr1_3;have HC1_3:=zzm hc1_3;clear hr1_3 hc1_3;have HR1_5:=zzm hr1_5;have HC1_5:=zzm hc1_5;clear hr1_5 hc1_5;have HB:=zzm (Below.refl w.heap.size w);have H:(if a0_0=a1_0 then (if a0_1=a1_1 then (if (a0_2==a1_2)=true then (if (a0_4==a1_4)=true then ((laws_sameInts.f k l0_3 l1_3).bind fun t334=>(if t334=true then ((laws_sameInts.f k l0_5 l1_5).bind fun t335=>(some t335)) else (some false))) else (some false)) else (some false)) else (some false)) else (some false))=some r:=h;clear h;by_cases c3:a0_0=a1_0
 ·
  rw [if_pos c3] at H;have c3b0:(a0_0==a1_0)=true:=beq_iff_eq.mpr c3;have c3b1:(a0_0 != a1_0)=false:=bne_eq_false_iff_eq.mpr c3;clear c3;by_cases c4:a0_1=a1_1
  ·
   rw [if_pos c4] at H;have c4b0:(a0_1==a1_1)=true:=beq_iff_eq.mpr c4;have c4b1:(a0_1 != a1_1)=false:=bne_eq_false_iff_eq.mpr c4;clear c4;by_cases c5:(a0_2==a1_2)=true
   ·
    rw [if_pos c5] at H;have c5b0:(a0_2==a1_2)=true:=c5
    (try (have c5b1:decide (a0_2=a1_2)=true:=by simpa using c5))
    (try (have c5b2:(a0_2==a1_2)=true:=by simpa using c5));clear c5;by_cases c6:(a0_4==a1_4)=true
    ·
     rw [if_pos c6] at H;have c6b0:(a0_4==a1_4)=true:=c6
     (try (have c6b1:decide (a0_4=a1_4)=true:=by simpa using c6))
     (try (have c6b2:(a0_4==a1_4)=true:=by simpa using c6));clear c6;replace H:=Option.bind_eq_some_iff.mp H;obtain ⟨t334,A70,H⟩:=H;replace H:(if t334=true then ((laws_sameInts.f k l0_5 l1_5).bind fun t335=>(some t335)) else (some false))=some r:=H;have A7:=zzm A70;clear A70;by_cases c8:t334=true
     ·
      subst c8;have H1:((laws_sameInts.f k l0_5 l1_5).bind fun t335=>(some t335))=some r:=by rw [if_pos rfl] at H;exact H
      clear H;have H:=H1;clear H1;replace H:=Option.bind_eq_some_iff.mp H;obtain ⟨t335,A90,H⟩:=H;replace H:(some t335)=some r:=H;have A9:=zzm A90;clear A90;obtain rfl:=Option.some.inj H;go_enter Try.func23,Try.ntmps23;go_wp2_with (first|((with_reducible refine gate_dst (N:=2) rfl ?_);refine box_event ?hg (N:=2) ?hd (cs:=#[.int .i64 a0_0,.int .i64 a0_1,.bool a0_2,.slice A0_3 l0_3.length c0_3,.bool a0_4,.slice A0_5 l0_5.length c0_5]) (t:=34) ?hr ?_;(case hd=>rfl);(case hg=>rfl);(case hr=>first|(go_simp;done)|(go_simp;rfl));intro gb332 hg w10 hbox hb;have n0_:=zzm (zzp zzh1 hb);have n1_:=zzm (hbox);have n2_:=zzm ((by rw [hg];exact (zzo zzh1):w.heap.size≤gb332));have n3_:=zzm ((by rw [hg];exact (zzo zzh1):w.heap.size≤gb332));clear HB;have HB:=n0_;have BK332:=n1_;have GW332:=n2_;have GE332:=n3_;clear n0_ n1_ n2_ n3_ hb hbox hg)|((with_reducible refine gate_dst (N:=3) rfl ?_);refine box_event ?hg (N:=3) ?hd (cs:=#[.int .i64 a1_0,.int .i64 a1_1,.bool a1_2,.slice A1_3 l1_3.length c1_3,.bool a1_4,.slice A1_5 l1_5.length c1_5]) (t:=34) ?hr ?_;(case hd=>rfl);(case hg=>rfl);(case hr=>first|(go_simp;done)|(go_simp;rfl));intro gb333 hg w11 hbox hb;have n0_:=zzm (zzh (g:=gb332) (o:=.cells #[.int .i64 a0_0,.int .i64 a0_1,.bool a0_2,.slice A0_3 l0_3.length c0_3,.bool a0_4,.slice A0_5 l0_5.length c0_5] 34 (0,0)) (zzE BK332.out) hb);have n1_:=zzm (zzp zzh2 hb);have n2_:=zzm (hbox);have n3_:=zzm ((by rw [hg];exact (zzo zzh2):w.heap.size≤gb333));have n4_:=zzm ((by rw [hg];exact (zzo zzh2):w.heap.size≤gb333));have n5_:=zzm ((by rw [hg];exact Nat.ne_of_lt (blk_lt (g:=gb332) (o:=.cells #[.int .i64 a0_0,.int .i64 a0_1,.bool a0_2,.slice A0_3 l0_3.length c0_3,.bool a0_4,.slice A0_5 l0_5.length c0_5] 34 (0,0)) (zzE BK332.out)):gb332≠gb333));have n6_:=zzm ((by rw [hg];exact Nat.ne_of_gt (blk_lt (g:=gb332) (o:=.cells #[.int .i64 a0_0,.int .i64 a0_1,.bool a0_2,.slice A0_3 l0_3.length c0_3,.bool a0_4,.slice A0_5 l0_5.length c0_5] 34 (0,0)) (zzE BK332.out)):gb333≠gb332));clear BK332 HB;have BK332:=n0_;have HB:=n1_;have BK333:=n2_;have GW333:=n3_;have GE333:=n4_;have NB332_333:=n5_;have NB333_332:=n6_;clear n0_ n1_ n2_ n3_ n4_ n5_ n6_ hb hbox hg;have hnb12:=NB332_333.out;have hnc12:=NB333_332.out;obtain ⟨hcz13_0,hcz13_1,hcz13_2,hcz13_3,hcz13_4,hcz13_5,hfz13_0,hfz13_1,hfz13_2,hfz13_3,hfz13_4,hfz13_5⟩:=zzc6 BK332.out;obtain ⟨hcz14_0,hcz14_1,hcz14_2,hcz14_3,hcz14_4,hcz14_5,hfz14_0,hfz14_1,hfz14_2,hfz14_3,hfz14_4,hfz14_5⟩:=zzc6 BK333.out)|(go_at_call 59;(with_reducible refine (laws_sameInts.calls k _ _ l0_3 _ _ l1_3 true _ ?side1 ?side2 ?side3 ?side4 A7.out).mono ?_);(case side1=>repeat (first|exact (Kd.C_below HR0_3.out HB.out)|(with_reducible refine Kd.C_alloc ?_ _)|(with_reducible refine Kd.C_drewN ?_ _)|(with_reducible refine Kd.C_drew ?_)));(case side2=>exact HC0_3.out);(case side3=>repeat (first|exact (Kd.C_below HR1_3.out HB.out)|(with_reducible refine Kd.C_alloc ?_ _)|(with_reducible refine Kd.C_drewN ?_ _)|(with_reducible refine Kd.C_drew ?_)));(case side4=>exact HC1_3.out);rintro e w' ⟨rfl,⟨nd,rfl⟩⟩)|(go_at_call 59;(with_reducible refine (laws_sameInts.calls k _ _ l0_5 _ _ l1_5 t335 _ ?side1 ?side2 ?side3 ?side4 A9.out).mono ?_);(case side1=>repeat (first|exact (Kd.C_below HR0_5.out zzh2)|(with_reducible refine Kd.C_alloc ?_ _)|(with_reducible refine Kd.C_drewN ?_ _)|(with_reducible refine Kd.C_drew ?_)));(case side2=>exact HC0_5.out);(case side3=>repeat (first|exact (Kd.C_below HR1_5.out zzh2)|(with_reducible refine Kd.C_alloc ?_ _)|(with_reducible refine Kd.C_drewN ?_ _)|(with_reducible refine Kd.C_drew ?_)));(case side4=>exact HC1_5.out);rintro e w' ⟨rfl,⟨nd,rfl⟩⟩));go_ret;exact ⟨by first|rfl|(simp [errW_none,errW_some] <;> rfl)|(simp [*,errW_none,errW_some] <;> rfl),by repeat (first|(with_reducible first|exact HB.out|apply zza|apply zzb|apply zzc|refine zzd ?_ GE332.out|refine zzd ?_ GE333.out)|exact HB.out)⟩
     ·
      replace c8:=Bool.eq_false_iff.mpr c8;subst c8;have H1:(some false)=some r:=by rw [if_neg (show ¬ (false=true) by decide)] at H;exact H
      clear H;have H:=H1;clear H1;obtain rfl:=Option.some.inj H;go_enter Try.func23,Try.ntmps23;go_wp2_with (first|((with_reducible refine gate_dst (N:=2) rfl ?_);refine box_event ?hg (N:=2) ?hd (cs:=#[.int .i64 a0_0,.int .i64 a0_1,.bool a0_2,.slice A0_3 l0_3.length c0_3,.bool a0_4,.slice A0_5 l0_5.length c0_5]) (t:=34) ?hr ?_;(case hd=>rfl);(case hg=>rfl);(case hr=>first|(go_simp;done)|(go_simp;rfl));intro gb332 hg w15 hbox hb;have n0_:=zzm (zzp zzh1 hb);have n1_:=zzm (hbox);have n2_:=zzm ((by rw [hg];exact (zzo zzh1):w.heap.size≤gb332));have n3_:=zzm ((by rw [hg];exact (zzo zzh1):w.heap.size≤gb332));clear HB;have HB:=n0_;have BK332:=n1_;have GW332:=n2_;have GE332:=n3_;clear n0_ n1_ n2_ n3_ hb hbox hg)|((with_reducible refine gate_dst (N:=3) rfl ?_);refine box_event ?hg (N:=3) ?hd (cs:=#[.int .i64 a1_0,.int .i64 a1_1,.bool a1_2,.slice A1_3 l1_3.length c1_3,.bool a1_4,.slice A1_5 l1_5.length c1_5]) (t:=34) ?hr ?_;(case hd=>rfl);(case hg=>rfl);(case hr=>first|(go_simp;done)|(go_simp;rfl));intro gb333 hg w16 hbox hb;have n0_:=zzm (zzh (g:=gb332) (o:=.cells #[.int .i64 a0_0,.int .i64 a0_1,.bool a0_2,.slice A0_3 l0_3.length c0_3,.bool a0_4,.slice A0_5 l0_5.length c0_5] 34 (0,0)) (zzE BK332.out) hb);have n1_:=zzm (zzp zzh2 hb);have n2_:=zzm (hbox);have n3_:=zzm ((by rw [hg];exact (zzo zzh2):w.heap.size≤gb333));have n4_:=zzm ((by rw [hg];exact (zzo zzh2):w.heap.size≤gb333));have n5_:=zzm ((by rw [hg];exact Nat.ne_of_lt (blk_lt (g:=gb332) (o:=.cells #[.int .i64 a0_0,.int .i64 a0_1,.bool a0_2,.slice A0_3 l0_3.length c0_3,.bool a0_4,.slice A0_5 l0_5.length c0_5] 34 (0,0)) (zzE BK332.out)):gb332≠gb333));have n6_:=zzm ((by rw [hg];exact Nat.ne_of_gt (blk_lt (g:=gb332) (o:=.cells #[.int .i64 a0_0,.int .i64 a0_1,.bool a0_2,.slice A0_3 l0_3.length c0_3,.bool a0_4,.slice A0_5 l0_5.length c0_5] 34 (0,0)) (zzE BK332.out)):gb333≠gb332));clear BK332 HB;have BK332:=n0_;have HB:=n1_;have BK333:=n2_;have GW333:=n3_;have GE333:=n4_;have NB332_333:=n5_;have NB333_332:=n6_;clear n0_ n1_ n2_ n3_ n4_ n5_ n6_ hb hbox hg;have hnb17:=NB332_333.out;have hnc17:=NB333_332.out;obtain ⟨hcz18_0,hcz18_1,hcz18_2,hcz18_3,hcz18_4,hcz18_5,hfz18_0,hfz18_1,hfz18_2,hfz18_3,hfz18_4,hfz18_5⟩:=zzc6 BK332.out;obtain ⟨hcz19_0,hcz19_1,hcz19_2,hcz19_3,hcz19_4,hcz19_5,hfz19_0,hfz19_1,hfz19_2,hfz19_3,hfz19_4,hfz19_5⟩:=zzc6 BK333.out)|(go_at_call 59;(with_reducible refine (laws_sameInts.calls k _ _ l0_3 _ _ l1_3 false _ ?side1 ?side2 ?side3 ?side4 A7.out).mono ?_);(case side1=>repeat (first|exact (Kd.C_below HR0_3.out HB.out)|(with_reducible refine Kd.C_alloc ?_ _)|(with_reducible refine Kd.C_drewN ?_ _)|(with_reducible refine Kd.C_drew ?_)));(case side2=>exact HC0_3.out);(case side3=>repeat (first|exact (Kd.C_below HR1_3.out HB.out)|(with_reducible refine Kd.C_alloc ?_ _)|(with_reducible refine Kd.C_drewN ?_ _)|(with_reducible refine Kd.C_drew ?_)));(case side4=>exact HC1_3.out);rintro e w' ⟨rfl,⟨nd,rfl⟩⟩));go_ret;exact ⟨by first|rfl|(simp [errW_none,errW_some] <;> rfl)|(simp [*,errW_none,errW_some] <;> rfl),by repeat (first|(with_reducible first|exact HB.out|apply zza|apply zzb|apply zzc|refine zzd ?_ GE332.out|refine zzd ?_ GE333.out)|exact HB.out)⟩
    ·
     rw [if_neg c6] at H;have c6b0:(a0_4==a1_4)=false:=by simpa using c6
     (try (have c6b1:decide (a0_4=a1_4)=false:=by simpa using c6))
     (try (have c6b2:(a0_4==a1_4)=false:=by simpa using c6))
     (try (have c6b3:¬ (a0_4=a1_4):=by simpa using c6));clear c6;obtain rfl:=Option.some.inj H;go_enter Try.func23,Try.ntmps23;go_wp2_with (first|((with_reducible refine gate_dst (N:=2) rfl ?_);refine box_event ?hg (N:=2) ?hd (cs:=#[.int .i64 a0_0,.int .i64 a0_1,.bool a0_2,.slice A0_3 l0_3.length c0_3,.bool a0_4,.slice A0_5 l0_5.length c0_5]) (t:=34) ?hr ?_;(case hd=>rfl);(case hg=>rfl);(case hr=>first|(go_simp;done)|(go_simp;rfl));intro gb332 hg w20 hbox hb;have n0_:=zzm (zzp zzh1 hb);have n1_:=zzm (hbox);have n2_:=zzm ((by rw [hg];exact (zzo zzh1):w.heap.size≤gb332));have n3_:=zzm ((by rw [hg];exact (zzo zzh1):w.heap.size≤gb332));clear HB;have HB:=n0_;have BK332:=n1_;have GW332:=n2_;have GE332:=n3_;clear n0_ n1_ n2_ n3_ hb hbox hg)|((with_reducible refine gate_dst (N:=3) rfl ?_);refine box_event ?hg (N:=3) ?hd (cs:=#[.int .i64 a1_0,.int .i64 a1_1,.bool a1_2,.slice A1_3 l1_3.length c1_3,.bool a1_4,.slice A1_5 l1_5.length c1_5]) (t:=34) ?hr ?_;(case hd=>rfl);(case hg=>rfl);(case hr=>first|(go_simp;done)|(go_simp;rfl));intro gb333 hg w21 hbox hb;have n0_:=zzm (zzh (g:=gb332) (o:=.cells #[.int .i64 a0_0,.int .i64 a0_1,.bool a0_2,.slice A0_3 l0_3.length c0_3,.bool a0_4,.slice A0_5 l0_5.length c0_5] 34 (0,0)) (zzE BK332.out) hb);have n1_:=zzm (zzp zzh2 hb);have n2_:=zzm (hbox);have n3_:=zzm ((by rw [hg];exact (zzo zzh2):w.heap.size≤gb333));have n4_:=zzm ((by rw [hg];exact (zzo zzh2):w.heap.size≤gb333));have n5_:=zzm ((by rw [hg];exact Nat.ne_of_lt (blk_lt (g:=gb332) (o:=.cells #[.int .i64 a0_0,.int .i64 a0_1,.bool a0_2,.slice A0_3 l0_3.length c0_3,.bool a0_4,.slice A0_5 l0_5.length c0_5] 34 (0,0)) (zzE BK332.out)):gb332≠gb333));have n6_:=zzm ((by rw [hg];exact Nat.ne_of_gt (blk_lt (g:=gb332) (o:=.cells #[.int .i64 a0_0,.int .i64 a0_1,.bool a0_2,.slice A0_3 l0_3.length c0_3,.bool a0_4,.slice A0_5 l0_5.length c0_5] 34 (0,0)) (zzE BK332.out)):gb333≠gb332));clear BK332 HB;have BK332:=n0_;have HB:=n1_;have BK333:=n2_;have GW333:=n3_;have GE333:=n4_;have NB332_333:=n5_;have NB333_332:=n6_;clear n0_ n1_ n2_ n3_ n4_ n5_ n6_ hb hbox hg;have hnb22:=NB332_333.out;have hnc22:=NB333_332.out;obtain ⟨hcz23_0,hcz23_1,hcz23_2,hcz23_3,hcz23_4,hcz23_5,hfz23_0,hfz23_1,hfz23_2,hfz23_3,hfz23_4,hfz23_5⟩:=zzc6 BK332.out;obtain ⟨hcz24_0,hcz24_1,hcz24_2,hcz24_3,hcz24_4,hcz24_5,hfz24_0,hfz24_1,hfz24_2,hfz24_3,hfz24_4,hfz24_5⟩:=zzc6 BK333.out));go_ret;exact ⟨by first|rfl|(simp [errW_none,errW_some] <;> rfl)|(simp [*,errW_none,errW_some] <;> rfl),by repeat (first|(with_reducible first|exact HB.out|apply zza|apply zzb|apply zzc|refine zzd ?_ GE332.out|refine zzd ?_ GE333.out)|exact HB.out)⟩
   ·
    rw [if_neg c5] at H;have c5b0:(a0_2==a1_2)=false:=by simpa using c5
    (try (have c5b1:decide (a0_2=a1_2)=false:=by simpa using c5))
    (try (have c5b2:(a0_2==a1_2)=false:=by simpa using c5))
    (try (have c5b3:¬ (a0_2=a1_2):=by simpa using c5));clear c5;obtain rfl:=Option.some.inj H;go_enter Try.func23,Try.ntmps23;go_wp2_with (first|((with_reducible refine gate_dst (N:=2) rfl ?_);refine box_event ?hg (N:=2) ?hd (cs:=#[.int .i64 a0_0,.int .i64 a0_1,.bool a0_2,.slice A0_3 l0_3.length c0_3,.bool a0_4,.slice A0_5 l0_5.length c0_5]) (t:=34) ?hr ?_;(case hd=>rfl);(case hg=>rfl);(case hr=>first|(go_simp;done)|(go_simp;rfl));intro gb332 hg w25 hbox hb;have n0_:=zzm (zzp zzh1 hb);have n1_:=zzm (hbox);have n2_:=zzm ((by rw [hg];exact (zzo zzh1):w.heap.size≤gb332));have n3_:=zzm ((by rw [hg];exact (zzo zzh1):w.heap.size≤gb332));clear HB;have HB:=n0_;have BK332:=n1_;have GW332:=n2_;have GE332:=n3_;clear n0_ n1_ n2_ n3_ hb hbox hg)|((with_reducible refine gate_dst (N:=3) rfl ?_);refine box_event ?hg (N:=3) ?hd (cs:=#[.int .i64 a1_0,.int .i64 a1_1,.bool a1_2,.slice A1_3 l1_3.length c1_3,.bool a1_4,.slice A1_5 l1_5.length c1_5]) (t:=34) ?hr ?_;(case hd=>rfl);(case hg=>rfl);(case hr=>first|(go_simp;done)|(go_simp;rfl));intro gb333 hg w26 hbox hb;have n0_:=zzm (zzh (g:=gb332) (o:=.cells #[.int .i64 a0_0,.int .i64 a0_1,.bool a0_2,.slice A0_3 l0_3.length c0_3,.bool a0_4,.slice A0_5 l0_5.length c0_5] 34 (0,0)) (zzE BK332.out) hb);have n1_:=zzm (zzp zzh2 hb);have n2_:=zzm (hbox);have n3_:=zzm ((by rw [hg];exact (zzo zzh2):w.heap.size≤gb333));have n4_:=zzm ((by rw [hg];exact (zzo zzh2):w.heap.size≤gb333));have n5_:=zzm ((by rw [hg];exact Nat.ne_of_lt (blk_lt (g:=gb332) (o:=.cells #[.int .i64 a0_0,.int .i64 a0_1,.bool a0_2,.slice A0_3 l0_3.length c0_3,.bool a0_4,.slice A0_5 l0_5.length c0_5] 34 (0,0)) (zzE BK332.out)):gb332≠gb333));have n6_:=zzm ((by rw [hg];exact Nat.ne_of_gt (blk_lt (g:=gb332) (o:=.cells #[.int .i64 a0_0,.int .i64 a0_1,.bool a0_2,.slice A0_3 l0_3.length c0_3,.bool a0_4,.slice A0_5 l0_5.length c0_5] 34 (0,0)) (zzE BK332.out)):gb333≠gb332));clear BK332 HB;have BK332:=n0_;have HB:=n1_;have BK333:=n2_;have GW333:=n3_;have GE333:=n4_;have NB332_333:=n5_;have NB333_332:=n6_;clear n0_ n1_ n2_ n3_ n4_ n5_ n6_ hb hbox hg;have hnb27:=NB332_333.out;have hnc27:=NB333_332.out;obtain ⟨hcz28_0,hcz28_1,hcz28_2,hcz28_3,hcz28_4,hcz28_5,hfz28_0,hfz28_1,hfz28_2,hfz28_3,hfz28_4,hfz28_5⟩:=zzc6 BK332.out;obtain ⟨hcz29_0,hcz29_1,hcz29_2,hcz29_3,hcz29_4,hcz29_5,hfz29_0,hfz29_1,hfz29_2,hfz29_3,hfz29_4,hfz29_5⟩:=zzc6 BK333.out));go_ret;exact ⟨by first|rfl|(simp [errW_none,errW_some] <;> rfl)|(simp [*,errW_none,errW_some] <;> rfl),by repeat (first|(with_reducible first|exact HB.out|apply zza|apply zzb|apply zzc|refine zzd ?_ GE332.out|refine zzd ?_ GE333.out)|exact HB.out)⟩
  ·
   rw [if_neg c4] at H;have c4b0:(a0_1==a1_1)=false:=beq_eq_false_iff_ne.mpr c4;have c4b1:(a0_1 != a1_1)=true:=bne_iff_ne.mpr c4;obtain rfl:=Option.some.inj H;go_enter Try.func23,Try.ntmps23;go_wp2_with (first|((with_reducible refine gate_dst (N:=2) rfl ?_);refine box_event ?hg (N:=2) ?hd (cs:=#[.int .i64 a0_0,.int .i64 a0_1,.bool a0_2,.slice A0_3 l0_3.length c0_3,.bool a0_4,.slice A0_5 l0_5.length c0_5]) (t:=34) ?hr ?_;(case hd=>rfl);(case hg=>rfl);(case hr=>first|(go_simp;done)|(go_simp;rfl));intro gb332 hg w30 hbox hb;have n0_:=zzm (zzp zzh1 hb);have n1_:=zzm (hbox);have n2_:=zzm ((by rw [hg];exact (zzo zzh1):w.heap.size≤gb332));have n3_:=zzm ((by rw [hg];exact (zzo zzh1):w.heap.size≤gb332));clear HB;have HB:=n0_;have BK332:=n1_;have GW332:=n2_;have GE332:=n3_;clear n0_ n1_ n2_ n3_ hb hbox hg)|((with_reducible refine gate_dst (N:=3) rfl ?_);refine box_event ?hg (N:=3) ?hd (cs:=#[.int .i64 a1_0,.int .i64 a1_1,.bool a1_2,.slice A1_3 l1_3.length c1_3,.bool a1_4,.slice A1_5 l1_5.length c1_5]) (t:=34) ?hr ?_;(case hd=>rfl);(case hg=>rfl);(case hr=>first|(go_simp;done)|(go_simp;rfl));intro gb333 hg w31 hbox hb;have n0_:=zzm (zzh (g:=gb332) (o:=.cells #[.int .i64 a0_0,.int .i64 a0_1,.bool a0_2,.slice A0_3 l0_3.length c0_3,.bool a0_4,.slice A0_5 l0_5.length c0_5] 34 (0,0)) (zzE BK332.out) hb);have n1_:=zzm (zzp zzh2 hb);have n2_:=zzm (hbox);have n3_:=zzm ((by rw [hg];exact (zzo zzh2):w.heap.size≤gb333));have n4_:=zzm ((by rw [hg];exact (zzo zzh2):w.heap.size≤gb333));have n5_:=zzm ((by rw [hg];exact Nat.ne_of_lt (blk_lt (g:=gb332) (o:=.cells #[.int .i64 a0_0,.int .i64 a0_1,.bool a0_2,.slice A0_3 l0_3.length c0_3,.bool a0_4,.slice A0_5 l0_5.length c0_5] 34 (0,0)) (zzE BK332.out)):gb332≠gb333));have n6_:=zzm ((by rw [hg];exact Nat.ne_of_gt (blk_lt (g:=gb332) (o:=.cells #[.int .i64 a0_0,.int .i64 a0_1,.bool a0_2,.slice A0_3 l0_3.length c0_3,.bool a0_4,.slice A0_5 l0_5.length c0_5] 34 (0,0)) (zzE BK332.out)):gb333≠gb332));clear BK332 HB;have BK332:=n0_;have HB:=n1_;have BK333:=n2_;have GW333:=n3_;have GE333:=n4_;have NB332_333:=n5_;have NB333_332:=n6_;clear n0_ n1_ n2_ n3_ n4_ n5_ n6_ hb hbox hg;have hnb32:=NB332_333.out;have hnc32:=NB333_332.out;obtain ⟨hcz33_0,hcz33_1,hcz33_2,hcz33_3,hcz33_4,hcz33_5,hfz33_0,hfz33_1,hfz33_2,hfz33_3,hfz33_4,hfz33_5⟩:=zzc6 BK332.out;obtain ⟨hcz34_0,hcz34_1,hcz34_2,hcz34_3,hcz34_4,hcz34_5,hfz34_0,hfz34_1,hfz34_2,hfz34_3,hfz34_4,hfz34_5⟩:=zzc6 BK333.out));go_ret;exact ⟨by first|rfl|(simp [errW_none,errW_some] <;> rfl)|(simp [*,errW_none,errW_some] <;> rfl),by repeat (first|(with_reducible first|exact HB.out|apply zza|apply zzb|apply zzc|refine zzd ?_ GE332.out|refine zzd ?_ GE333.out)|exact HB.out)⟩
 ·
  rw [if_neg c3] at H;have c3b0:(a0_0==a1_0)=false:=beq_eq_false_iff_ne.mpr c3;have c3b1:(a0_0 != a1_0)=true:=bne_iff_ne.mpr c3;obtain rfl:=Option.some.inj H;go_enter Try.func23,Try.ntmps23;go_wp2_with (first|((with_reducible refine gate_dst (N:=2) rfl ?_);refine box_event ?hg (N:=2) ?hd (cs:=#[.int .i64 a0_0,.int .i64 a0_1,.bool a0_2,.slice A0_3 l0_3.length c0_3,.bool a0_4,.slice A0_5 l0_5.length c0_5]) (t:=34) ?hr ?_;(case hd=>rfl);(case hg=>rfl);(case hr=>first|(go_simp;done)|(go_simp;rfl));intro gb332 hg w35 hbox hb;have n0_:=zzm (zzp zzh1 hb);have n1_:=zzm (hbox);have n2_:=zzm ((by rw [hg];exact (zzo zzh1):w.heap.size≤gb332));have n3_:=zzm ((by rw [hg];exact (zzo zzh1):w.heap.size≤gb332));clear HB;have HB:=n0_;have BK332:=n1_;have GW332:=n2_;have GE332:=n3_;clear n0_ n1_ n2_ n3_ hb hbox hg)|((with_reducible refine gate_dst (N:=3) rfl ?_);refine box_event ?hg (N:=3) ?hd (cs:=#[.int .i64 a1_0,.int .i64 a1_1,.bool a1_2,.slice A1_3 l1_3.length c1_3,.bool a1_4,.slice A1_5 l1_5.length c1_5]) (t:=34) ?hr ?_;(case hd=>rfl);(case hg=>rfl);(case hr=>first|(go_simp;done)|(go_simp;rfl));intro gb333 hg w36 hbox hb;have n0_:=zzm (zzh (g:=gb332) (o:=.cells #[.int .i64 a0_0,.int .i64 a0_1,.bool a0_2,.slice A0_3 l0_3.length c0_3,.bool a0_4,.slice A0_5 l0_5.length c0_5] 34 (0,0)) (zzE BK332.out) hb);have n1_:=zzm (zzp zzh2 hb);have n2_:=zzm (hbox);have n3_:=zzm ((by rw [hg];exact (zzo zzh2):w.heap.size≤gb333));have n4_:=zzm ((by rw [hg];exact (zzo zzh2):w.heap.size≤gb333));have n5_:=zzm ((by rw [hg];exact Nat.ne_of_lt (blk_lt (g:=gb332) (o:=.cells #[.int .i64 a0_0,.int .i64 a0_1,.bool a0_2,.slice A0_3 l0_3.length c0_3,.bool a0_4,.slice A0_5 l0_5.length c0_5] 34 (0,0)) (zzE BK332.out)):gb332≠gb333));have n6_:=zzm ((by rw [hg];exact Nat.ne_of_gt (blk_lt (g:=gb332) (o:=.cells #[.int .i64 a0_0,.int .i64 a0_1,.bool a0_2,.slice A0_3 l0_3.length c0_3,.bool a0_4,.slice A0_5 l0_5.length c0_5] 34 (0,0)) (zzE BK332.out)):gb333≠gb332));clear BK332 HB;have BK332:=n0_;have HB:=n1_;have BK333:=n2_;have GW333:=n3_;have GE333:=n4_;have NB332_333:=n5_;have NB333_332:=n6_;clear n0_ n1_ n2_ n3_ n4_ n5_ n6_ hb hbox hg;have hnb37:=NB332_333.out;have hnc37:=NB333_332.out;obtain ⟨hcz38_0,hcz38_1,hcz38_2,hcz38_3,hcz38_4,hcz38_5,hfz38_0,hfz38_1,hfz38_2,hfz38_3,hfz38_4,hfz38_5⟩:=zzc6 BK332.out;obtain ⟨hcz39_0,hcz39_1,hcz39_2,hcz39_3,hcz39_4,hcz39_5,hfz39_0,hfz39_1,hfz39_2,hfz39_3,hfz39_4,hfz39_5⟩:=zzc6 BK333.out));go_ret;exact ⟨by first|rfl|(simp [errW_none,errW_some] <;> rfl)|(simp [*,errW_none,errW_some] <;> rfl),by repeat (first|(with_reducible first|exact HB.out|apply zza|apply zzb|apply zzc|refine zzd ?_ GE332.out|refine zzd ?_ GE333.out)|exact HB.out)⟩
def laws_sameRecords.l0:Nat→List (S34)→List (S34)→Int→Option (Bool)
 | 0,_,_,_=>none
 | k+1,x0,x1,x5=>if x5 < (x0.length:Int) then (if 0≤x5 then (if x5 < (x1.length:Int) then ((laws_sameRecord.f k ((rd_T34 x0 x5).f0) ((rd_T34 x0 x5).f1) ((rd_T34 x0 x5).f2) ((rd_T34 x0 x5).f3) ((rd_T34 x0 x5).f4) ((rd_T34 x0 x5).f5) ((rd_T34 x1 x5).f0) ((rd_T34 x1 x5).f1) ((rd_T34 x1 x5).f2) ((rd_T34 x1 x5).f3) ((rd_T34 x1 x5).f4) ((rd_T34 x1 x5).f5)).bind fun t338=>(if t338=true then (laws_sameRecords.l0 k x0 x1 (wrap64 (x5+1))) else (some false))) else (none)) else (none)) else (some true)
def laws_sameRecords.f (k:Nat) (l0:List (S34)) (l1:List (S34)):Option (Bool):=if (l0.length:Int)=(l1.length:Int) then (laws_sameRecords.l0 k l0 l1 0) else (some false)
def laws_sameRecords.T6:Bool×List (List Nat×List Nat):=(true,[([],[]),([],[]),([0,1],[0,1]),([2],[2]),([],[]),([],[]),([4,5],[4,5]),([6],[6]),([3,7],[3,7]),([8],[8])])
def laws_sameRecords.B6:List Nat:=[0,0,3,7,0,0,48,112,255,511]
theorem laws_sameRecords.tab6:rtab .any (opsOf Try.f36 6)=laws_sameRecords.T6:=by kernel_rfl
theorem laws_sameRecords.bits6:waitsOk laws_sameRecords.T6.2 laws_sameRecords.B6=true:=by kernel_rfl
set_option maxHeartbeats 8000000 in
set_option maxRecDepth 100000 in
theorem laws_sameRecords.calls (k:Nat) (A0:Option Addr) (c0:Nat) (l0:List (S34)) (A1:Option Addr) (c1:Nat) (l1:List (S34)) (r:Bool) (w:World) (hr0:Kd.C k34 w A0 l0.length l0) (hc0:l0.length≤c0) (hr1:Kd.C k34 w A1 l1.length l1) (hc1:l1.length≤c1) (h:laws_sameRecords.f k l0 l1=some r) :
  Calls Try.prog 36 #[.slice A0 l0.length c0,.slice A1 l1.length c1] w fun e w'=>e = .returned (.bool r)∧Below w.heap.size w w':=by
 have hu34:=Try.underlying34;have HR0:=zzm hr0;have HC0:=zzm hc0;clear hr0 hc0;have HR1:=zzm hr1;have HC1:=zzm hc1;clear hr1 hc1;have HB:=zzm (Below.refl w.heap.size w);have H:(if (l0.length:Int)=(l1.length:Int) then (laws_sameRecords.l0 k l0 l1 0) else (some false))=some r:=h;clear h;by_cases c3:(l0.length:Int)=(l1.length:Int)
 ·
  rw [if_pos c3] at H;have c3b0:((l0.length:Int)==(l1.length:Int))=true:=beq_iff_eq.mpr c3;have c3b1:((l0.length:Int) != (l1.length:Int))=false:=bne_eq_false_iff_eq.mpr c3;have c3b2:(l0.length==l1.length)=true:=by first|simpa using c3|(simp at c3 ⊢;omega)
  clear c3;have H':=zzm H;clear H;go_enter Try.func36,Try.ntmps36;go_wp2;go_loopg [5] k (fun kq v5 w'=>∃ (x5_1:Int),v5 = .int .i64 x5_1∧Aside0 (laws_sameRecords.l0 kq l0 l1 x5_1=some r)∧Aside0 (kq≤k)∧Aside0 (Below w.heap.size w w'))
  case atStart=>exact ⟨(0),(by first|rfl|(simp;done)|(simp [*];done)),H',⟨Nat.le_refl _⟩,⟨zzh1⟩⟩
  case round=>
   clear H';try clear c1
   try clear p2
   try clear c3
   try clear c3b0
   try clear c3b1
   try clear c3b2
   obtain ⟨x5_1,rfl,HA,HK1,HB⟩:=hrel;cases gk with
   | zero=>exact absurd HA.out (by simp [laws_sameRecords.l0])
   | succ k1=>
    have H:=HA.out;clear HA;simp only [laws_sameRecords.l0] at H;by_cases c4:x5_1 < (l0.length:Int)
    ·
     rw [if_pos c4] at H;have c4b0:decide (x5_1 < (l0.length:Int))=true:=decide_eq_true c4;clear c4;by_cases c5 : 0≤x5_1
     ·
      rw [if_pos c5] at H;have c5b0:decide (0≤x5_1)=true:=decide_eq_true c5;clear c5;by_cases c6:x5_1 < (l1.length:Int)
      ·
       rw [if_pos c6] at H;have c6b0:decide (x5_1 < (l1.length:Int))=true:=decide_eq_true c6;clear c6;replace H:=Option.bind_eq_some_iff.mp H;obtain ⟨t338,A70,H⟩:=H;replace H:(if t338=true then (laws_sameRecords.l0 k1 l0 l1 (wrap64 (x5_1+1))) else (some false))=some r:=H;have A7:=zzm A70;clear A70;by_cases c8:t338=true
       ·
        subst c8;have H1:(laws_sameRecords.l0 k1 l0 l1 (wrap64 (x5_1+1)))=some r:=by rw [if_pos rfl] at H;exact H
        clear H;have H:=H1;clear H1;have H':=zzm H;clear H;try go_wp2
        have n0_:=zzm (zzc HB.out);clear HB;have HB:=n0_;clear n0_;have p336 : 0≤(x5_1:Int):=zzt;have q336:x5_1 < (l0.length:Int):=zzt;obtain ⟨ad336,A336_3,c336_3,A336_5,c336_5,e336,hx336_0,hx336_1,hx336_2,hx336_3,hx336_4,hx336_5,hl336_3,hi336_3,hl336_5,hi336_5⟩:=at_T34 HR0.out x5_1 p336 q336;have hw336_5:=hx336_5;have hw336_4:=hx336_4;have hw336_3:=hx336_3;have hw336_2:=hx336_2;have hw336_1:=hx336_1;have hw336_0:=hx336_0;cases e336;replace hx336_0:=zzx HB.out hx336_0;replace hx336_1:=zzx HB.out hx336_1;replace hx336_2:=zzx HB.out hx336_2;replace hx336_3:=zzx HB.out hx336_3;replace hx336_4:=zzx HB.out hx336_4;replace hx336_5:=zzx HB.out hx336_5;have HR336_3:=zzm hi336_3;have HC336_3:=zzm hl336_3;clear hi336_3 hl336_3;have HR336_5:=zzm hi336_5;have HC336_5:=zzm hl336_5;clear hi336_5 hl336_5;replace p336:=eq_true p336;replace q336:=eq_true q336;have p337 : 0≤(x5_1:Int):=zzt;have q337:x5_1 < (l1.length:Int):=zzt;obtain ⟨ad337,A337_3,c337_3,A337_5,c337_5,e337,hx337_0,hx337_1,hx337_2,hx337_3,hx337_4,hx337_5,hl337_3,hi337_3,hl337_5,hi337_5⟩:=at_T34 HR1.out x5_1 p337 q337;have hw337_5:=hx337_5;have hw337_4:=hx337_4;have hw337_3:=hx337_3;have hw337_2:=hx337_2;have hw337_1:=hx337_1;have hw337_0:=hx337_0;cases e337;replace hx337_0:=zzx HB.out hx337_0;replace hx337_1:=zzx HB.out hx337_1;replace hx337_2:=zzx HB.out hx337_2;replace hx337_3:=zzx HB.out hx337_3;replace hx337_4:=zzx HB.out hx337_4;replace hx337_5:=zzx HB.out hx337_5;have HR337_3:=zzm hi337_3;have HC337_3:=zzm hl337_3;clear hi337_3 hl337_3;have HR337_5:=zzm hi337_5;have HC337_5:=zzm hl337_5;clear hi337_5 hl337_5;replace p337:=eq_true p337;replace q337:=eq_true q337;refine start_ (n:=10) (S:=fun w'=>w'.cell? (ad336.add ((x5_1).toNat * 6))=some (.int .i64 ((rd_T34 l0 x5_1).f0))∧w'.cell? ⟨(ad336.add ((x5_1).toNat * 6)).block,(ad336.add ((x5_1).toNat * 6)).off+1,none⟩=some (.int .i64 ((rd_T34 l0 x5_1).f1))∧w'.cell? ⟨(ad336.add ((x5_1).toNat * 6)).block,(ad336.add ((x5_1).toNat * 6)).off+2,none⟩=some (.bool ((rd_T34 l0 x5_1).f2))∧w'.cell? ⟨(ad336.add ((x5_1).toNat * 6)).block,(ad336.add ((x5_1).toNat * 6)).off+3,none⟩=some (.slice A336_3 ((rd_T34 l0 x5_1).f3).length c336_3)∧w'.cell? ⟨(ad336.add ((x5_1).toNat * 6)).block,(ad336.add ((x5_1).toNat * 6)).off+4,none⟩=some (.bool ((rd_T34 l0 x5_1).f4))∧w'.cell? ⟨(ad336.add ((x5_1).toNat * 6)).block,(ad336.add ((x5_1).toNat * 6)).off+5,none⟩=some (.slice A336_5 ((rd_T34 l0 x5_1).f5).length c336_5)∧w'.cell? (ad337.add ((x5_1).toNat * 6))=some (.int .i64 ((rd_T34 l1 x5_1).f0))∧w'.cell? ⟨(ad337.add ((x5_1).toNat * 6)).block,(ad337.add ((x5_1).toNat * 6)).off+1,none⟩=some (.int .i64 ((rd_T34 l1 x5_1).f1))∧w'.cell? ⟨(ad337.add ((x5_1).toNat * 6)).block,(ad337.add ((x5_1).toNat * 6)).off+2,none⟩=some (.bool ((rd_T34 l1 x5_1).f2))∧w'.cell? ⟨(ad337.add ((x5_1).toNat * 6)).block,(ad337.add ((x5_1).toNat * 6)).off+3,none⟩=some (.slice A337_3 ((rd_T34 l1 x5_1).f3).length c337_3)∧w'.cell? ⟨(ad337.add ((x5_1).toNat * 6)).block,(ad337.add ((x5_1).toNat * 6)).off+4,none⟩=some (.bool ((rd_T34 l1 x5_1).f4))∧w'.cell? ⟨(ad337.add ((x5_1).toNat * 6)).block,(ad337.add ((x5_1).toNat * 6)).off+5,none⟩=some (.slice A337_5 ((rd_T34 l1 x5_1).f5).length c337_5)) (ds:=[]) (zzB 10 0) (by kernel_rfl) rfl rfl ⟨(zzx HB.out hw336_0),(zzx HB.out hw336_1),(zzx HB.out hw336_2),(zzx HB.out hw336_3),(zzx HB.out hw336_4),(zzx HB.out hw336_5),(zzx HB.out hw337_0),(zzx HB.out hw337_1),(zzx HB.out hw337_2),(zzx HB.out hw337_3),(zzx HB.out hw337_4),(zzx HB.out hw337_5)⟩ (fun hHeld=>?_);refine with_tabW laws_sameRecords.tab6 laws_sameRecords.bits6 (fun HT_ HW_=>?_);generalize wr.drew=w9 at HB HR336_3 HR336_5 HR337_3 HR337_5 hx336_0 hx336_1 hx336_2 hx336_3 hx336_4 hx336_5 hx337_0 hx337_1 hx337_2 hx337_3 hx337_4 hx337_5 hHeld ⊢;refine pure_ (i:=0) (N:=some 17) (v:=?_) (a':=?_) (zzB 10 1) rfl rfl (zzA2 HT_.out) (fun _ _ _ h=>h) (Or.inl ⟨by rfl,?_⟩) ?_ ?_;rotate_left
        ·
         intro w';go_simp;with_reducible rfl
        rotate_left
        ·
         simp only [Act.put,zzq,zzr,zzs,i64_w,i32_w];rfl
        refine pure_ (i:=1) (N:=some 18) (v:=?_) (a':=?_) (zzB 10 3) rfl rfl (zzA2 HT_.out) (fun _ _ _ h=>h) (Or.inl ⟨by rfl,?_⟩) ?_ ?_;rotate_left
        ·
         intro w';go_simp;with_reducible rfl
        rotate_left
        ·
         simp only [Act.put,zzq,zzr,zzs,i64_w,i32_w];rfl
        refine pure_ (i:=2) (N:=some 19) (v:=?_) (a':=?_) (zzB 10 7) rfl rfl (zzA2 HT_.out) (fun _ _ _ h=>h) (Or.inl ⟨by rfl,?_⟩) ?_ ?_;rotate_left
        ·
         intro w';go_simp;with_reducible rfl
        rotate_left
        ·
         simp only [Act.put,zzq,zzr,zzs,i64_w,i32_w];rfl
        refine pure_ (i:=4) (N:=some 21) (v:=?_) (a':=?_) (zzB 10 23) rfl rfl (zzA2 HT_.out) (fun _ _ _ h=>h) (Or.inl ⟨by rfl,?_⟩) ?_ ?_;rotate_left
        ·
         intro w';go_simp;with_reducible rfl
        rotate_left
        ·
         simp only [Act.put,zzq,zzr,zzs,i64_w,i32_w];rfl
        refine pure_ (i:=5) (N:=some 22) (v:=?_) (a':=?_) (zzB 10 55) rfl rfl (zzA2 HT_.out) (fun _ _ _ h=>h) (Or.inl ⟨by rfl,?_⟩) ?_ ?_;rotate_left
        ·
         intro w';go_simp;with_reducible rfl
        rotate_left
        ·
         simp only [Act.put,zzq,zzr,zzs,i64_w,i32_w];rfl
        refine pure_ (i:=6) (N:=some 23) (v:=?_) (a':=?_) (zzB 10 119) rfl rfl (zzA2 HT_.out) (fun _ _ _ h=>h) (Or.inl ⟨by rfl,?_⟩) ?_ ?_;rotate_left
        ·
         intro w';go_simp;with_reducible rfl
        rotate_left
        ·
         simp only [Act.put,zzq,zzr,zzs,i64_w,i32_w];rfl
        refine take_ (i:=3) (N:=some 20) (v:=?_) (a':=?_) (zzB 10 127) rfl rfl (take_ofW HT_.out HW_.out (by kernel_rfl)) (fun _ _ _ h=>h) (Or.inl ⟨by rfl,?_⟩) hHeld ?_ ?_;rotate_left
        ·
         rintro w' ⟨s0,s1,s2,s3,s4,s5,s6,s7,s8,s9,s10,s11⟩;go_simp;with_reducible rfl
        rotate_left
        ·
         simp only [Act.put,zzq,zzr,zzs,i64_w,i32_w];rfl
        refine take_ (i:=7) (N:=some 24) (v:=?_) (a':=?_) (zzB 10 255) rfl rfl (take_ofW HT_.out HW_.out (by kernel_rfl)) (fun _ _ _ h=>h) (Or.inl ⟨by rfl,?_⟩) hHeld ?_ ?_;rotate_left
        ·
         rintro w' ⟨s0,s1,s2,s3,s4,s5,s6,s7,s8,s9,s10,s11⟩;go_simp;with_reducible rfl
        rotate_left
        ·
         simp only [Act.put,zzq,zzr,zzs,i64_w,i32_w];rfl
        refine one_ (i:=8) (N:=some 25) (zzB 10 511) rfl rfl (one_of HT_.out (by kernel_rfl)) (by decide) (fun K hK=>?_);refine goes_ Try.func23 (by kernel_rfl) rfl #[.agg #[.int .i64 ((rd_T34 l0 x5_1).f0),.int .i64 ((rd_T34 l0 x5_1).f1),.bool ((rd_T34 l0 x5_1).f2),.slice A336_3 ((rd_T34 l0 x5_1).f3).length c336_3,.bool ((rd_T34 l0 x5_1).f4),.slice A336_5 ((rd_T34 l0 x5_1).f5).length c336_5],.agg #[.int .i64 ((rd_T34 l1 x5_1).f0),.int .i64 ((rd_T34 l1 x5_1).f1),.bool ((rd_T34 l1 x5_1).f2),.slice A337_3 ((rd_T34 l1 x5_1).f3).length c337_3,.bool ((rd_T34 l1 x5_1).f4),.slice A337_5 ((rd_T34 l1 x5_1).f5).length c337_5]] (by rfl) rfl rfl zzM2 ?_;with_reducible refine (laws_sameRecord.calls k1 ((rd_T34 l0 x5_1).f0) ((rd_T34 l0 x5_1).f1) ((rd_T34 l0 x5_1).f2) _ _ ((rd_T34 l0 x5_1).f3) ((rd_T34 l0 x5_1).f4) _ _ ((rd_T34 l0 x5_1).f5) ((rd_T34 l1 x5_1).f0) ((rd_T34 l1 x5_1).f1) ((rd_T34 l1 x5_1).f2) _ _ ((rd_T34 l1 x5_1).f3) ((rd_T34 l1 x5_1).f4) _ _ ((rd_T34 l1 x5_1).f5) true _ ?side1 ?side2 ?side3 ?side4 ?side5 ?side6 ?side7 ?side8 A7.out).mono ?_
        (case side1=>repeat (first|exact (Kd.C_below HR336_3.out HB.out)|(with_reducible refine Kd.C_alloc ?_ _)|(with_reducible refine Kd.C_drewN ?_ _)|(with_reducible refine Kd.C_drew ?_)))
        (case side2=>exact HC336_3.out)
        (case side3=>repeat (first|exact (Kd.C_below HR336_5.out HB.out)|(with_reducible refine Kd.C_alloc ?_ _)|(with_reducible refine Kd.C_drewN ?_ _)|(with_reducible refine Kd.C_drew ?_)))
        (case side4=>exact HC336_5.out)
        (case side5=>repeat (first|exact (Kd.C_below HR337_3.out HB.out)|(with_reducible refine Kd.C_alloc ?_ _)|(with_reducible refine Kd.C_drewN ?_ _)|(with_reducible refine Kd.C_drew ?_)))
        (case side6=>exact HC337_3.out)
        (case side7=>repeat (first|exact (Kd.C_below HR337_5.out HB.out)|(with_reducible refine Kd.C_alloc ?_ _)|(with_reducible refine Kd.C_drewN ?_ _)|(with_reducible refine Kd.C_drew ?_)))
        (case side8=>exact HC337_5.out);rintro e w10 ⟨rfl,hb⟩;refine ⟨_,rfl,?_⟩;have n0_:=zzm (zzp zzh1 hb);clear HB;have HB:=n0_;clear n0_
        (try clear hb)
        (try clear hb2)
        (try clear hk)
        (try clear hi);refine hK.out _ _ ⟨(zzx HB.out hw336_0),(zzx HB.out hw336_1),(zzx HB.out hw336_2),(zzx HB.out hw336_3),(zzx HB.out hw336_4),(zzx HB.out hw336_5),(zzx HB.out hw337_0),(zzx HB.out hw337_1),(zzx HB.out hw337_2),(zzx HB.out hw337_3),(zzx HB.out hw337_4),(zzx HB.out hw337_5)⟩ (fun hHeld=>?_);clear hK K;refine norm_ (a':=?_) ?_ ?_;rotate_left
        ·
         show Act.put _ (some 25) _ = _;simp only [Act.put,zzq,zzr,zzs,i64_w,i32_w];rfl
        refine pure_ (i:=9) (N:=some 26) (v:=?_) (a':=?_) (zzB 10 1023) rfl rfl (zzA2 HT_.out) (fun _ _ _ h=>h) (Or.inl ⟨by rfl,?_⟩) ?_ ?_;rotate_left
        ·
         intro w';go_simp;with_reducible rfl
        rotate_left
        ·
         simp only [Act.put,zzq,zzr,zzs,i64_w,i32_w];rfl
        refine done_ (done_of HT_.out (by kernel_rfl)) ?_;try go_wp2
        go_roundg k1
        case measure=>have:=HK1.out;omega
        case rel=>exact ⟨(wrap64 (x5_1+1)),(by first|rfl|(simp;done)|(simp [*];done)),H',⟨by have:=HK1.out;omega⟩,⟨zzh1⟩⟩
       ·
        replace c8:=Bool.eq_false_iff.mpr c8;subst c8;have H1:(some false)=some r:=by rw [if_neg (show ¬ (false=true) by decide)] at H;exact H
        clear H;have H:=H1;clear H1;obtain rfl:=Option.some.inj H;try go_wp2
        have n0_:=zzm (zzc HB.out);clear HB;have HB:=n0_;clear n0_;have p336 : 0≤(x5_1:Int):=zzt;have q336:x5_1 < (l0.length:Int):=zzt;obtain ⟨ad336,A336_3,c336_3,A336_5,c336_5,e336,hx336_0,hx336_1,hx336_2,hx336_3,hx336_4,hx336_5,hl336_3,hi336_3,hl336_5,hi336_5⟩:=at_T34 HR0.out x5_1 p336 q336;have hw336_5:=hx336_5;have hw336_4:=hx336_4;have hw336_3:=hx336_3;have hw336_2:=hx336_2;have hw336_1:=hx336_1;have hw336_0:=hx336_0;cases e336;replace hx336_0:=zzx HB.out hx336_0;replace hx336_1:=zzx HB.out hx336_1;replace hx336_2:=zzx HB.out hx336_2;replace hx336_3:=zzx HB.out hx336_3;replace hx336_4:=zzx HB.out hx336_4;replace hx336_5:=zzx HB.out hx336_5;have HR336_3:=zzm hi336_3;have HC336_3:=zzm hl336_3;clear hi336_3 hl336_3;have HR336_5:=zzm hi336_5;have HC336_5:=zzm hl336_5;clear hi336_5 hl336_5;replace p336:=eq_true p336;replace q336:=eq_true q336;have p337 : 0≤(x5_1:Int):=zzt;have q337:x5_1 < (l1.length:Int):=zzt;obtain ⟨ad337,A337_3,c337_3,A337_5,c337_5,e337,hx337_0,hx337_1,hx337_2,hx337_3,hx337_4,hx337_5,hl337_3,hi337_3,hl337_5,hi337_5⟩:=at_T34 HR1.out x5_1 p337 q337;have hw337_5:=hx337_5;have hw337_4:=hx337_4;have hw337_3:=hx337_3;have hw337_2:=hx337_2;have hw337_1:=hx337_1;have hw337_0:=hx337_0;cases e337;replace hx337_0:=zzx HB.out hx337_0;replace hx337_1:=zzx HB.out hx337_1;replace hx337_2:=zzx HB.out hx337_2;replace hx337_3:=zzx HB.out hx337_3;replace hx337_4:=zzx HB.out hx337_4;replace hx337_5:=zzx HB.out hx337_5;have HR337_3:=zzm hi337_3;have HC337_3:=zzm hl337_3;clear hi337_3 hl337_3;have HR337_5:=zzm hi337_5;have HC337_5:=zzm hl337_5;clear hi337_5 hl337_5;replace p337:=eq_true p337;replace q337:=eq_true q337;refine start_ (n:=10) (S:=fun w'=>w'.cell? (ad336.add ((x5_1).toNat * 6))=some (.int .i64 ((rd_T34 l0 x5_1).f0))∧w'.cell? ⟨(ad336.add ((x5_1).toNat * 6)).block,(ad336.add ((x5_1).toNat * 6)).off+1,none⟩=some (.int .i64 ((rd_T34 l0 x5_1).f1))∧w'.cell? ⟨(ad336.add ((x5_1).toNat * 6)).block,(ad336.add ((x5_1).toNat * 6)).off+2,none⟩=some (.bool ((rd_T34 l0 x5_1).f2))∧w'.cell? ⟨(ad336.add ((x5_1).toNat * 6)).block,(ad336.add ((x5_1).toNat * 6)).off+3,none⟩=some (.slice A336_3 ((rd_T34 l0 x5_1).f3).length c336_3)∧w'.cell? ⟨(ad336.add ((x5_1).toNat * 6)).block,(ad336.add ((x5_1).toNat * 6)).off+4,none⟩=some (.bool ((rd_T34 l0 x5_1).f4))∧w'.cell? ⟨(ad336.add ((x5_1).toNat * 6)).block,(ad336.add ((x5_1).toNat * 6)).off+5,none⟩=some (.slice A336_5 ((rd_T34 l0 x5_1).f5).length c336_5)∧w'.cell? (ad337.add ((x5_1).toNat * 6))=some (.int .i64 ((rd_T34 l1 x5_1).f0))∧w'.cell? ⟨(ad337.add ((x5_1).toNat * 6)).block,(ad337.add ((x5_1).toNat * 6)).off+1,none⟩=some (.int .i64 ((rd_T34 l1 x5_1).f1))∧w'.cell? ⟨(ad337.add ((x5_1).toNat * 6)).block,(ad337.add ((x5_1).toNat * 6)).off+2,none⟩=some (.bool ((rd_T34 l1 x5_1).f2))∧w'.cell? ⟨(ad337.add ((x5_1).toNat * 6)).block,(ad337.add ((x5_1).toNat * 6)).off+3,none⟩=some (.slice A337_3 ((rd_T34 l1 x5_1).f3).length c337_3)∧w'.cell? ⟨(ad337.add ((x5_1).toNat * 6)).block,(ad337.add ((x5_1).toNat * 6)).off+4,none⟩=some (.bool ((rd_T34 l1 x5_1).f4))∧w'.cell? ⟨(ad337.add ((x5_1).toNat * 6)).block,(ad337.add ((x5_1).toNat * 6)).off+5,none⟩=some (.slice A337_5 ((rd_T34 l1 x5_1).f5).length c337_5)) (ds:=[]) (zzB 10 0) (by kernel_rfl) rfl rfl ⟨(zzx HB.out hw336_0),(zzx HB.out hw336_1),(zzx HB.out hw336_2),(zzx HB.out hw336_3),(zzx HB.out hw336_4),(zzx HB.out hw336_5),(zzx HB.out hw337_0),(zzx HB.out hw337_1),(zzx HB.out hw337_2),(zzx HB.out hw337_3),(zzx HB.out hw337_4),(zzx HB.out hw337_5)⟩ (fun hHeld=>?_);refine with_tabW laws_sameRecords.tab6 laws_sameRecords.bits6 (fun HT_ HW_=>?_);generalize wr.drew=w11 at HB HR336_3 HR336_5 HR337_3 HR337_5 hx336_0 hx336_1 hx336_2 hx336_3 hx336_4 hx336_5 hx337_0 hx337_1 hx337_2 hx337_3 hx337_4 hx337_5 hHeld ⊢;refine pure_ (i:=0) (N:=some 17) (v:=?_) (a':=?_) (zzB 10 1) rfl rfl (zzA2 HT_.out) (fun _ _ _ h=>h) (Or.inl ⟨by rfl,?_⟩) ?_ ?_;rotate_left
        ·
         intro w';go_simp;with_reducible rfl
        rotate_left
        ·
         simp only [Act.put,zzq,zzr,zzs,i64_w,i32_w];rfl
        refine pure_ (i:=1) (N:=some 18) (v:=?_) (a':=?_) (zzB 10 3) rfl rfl (zzA2 HT_.out) (fun _ _ _ h=>h) (Or.inl ⟨by rfl,?_⟩) ?_ ?_;rotate_left
        ·
         intro w';go_simp;with_reducible rfl
        rotate_left
        ·
         simp only [Act.put,zzq,zzr,zzs,i64_w,i32_w];rfl
        refine pure_ (i:=2) (N:=some 19) (v:=?_) (a':=?_) (zzB 10 7) rfl rfl (zzA2 HT_.out) (fun _ _ _ h=>h) (Or.inl ⟨by rfl,?_⟩) ?_ ?_;rotate_left
        ·
         intro w';go_simp;with_reducible rfl
        rotate_left
        ·
         simp only [Act.put,zzq,zzr,zzs,i64_w,i32_w];rfl
        refine pure_ (i:=4) (N:=some 21) (v:=?_) (a':=?_) (zzB 10 23) rfl rfl (zzA2 HT_.out) (fun _ _ _ h=>h) (Or.inl ⟨by rfl,?_⟩) ?_ ?_;rotate_left
        ·
         intro w';go_simp;with_reducible rfl
        rotate_left
        ·
         simp only [Act.put,zzq,zzr,zzs,i64_w,i32_w];rfl
        refine pure_ (i:=5) (N:=some 22) (v:=?_) (a':=?_) (zzB 10 55) rfl rfl (zzA2 HT_.out) (fun _ _ _ h=>h) (Or.inl ⟨by rfl,?_⟩) ?_ ?_;rotate_left
        ·
         intro w';go_simp;with_reducible rfl
        rotate_left
        ·
         simp only [Act.put,zzq,zzr,zzs,i64_w,i32_w];rfl
        refine pure_ (i:=6) (N:=some 23) (v:=?_) (a':=?_) (zzB 10 119) rfl rfl (zzA2 HT_.out) (fun _ _ _ h=>h) (Or.inl ⟨by rfl,?_⟩) ?_ ?_;rotate_left
        ·
         intro w';go_simp;with_reducible rfl
        rotate_left
        ·
         simp only [Act.put,zzq,zzr,zzs,i64_w,i32_w];rfl
        refine take_ (i:=3) (N:=some 20) (v:=?_) (a':=?_) (zzB 10 127) rfl rfl (take_ofW HT_.out HW_.out (by kernel_rfl)) (fun _ _ _ h=>h) (Or.inl ⟨by rfl,?_⟩) hHeld ?_ ?_;rotate_left
        ·
         rintro w' ⟨s0,s1,s2,s3,s4,s5,s6,s7,s8,s9,s10,s11⟩;go_simp;with_reducible rfl
        rotate_left
        ·
         simp only [Act.put,zzq,zzr,zzs,i64_w,i32_w];rfl
        refine take_ (i:=7) (N:=some 24) (v:=?_) (a':=?_) (zzB 10 255) rfl rfl (take_ofW HT_.out HW_.out (by kernel_rfl)) (fun _ _ _ h=>h) (Or.inl ⟨by rfl,?_⟩) hHeld ?_ ?_;rotate_left
        ·
         rintro w' ⟨s0,s1,s2,s3,s4,s5,s6,s7,s8,s9,s10,s11⟩;go_simp;with_reducible rfl
        rotate_left
        ·
         simp only [Act.put,zzq,zzr,zzs,i64_w,i32_w];rfl
        refine one_ (i:=8) (N:=some 25) (zzB 10 511) rfl rfl (one_of HT_.out (by kernel_rfl)) (by decide) (fun K hK=>?_);refine goes_ Try.func23 (by kernel_rfl) rfl #[.agg #[.int .i64 ((rd_T34 l0 x5_1).f0),.int .i64 ((rd_T34 l0 x5_1).f1),.bool ((rd_T34 l0 x5_1).f2),.slice A336_3 ((rd_T34 l0 x5_1).f3).length c336_3,.bool ((rd_T34 l0 x5_1).f4),.slice A336_5 ((rd_T34 l0 x5_1).f5).length c336_5],.agg #[.int .i64 ((rd_T34 l1 x5_1).f0),.int .i64 ((rd_T34 l1 x5_1).f1),.bool ((rd_T34 l1 x5_1).f2),.slice A337_3 ((rd_T34 l1 x5_1).f3).length c337_3,.bool ((rd_T34 l1 x5_1).f4),.slice A337_5 ((rd_T34 l1 x5_1).f5).length c337_5]] (by rfl) rfl rfl zzM2 ?_;with_reducible refine (laws_sameRecord.calls k1 ((rd_T34 l0 x5_1).f0) ((rd_T34 l0 x5_1).f1) ((rd_T34 l0 x5_1).f2) _ _ ((rd_T34 l0 x5_1).f3) ((rd_T34 l0 x5_1).f4) _ _ ((rd_T34 l0 x5_1).f5) ((rd_T34 l1 x5_1).f0) ((rd_T34 l1 x5_1).f1) ((rd_T34 l1 x5_1).f2) _ _ ((rd_T34 l1 x5_1).f3) ((rd_T34 l1 x5_1).f4) _ _ ((rd_T34 l1 x5_1).f5) false _ ?side1 ?side2 ?side3 ?side4 ?side5 ?side6 ?side7 ?side8 A7.out).mono ?_
        (case side1=>repeat (first|exact (Kd.C_below HR336_3.out HB.out)|(with_reducible refine Kd.C_alloc ?_ _)|(with_reducible refine Kd.C_drewN ?_ _)|(with_reducible refine Kd.C_drew ?_)))
        (case side2=>exact HC336_3.out)
        (case side3=>repeat (first|exact (Kd.C_below HR336_5.out HB.out)|(with_reducible refine Kd.C_alloc ?_ _)|(with_reducible refine Kd.C_drewN ?_ _)|(with_reducible refine Kd.C_drew ?_)))
        (case side4=>exact HC336_5.out)
        (case side5=>repeat (first|exact (Kd.C_below HR337_3.out HB.out)|(with_reducible refine Kd.C_alloc ?_ _)|(with_reducible refine Kd.C_drewN ?_ _)|(with_reducible refine Kd.C_drew ?_)))
        (case side6=>exact HC337_3.out)
        (case side7=>repeat (first|exact (Kd.C_below HR337_5.out HB.out)|(with_reducible refine Kd.C_alloc ?_ _)|(with_reducible refine Kd.C_drewN ?_ _)|(with_reducible refine Kd.C_drew ?_)))
        (case side8=>exact HC337_5.out);rintro e w12 ⟨rfl,hb⟩;refine ⟨_,rfl,?_⟩;have n0_:=zzm (zzp zzh1 hb);clear HB;have HB:=n0_;clear n0_
        (try clear hb)
        (try clear hb2)
        (try clear hk)
        (try clear hi);refine hK.out _ _ ⟨(zzx HB.out hw336_0),(zzx HB.out hw336_1),(zzx HB.out hw336_2),(zzx HB.out hw336_3),(zzx HB.out hw336_4),(zzx HB.out hw336_5),(zzx HB.out hw337_0),(zzx HB.out hw337_1),(zzx HB.out hw337_2),(zzx HB.out hw337_3),(zzx HB.out hw337_4),(zzx HB.out hw337_5)⟩ (fun hHeld=>?_);clear hK K;refine norm_ (a':=?_) ?_ ?_;rotate_left
        ·
         show Act.put _ (some 25) _ = _;simp only [Act.put,zzq,zzr,zzs,i64_w,i32_w];rfl
        refine pure_ (i:=9) (N:=some 26) (v:=?_) (a':=?_) (zzB 10 1023) rfl rfl (zzA2 HT_.out) (fun _ _ _ h=>h) (Or.inl ⟨by rfl,?_⟩) ?_ ?_;rotate_left
        ·
         intro w';go_simp;with_reducible rfl
        rotate_left
        ·
         simp only [Act.put,zzq,zzr,zzs,i64_w,i32_w];rfl
        refine done_ (done_of HT_.out (by kernel_rfl)) ?_;try go_wp2
        go_ret;exact ⟨by first|rfl|(simp [errW_none,errW_some] <;> rfl)|(simp [*,errW_none,errW_some] <;> rfl),zzh1⟩
      ·
       rw [if_neg c6] at H;exact absurd H (by simp)
     ·
      rw [if_neg c5] at H;exact absurd H (by simp)
    ·
     rw [if_neg c4] at H;have c4b0:decide (x5_1 < (l0.length:Int))=false:=decide_eq_false c4;clear c4;obtain rfl:=Option.some.inj H;go_wp2;go_ret;exact ⟨by first|rfl|(simp [errW_none,errW_some] <;> rfl)|(simp [*,errW_none,errW_some] <;> rfl),zzh1⟩
 ·
  rw [if_neg c3] at H;have c3b0:((l0.length:Int)==(l1.length:Int))=false:=beq_eq_false_iff_ne.mpr c3;have c3b1:((l0.length:Int) != (l1.length:Int))=true:=bne_iff_ne.mpr c3;have c3b2:(l0.length==l1.length)=false:=by first|simpa using c3|(simp at c3 ⊢;omega)
  obtain rfl:=Option.some.inj H;go_enter Try.func36,Try.ntmps36;go_wp2;go_ret;exact ⟨by first|rfl|(simp [errW_none,errW_some] <;> rfl)|(simp [*,errW_none,errW_some] <;> rfl),zzh1⟩
end Go.Proofs.Yticpnjhkdfdkkaa.U
