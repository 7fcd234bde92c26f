/- The law FnExactMarkBatch holds (part 2 of 4; merged by pack2.py). -/
import Derived.Test.YtgfakffkmlejdaaRows
import Derived.JoinedOf
import Derived.Test.YtgfakffkmlejdaaProg
import Derived.RegionTactic
import Derived.Test.YtgfakffkmlejdaaFnExactMarkBatchK0
set_option maxRecDepth 1000000
open List (setIfInBounds_toArray set_cons_zero set_cons_succ map_toArray map_cons map_nil length_drop length_take)
namespace Go.Proofs.YtgfakffkmlejdaaW.PrintWords
open Go.RowKit Go.Proofs.YtgfakffkmlejdaaW.PrintLast
inductive Grew (W : World) : World → Prop
  | refl : Grew W W
  | alloc {V : World} (h : Grew W V) (o : Obj) : Grew W (V.alloc o)
  | drewN {V : World} (h : Grew W V) (n : Nat) : Grew W (V.drewN n)
  | drew {V : World} (h : Grew W V) : Grew W V.drew
theorem zzN {α : Type} {d : Kd α} {e base : Nat} {W W' : World} {ok : Nat → Prop} {v : Value} {xs : List α} (h : Kd.N d e W base ok v xs) (g : Grew W W' := by with_reducible repeat (first | exact Grew.refl | refine Grew.alloc ?_ _ | refine Grew.drewN ?_ _ | refine Grew.drew ?_)) : Kd.N d e W' base ok v xs := by
  induction g with
  | refl => exact h
  | alloc _ _ ih => exact Kd.N_alloc ih _
  | drewN _ _ ih => exact Kd.N_drewN ih _
  | drew _ ih => exact Kd.N_drew ih
theorem zzE {W W' : World} {b : Nat} {o : Obj} (h : W.heap[b]? = some o) (g : Grew W W' := by with_reducible repeat (first | exact Grew.refl | refine Grew.alloc ?_ _ | refine Grew.drewN ?_ _ | refine Grew.drew ?_)) : W'.heap[b]? = some o := by
  induction g with
  | refl => exact h
  | alloc _ _ ih => exact blk_alloc ih _
  | drewN _ _ ih => exact blk_drewN ih _
  | drew _ ih => exact blk_drew ih
theorem zzh2 {w W : World} (h : Below w.heap.size w W := by repeat (first | (with_reducible first | exact HB.out | apply zza | apply zzb | apply zzc | refine zzd ?_ (Aside0.out (by with_reducible assumption))) | exact HB.out)) : Below w.heap.size w W := h
theorem zzJ : (∀ {α : Type} {l : List α} {i : Nat} {a : α}, l.toArray.setIfInBounds i a = (l.set i a).toArray) ∧ (∀ {α : Type} {xs : List α} {a b : α}, (a :: xs).set 0 b = b :: xs) ∧ (∀ {α : Type} {xs : List α} {i : Nat} {a b : α}, (a :: xs).set (i + 1) b = a :: xs.set i b) ∧ (∀ n : Int, IntKind.i64.wrap n = Go.RowKit.wrap64 n) ∧ (∀ n : Int, IntKind.i32.wrap n = Go.RowKit.wrap32 n) ∧ (∀ (a : Act) (d : Tmp) (v : Value), a.put (some d) v = { a with tmps := a.tmps.setIfInBounds d v }) ∧ ∀ (a : Act) (v : Value), a.put none v = a := ⟨zzq, zzr, zzs, i64_w, i32_w, fun _ _ _ => rfl, fun _ _ => rfl⟩
theorem zzH {α β : Type} {o : Option α} {f : α → Option β} {b : β} (h : o.bind f = some b) : ∃ a, o = some a ∧ f a = some b := Option.bind_eq_some_iff.mp h
theorem zzR {α : Sort _} {x y : α} (h : x = y := by first | rfl | (simp [errW_none, errW_some] <;> rfl) | (simp [*, errW_none, errW_some] <;> rfl)) : x = y := h
theorem zzM2 {α : Type} {x y : α} (h : x = y := by (try simp only [List.map_toArray, List.map_cons, List.map_nil]); first | done | rfl | (simp only [List.length_drop, List.length_take]; rfl)) : x = y := h
theorem zzA2 {md : Region.Mode} {ops : Array Oper} {T : Bool × List (List Nat × List Nat)} {l l' : Array Bool} {i : Nat} (hT : rtab md ops = T) (h : anyT T l.toList l'.toList i = true := by kernel_rfl) : anyB md ops l l' i = true := any_of hT h
end Go.Proofs.YtgfakffkmlejdaaW.PrintWords
namespace Go.Proofs.YtgfakffkmlejdaaW.PrintWords
open Go.RowKit Go.Proofs.YtgfakffkmlejdaaW.PrintLast
theorem zzC {α : Type} {d : Kd α} {W W' : World} {A : Option Addr} {n : Nat} {xs : List α} (h : Kd.C d W A n xs) (g : Grew W W' := by with_reducible repeat (first | exact Grew.refl | refine Grew.alloc ?_ _ | refine Grew.drewN ?_ _ | refine Grew.drew ?_)) : Kd.C d W' A n xs := by
  induction g with
  | refl => exact h
  | alloc _ _ ih => exact Kd.C_alloc ih _
  | drewN _ _ ih => exact Kd.C_drewN ih _
  | drew _ ih => exact Kd.C_drew ih
end Go.Proofs.YtgfakffkmlejdaaW.PrintWords
namespace Go.Proofs.YtgfakffkmlejdaaW.PrintWords
open Go.RowKit Go.Proofs.YtgfakffkmlejdaaW.PrintLast
section
variable {P:Program} {md:Region.Mode} {ops:Array Oper} {ds:List Nat} {T:Bool×List (List Nat×List Nat)} {B:List Nat} {Q:Exit→Act→World→Prop} {S:World→Prop} {oi:Oper} {v:Value} {fuel:Nat} {l:Array Bool} {a a':Act} {w:World}
theorem zzP (i N c m:Nat) (HT:Aside0 (rtab md ops=T)) (h:wpAnyLast P md ops Q S ds fuel (zzB c m) a' w) (hi:ops[i]?=some oi:=by exact rfl) (hN:oi.dst=some N:=by exact rfl) (hc:anyT T l.toList (zzB c m).toList i=true:=by kernel_rfl) (hw:Region.wanted oi (yielded ops a.tmps)=true:=by rfl) (hy:∀ w,(execOp a.eval oi).run P w=.ok (.value v) w:=by intro w';go_simp;with_reducible rfl) (ha:a.put (some N) v=a':=by simp only [zzJ];rfl) (hQ:∀ c a w,Q (.panic c) (a.put oi.dst v) w→Q (.panic c) a w:=by exact fun _ _ _ h=>h):wpAnyLast P md ops Q S ds (fuel+1) l a w:=pure_ (zzB c m) hi hN (any_of HT.out hc) hQ (Or.inl ⟨hw,hy⟩) ha h
theorem zzU (i N c m:Nat) (HT:Aside0 (rtab md ops=T)) (h:wpAnyLast P md ops Q S ds fuel (zzB c m) a' w) (hi:ops[i]?=some oi:=by exact rfl) (hN:oi.dst=some N:=by exact rfl) (hc:anyT T l.toList (zzB c m).toList i=true:=by kernel_rfl) (hw:Region.wanted oi (yielded ops a.tmps)=false:=by rfl) (ha:a.put (some N) undef=a':=by simp only [zzJ];rfl) (hQ:∀ c a w,Q (.panic c) (a.put oi.dst undef) w→Q (.panic c) a w:=by exact fun _ _ _ h=>h):wpAnyLast P md ops Q S ds (fuel+1) l a w:=pure_ (zzB c m) hi hN (any_of HT.out hc) hQ (Or.inr ⟨hw,rfl⟩) ha h
theorem zzT (i N c m:Nat) (HT:Aside0 (rtab md ops=T)) (HW:Aside0 (waitsOk T.2 B=true)) (hS:S w) (h:wpAnyLast P md ops Q S ds fuel (zzB c m) a' w) (hi:ops[i]?=some oi:=by exact rfl) (hN:oi.dst=some N:=by exact rfl) (hc:takeW T B ds l.toList (zzB c m).toList i=true:=by kernel_rfl) (hw:Region.wanted oi (yielded ops a.tmps)=true:=by rfl) (hy:∀ w,S w→(execOp a.eval oi).run P w=.ok (.value v) w:=by intro w';(try simp only [and_imp]);intros;go_simp;with_reducible rfl) (ha:a.put (some N) v=a':=by simp only [zzJ];rfl) (hQ:∀ c a w,Q (.panic c) (a.put oi.dst v) w→Q (.panic c) a w:=by exact fun _ _ _ h=>h):wpAnyLast P md ops Q S ds (fuel+1) l a w:=take_ (zzB c m) hi hN (take_ofW HT.out HW.out hc) hQ (Or.inl ⟨hw,hy⟩) hS ha h
theorem zzO (N:Nat) {a0:Act} (h:wpAnyLast P md ops Q S ds fuel l a' w) (e:a=a0.put (some N) v:=by exact rfl) (ha:a0.put (some N) v=a':=by simp only [zzJ];rfl):wpAnyLast P md ops Q S ds fuel l a w:=norm_ (e.trans ha) h
end
theorem zzIt {α:Type} {a b c:α} {i:Decidable (true=true)} (h:(@ite α (true=true) i a b)=c):a=c:=by rw [if_pos rfl] at h;exact h
theorem zzIf {α:Type} {a b c:α} {i:Decidable (false=true)} (h:(@ite α (false=true) i a b)=c):b=c:=by rw [if_neg (fun e=>Bool.noConfusion e)] at h;exact h
theorem zzG {α β:Type} {o:Option α} {f:α→Option β} {b:β} (h:o.bind f=some b):∃ a,Aside0 (o=some a)∧f a=some b:=let ⟨a,x,y⟩:=Option.bind_eq_some_iff.mp h;⟨a,⟨x⟩,y⟩
theorem zzQ {α:Type} [BEq α] [LawfulBEq α] {a b:α} (h:a=b):(a==b)=true∧(a != b)=false:=⟨beq_iff_eq.mpr h,bne_eq_false_iff_eq.mpr h⟩
theorem zzY {α:Type} [BEq α] [LawfulBEq α] {a b:α} (h:¬ a=b):(a==b)=false∧(a != b)=true:=⟨beq_eq_false_iff_ne.mpr h,bne_iff_ne.mpr h⟩
theorem zzh3 {w W:World} (h:Below w.heap.size w W:=by repeat (first|(with_reducible first|exact HB.out|apply zza|apply zzb|apply zzc|refine zzd ?_ (Aside0.out (by with_reducible assumption)))|exact HB.out)):Below w.heap.size w W:=h
theorem zzcb {α:Type} {d:Kd α} {W V W':World} {A:Option Addr} {n:Nat} {xs:List α} (h:Aside0 (Kd.C d W A n xs)) (HB:Aside0 (Below W.heap.size W V)) (g:Grew V W':=by with_reducible repeat (first|exact Grew.refl|refine Grew.alloc ?_ _|refine Grew.drewN ?_ _|refine Grew.drew ?_)):Kd.C d W' A n xs:=zzC (Kd.C_below h.out HB.out) g
end Go.Proofs.YtgfakffkmlejdaaW.PrintWords
namespace Go.Proofs.Ytgfakffkmlejdaa.Head
open Go
theorem make_of (P : Program) (w : List Char) (R : List (List Char)) (h : behindMainWord (wordsSigns P.initOrder.toList) = w :: R) (h1 : (w == "gc".toList || w == "spec".toList) = false) (h2 : (w == "cut".toList) = true) : P.make = some .cut := by
 unfold Program.make
 rw [h]
 simp only [h1,h2,Bool.true_or,if_true,Bool.false_eq_true,if_false]
theorem enter_of (P : Program) (w : List Char) (R : List (List Char)) (h : behindMainWord (wordsSigns P.initOrder.toList) = w :: R) (h2 : stripLifts liftWords (w :: R) = ([], w :: R)) (h3 : ((w :: R).head? == some "cut".toList) = true)
  (h4:P.laysLater=false) (h5:P.bearsReflect=false) (h6:P.doorFits []=true):P.mayEnter=true:=by
 unfold Program.mayEnter
 rw [h]
 simp only [h2,h3,h4,h5,h6,List.contains_nil,Bool.not_false,Bool.and_self,Bool.or_true]
theorem lifts_of (P : Program) (w : List Char) (R : List (List Char)) (h : behindMainWord (wordsSigns P.initOrder.toList) = w :: R) (h2 : stripLifts liftWords (w :: R) = ([], w :: R)) (h3 : ((w :: R).head? == some "carried".toList) = false) : P.liftsFinal = false := by
 unfold Program.liftsFinal Program.headLifts
 rw [h]
 simp only [h2,h3,Bool.false_and,Bool.false_or,List.contains_nil,ite_self]
def chs (l:List Nat):List Char:=l.map Char.ofNat
theorem wordsSigns_word:∀ (w r:List Char),(∀ c∈w,c≠Char.ofNat 32)→wordsSigns (w++Char.ofNat 32::r)=w::wordsSigns r
 | [],r,_=>rfl
 | c::w,r,h=>by
  have ih:=wordsSigns_word w r (fun x hx=>h x (List.mem_cons_of_mem _ hx))
  have hc:c≠Char.ofNat 32:=h c List.mem_cons_self
  rw [List.cons_append,wordsSigns,ih]
  exact hc
def word1:List Nat:=[104,97,114,110,101,115,115]
def word2:List Nat:=[56,51,99,102,98,53,101,57,99,99,97,49,49,52,51,98,56,51,102,48,97,55,98,55,102,56,48,49,101,99,56,102,57,55,102,97,56,51,48,51,101,50,56,100,100,102,52,57,102,55,55,98,99,50,97,55,49,101,102,102,98,48,52,50]
def word3:List Nat:=[99,117,116]
def signs:List Nat:=[97,116,32,108,111,111,112,46,101,120,97,109,112,108,101,47,114,101,99,111,114,100,98,97,116,99,104,101,115,47,108,97,119,115,46,70,110,69,120,97,99,116,77,97,114,107,66,97,116,99,104]
theorem init_is:Try.prog.initOrder=String.ofList (chs word1++Char.ofNat 32::(chs word2++Char.ofNat 32::(chs word3++Char.ofNat 32::chs signs))):=by kernel_rfl
theorem init_words:wordsSigns Try.prog.initOrder.toList=chs word1::chs word2::chs word3::wordsSigns (chs signs):=by
 rw [init_is,String.toList_ofList,wordsSigns_word _ _ (by decide +kernel),wordsSigns_word _ _ (by decide +kernel),wordsSigns_word _ _ (by decide +kernel)]
theorem behind_is:∃ R,behindMainWord (wordsSigns Try.prog.initOrder.toList)=chs word3::R:=by
 rw [init_words]
 generalize wordsSigns (chs signs)=R
 exact ⟨R,by kernel_rfl⟩
theorem strip_is (R:List (List Char)):stripLifts liftWords (chs word3::R)=([],chs word3::R):=by kernel_rfl
theorem make_is:Try.prog.make=some .cut:=by
 obtain ⟨R,h⟩:=behind_is
 exact make_of _ _ R h (by kernel_rfl) (by kernel_rfl)
theorem lays_later:Try.prog.laysLater=false:=by kernel_rfl
theorem bears_reflect:Try.prog.bearsReflect=false:=by kernel_rfl
theorem door_fits:Try.prog.doorFits []=true:=by kernel_rfl
theorem may_enter:Try.prog.mayEnter=true:=by
 obtain ⟨R,h⟩:=behind_is
 exact enter_of _ _ R h (strip_is R) (by kernel_rfl) lays_later bears_reflect door_fits
theorem lifts_final:Try.prog.liftsFinal=false:=by
 obtain ⟨R,h⟩:=behind_is
 exact lifts_of _ _ R h (strip_is R) (by kernel_rfl)
theorem and2 {a b:Bool} (h:a=true) (h2:b=true):(a&&b)=true:=by rw [h,h2];rfl
theorem closed_of (P:Program) (f:FuncId) (fn:Func) (s:ChangeSpec) (c:OpenClaim) (k0:(c.wf (OpenSpec.ofChange s))=true) (k1:(laidOutB P)=true) (k2:(mapsRowed P)=true) (k3:(fn.params.all (P.readableRec ·))=true) (k4:(namedTie P c.named s.vars)=true) (k5:((c.stops == []))=true) (k6:((P.stops == []))=true) (k7:((c.knobs == []))=true) (k8:((P.stopKnobs == []))=true) (k9:((c.inPlace==P.inPlace f))=true) (k10:((c.unfollowed==P.unfollowed f))=true) (k11:((c.recurses==P.recurses f))=true) (k12:((c.named==P.varsNamed f))=true) (k13:((c.maps==(fn.params.toList++s.plain.varTypes P).any (P.mapsRec ·)))=true) (k14:((c.ifaces==(fn.params.toList++s.plain.varTypes P).any (P.ifacesRec ·)))=true) (k15:((c.mapsOut==P.mapsAmong fn.resultTypes.toList))=true) (k16:((c.loops==(fn.params.toList++s.plain.varTypes P).any (P.loopsFrom ·)))=true) (k17:((c.wideKeys==(fn.params.toList++s.plain.varTypes P++fn.resultTypes.toList).any (P.wideKeysFrom ·)))=true) (k18:(s.vars.all (P.varReadable ·))=true) (k19:(fn.resultTypes.all (fun t=>P.readableRec t&&decide (t < P.types.size)))=true) (k20:((c.ifacesOut==fn.resultTypes.toList.any (P.ifacesRec ·)))=true) (k21:((c.loopsOut==fn.resultTypes.toList.any (P.loopsFrom ·)))=true) (k22:((c.plainKeys==P.plainKeys))=true) (k23:(c.shortTexts.isNone)=true) (k24:(P.stopsHeard)=true) (k25:(P.mayEnter)=true) (k26:((c.lifted==P.liftsFinal))=true) (k27:((P.make==some c.make))=true) (k28:((c.kinds==(if c.domain.isEmpty then [] else fn.params.toList.map fun t=>match P.underlying t with|some (.int k)=>some k|_=>none)))=true) (k29:((c.pinned==c.pinnedBy))=true) (k30:((c.veiled==(fn.params.toList++s.plain.varTypes P++fn.resultTypes.toList).any (P.veiledRec ·)))=true) (k31:(c.veiledFits P fn.params.toList (fn.params.toList++s.plain.varTypes P++fn.resultTypes.toList))=true):joinedFacts P f fn s c=true:=by
 unfold joinedFacts
 exact (and2 (and2 (and2 (and2 (and2 (and2 (and2 (and2 (and2 (and2 (and2 (and2 (and2 (and2 (and2 (and2 (and2 (and2 (and2 (and2 (and2 (and2 (and2 (and2 (and2 (and2 (and2 (and2 (and2 (and2 (and2 k0 k1) k2) k3) k4) k5) k6) k7) k8) k9) k10) k11) k12) k13) k14) k15) k16) k17) k18) k19) k20) k21) k22) k23) k24) k25) k26) k27) k28) k29) k30) k31)
end Go.Proofs.Ytgfakffkmlejdaa.Head
namespace Go.Proofs.Ytgfakffkmlejdaa.T
open Go.RowKit Go.Proofs.YtgfakffkmlejdaaW.PrintWords Go.Proofs.YtgfakffkmlejdaaW.PrintLast Go.Proofs.YtgfakffkmlejdaaW.PrintMore

set_option linter.unusedVariables false
set_option linter.unusedSimpArgs false
def errW:Option Int→Value
 | none=>.nilIface
 | some c=>.iface 0 (.int .i64 c)
theorem errW_none:errW none = .nilIface:=rfl
theorem errW_some (c:Int):errW (some c) = .iface 0 (.int .i64 c):=rfl
structure S32 where
 f0:Int
 f1:Int
 f2:Bool
 f3:(List Int)
 f4:Bool
 f5:(List Int)
def z32:S32:=⟨(0:Int),(0:Int),false,([]:List Int),false,([]:List Int)⟩
def k32:Kd S32:=Kd.iso (Kd.pair (Kd.int .i64) (Kd.pair (Kd.int .i64) (Kd.pair Kd.bool (Kd.pair (Kd.slice 3 (Kd.int .i64)) (Kd.pair Kd.bool (Kd.slice 3 (Kd.int .i64))))))) (fun x:S32=>(x.f0,x.f1,x.f2,x.f3,x.f4,x.f5))
theorem k32_open {w:World} {x:S32} {cs:List Value} (h:k32.K w x cs):∃ A3 c3 A5 c5,cs = [.int .i64 x.f0,.int .i64 x.f1,.bool x.f2,.slice A3 x.f3.length c3,.bool x.f4,.slice A5 x.f5.length c5]∧x.f3.length≤c3∧(Kd.int .i64).C w A3 x.f3.length x.f3∧x.f5.length≤c5∧(Kd.int .i64).C w A5 x.f5.length x.f5:=by
 obtain ⟨_,_,rfl,rfl,⟨_,_,rfl,rfl,⟨_,_,rfl,rfl,⟨_,_,rfl,⟨A3,c3,rfl,l3,g3⟩,⟨_,_,rfl,rfl,⟨A5,c5,rfl,l5,g5⟩⟩⟩⟩⟩⟩:=h;exact ⟨A3,c3,A5,c5,rfl,l3,g3,l5,g5⟩
theorem k32_openM {w:World} {base:Nat} {ok:Nat→Prop} {x:S32} {cs:List Value} (h:k32.M w base ok x cs):∃ v3 v5,cs = [.int .i64 x.f0,.int .i64 x.f1,.bool x.f2,v3,.bool x.f4,v5]∧(Kd.int .i64).R 3 w base ok v3 x.f3∧(Kd.int .i64).R 3 w base ok v5 x.f5:=by
 obtain ⟨_,_,rfl,rfl,⟨_,_,rfl,rfl,⟨_,_,rfl,rfl,⟨_,_,rfl,⟨v3,rfl,g3⟩,⟨_,_,rfl,rfl,⟨v5,rfl,g5⟩⟩⟩⟩⟩⟩:=h;exact ⟨v3,v5,rfl,g3,g5⟩
theorem k32_mk (w:World) (x:S32) {A3:Option Addr} {c3:Nat} (l3:x.f3.length≤c3) (g3:(Kd.int .i64).C w A3 x.f3.length x.f3) {A5:Option Addr} {c5:Nat} (l5:x.f5.length≤c5) (g5:(Kd.int .i64).C w A5 x.f5.length x.f5):k32.K w x [.int .i64 x.f0,.int .i64 x.f1,.bool x.f2,.slice A3 x.f3.length c3,.bool x.f4,.slice A5 x.f5.length c5]:=⟨[.int .i64 x.f0],[.int .i64 x.f1,.bool x.f2,.slice A3 x.f3.length c3,.bool x.f4,.slice A5 x.f5.length c5],rfl,rfl,⟨[.int .i64 x.f1],[.bool x.f2,.slice A3 x.f3.length c3,.bool x.f4,.slice A5 x.f5.length c5],rfl,rfl,⟨[.bool x.f2],[.slice A3 x.f3.length c3,.bool x.f4,.slice A5 x.f5.length c5],rfl,rfl,⟨[.slice A3 x.f3.length c3],[.bool x.f4,.slice A5 x.f5.length c5],rfl,⟨A3,c3,rfl,l3,g3⟩,⟨[.bool x.f4],[.slice A5 x.f5.length c5],rfl,rfl,⟨A5,c5,rfl,l5,g5⟩⟩⟩⟩⟩⟩
theorem k32_mkM (w:World) (base:Nat) (ok:Nat→Prop) (x:S32) {v3:Value} (g3:(Kd.int .i64).R 3 w base ok v3 x.f3) {v5:Value} (g5:(Kd.int .i64).R 3 w base ok v5 x.f5):k32.M w base ok x [.int .i64 x.f0,.int .i64 x.f1,.bool x.f2,v3,.bool x.f4,v5]:=⟨[.int .i64 x.f0],[.int .i64 x.f1,.bool x.f2,v3,.bool x.f4,v5],rfl,rfl,⟨[.int .i64 x.f1],[.bool x.f2,v3,.bool x.f4,v5],rfl,rfl,⟨[.bool x.f2],[v3,.bool x.f4,v5],rfl,rfl,⟨[v3],[.bool x.f4,v5],rfl,⟨v3,rfl,g3⟩,⟨[.bool x.f4],[v5],rfl,rfl,⟨v5,rfl,g5⟩⟩⟩⟩⟩⟩
theorem k32_mkF (W:World) (ok:Nat→Prop) (x:S32) {A3:Option Addr} {c3:Nat} (l3:x.f3.length≤c3) (g3:Kd.F (Kd.int .i64) W ok A3 x.f3.length x.f3) {A5:Option Addr} {c5:Nat} (l5:x.f5.length≤c5) (g5:Kd.F (Kd.int .i64) W ok A5 x.f5.length x.f5):Kd.FK k32 W ok x [.int .i64 x.f0,.int .i64 x.f1,.bool x.f2,.slice A3 x.f3.length c3,.bool x.f4,.slice A5 x.f5.length c5]:=fun W2 hW=>k32_mk W2 x l3 (g3 W2 hW) l5 (g5 W2 hW)
def Qa (xs:List S32) (i:Int):S32:=xs.getD i.toNat z32
theorem Qm {w:World} {A:Option Addr} {n:Nat} {xs:List S32} (h:Kd.C k32 w A n xs) (i:Int) (h0 : 0≤i) (h1:i < n):∃ ad A3 c3 A5 c5,A=some ad∧w.cell? (ad.add (i.toNat * 6))=some (.int .i64 (Qa xs i).f0)∧w.cell? ⟨(ad.add (i.toNat * 6)).block,(ad.add (i.toNat * 6)).off+1,none⟩=some (.int .i64 (Qa xs i).f1)∧w.cell? ⟨(ad.add (i.toNat * 6)).block,(ad.add (i.toNat * 6)).off+2,none⟩=some (.bool (Qa xs i).f2)∧w.cell? ⟨(ad.add (i.toNat * 6)).block,(ad.add (i.toNat * 6)).off+3,none⟩=some (.slice A3 (Qa xs i).f3.length c3)∧w.cell? ⟨(ad.add (i.toNat * 6)).block,(ad.add (i.toNat * 6)).off+4,none⟩=some (.bool (Qa xs i).f4)∧w.cell? ⟨(ad.add (i.toNat * 6)).block,(ad.add (i.toNat * 6)).off+5,none⟩=some (.slice A5 (Qa xs i).f5.length c5)∧(Qa xs i).f3.length≤c3∧(Kd.int .i64).C w A3 (Qa xs i).f3.length (Qa xs i).f3∧(Qa xs i).f5.length≤c5∧(Kd.int .i64).C w A5 (Qa xs i).f5.length (Qa xs i).f5:=by
 obtain ⟨ad,c,e,_,hK,hc0⟩:=Kd.C_get h z32 i h0 h1;have hc:∀ j u,c[j]? = some u→w.cell? (ad.add (i.toNat * 6+j))=some u:=hc0;obtain ⟨A3,c3,A5,c5,rfl,l3,g3,l5,g5⟩:=k32_open hK;exact ⟨ad,A3,c3,A5,c5,e,hc 0 _ rfl,by rw [← add_field _ _ 1 (by omega)];exact hc 1 _ rfl,by rw [← add_field _ _ 2 (by omega)];exact hc 2 _ rfl,by rw [← add_field _ _ 3 (by omega)];exact hc 3 _ rfl,by rw [← add_field _ _ 4 (by omega)];exact hc 4 _ rfl,by rw [← add_field _ _ 5 (by omega)];exact hc 5 _ rfl,l3,g3,l5,g5⟩
structure S24 where
 f0:Bool
 f1:Bool
 f2:Int
 f3:Int
 f4:Int
 f5:(List S32)
def k24:Kd S24:=Kd.iso (Kd.pair Kd.bool (Kd.pair Kd.bool (Kd.pair (Kd.int .i64) (Kd.pair (Kd.int .i64) (Kd.pair (Kd.int .i64) (Kd.slice 32 k32)))))) (fun x:S24=>(x.f0,x.f1,x.f2,x.f3,x.f4,x.f5))
end Go.Proofs.Ytgfakffkmlejdaa.T
namespace Go.Proofs.Ytgfakffkmlejdaa.T
open Go.RowKit Go.Proofs.YtgfakffkmlejdaaW.PrintWords Go.Proofs.YtgfakffkmlejdaaW.PrintLast Go.Proofs.YtgfakffkmlejdaaW.PrintMore

set_option linter.unusedVariables false
set_option linter.unusedSimpArgs false
def Qh.f (a0:Int) (a1:Int) (a2:Int):Option (Bool):=if a0 ≥ a1 then (some (decide (a0≤a2))) else (some false)
set_option maxHeartbeats 8000000 in
theorem Qh.calls (a0:Int) (a1:Int) (a2:Int) (r:Bool) (w:World) (h:Qh.f a0 a1 a2=some r) :
  Calls Try.prog 15 #[.int .i64 a0,.int .i64 a1,.int .i64 a2] w fun e w'=>e = .returned (.bool r)∧Drawn0 w w':=by
 have H:(if a0 ≥ a1 then (some (decide (a0≤a2))) else (some false))=some r:=h;clear h;by_cases c4:a0 ≥ a1
 ·
  rw [if_pos c4] at H;have c4b0:decide (a1≤a0)=true:=decide_eq_true c4;clear c4;obtain rfl:=Option.some.inj H;go_enter Try.func15,Try.ntmps15;go_wp2;go_ret;exact ⟨by first|rfl|(simp;done)|(simp [*];done),by repeat (first|exact Drawn0.refl _|apply Drawn0.step)⟩
 ·
  rw [if_neg c4] at H;have c4b0:decide (a1≤a0)=false:=decide_eq_false c4;clear c4;obtain rfl:=Option.some.inj H;go_enter Try.func15,Try.ntmps15;go_wp2;go_ret;exact ⟨by first|rfl|(simp;done)|(simp [*];done),by repeat (first|exact Drawn0.refl _|apply Drawn0.step)⟩
def Qo.l0:Nat→List Int→Int→Option (Bool)
 | 0,_,_=>none
 | k+1,x0,x3=>if x3 < (x0.length:Int) then (if 0≤x3 then ((Qh.f (rd x0 x3) 0 255).bind fun t102=>(if t102=true then (Qo.l0 k x0 (wrap64 (x3+1))) else (some false))) else (none)) else (some true)
def Qo.f (k:Nat) (l0:List Int):Option (Bool):=Qo.l0 k l0 0
set_option maxHeartbeats 8000000 in
theorem Qo.calls (k:Nat) (A0:Option Addr) (c0:Nat) (l0:List Int) (r:Bool) (w:World) (a6:Kd.C (Kd.int .i64) w A0 l0.length l0) (a7:l0.length≤c0) (h:Qo.f k l0=some r) :
  Calls Try.prog 28 #[.slice A0 l0.length c0] w fun e w'=>e = .returned (.bool r)∧Drawn0 w w':=by
 have a8:=zzm a6;have b2:=zzm a7;clear a6 a7;have H:(Qo.l0 k l0 0)=some r:=h;clear h;have H':=zzm H;clear H;go_enter Try.func28,Try.ntmps28;go_wp2;go_loopg [3] k (fun kq v3 w'=>∃ (a0:Int),v3 = .int .i64 a0∧Aside0 (Qo.l0 kq l0 a0=some r)∧Aside0 (kq≤k)∧Drawn0 w w')
 case atStart=>exact ⟨(0),(by first|rfl|(simp;done)|(simp [*];done)),H',⟨Nat.le_refl _⟩,by repeat (first|exact Drawn0.refl _|apply Drawn0.step)⟩
 case round=>
  clear H';obtain ⟨a0,rfl,HA,HK1,⟨m1,rfl⟩⟩:=hrel;cases gk with
  | zero=>exact absurd HA.out (by simp [Qo.l0])
  | succ k1=>
   have H:=HA.out;clear HA;simp only [Qo.l0] at H;by_cases c2:a0 < (l0.length:Int)
   ·
    rw [if_pos c2] at H;have a9:decide (a0 < (l0.length:Int))=true:=decide_eq_true c2;clear c2;by_cases c3 : 0≤a0
    ·
     rw [if_pos c3] at H;have b1:decide (0≤a0)=true:=decide_eq_true c3;clear c3;obtain ⟨b0,A4,H⟩:=zzG H;by_cases c5:b0=true
     ·
      subst c5;replace H:=zzIt H;have H':=zzm H;clear H;have a1 : 0≤(a0:Int):=zzt;have a2:a0 < (l0.length:Int):=zzt;obtain ⟨a5,a3,a4⟩:=Kd.at_int a8.out a0 a1 a2;cases a3;replace a1:=eq_true a1;replace a2:=eq_true a2;go_wp2_with (first|((with_reducible refine gate_callee (f:=15) rfl ?_);refine goesL_ (some 14) rfl rfl Try.func15 (by kernel_rfl) rfl #[.int .i64 (rd l0 a0),.int .i64 0,.int .i64 255] rfl zzM2 ?_;(with_reducible refine (Qh.calls (rd l0 a0) 0 255 true _ A4.out).mono ?_);rintro e w' ⟨rfl,⟨nd,rfl⟩⟩;refine ⟨_,rfl,?_⟩));go_roundg k1
      case measure=>have:=HK1.out;omega
      case rel=>exact ⟨(wrap64 (a0+1)),(by first|rfl|(simp;done)|(simp [*];done)),H',⟨by have:=HK1.out;omega⟩,by repeat (first|exact Drawn0.refl _|apply Drawn0.step)⟩
     ·
      replace c5:=Bool.eq_false_iff.mpr c5;subst c5;replace H:=zzIf H;obtain rfl:=Option.some.inj H;have a1 : 0≤(a0:Int):=zzt;have a2:a0 < (l0.length:Int):=zzt;obtain ⟨a5,a3,a4⟩:=Kd.at_int a8.out a0 a1 a2;cases a3;replace a1:=eq_true a1;replace a2:=eq_true a2;go_wp2_with (first|((with_reducible refine gate_callee (f:=15) rfl ?_);refine goesL_ (some 14) rfl rfl Try.func15 (by kernel_rfl) rfl #[.int .i64 (rd l0 a0),.int .i64 0,.int .i64 255] rfl zzM2 ?_;(with_reducible refine (Qh.calls (rd l0 a0) 0 255 false _ A4.out).mono ?_);rintro e w' ⟨rfl,⟨nd,rfl⟩⟩;refine ⟨_,rfl,?_⟩));go_ret;exact ⟨by first|rfl|(simp;done)|(simp [*];done),by repeat (first|exact Drawn0.refl _|apply Drawn0.step)⟩
    ·
     rw [if_neg c3] at H;exact absurd H (by simp)
   ·
    rw [if_neg c2] at H;have a9:decide (a0 < (l0.length:Int))=false:=decide_eq_false c2;clear c2;obtain rfl:=Option.some.inj H;go_wp2;go_ret;exact ⟨by first|rfl|(simp;done)|(simp [*];done),by repeat (first|exact Drawn0.refl _|apply Drawn0.step)⟩

set_option linter.unusedVariables false
set_option linter.unusedSimpArgs false
def Qx.f (k:Nat) (a0:Bool) (l1:List Int):Option (Bool):=if a0=true then ((Qo.f k l1).bind fun t103=>(if t103=true then (some (decide ((l1.length:Int)≤12))) else (some false))) else (if (l1.length:Int)=0 then ((Qo.f k l1).bind fun t104=>(if t104=true then (some (decide ((l1.length:Int)≤12))) else (some false))) else (some false))
set_option maxHeartbeats 8000000 in
theorem Qx.calls (k:Nat) (a0:Bool) (A1:Option Addr) (c1:Nat) (l1:List Int) (r:Bool) (w:World) (a5:Kd.C (Kd.int .i64) w A1 l1.length l1) (a6:l1.length≤c1) (h:Qx.f k a0 l1=some r) :
  Calls Try.prog 26 #[.bool a0,.slice A1 l1.length c1] w fun e w'=>e = .returned (.bool r)∧Drawn0 w w':=by
 have a3:=zzm a5;have a4:=zzm a6;clear a5 a6;have H:(if a0=true then ((Qo.f k l1).bind fun a1=>(if a1=true then (some (decide ((l1.length:Int)≤12))) else (some false))) else (if (l1.length:Int)=0 then ((Qo.f k l1).bind fun a2=>(if a2=true then (some (decide ((l1.length:Int)≤12))) else (some false))) else (some false)))=some r:=h;clear h;by_cases c3:a0=true
 ·
  subst c3;replace H:=zzIt H;obtain ⟨a1,A4,H⟩:=zzG H;by_cases c5:a1=true
  ·
   subst c5;replace H:=zzIt H;obtain rfl:=Option.some.inj H;go_enter Try.func26,Try.ntmps26;go_wp2_with (first|(go_at_call 28;(with_reducible refine (Qo.calls k _ _ l1 true _ ?side1 ?side2 A4.out).mono ?_);(case side1=>repeat (first|exact a3.out|(with_reducible refine Kd.C_alloc ?_ _)|(with_reducible refine Kd.C_drewN ?_ _)|(with_reducible refine Kd.C_drew ?_)));(case side2=>exact a4.out);rintro e w' ⟨rfl,⟨nd,rfl⟩⟩));go_ret;exact ⟨by first|rfl|(simp;done)|(simp [*];done),by repeat (first|exact Drawn0.refl _|apply Drawn0.step)⟩
  ·
   replace c5:=Bool.eq_false_iff.mpr c5;subst c5;replace H:=zzIf H;obtain rfl:=Option.some.inj H;go_enter Try.func26,Try.ntmps26;go_wp2_with (first|(go_at_call 28;(with_reducible refine (Qo.calls k _ _ l1 false _ ?side1 ?side2 A4.out).mono ?_);(case side1=>repeat (first|exact a3.out|(with_reducible refine Kd.C_alloc ?_ _)|(with_reducible refine Kd.C_drewN ?_ _)|(with_reducible refine Kd.C_drew ?_)));(case side2=>exact a4.out);rintro e w' ⟨rfl,⟨nd,rfl⟩⟩));go_ret;exact ⟨by first|rfl|(simp;done)|(simp [*];done),by repeat (first|exact Drawn0.refl _|apply Drawn0.step)⟩
 ·
  replace c3:=Bool.eq_false_iff.mpr c3;subst c3;replace H:=zzIf H;by_cases c6:(l1.length:Int)=0
  ·
   rw [if_pos c6] at H;obtain ⟨a7,a8⟩:=zzQ c6;clear c6;obtain ⟨a2,A7,H⟩:=zzG H;by_cases c8:a2=true
   ·
    subst c8;replace H:=zzIt H;obtain rfl:=Option.some.inj H;go_enter Try.func26,Try.ntmps26;go_wp2_with (first|(go_at_call 28;(with_reducible refine (Qo.calls k _ _ l1 true _ ?side1 ?side2 A7.out).mono ?_);(case side1=>repeat (first|exact a3.out|(with_reducible refine Kd.C_alloc ?_ _)|(with_reducible refine Kd.C_drewN ?_ _)|(with_reducible refine Kd.C_drew ?_)));(case side2=>exact a4.out);rintro e w' ⟨rfl,⟨nd,rfl⟩⟩));go_ret;exact ⟨by first|rfl|(simp;done)|(simp [*];done),by repeat (first|exact Drawn0.refl _|apply Drawn0.step)⟩
   ·
    replace c8:=Bool.eq_false_iff.mpr c8;subst c8;replace H:=zzIf H;obtain rfl:=Option.some.inj H;go_enter Try.func26,Try.ntmps26;go_wp2_with (first|(go_at_call 28;(with_reducible refine (Qo.calls k _ _ l1 false _ ?side1 ?side2 A7.out).mono ?_);(case side1=>repeat (first|exact a3.out|(with_reducible refine Kd.C_alloc ?_ _)|(with_reducible refine Kd.C_drewN ?_ _)|(with_reducible refine Kd.C_drew ?_)));(case side2=>exact a4.out);rintro e w' ⟨rfl,⟨nd,rfl⟩⟩));go_ret;exact ⟨by first|rfl|(simp;done)|(simp [*];done),by repeat (first|exact Drawn0.refl _|apply Drawn0.step)⟩
  ·
   rw [if_neg c6] at H;obtain ⟨a7,a8⟩:=zzY c6;have a9:¬ (l1 = []):=fun h_=>c6 (by rw [h_];rfl);obtain rfl:=Option.some.inj H;go_enter Try.func26,Try.ntmps26;go_wp2;go_ret;exact ⟨by first|rfl|(simp;done)|(simp [*];done),by repeat (first|exact Drawn0.refl _|apply Drawn0.step)⟩

set_option linter.unusedVariables false
set_option linter.unusedSimpArgs false
def Qt.f (k:Nat) (a0_0:Int) (a0_1:Int) (a0_2:Bool) (l0_3:List Int) (a0_4:Bool) (l0_5:List Int):Option (Bool):=(Qh.f a0_0 0 99999).bind fun t106=>(if t106=true then ((Qh.f a0_1 0 99999).bind fun t107=>(if t107=true then ((Qx.f k a0_2 l0_3).bind fun t108=>(if t108=true then ((Qx.f k a0_4 l0_5).bind fun t109=>(some t109)) else (some false))) else (some false))) else (some false))
set_option maxHeartbeats 8000000 in
theorem Qt.calls (k:Nat) (a0:Int) (a4:Int) (a5:Bool) (b2:Option Addr) (b3:Nat) (a2:List Int) (a7:Bool) (b4:Option Addr) (b5:Nat) (a3:List Int) (r:Bool) (w:World) (c2:Kd.C (Kd.int .i64) w b2 a2.length a2) (c4:a2.length≤b3) (c8:Kd.C (Kd.int .i64) w b4 a3.length a3) (c9:a3.length≤b5) (h:Qt.f k a0 a4 a5 a2 a7 a3=some r) :
  Calls Try.prog 22 #[.agg #[.int .i64 a0,.int .i64 a4,.bool a5,.slice b2 a2.length b3,.bool a7,.slice b4 a3.length b5]] w fun e w'=>e = .returned (.bool r)∧Below w.heap.size w w':=by
 have hu32:=Try.underlying32;have d0:=zzm c2;have d1:=zzm c4;clear c2 c4;have d2:=zzm c8;have d3:=zzm c9;clear c8 c9;have HB:=zzm (Below.refl w.heap.size w);have H:((Qh.f a0 0 99999).bind fun b8=>(if b8=true then ((Qh.f a4 0 99999).bind fun b9=>(if b9=true then ((Qx.f k a5 a2).bind fun c0=>(if c0=true then ((Qx.f k a7 a3).bind fun c1=>(some c1)) else (some false))) else (some false))) else (some false)))=some r:=h;clear h;obtain ⟨b8,A2,H⟩:=zzG H;by_cases c3:b8=true
 ·
  subst c3;replace H:=zzIt H;obtain ⟨b9,A4,H⟩:=zzG H;by_cases c5:b9=true
  ·
   subst c5;replace H:=zzIt H;obtain ⟨c0,A6,H⟩:=zzG H;by_cases c7:c0=true
   ·
    subst c7;replace H:=zzIt H;obtain ⟨c1,A8,H⟩:=zzG H;obtain rfl:=Option.some.inj H;go_enter Try.func22,Try.ntmps22;go_wp2_with (first|((with_reducible refine gate_dst (N:=1) rfl ?_);refine box_event ?hg (N:=1) ?hd (cs:=#[.int .i64 a0,.int .i64 a4,.bool a5,.slice b2 a2.length b3,.bool a7,.slice b4 a3.length b5]) (t:=32) ?hr ?_;(case hd=>rfl);(case hg=>rfl);(case hr=>first|(go_simp;done)|(go_simp;rfl));intro a1 hg w9 hbox hb;have a8:=zzm (zzp zzh1 hb);have a9:=zzm (hbox);have b0:=zzm ((by rw [hg];exact (zzo zzh1):w.heap.size≤a1));have b1:=zzm ((by rw [hg];exact (zzo zzh1):w.heap.size≤a1));clear HB;have HB:=a8;have a6:=a9;have b6:=b0;have b7:=b1;clear a8 a9 b0 b1 hb hbox hg;obtain ⟨d4,d5,d6,d7,d8,d9,e0,e1,e2,e3,e4,e5⟩:=zzc6 a6.out)|((with_reducible refine gate_callee (f:=15) rfl ?_);refine goesL_ (some 5) rfl rfl Try.func15 (by kernel_rfl) rfl #[.int .i64 a0,.int .i64 0,.int .i64 99999] rfl zzM2 ?_;(with_reducible refine (Qh.calls a0 0 99999 true _ A2.out).mono ?_);rintro e w' ⟨rfl,⟨nd,rfl⟩⟩;refine ⟨_,rfl,?_⟩)|(go_at_call 15;(with_reducible refine (Qh.calls a4 0 99999 true _ A4.out).mono ?_);rintro e w' ⟨rfl,⟨nd,rfl⟩⟩)|(go_at_call 26;(with_reducible refine (Qx.calls k a5 _ _ a2 true _ ?side1 ?side2 A6.out).mono ?_);(case side1=>repeat (first|exact (Kd.C_below d0.out zzh2)|(with_reducible refine Kd.C_alloc ?_ _)|(with_reducible refine Kd.C_drewN ?_ _)|(with_reducible refine Kd.C_drew ?_)));(case side2=>exact d1.out);rintro e w' ⟨rfl,⟨nd,rfl⟩⟩)|(go_at_call 26;(with_reducible refine (Qx.calls k a7 _ _ a3 c1 _ ?side1 ?side2 A8.out).mono ?_);(case side1=>repeat (first|exact (Kd.C_below d2.out zzh2)|(with_reducible refine Kd.C_alloc ?_ _)|(with_reducible refine Kd.C_drewN ?_ _)|(with_reducible refine Kd.C_drew ?_)));(case side2=>exact d3.out);rintro e w' ⟨rfl,⟨nd,rfl⟩⟩));go_ret;exact ⟨zzR,zzh3⟩
   ·
    replace c7:=Bool.eq_false_iff.mpr c7;subst c7;replace H:=zzIf H;obtain rfl:=Option.some.inj H;go_enter Try.func22,Try.ntmps22;go_wp2_with (first|((with_reducible refine gate_dst (N:=1) rfl ?_);refine box_event ?hg (N:=1) ?hd (cs:=#[.int .i64 a0,.int .i64 a4,.bool a5,.slice b2 a2.length b3,.bool a7,.slice b4 a3.length b5]) (t:=32) ?hr ?_;(case hd=>rfl);(case hg=>rfl);(case hr=>first|(go_simp;done)|(go_simp;rfl));intro a1 hg k4 hbox hb;have a8:=zzm (zzp zzh1 hb);have a9:=zzm (hbox);have b0:=zzm ((by rw [hg];exact (zzo zzh1):w.heap.size≤a1));have b1:=zzm ((by rw [hg];exact (zzo zzh1):w.heap.size≤a1));clear HB;have HB:=a8;have a6:=a9;have b6:=b0;have b7:=b1;clear a8 a9 b0 b1 hb hbox hg;obtain ⟨e6,e7,e8,e9,g0,g1,g2,g3,g4,g5,g6,g7⟩:=zzc6 a6.out)|((with_reducible refine gate_callee (f:=15) rfl ?_);refine goesL_ (some 5) rfl rfl Try.func15 (by kernel_rfl) rfl #[.int .i64 a0,.int .i64 0,.int .i64 99999] rfl zzM2 ?_;(with_reducible refine (Qh.calls a0 0 99999 true _ A2.out).mono ?_);rintro e w' ⟨rfl,⟨nd,rfl⟩⟩;refine ⟨_,rfl,?_⟩)|(go_at_call 15;(with_reducible refine (Qh.calls a4 0 99999 true _ A4.out).mono ?_);rintro e w' ⟨rfl,⟨nd,rfl⟩⟩)|(go_at_call 26;(with_reducible refine (Qx.calls k a5 _ _ a2 false _ ?side1 ?side2 A6.out).mono ?_);(case side1=>repeat (first|exact (Kd.C_below d0.out zzh2)|(with_reducible refine Kd.C_alloc ?_ _)|(with_reducible refine Kd.C_drewN ?_ _)|(with_reducible refine Kd.C_drew ?_)));(case side2=>exact d1.out);rintro e w' ⟨rfl,⟨nd,rfl⟩⟩));go_ret;exact ⟨zzR,zzh3⟩
  ·
   replace c5:=Bool.eq_false_iff.mpr c5;subst c5;replace H:=zzIf H;obtain rfl:=Option.some.inj H;go_enter Try.func22,Try.ntmps22;go_wp2_with (first|((with_reducible refine gate_dst (N:=1) rfl ?_);refine box_event ?hg (N:=1) ?hd (cs:=#[.int .i64 a0,.int .i64 a4,.bool a5,.slice b2 a2.length b3,.bool a7,.slice b4 a3.length b5]) (t:=32) ?hr ?_;(case hd=>rfl);(case hg=>rfl);(case hr=>first|(go_simp;done)|(go_simp;rfl));intro a1 hg k5 hbox hb;have a8:=zzm (zzp zzh1 hb);have a9:=zzm (hbox);have b0:=zzm ((by rw [hg];exact (zzo zzh1):w.heap.size≤a1));have b1:=zzm ((by rw [hg];exact (zzo zzh1):w.heap.size≤a1));clear HB;have HB:=a8;have a6:=a9;have b6:=b0;have b7:=b1;clear a8 a9 b0 b1 hb hbox hg;obtain ⟨g8,g9,h0,h1,h2,h3,h4,h5,h6,h7,h8,h9⟩:=zzc6 a6.out)|((with_reducible refine gate_callee (f:=15) rfl ?_);refine goesL_ (some 5) rfl rfl Try.func15 (by kernel_rfl) rfl #[.int .i64 a0,.int .i64 0,.int .i64 99999] rfl zzM2 ?_;(with_reducible refine (Qh.calls a0 0 99999 true _ A2.out).mono ?_);rintro e w' ⟨rfl,⟨nd,rfl⟩⟩;refine ⟨_,rfl,?_⟩)|(go_at_call 15;(with_reducible refine (Qh.calls a4 0 99999 false _ A4.out).mono ?_);rintro e w' ⟨rfl,⟨nd,rfl⟩⟩));go_ret;exact ⟨zzR,zzh3⟩
 ·
  replace c3:=Bool.eq_false_iff.mpr c3;subst c3;replace H:=zzIf H;obtain rfl:=Option.some.inj H;go_enter Try.func22,Try.ntmps22;go_wp2_with (first|((with_reducible refine gate_dst (N:=1) rfl ?_);refine box_event ?hg (N:=1) ?hd (cs:=#[.int .i64 a0,.int .i64 a4,.bool a5,.slice b2 a2.length b3,.bool a7,.slice b4 a3.length b5]) (t:=32) ?hr ?_;(case hd=>rfl);(case hg=>rfl);(case hr=>first|(go_simp;done)|(go_simp;rfl));intro a1 hg k6 hbox hb;have a8:=zzm (zzp zzh1 hb);have a9:=zzm (hbox);have b0:=zzm ((by rw [hg];exact (zzo zzh1):w.heap.size≤a1));have b1:=zzm ((by rw [hg];exact (zzo zzh1):w.heap.size≤a1));clear HB;have HB:=a8;have a6:=a9;have b6:=b0;have b7:=b1;clear a8 a9 b0 b1 hb hbox hg;obtain ⟨j2,j3,j4,j5,j6,j7,j8,j9,k0,k1,k2,k3⟩:=zzc6 a6.out)|((with_reducible refine gate_callee (f:=15) rfl ?_);refine goesL_ (some 5) rfl rfl Try.func15 (by kernel_rfl) rfl #[.int .i64 a0,.int .i64 0,.int .i64 99999] rfl zzM2 ?_;(with_reducible refine (Qh.calls a0 0 99999 false _ A2.out).mono ?_);rintro e w' ⟨rfl,⟨nd,rfl⟩⟩;refine ⟨_,rfl,?_⟩));go_ret;exact ⟨zzR,zzh3⟩

set_option linter.unusedVariables false
set_option linter.unusedSimpArgs false
def Qc.l0:Nat→List (S32)→Int→Option (Bool)
 | 0,_,_=>none
 | k+1,x0,x3=>if x3 < (x0.length:Int) then (if 0≤x3 then ((Qt.f k ((Qa x0 x3).f0) ((Qa x0 x3).f1) ((Qa x0 x3).f2) ((Qa x0 x3).f3) ((Qa x0 x3).f4) ((Qa x0 x3).f5)).bind fun t111=>(if t111=true then (if x3 > 0 then (if 0≤(wrap64 (x3 - 1)) then (if (wrap64 (x3 - 1)) < (x0.length:Int) then (if ((Qa x0 (wrap64 (x3 - 1))).f0) ≥ ((Qa x0 x3).f0) then (some false) else (Qc.l0 k x0 (wrap64 (x3+1)))) else (none)) else (none)) else (Qc.l0 k x0 (wrap64 (x3+1)))) else (some false))) else (none)) else ((Qh.f (x0.length:Int) 1 6).bind fun t114=>(some t114))
def Qc.f (k:Nat) (l0:List (S32)):Option (Bool):=Qc.l0 k l0 0
def Qc.T4:Bool×List (List Nat×List Nat):=(true,[([],[]),([],[]),([0,1],[0,1]),([2],[2]),([3],[3]),([4],[4]),([5,4],[5]),([6],[6]),([7,6],[6,7]),([8,6,6],[6,8]),([9],[9]),([9],[9]),([11,9],[9,11]),([10,12,9],[9,10,12]),([13,9],[9,13]),([14,9],[9,14]),([9],[9]),([9],[9]),([16,17,9],[9,16,17]),([18,9],[9,18]),([19,9],[9,19]),([15,20,9],[9,15,20]),([9,21,6],[6,9,21]),([6,22],[6,22])])
def Qc.B4:List Nat:=[0,0,3,7,15,31,63,127,255,511,1023,1023,3071,8191,16383,32767,1023,1023,197631,459775,984063,2097151,4194303,8388607]
theorem Qc.tab4:rtab .any (opsOf Try.f14 4)=Qc.T4:=by kernel_rfl
theorem Qc.bits4:waitsOk Qc.T4.2 Qc.B4=true:=by kernel_rfl
set_option maxHeartbeats 8000000 in
theorem Qc.calls (k:Nat) (A0:Option Addr) (c0:Nat) (l0:List (S32)) (r:Bool) (w:World) (m5:Kd.C k32 w A0 l0.length l0) (m6:l0.length≤c0) (h:Qc.f k l0=some r) :
  Calls Try.prog 14 #[.slice A0 l0.length c0] w fun e w'=>e = .returned (.bool r)∧Below w.heap.size w w':=by
 have hu32:=Try.underlying32;have k5:=zzm m5;have n5:=zzm m6;clear m5 m6;have HB:=zzm (Below.refl w.heap.size w);have H:(Qc.l0 k l0 0)=some r:=h;clear h;have H':=zzm H;clear H;go_enter Try.func14,Try.ntmps14;go_wp2;go_loopg [3] k (fun kq v3 w'=>∃ (a0:Int),v3 = .int .i64 a0∧Aside0 (Qc.l0 kq l0 a0=some r)∧Aside0 (kq≤k)∧Aside0 (Below w.heap.size w w'))
 case atStart=>exact ⟨(0),(by first|rfl|(simp;done)|(simp [*];done)),H',⟨Nat.le_refl _⟩,⟨zzh1⟩⟩
 case round=>
  clear H';try clear c1
  obtain ⟨a0,rfl,HA,HK1,HB⟩:=hrel;cases gk with
  | zero=>exact absurd HA.out (by simp [Qc.l0])
  | succ k1=>
   have H:=HA.out;clear HA;simp only [Qc.l0] at H;by_cases c2:a0 < (l0.length:Int)
   ·
    rw [if_pos c2] at H;have m7:decide (a0 < (l0.length:Int))=true:=decide_eq_true c2;clear c2;by_cases c3 : 0≤a0
    ·
     rw [if_pos c3] at H;have n2:decide (0≤a0)=true:=decide_eq_true c3;clear c3;obtain ⟨m8,A4,H⟩:=zzG H;by_cases c5:m8=true
     ·
      subst c5;replace H:=zzIt H;by_cases c6:a0 > 0
      ·
       rw [if_pos c6] at H;have m9:decide (0 < a0)=true:=decide_eq_true c6;clear c6;obtain ⟨a3,hji7⟩:∃ j_:Int,(wrap64 (a0 - 1))=j_:=⟨_,rfl⟩;replace H:(if 0≤(a3) then (if (a3) < (l0.length:Int) then (if ((Qa l0 (a3)).f0) ≥ ((Qa l0 a0).f0) then (some false) else (Qc.l0 k1 l0 (wrap64 (a0+1)))) else (none)) else (none))=some r:=by first|(rw [hji7] at H;exact H)|(simp only [hji7] at H ⊢;exact H)
       (try rw [hji7] at A4);have hji7w:(IntKind.i64.wrap (a0 - 1))=a3:=(i64_w _).trans hji7;by_cases c8 : 0≤(a3)
       ·
        rw [if_pos c8] at H;have n3:decide (0≤(a3))=true:=decide_eq_true c8;clear c8;by_cases c9:(a3) < (l0.length:Int)
        ·
         rw [if_pos c9] at H;have n4:decide ((a3) < (l0.length:Int))=true:=decide_eq_true c9;clear c9;by_cases l5:((Qa l0 (a3)).f0) ≥ ((Qa l0 a0).f0)
         ·
          rw [if_pos l5] at H;have m4:decide (((Qa l0 a0).f0)≤((Qa l0 (a3)).f0))=true:=decide_eq_true l5;clear l5;obtain rfl:=Option.some.inj H;try go_wp2
          have d1:=zzm (zzc HB.out);clear HB;have HB:=d1;clear d1;have e8 : 0≤(a0:Int):=zzt;have e9:a0 < (l0.length:Int):=zzt;obtain ⟨a1,d2,d3,d4,d5,j5,a4,a5,a6,a7,a8,a9,b1,b2,b3,b4⟩:=Qm k5.out a0 e8 e9;have b5:=a9;have b6:=a8;have b7:=a7;have b8:=a6;have b9:=a5;have c4:=a4;cases j5;replace a4:=zzx HB.out a4;replace a5:=zzx HB.out a5;replace a6:=zzx HB.out a6;replace a7:=zzx HB.out a7;replace a8:=zzx HB.out a8;replace a9:=zzx HB.out a9;have c7:=zzm b2;have g0:=zzm b1;clear b2 b1;have d0:=zzm b4;have g1:=zzm b3;clear b4 b3;replace e8:=eq_true e8;replace e9:=eq_true e9;have j6 : 0≤((a3):Int):=zzt;have j7:(a3) < (l0.length:Int):=zzt;obtain ⟨l6,k6,k7,k8,k9,l8,d6,d7,d8,d9,e0,e1,g2,g3,g4,g5⟩:=Qm k5.out (a3) j6 j7;have g6:=e1;have g7:=e0;have g8:=d9;have g9:=d8;have h0:=d7;have h1:=d6;obtain rfl:a1=l6:=(by injection l8);replace d6:=zzx HB.out d6;replace d7:=zzx HB.out d7;replace d8:=zzx HB.out d8;replace d9:=zzx HB.out d9;replace e0:=zzx HB.out e0;replace e1:=zzx HB.out e1;have k0:=zzm g3;have m0:=zzm g2;clear g3 g2;have k2:=zzm g5;have m1:=zzm g4;clear g5 g4;replace j6:=eq_true j6;replace j7:=eq_true j7;have j8 : 0≤(a0:Int):=zzt;have j9:a0 < (l0.length:Int):=zzt;obtain ⟨l7,l1,l2,l3,l4,l9,e2,e3,e4,e5,e6,e7,h2,h3,h4,h5⟩:=Qm k5.out a0 j8 j9;have h6:=e7;have h7:=e6;have h8:=e5;have h9:=e4;have j2:=e3;have j3:=e2;obtain rfl:a1=l7:=(by injection l9);replace e2:=zzx HB.out e2;replace e3:=zzx HB.out e3;replace e4:=zzx HB.out e4;replace e5:=zzx HB.out e5;replace e6:=zzx HB.out e6;replace e7:=zzx HB.out e7;have k3:=zzm h3;have m2:=zzm h2;clear h3 h2;have k4:=zzm h5;have m3:=zzm h4;clear h5 h4;replace j8:=eq_true j8;replace j9:=eq_true j9;refine start_ (n:=24) (S:=fun w'=>w'.cell? (a1.add ((a0).toNat * 6))=some (.int .i64 ((Qa l0 a0).f0))∧w'.cell? ⟨(a1.add ((a0).toNat * 6)).block,(a1.add ((a0).toNat * 6)).off+1,none⟩=some (.int .i64 ((Qa l0 a0).f1))∧w'.cell? ⟨(a1.add ((a0).toNat * 6)).block,(a1.add ((a0).toNat * 6)).off+2,none⟩=some (.bool ((Qa l0 a0).f2))∧w'.cell? ⟨(a1.add ((a0).toNat * 6)).block,(a1.add ((a0).toNat * 6)).off+3,none⟩=some (.slice d2 ((Qa l0 a0).f3).length d3)∧w'.cell? ⟨(a1.add ((a0).toNat * 6)).block,(a1.add ((a0).toNat * 6)).off+4,none⟩=some (.bool ((Qa l0 a0).f4))∧w'.cell? ⟨(a1.add ((a0).toNat * 6)).block,(a1.add ((a0).toNat * 6)).off+5,none⟩=some (.slice d4 ((Qa l0 a0).f5).length d5)∧w'.cell? (a1.add (((a3)).toNat * 6))=some (.int .i64 ((Qa l0 (a3)).f0))∧w'.cell? ⟨(a1.add (((a3)).toNat * 6)).block,(a1.add (((a3)).toNat * 6)).off+1,none⟩=some (.int .i64 ((Qa l0 (a3)).f1))∧w'.cell? ⟨(a1.add (((a3)).toNat * 6)).block,(a1.add (((a3)).toNat * 6)).off+2,none⟩=some (.bool ((Qa l0 (a3)).f2))∧w'.cell? ⟨(a1.add (((a3)).toNat * 6)).block,(a1.add (((a3)).toNat * 6)).off+3,none⟩=some (.slice k6 ((Qa l0 (a3)).f3).length k7)∧w'.cell? ⟨(a1.add (((a3)).toNat * 6)).block,(a1.add (((a3)).toNat * 6)).off+4,none⟩=some (.bool ((Qa l0 (a3)).f4))∧w'.cell? ⟨(a1.add (((a3)).toNat * 6)).block,(a1.add (((a3)).toNat * 6)).off+5,none⟩=some (.slice k8 ((Qa l0 (a3)).f5).length k9)∧w'.cell? (a1.add ((a0).toNat * 6))=some (.int .i64 ((Qa l0 a0).f0))∧w'.cell? ⟨(a1.add ((a0).toNat * 6)).block,(a1.add ((a0).toNat * 6)).off+1,none⟩=some (.int .i64 ((Qa l0 a0).f1))∧w'.cell? ⟨(a1.add ((a0).toNat * 6)).block,(a1.add ((a0).toNat * 6)).off+2,none⟩=some (.bool ((Qa l0 a0).f2))∧w'.cell? ⟨(a1.add ((a0).toNat * 6)).block,(a1.add ((a0).toNat * 6)).off+3,none⟩=some (.slice l1 ((Qa l0 a0).f3).length l2)∧w'.cell? ⟨(a1.add ((a0).toNat * 6)).block,(a1.add ((a0).toNat * 6)).off+4,none⟩=some (.bool ((Qa l0 a0).f4))∧w'.cell? ⟨(a1.add ((a0).toNat * 6)).block,(a1.add ((a0).toNat * 6)).off+5,none⟩=some (.slice l3 ((Qa l0 a0).f5).length l4)) (ds:=[]) (zzB 24 0) (by kernel_rfl) rfl rfl ⟨(zzx HB.out c4 :),(zzx HB.out b9 :),(zzx HB.out b8 :),(zzx HB.out b7 :),(zzx HB.out b6 :),(zzx HB.out b5 :),(zzx HB.out h1 :),(zzx HB.out h0 :),(zzx HB.out g9 :),(zzx HB.out g8 :),(zzx HB.out g7 :),(zzx HB.out g6 :),(zzx HB.out j3 :),(zzx HB.out j2 :),(zzx HB.out h9 :),(zzx HB.out h8 :),(zzx HB.out h7 :),(zzx HB.out h6 :)⟩ (fun b0=>?_);refine with_tabW Qc.tab4 Qc.bits4 (fun a2 j4=>?_);generalize wr.drew=n6 at HB c7 d0 k0 k2 k3 k4 a4 a5 a6 a7 a8 a9 d6 d7 d8 d9 e0 e1 e2 e3 e4 e5 e6 e7 b0 ⊢;refine zzP 0 10 24 1 a2 ?_
          refine zzP 1 11 24 3 a2 ?_
          refine zzP 2 12 24 7 a2 ?_
          refine zzT 3 13 24 15 a2 j4 b0 ?_
          refine one_ (i:=4) (N:=some 14) (zzB 24 31) rfl rfl (one_of a2.out (by kernel_rfl)) (by decide) (fun K hK=>?_);refine goes_ Try.func22 (by kernel_rfl) rfl #[.agg #[.int .i64 ((Qa l0 a0).f0),.int .i64 ((Qa l0 a0).f1),.bool ((Qa l0 a0).f2),.slice d2 ((Qa l0 a0).f3).length d3,.bool ((Qa l0 a0).f4),.slice d4 ((Qa l0 a0).f5).length d5]] (by rfl) rfl rfl zzM2 ?_;with_reducible refine (Qt.calls k1 ((Qa l0 a0).f0) ((Qa l0 a0).f1) ((Qa l0 a0).f2) _ _ ((Qa l0 a0).f3) ((Qa l0 a0).f4) _ _ ((Qa l0 a0).f5) true _ ?side1 ?side2 ?side3 ?side4 A4.out).mono ?_
          (case side1=>exact zzcb c7 HB)
          (case side2=>exact g0.out)
          (case side3=>exact zzcb d0 HB)
          (case side4=>exact g1.out);rintro e n7 ⟨rfl,hb⟩;refine ⟨_,rfl,?_⟩;have d1:=zzm (zzp zzh1 hb);clear HB;have HB:=d1;clear d1
          (try clear hb)
          (try clear hb2)
          (try clear hk)
          (try clear hi);refine hK.out _ _ ⟨(zzx HB.out c4 :),(zzx HB.out b9 :),(zzx HB.out b8 :),(zzx HB.out b7 :),(zzx HB.out b6 :),(zzx HB.out b5 :),(zzx HB.out h1 :),(zzx HB.out h0 :),(zzx HB.out g9 :),(zzx HB.out g8 :),(zzx HB.out g7 :),(zzx HB.out g6 :),(zzx HB.out j3 :),(zzx HB.out j2 :),(zzx HB.out h9 :),(zzx HB.out h8 :),(zzx HB.out h7 :),(zzx HB.out h6 :)⟩ (fun b0=>?_);clear hK K;refine zzO 14 ?_
          refine zzP 5 15 24 63 a2 ?_
          refine zzP 6 16 24 127 a2 ?_
          refine zzP 7 17 24 255 a2 ?_
          refine zzP 8 18 24 511 a2 ?_
          refine zzP 9 19 24 1023 a2 ?_
          refine zzP 10 20 24 2047 a2 ?_
          refine zzP 11 21 24 4095 a2 ?_
          refine zzP 12 22 24 8191 a2 ?_
          refine zzP 13 23 24 16383 a2 ?_
          refine zzP 14 24 24 32767 a2 ?_
          refine zzP 16 26 24 98303 a2 ?_
          refine zzP 17 27 24 229375 a2 ?_
          refine zzP 18 28 24 491519 a2 ?_
          refine zzP 19 29 24 1015807 a2 ?_
          refine zzT 15 25 24 1048575 a2 j4 b0 ?_
          refine zzT 20 30 24 2097151 a2 j4 b0 ?_
          refine zzP 21 31 24 4194303 a2 ?_
          refine zzP 22 32 24 8388607 a2 ?_
          refine zzP 23 33 24 16777215 a2 ?_
          refine done_ (done_of a2.out (by kernel_rfl)) ?_;try go_wp2
          go_ret;exact ⟨by first|rfl|(simp [errW_none,errW_some] <;> rfl)|(simp only [← hji7];first|rfl|(simp [errW_none,errW_some] <;> rfl))|(simp [*,errW_none,errW_some] <;> rfl),zzh1⟩
         ·
          rw [if_neg l5] at H;have m4:decide (((Qa l0 a0).f0)≤((Qa l0 (a3)).f0))=false:=decide_eq_false l5;clear l5;have H':=zzm H;clear H;try go_wp2
          have d1:=zzm (zzc HB.out);clear HB;have HB:=d1;clear d1;have e8 : 0≤(a0:Int):=zzt;have e9:a0 < (l0.length:Int):=zzt;obtain ⟨a1,d2,d3,d4,d5,j5,a4,a5,a6,a7,a8,a9,b1,b2,b3,b4⟩:=Qm k5.out a0 e8 e9;have b5:=a9;have b6:=a8;have b7:=a7;have b8:=a6;have b9:=a5;have c4:=a4;cases j5;replace a4:=zzx HB.out a4;replace a5:=zzx HB.out a5;replace a6:=zzx HB.out a6;replace a7:=zzx HB.out a7;replace a8:=zzx HB.out a8;replace a9:=zzx HB.out a9;have c7:=zzm b2;have g0:=zzm b1;clear b2 b1;have d0:=zzm b4;have g1:=zzm b3;clear b4 b3;replace e8:=eq_true e8;replace e9:=eq_true e9;have j6 : 0≤((a3):Int):=zzt;have j7:(a3) < (l0.length:Int):=zzt;obtain ⟨l6,k6,k7,k8,k9,l8,d6,d7,d8,d9,e0,e1,g2,g3,g4,g5⟩:=Qm k5.out (a3) j6 j7;have g6:=e1;have g7:=e0;have g8:=d9;have g9:=d8;have h0:=d7;have h1:=d6;obtain rfl:a1=l6:=(by injection l8);replace d6:=zzx HB.out d6;replace d7:=zzx HB.out d7;replace d8:=zzx HB.out d8;replace d9:=zzx HB.out d9;replace e0:=zzx HB.out e0;replace e1:=zzx HB.out e1;have k0:=zzm g3;have m0:=zzm g2;clear g3 g2;have k2:=zzm g5;have m1:=zzm g4;clear g5 g4;replace j6:=eq_true j6;replace j7:=eq_true j7;have j8 : 0≤(a0:Int):=zzt;have j9:a0 < (l0.length:Int):=zzt;obtain ⟨l7,l1,l2,l3,l4,l9,e2,e3,e4,e5,e6,e7,h2,h3,h4,h5⟩:=Qm k5.out a0 j8 j9;have h6:=e7;have h7:=e6;have h8:=e5;have h9:=e4;have j2:=e3;have j3:=e2;obtain rfl:a1=l7:=(by injection l9);replace e2:=zzx HB.out e2;replace e3:=zzx HB.out e3;replace e4:=zzx HB.out e4;replace e5:=zzx HB.out e5;replace e6:=zzx HB.out e6;replace e7:=zzx HB.out e7;have k3:=zzm h3;have m2:=zzm h2;clear h3 h2;have k4:=zzm h5;have m3:=zzm h4;clear h5 h4;replace j8:=eq_true j8;replace j9:=eq_true j9;refine start_ (n:=24) (S:=fun w'=>w'.cell? (a1.add ((a0).toNat * 6))=some (.int .i64 ((Qa l0 a0).f0))∧w'.cell? ⟨(a1.add ((a0).toNat * 6)).block,(a1.add ((a0).toNat * 6)).off+1,none⟩=some (.int .i64 ((Qa l0 a0).f1))∧w'.cell? ⟨(a1.add ((a0).toNat * 6)).block,(a1.add ((a0).toNat * 6)).off+2,none⟩=some (.bool ((Qa l0 a0).f2))∧w'.cell? ⟨(a1.add ((a0).toNat * 6)).block,(a1.add ((a0).toNat * 6)).off+3,none⟩=some (.slice d2 ((Qa l0 a0).f3).length d3)∧w'.cell? ⟨(a1.add ((a0).toNat * 6)).block,(a1.add ((a0).toNat * 6)).off+4,none⟩=some (.bool ((Qa l0 a0).f4))∧w'.cell? ⟨(a1.add ((a0).toNat * 6)).block,(a1.add ((a0).toNat * 6)).off+5,none⟩=some (.slice d4 ((Qa l0 a0).f5).length d5)∧w'.cell? (a1.add (((a3)).toNat * 6))=some (.int .i64 ((Qa l0 (a3)).f0))∧w'.cell? ⟨(a1.add (((a3)).toNat * 6)).block,(a1.add (((a3)).toNat * 6)).off+1,none⟩=some (.int .i64 ((Qa l0 (a3)).f1))∧w'.cell? ⟨(a1.add (((a3)).toNat * 6)).block,(a1.add (((a3)).toNat * 6)).off+2,none⟩=some (.bool ((Qa l0 (a3)).f2))∧w'.cell? ⟨(a1.add (((a3)).toNat * 6)).block,(a1.add (((a3)).toNat * 6)).off+3,none⟩=some (.slice k6 ((Qa l0 (a3)).f3).length k7)∧w'.cell? ⟨(a1.add (((a3)).toNat * 6)).block,(a1.add (((a3)).toNat * 6)).off+4,none⟩=some (.bool ((Qa l0 (a3)).f4))∧w'.cell? ⟨(a1.add (((a3)).toNat * 6)).block,(a1.add (((a3)).toNat * 6)).off+5,none⟩=some (.slice k8 ((Qa l0 (a3)).f5).length k9)∧w'.cell? (a1.add ((a0).toNat * 6))=some (.int .i64 ((Qa l0 a0).f0))∧w'.cell? ⟨(a1.add ((a0).toNat * 6)).block,(a1.add ((a0).toNat * 6)).off+1,none⟩=some (.int .i64 ((Qa l0 a0).f1))∧w'.cell? ⟨(a1.add ((a0).toNat * 6)).block,(a1.add ((a0).toNat * 6)).off+2,none⟩=some (.bool ((Qa l0 a0).f2))∧w'.cell? ⟨(a1.add ((a0).toNat * 6)).block,(a1.add ((a0).toNat * 6)).off+3,none⟩=some (.slice l1 ((Qa l0 a0).f3).length l2)∧w'.cell? ⟨(a1.add ((a0).toNat * 6)).block,(a1.add ((a0).toNat * 6)).off+4,none⟩=some (.bool ((Qa l0 a0).f4))∧w'.cell? ⟨(a1.add ((a0).toNat * 6)).block,(a1.add ((a0).toNat * 6)).off+5,none⟩=some (.slice l3 ((Qa l0 a0).f5).length l4)) (ds:=[]) (zzB 24 0) (by kernel_rfl) rfl rfl ⟨(zzx HB.out c4 :),(zzx HB.out b9 :),(zzx HB.out b8 :),(zzx HB.out b7 :),(zzx HB.out b6 :),(zzx HB.out b5 :),(zzx HB.out h1 :),(zzx HB.out h0 :),(zzx HB.out g9 :),(zzx HB.out g8 :),(zzx HB.out g7 :),(zzx HB.out g6 :),(zzx HB.out j3 :),(zzx HB.out j2 :),(zzx HB.out h9 :),(zzx HB.out h8 :),(zzx HB.out h7 :),(zzx HB.out h6 :)⟩ (fun b0=>?_);refine with_tabW Qc.tab4 Qc.bits4 (fun a2 j4=>?_);generalize wr.drew=n8 at HB c7 d0 k0 k2 k3 k4 a4 a5 a6 a7 a8 a9 d6 d7 d8 d9 e0 e1 e2 e3 e4 e5 e6 e7 b0 ⊢;refine zzP 0 10 24 1 a2 ?_
          refine zzP 1 11 24 3 a2 ?_
          refine zzP 2 12 24 7 a2 ?_
          refine zzT 3 13 24 15 a2 j4 b0 ?_
          refine one_ (i:=4) (N:=some 14) (zzB 24 31) rfl rfl (one_of a2.out (by kernel_rfl)) (by decide) (fun K hK=>?_);refine goes_ Try.func22 (by kernel_rfl) rfl #[.agg #[.int .i64 ((Qa l0 a0).f0),.int .i64 ((Qa l0 a0).f1),.bool ((Qa l0 a0).f2),.slice d2 ((Qa l0 a0).f3).length d3,.bool ((Qa l0 a0).f4),.slice d4 ((Qa l0 a0).f5).length d5]] (by rfl) rfl rfl zzM2 ?_;with_reducible refine (Qt.calls k1 ((Qa l0 a0).f0) ((Qa l0 a0).f1) ((Qa l0 a0).f2) _ _ ((Qa l0 a0).f3) ((Qa l0 a0).f4) _ _ ((Qa l0 a0).f5) true _ ?side1 ?side2 ?side3 ?side4 A4.out).mono ?_
          (case side1=>exact zzcb c7 HB)
          (case side2=>exact g0.out)
          (case side3=>exact zzcb d0 HB)
          (case side4=>exact g1.out);rintro e n9 ⟨rfl,hb⟩;refine ⟨_,rfl,?_⟩;have d1:=zzm (zzp zzh1 hb);clear HB;have HB:=d1;clear d1
          (try clear hb)
          (try clear hb2)
          (try clear hk)
          (try clear hi);refine hK.out _ _ ⟨(zzx HB.out c4 :),(zzx HB.out b9 :),(zzx HB.out b8 :),(zzx HB.out b7 :),(zzx HB.out b6 :),(zzx HB.out b5 :),(zzx HB.out h1 :),(zzx HB.out h0 :),(zzx HB.out g9 :),(zzx HB.out g8 :),(zzx HB.out g7 :),(zzx HB.out g6 :),(zzx HB.out j3 :),(zzx HB.out j2 :),(zzx HB.out h9 :),(zzx HB.out h8 :),(zzx HB.out h7 :),(zzx HB.out h6 :)⟩ (fun b0=>?_);clear hK K;refine zzO 14 ?_
          refine zzP 5 15 24 63 a2 ?_
          refine zzP 6 16 24 127 a2 ?_
          refine zzP 7 17 24 255 a2 ?_
          refine zzP 8 18 24 511 a2 ?_
          refine zzP 9 19 24 1023 a2 ?_
          refine zzP 10 20 24 2047 a2 ?_
          refine zzP 11 21 24 4095 a2 ?_
          refine zzP 12 22 24 8191 a2 ?_
          refine zzP 13 23 24 16383 a2 ?_
          refine zzP 14 24 24 32767 a2 ?_
          refine zzP 16 26 24 98303 a2 ?_
          refine zzP 17 27 24 229375 a2 ?_
          refine zzP 18 28 24 491519 a2 ?_
          refine zzP 19 29 24 1015807 a2 ?_
          refine zzT 15 25 24 1048575 a2 j4 b0 ?_
          refine zzT 20 30 24 2097151 a2 j4 b0 ?_
          refine zzP 21 31 24 4194303 a2 ?_
          refine zzP 22 32 24 8388607 a2 ?_
          refine zzP 23 33 24 16777215 a2 ?_
          refine done_ (done_of a2.out (by kernel_rfl)) ?_;try go_wp2
          go_roundg k1
          case measure=>have:=HK1.out;omega
          case rel=>exact ⟨(wrap64 (a0+1)),(by first|rfl|(simp;done)|(simp [*];done)),H',⟨by have:=HK1.out;omega⟩,⟨zzh1⟩⟩
        ·
         rw [if_neg c9] at H;exact absurd H (by simp)
       ·
        rw [if_neg c8] at H;exact absurd H (by simp)
      ·
       rw [if_neg c6] at H;have m9:decide (0 < a0)=false:=decide_eq_false c6;clear c6;have H':=zzm H;clear H;try go_wp2
       have d1:=zzm (zzc HB.out);clear HB;have HB:=d1;clear d1;have e8 : 0≤(a0:Int):=zzt;have e9:a0 < (l0.length:Int):=zzt;obtain ⟨a1,d2,d3,d4,d5,j5,a4,a5,a6,a7,a8,a9,b1,b2,b3,b4⟩:=Qm k5.out a0 e8 e9;have b5:=a9;have b6:=a8;have b7:=a7;have b8:=a6;have b9:=a5;have c4:=a4;cases j5;replace a4:=zzx HB.out a4;replace a5:=zzx HB.out a5;replace a6:=zzx HB.out a6;replace a7:=zzx HB.out a7;replace a8:=zzx HB.out a8;replace a9:=zzx HB.out a9;have c7:=zzm b2;have g0:=zzm b1;clear b2 b1;have d0:=zzm b4;have g1:=zzm b3;clear b4 b3;replace e8:=eq_true e8;replace e9:=eq_true e9;refine start_ (n:=24) (S:=fun w'=>w'.cell? (a1.add ((a0).toNat * 6))=some (.int .i64 ((Qa l0 a0).f0))∧w'.cell? ⟨(a1.add ((a0).toNat * 6)).block,(a1.add ((a0).toNat * 6)).off+1,none⟩=some (.int .i64 ((Qa l0 a0).f1))∧w'.cell? ⟨(a1.add ((a0).toNat * 6)).block,(a1.add ((a0).toNat * 6)).off+2,none⟩=some (.bool ((Qa l0 a0).f2))∧w'.cell? ⟨(a1.add ((a0).toNat * 6)).block,(a1.add ((a0).toNat * 6)).off+3,none⟩=some (.slice d2 ((Qa l0 a0).f3).length d3)∧w'.cell? ⟨(a1.add ((a0).toNat * 6)).block,(a1.add ((a0).toNat * 6)).off+4,none⟩=some (.bool ((Qa l0 a0).f4))∧w'.cell? ⟨(a1.add ((a0).toNat * 6)).block,(a1.add ((a0).toNat * 6)).off+5,none⟩=some (.slice d4 ((Qa l0 a0).f5).length d5)) (ds:=[]) (zzB 24 0) (by kernel_rfl) rfl rfl ⟨(zzx HB.out c4 :),(zzx HB.out b9 :),(zzx HB.out b8 :),(zzx HB.out b7 :),(zzx HB.out b6 :),(zzx HB.out b5 :)⟩ (fun b0=>?_);refine with_tabW Qc.tab4 Qc.bits4 (fun a2 j4=>?_);generalize wr.drew=o0 at HB c7 d0 a4 a5 a6 a7 a8 a9 b0 ⊢;refine zzP 0 10 24 1 a2 ?_
       refine zzP 1 11 24 3 a2 ?_
       refine zzP 2 12 24 7 a2 ?_
       refine zzT 3 13 24 15 a2 j4 b0 ?_
       refine one_ (i:=4) (N:=some 14) (zzB 24 31) rfl rfl (one_of a2.out (by kernel_rfl)) (by decide) (fun K hK=>?_);refine goes_ Try.func22 (by kernel_rfl) rfl #[.agg #[.int .i64 ((Qa l0 a0).f0),.int .i64 ((Qa l0 a0).f1),.bool ((Qa l0 a0).f2),.slice d2 ((Qa l0 a0).f3).length d3,.bool ((Qa l0 a0).f4),.slice d4 ((Qa l0 a0).f5).length d5]] (by rfl) rfl rfl zzM2 ?_;with_reducible refine (Qt.calls k1 ((Qa l0 a0).f0) ((Qa l0 a0).f1) ((Qa l0 a0).f2) _ _ ((Qa l0 a0).f3) ((Qa l0 a0).f4) _ _ ((Qa l0 a0).f5) true _ ?side1 ?side2 ?side3 ?side4 A4.out).mono ?_
       (case side1=>exact zzcb c7 HB)
       (case side2=>exact g0.out)
       (case side3=>exact zzcb d0 HB)
       (case side4=>exact g1.out);rintro e o1 ⟨rfl,hb⟩;refine ⟨_,rfl,?_⟩;have d1:=zzm (zzp zzh1 hb);clear HB;have HB:=d1;clear d1
       (try clear hb)
       (try clear hb2)
       (try clear hk)
       (try clear hi);refine hK.out _ _ ⟨(zzx HB.out c4 :),(zzx HB.out b9 :),(zzx HB.out b8 :),(zzx HB.out b7 :),(zzx HB.out b6 :),(zzx HB.out b5 :)⟩ (fun b0=>?_);clear hK K;refine zzO 14 ?_
       refine zzP 5 15 24 63 a2 ?_
       refine zzP 6 16 24 127 a2 ?_
       refine zzP 7 17 24 255 a2 ?_
       refine zzP 8 18 24 511 a2 ?_
       refine zzP 9 19 24 1023 a2 ?_
       refine zzU 10 20 24 2047 a2 ?_
       refine zzU 11 21 24 4095 a2 ?_
       refine zzU 12 22 24 8191 a2 ?_
       refine zzU 13 23 24 16383 a2 ?_
       refine zzU 14 24 24 32767 a2 ?_
       refine zzU 15 25 24 65535 a2 ?_
       refine zzU 16 26 24 131071 a2 ?_
       refine zzU 17 27 24 262143 a2 ?_
       refine zzU 18 28 24 524287 a2 ?_
       refine zzU 19 29 24 1048575 a2 ?_
       refine zzU 20 30 24 2097151 a2 ?_
       refine zzU 21 31 24 4194303 a2 ?_
       refine zzP 22 32 24 8388607 a2 ?_
       refine zzP 23 33 24 16777215 a2 ?_
       refine done_ (done_of a2.out (by kernel_rfl)) ?_;try go_wp2
       go_roundg k1
       case measure=>have:=HK1.out;omega
       case rel=>exact ⟨(wrap64 (a0+1)),(by first|rfl|(simp;done)|(simp [*];done)),H',⟨by have:=HK1.out;omega⟩,⟨zzh1⟩⟩
     ·
      replace c5:=Bool.eq_false_iff.mpr c5;subst c5;replace H:=zzIf H;obtain rfl:=Option.some.inj H;try go_wp2
      have d1:=zzm (zzc HB.out);clear HB;have HB:=d1;clear d1;have e8 : 0≤(a0:Int):=zzt;have e9:a0 < (l0.length:Int):=zzt;obtain ⟨a1,d2,d3,d4,d5,j5,a4,a5,a6,a7,a8,a9,b1,b2,b3,b4⟩:=Qm k5.out a0 e8 e9;have b5:=a9;have b6:=a8;have b7:=a7;have b8:=a6;have b9:=a5;have c4:=a4;cases j5;replace a4:=zzx HB.out a4;replace a5:=zzx HB.out a5;replace a6:=zzx HB.out a6;replace a7:=zzx HB.out a7;replace a8:=zzx HB.out a8;replace a9:=zzx HB.out a9;have c7:=zzm b2;have g0:=zzm b1;clear b2 b1;have d0:=zzm b4;have g1:=zzm b3;clear b4 b3;replace e8:=eq_true e8;replace e9:=eq_true e9;refine start_ (n:=24) (S:=fun w'=>w'.cell? (a1.add ((a0).toNat * 6))=some (.int .i64 ((Qa l0 a0).f0))∧w'.cell? ⟨(a1.add ((a0).toNat * 6)).block,(a1.add ((a0).toNat * 6)).off+1,none⟩=some (.int .i64 ((Qa l0 a0).f1))∧w'.cell? ⟨(a1.add ((a0).toNat * 6)).block,(a1.add ((a0).toNat * 6)).off+2,none⟩=some (.bool ((Qa l0 a0).f2))∧w'.cell? ⟨(a1.add ((a0).toNat * 6)).block,(a1.add ((a0).toNat * 6)).off+3,none⟩=some (.slice d2 ((Qa l0 a0).f3).length d3)∧w'.cell? ⟨(a1.add ((a0).toNat * 6)).block,(a1.add ((a0).toNat * 6)).off+4,none⟩=some (.bool ((Qa l0 a0).f4))∧w'.cell? ⟨(a1.add ((a0).toNat * 6)).block,(a1.add ((a0).toNat * 6)).off+5,none⟩=some (.slice d4 ((Qa l0 a0).f5).length d5)) (ds:=[]) (zzB 24 0) (by kernel_rfl) rfl rfl ⟨(zzx HB.out c4 :),(zzx HB.out b9 :),(zzx HB.out b8 :),(zzx HB.out b7 :),(zzx HB.out b6 :),(zzx HB.out b5 :)⟩ (fun b0=>?_);refine with_tabW Qc.tab4 Qc.bits4 (fun a2 j4=>?_);generalize wr.drew=o2 at HB c7 d0 a4 a5 a6 a7 a8 a9 b0 ⊢;refine zzP 0 10 24 1 a2 ?_
      refine zzP 1 11 24 3 a2 ?_
      refine zzP 2 12 24 7 a2 ?_
      refine zzT 3 13 24 15 a2 j4 b0 ?_
      refine one_ (i:=4) (N:=some 14) (zzB 24 31) rfl rfl (one_of a2.out (by kernel_rfl)) (by decide) (fun K hK=>?_);refine goes_ Try.func22 (by kernel_rfl) rfl #[.agg #[.int .i64 ((Qa l0 a0).f0),.int .i64 ((Qa l0 a0).f1),.bool ((Qa l0 a0).f2),.slice d2 ((Qa l0 a0).f3).length d3,.bool ((Qa l0 a0).f4),.slice d4 ((Qa l0 a0).f5).length d5]] (by rfl) rfl rfl zzM2 ?_;with_reducible refine (Qt.calls k1 ((Qa l0 a0).f0) ((Qa l0 a0).f1) ((Qa l0 a0).f2) _ _ ((Qa l0 a0).f3) ((Qa l0 a0).f4) _ _ ((Qa l0 a0).f5) false _ ?side1 ?side2 ?side3 ?side4 A4.out).mono ?_
      (case side1=>exact zzcb c7 HB)
      (case side2=>exact g0.out)
      (case side3=>exact zzcb d0 HB)
      (case side4=>exact g1.out);rintro e o3 ⟨rfl,hb⟩;refine ⟨_,rfl,?_⟩;have d1:=zzm (zzp zzh1 hb);clear HB;have HB:=d1;clear d1
      (try clear hb)
      (try clear hb2)
      (try clear hk)
      (try clear hi);refine hK.out _ _ ⟨(zzx HB.out c4 :),(zzx HB.out b9 :),(zzx HB.out b8 :),(zzx HB.out b7 :),(zzx HB.out b6 :),(zzx HB.out b5 :)⟩ (fun b0=>?_);clear hK K;refine zzO 14 ?_
      refine zzP 5 15 24 63 a2 ?_
      refine zzP 6 16 24 127 a2 ?_
      refine zzU 7 17 24 255 a2 ?_
      refine zzU 8 18 24 511 a2 ?_
      refine zzU 9 19 24 1023 a2 ?_
      refine zzU 10 20 24 2047 a2 ?_
      refine zzU 11 21 24 4095 a2 ?_
      refine zzU 12 22 24 8191 a2 ?_
      refine zzU 13 23 24 16383 a2 ?_
      refine zzU 14 24 24 32767 a2 ?_
      refine zzU 15 25 24 65535 a2 ?_
      refine zzU 16 26 24 131071 a2 ?_
      refine zzU 17 27 24 262143 a2 ?_
      refine zzU 18 28 24 524287 a2 ?_
      refine zzU 19 29 24 1048575 a2 ?_
      refine zzU 20 30 24 2097151 a2 ?_
      refine zzU 21 31 24 4194303 a2 ?_
      refine zzU 22 32 24 8388607 a2 ?_
      refine zzP 23 33 24 16777215 a2 ?_
      refine done_ (done_of a2.out (by kernel_rfl)) ?_;try go_wp2
      go_ret;exact ⟨zzR,zzh1⟩
    ·
     rw [if_neg c3] at H;exact absurd H (by simp)
   ·
    rw [if_neg c2] at H;have m7:decide (a0 < (l0.length:Int))=false:=decide_eq_false c2;clear c2;obtain ⟨n0,n1,H⟩:=zzG H;obtain rfl:=Option.some.inj H;go_wp2_with (first|((with_reducible refine gate_callee (f:=15) rfl ?_);refine goesL_ (some 36) rfl rfl Try.func15 (by kernel_rfl) rfl #[.int .i64 (l0.length:Int),.int .i64 1,.int .i64 6] rfl zzM2 ?_;(with_reducible refine (Qh.calls (l0.length:Int) 1 6 n0 _ n1.out).mono ?_);rintro e w' ⟨rfl,⟨nd,rfl⟩⟩;refine ⟨_,rfl,?_⟩));go_ret;exact ⟨zzR,zzh1⟩

set_option linter.unusedVariables false
set_option linter.unusedSimpArgs false
def Qe.j0:Nat→Bool→Bool→Bool→Int→Int→Int→List (S32)→Option (Bool)
 | 0,_,_,_,_,_,_,_=>none
 | k+1,x24,x116000,x116001,x116002,x116003,x116004,x116005=>if x24=true then (some false) else (if x116002=255 then (if x116003=0 then (if x116004=0 then (some (!x116001)) else (some false)) else (some false)) else (if x116001=true then (some ((x116005.length:Int)==1)) else (some true)))
def Qe.f (k:Nat) (a0_0:Bool) (a0_1:Bool) (a0_2:Int) (a0_3:Int) (a0_4:Int) (l0_5:List (S32)):Option (Bool):=(Qc.f k l0_5).bind fun t116=>(if t116=true then ((Qh.f a0_2 0 255).bind fun t117=>(if t117=true then ((Qh.f a0_3 0 99).bind fun t118=>(if t118=true then ((Qh.f a0_4 0 9999).bind fun t119=>(Qe.j0 k (!t119) a0_0 a0_1 a0_2 a0_3 a0_4 l0_5)) else (Qe.j0 k true a0_0 a0_1 a0_2 a0_3 a0_4 l0_5))) else (Qe.j0 k true a0_0 a0_1 a0_2 a0_3 a0_4 l0_5))) else (Qe.j0 k true a0_0 a0_1 a0_2 a0_3 a0_4 l0_5))
set_option maxHeartbeats 8000000 in
theorem Qe.calls (k:Nat) (a6:Bool) (a5:Bool) (a2:Int) (a3:Int) (a4:Int) (a7:Option Addr) (a8:Nat) (a1:List (S32)) (r:Bool) (w:World) (c3:Kd.C k32 w a7 a1.length a1) (c4:a1.length≤a8) (h:Qe.f k a6 a5 a2 a3 a4 a1=some r) :
  Calls Try.prog 9 #[.agg #[.bool a6,.bool a5,.int .i64 a2,.int .i64 a3,.int .i64 a4,.slice a7 a1.length a8]] w fun e w'=>e = .returned (.bool r)∧Below w.heap.size w w':=by
 have hu24:=Try.underlying24;have b2:=zzm c3;have b3:=zzm c4;clear c3 c4;have HB:=zzm (Below.refl w.heap.size w);have H:((Qc.f k a1).bind fun b9=>(if b9=true then ((Qh.f a2 0 255).bind fun c0=>(if c0=true then ((Qh.f a3 0 99).bind fun c2=>(if c2=true then ((Qh.f a4 0 9999).bind fun b5=>(Qe.j0 k (!b5) a6 a5 a2 a3 a4 a1)) else (Qe.j0 k true a6 a5 a2 a3 a4 a1))) else (Qe.j0 k true a6 a5 a2 a3 a4 a1))) else (Qe.j0 k true a6 a5 a2 a3 a4 a1)))=some r:=h;clear h;have n8:=zzm H;clear H;go_enter Try.func9,Try.ntmps9;go_upto_region 1 with (first|((with_reducible refine gate_dst (N:=1) rfl ?_);(try (refine gate_guard (by rfl) ?_;dsimp only));refine box_event ?hg (N:=1) ?hd (cs:=#[.bool a6,.bool a5,.int .i64 a2,.int .i64 a3,.int .i64 a4,.slice a7 a1.length a8]) (t:=24) ?hr ?_;(case hd=>rfl);(case hg=>rfl);(case hr=>first|(go_simp;done)|(go_simp;rfl));intro b1 hg w3 hbox hb;have a9:=zzm (zzp zzh1 hb);have b0:=zzm (hbox);have o5:=zzm ((by rw [hg];exact (zzo zzh1):w.heap.size≤b1));have o6:=zzm ((by rw [hg];exact (zzo zzh1):w.heap.size≤b1));clear HB;have HB:=a9;have a0:=b0;have w0:=o5;have w1:=o6;clear a9 b0 o5 o6 hb hbox hg))
 (try simp only [Act.put,zzq,zzr,zzs]);go_cut [24] (fun v8 wc=>∃ (kq:Nat) (b4:Bool),v8 = .bool b4∧Aside0 (Qe.j0 kq b4 a6 a5 a2 a3 a4 a1=some r)∧Aside0 (kq≤k)∧Aside0 (wc.heap[b1]? = some (.cells #[.bool a6,.bool a5,.int .i64 a2,.int .i64 a3,.int .i64 a4,(.slice a7 a1.length a8)] 24 (0,0)))∧Aside0 (Below w.heap.size w wc))
 case first=>
  have H:=n8.out;clear n8;obtain ⟨b9,A4,H⟩:=zzG H;by_cases c5:b9=true
  ·
   subst c5;replace H:=zzIt H;obtain ⟨c0,A6,H⟩:=zzG H;by_cases c7:c0=true
   ·
    subst c7;replace H:=zzIt H;obtain ⟨c2,A8,H⟩:=zzG H;by_cases c9:c2=true
    ·
     subst c9;replace H:=zzIt H;obtain ⟨b5,v9,H⟩:=zzG H;have H':=zzm H;clear H;obtain ⟨d1,d2,d3,d4,d5,d6,d7,d8,d9,e0,e1,e2⟩:=zzc6 a0.out;go_wp2_with (first|((with_reducible refine gate_callee (f:=14) rfl ?_);refine goesL_ (some 5) rfl rfl Try.func14 (by kernel_rfl) rfl #[.slice a7 a1.length a8] rfl zzM2 ?_;(with_reducible refine (Qc.calls k _ _ a1 true _ ?side1 ?side2 A4.out).mono ?_);(case side1=>exact zzcb b2 HB);(case side2=>exact b3.out);rintro e w2 ⟨rfl,hb⟩;refine ⟨_,rfl,?_⟩;have a9:=zzm (zzh (g:=b1) (o:=.cells #[.bool a6,.bool a5,.int .i64 a2,.int .i64 a3,.int .i64 a4,.slice a7 a1.length a8] 24 (0,0)) (zzE a0.out) hb);have b0:=zzm (zzp zzh2 hb);clear a0 HB;have a0:=a9;have HB:=b0;clear a9 b0;(try clear hb);(try clear hb2);(try clear hk);(try clear hi);obtain ⟨e3,e4,e5,e6,e7,e8,e9,g0,g1,g2,g3,g4⟩:=zzc6 a0.out)|(go_at_call 15;(with_reducible refine (Qh.calls a2 0 255 true _ A6.out).mono ?_);rintro e w' ⟨rfl,⟨nd,rfl⟩⟩)|(go_at_call 15;(with_reducible refine (Qh.calls a3 0 99 true _ A8.out).mono ?_);rintro e w' ⟨rfl,⟨nd,rfl⟩⟩)|(go_at_call 15;(with_reducible refine (Qh.calls a4 0 9999 b5 _ v9.out).mono ?_);rintro e w' ⟨rfl,⟨nd,rfl⟩⟩));go_meet
     case rel=>exact ⟨_,(!b5),(by first|rfl|(simp;done)|(simp [*];done)),H',⟨by first|omega|exact Nat.le_refl _⟩,⟨zzE a0.out⟩,⟨zzh3⟩⟩
    ·
     replace c9:=Bool.eq_false_iff.mpr c9;subst c9;replace H:=zzIf H;have H':=zzm H;clear H;obtain ⟨g5,g6,g7,g8,g9,h0,h1,h2,h3,h4,h5,h6⟩:=zzc6 a0.out;go_wp2_with (first|((with_reducible refine gate_callee (f:=14) rfl ?_);refine goesL_ (some 5) rfl rfl Try.func14 (by kernel_rfl) rfl #[.slice a7 a1.length a8] rfl zzM2 ?_;(with_reducible refine (Qc.calls k _ _ a1 true _ ?side1 ?side2 A4.out).mono ?_);(case side1=>exact zzcb b2 HB);(case side2=>exact b3.out);rintro e w4 ⟨rfl,hb⟩;refine ⟨_,rfl,?_⟩;have a9:=zzm (zzh (g:=b1) (o:=.cells #[.bool a6,.bool a5,.int .i64 a2,.int .i64 a3,.int .i64 a4,.slice a7 a1.length a8] 24 (0,0)) (zzE a0.out) hb);have b0:=zzm (zzp zzh2 hb);clear a0 HB;have a0:=a9;have HB:=b0;clear a9 b0;(try clear hb);(try clear hb2);(try clear hk);(try clear hi);obtain ⟨h7,h8,h9,j2,j3,j4,j5,j6,j7,j8,j9,k0⟩:=zzc6 a0.out)|(go_at_call 15;(with_reducible refine (Qh.calls a2 0 255 true _ A6.out).mono ?_);rintro e w' ⟨rfl,⟨nd,rfl⟩⟩)|(go_at_call 15;(with_reducible refine (Qh.calls a3 0 99 false _ A8.out).mono ?_);rintro e w' ⟨rfl,⟨nd,rfl⟩⟩));go_meet
     case rel=>exact ⟨_,(true),(by first|rfl|(simp;done)|(simp [*];done)),H',⟨by first|omega|exact Nat.le_refl _⟩,⟨zzE a0.out⟩,⟨zzh3⟩⟩
   ·
    replace c7:=Bool.eq_false_iff.mpr c7;subst c7;replace H:=zzIf H;have H':=zzm H;clear H;obtain ⟨k1,k2,k3,k4,k5,k6,k7,k8,k9,l1,l2,l3⟩:=zzc6 a0.out;go_wp2_with (first|((with_reducible refine gate_callee (f:=14) rfl ?_);refine goesL_ (some 5) rfl rfl Try.func14 (by kernel_rfl) rfl #[.slice a7 a1.length a8] rfl zzM2 ?_;(with_reducible refine (Qc.calls k _ _ a1 true _ ?side1 ?side2 A4.out).mono ?_);(case side1=>exact zzcb b2 HB);(case side2=>exact b3.out);rintro e w5 ⟨rfl,hb⟩;refine ⟨_,rfl,?_⟩;have a9:=zzm (zzh (g:=b1) (o:=.cells #[.bool a6,.bool a5,.int .i64 a2,.int .i64 a3,.int .i64 a4,.slice a7 a1.length a8] 24 (0,0)) (zzE a0.out) hb);have b0:=zzm (zzp zzh2 hb);clear a0 HB;have a0:=a9;have HB:=b0;clear a9 b0;(try clear hb);(try clear hb2);(try clear hk);(try clear hi);obtain ⟨l4,l5,l6,l7,l8,l9,m0,m1,m2,m3,m4,m5⟩:=zzc6 a0.out)|(go_at_call 15;(with_reducible refine (Qh.calls a2 0 255 false _ A6.out).mono ?_);rintro e w' ⟨rfl,⟨nd,rfl⟩⟩));go_meet
    case rel=>exact ⟨_,(true),(by first|rfl|(simp;done)|(simp [*];done)),H',⟨by first|omega|exact Nat.le_refl _⟩,⟨zzE a0.out⟩,⟨zzh3⟩⟩
  ·
   replace c5:=Bool.eq_false_iff.mpr c5;subst c5;replace H:=zzIf H;have H':=zzm H;clear H;obtain ⟨m6,m7,m8,m9,n0,n1,n2,n3,n4,n5,n6,n7⟩:=zzc6 a0.out;go_wp2_with (first|((with_reducible refine gate_callee (f:=14) rfl ?_);refine goesL_ (some 5) rfl rfl Try.func14 (by kernel_rfl) rfl #[.slice a7 a1.length a8] rfl zzM2 ?_;(with_reducible refine (Qc.calls k _ _ a1 false _ ?side1 ?side2 A4.out).mono ?_);(case side1=>exact zzcb b2 HB);(case side2=>exact b3.out);rintro e w6 ⟨rfl,hb⟩;refine ⟨_,rfl,?_⟩;have a9:=zzm (zzh (g:=b1) (o:=.cells #[.bool a6,.bool a5,.int .i64 a2,.int .i64 a3,.int .i64 a4,.slice a7 a1.length a8] 24 (0,0)) (zzE a0.out) hb);have b0:=zzm (zzp zzh2 hb);clear a0 HB;have a0:=a9;have HB:=b0;clear a9 b0;(try clear hb);(try clear hb2);(try clear hk);(try clear hi)));go_meet
   case rel=>exact ⟨_,(true),(by first|rfl|(simp;done)|(simp [*];done)),H',⟨by first|omega|exact Nat.le_refl _⟩,⟨zzE a0.out⟩,⟨zzh3⟩⟩
 case rest=>
  clear n8;try clear c1
  try clear p2
  try clear c5
  try clear c7
  try clear c9
  try clear w7
  try clear d1
  try clear d2
  try clear d3
  try clear d4
  try clear d5
  try clear d6
  try clear e3
  try clear e4
  try clear e5
  try clear e6
  try clear e7
  try clear e8
  try clear g5
  try clear g6
  try clear g7
  try clear g8
  try clear g9
  try clear h0
  try clear h7
  try clear h8
  try clear h9
  try clear j2
  try clear j3
  try clear j4
  try clear k1
  try clear k2
  try clear k3
  try clear k4
  try clear k5
  try clear k6
  try clear l4
  try clear l5
  try clear l6
  try clear l7
  try clear l8
  try clear l9
  try clear m6
  try clear m7
  try clear m8
  try clear m9
  try clear n0
  try clear n1
  try clear d7
  try clear d8
  try clear d9
  try clear e0
  try clear e1
  try clear e2
  try clear e9
  try clear g0
  try clear g1
  try clear g2
  try clear g3
  try clear g4
  try clear h1
  try clear h2
  try clear h3
  try clear h4
  try clear h5
  try clear h6
  try clear j5
  try clear j6
  try clear j7
  try clear j8
  try clear j9
  try clear k0
  try clear k7
  try clear k8
  try clear k9
  try clear l1
  try clear l2
  try clear l3
  try clear m0
  try clear m1
  try clear m2
  try clear m3
  try clear m4
  try clear m5
  try clear n2
  try clear n3
  try clear n4
  try clear n5
  try clear n6
  try clear n7
  obtain ⟨kq,b4,rfl,HA,HJ1,a0,HB⟩:=hcut;cases kq with
  | zero=>exact absurd HA.out (by simp [Qe.j0])
  | succ w8=>
   have H:=HA.out;clear HA;simp only [Qe.j0] at H;by_cases c8:b4=true
   ·
    subst c8;replace H:=zzIt H;obtain rfl:=Option.some.inj H;go_wp2;go_ret;exact ⟨zzR,zzh3⟩
   ·
    replace c8:=Bool.eq_false_iff.mpr c8;subst c8;replace H:=zzIf H;by_cases b6:a2=255
    ·
     rw [if_pos b6] at H;obtain ⟨n9,o0⟩:=zzQ b6;clear b6;by_cases b7:a3=0
     ·
      rw [if_pos b7] at H;obtain ⟨o1,o2⟩:=zzQ b7;clear b7;by_cases b8:a4=0
      ·
       rw [if_pos b8] at H;obtain ⟨o3,o4⟩:=zzQ b8;clear b8;obtain rfl:=Option.some.inj H;obtain ⟨o7,o8,o9,p0,p1,p3,p4,p5,p6,p7,p8,p9⟩:=zzc6 a0.out;go_wp2;go_ret;exact ⟨zzR,zzh3⟩
      ·
       rw [if_neg b8] at H;obtain ⟨o3,o4⟩:=zzY b8;obtain rfl:=Option.some.inj H;obtain ⟨q0,q1,q2,q3,q4,q5,q6,q7,q8,q9,r0,r1⟩:=zzc6 a0.out;go_wp2;go_ret;exact ⟨zzR,zzh3⟩
     ·
      rw [if_neg b7] at H;obtain ⟨o1,o2⟩:=zzY b7;obtain rfl:=Option.some.inj H;obtain ⟨r2,r3,r4,r5,r6,r7,r8,r9,s0,s1,s2,s3⟩:=zzc6 a0.out;go_wp2;go_ret;exact ⟨zzR,zzh3⟩
    ·
     rw [if_neg b6] at H;obtain ⟨n9,o0⟩:=zzY b6;by_cases d0:a5=true
     ·
      subst d0;replace H:=zzIt H;obtain rfl:=Option.some.inj H;obtain ⟨s4,s5,s6,s7,s8,s9,t0,t1,t2,t3,t4,t5⟩:=zzc6 a0.out;go_wp2;go_ret;exact ⟨zzR,zzh3⟩
     ·
      replace d0:=Bool.eq_false_iff.mpr d0;subst d0;replace H:=zzIf H;obtain rfl:=Option.some.inj H;obtain ⟨t6,t7,t8,t9,v0,v1,v2,v3,v4,v5,v6,v7⟩:=zzc6 a0.out;go_wp2;go_ret;exact ⟨zzR,zzh3⟩

set_option linter.unusedVariables false
set_option linter.unusedSimpArgs false
def markRow (a2 a3:Int) (a4:Bool):List S32:=[⟨a2,a3,false,[],true,[if a4=true then 1 else 0]⟩]
def Qy.f (k:Nat) (a0:Int) (a1:Int) (a2:Int) (a3:Int) (a4:Bool):Option (Bool×Bool×Int×Int×Int×(List (S32))×Bool):=(Qe.f k false true a0 a1 0 (markRow a2 a3 a4)).bind fun t=>if t=true then some (false,true,a0,a1,0,markRow a2 a3 a4,true) else some (false,false,0,0,0,[],false)
set_option maxHeartbeats 8000000 in
theorem Qy.calls (k:Nat) (a0:Int) (a1:Int) (a2:Int) (a3:Int) (a4:Bool) (r1:Bool) (r2:Bool) (r3:Int) (r4:Int) (r5:Int) (r6:List (S32)) (r7:Bool) (w:World) (h:Qy.f k a0 a1 a2 a3 a4=some (r1,r2,r3,r4,r5,r6,r7)) :
  Calls Try.prog 4 #[.int .i64 a0,.int .i64 a1,.int .i64 a2,.int .i64 a3,.bool a4] w fun e w'=>∃ b7:Value,e = .returned (.tuple #[.agg #[.bool r1,.bool r2,.int .i64 r3,.int .i64 r4,.int .i64 r5,b7],.bool r7])∧Kd.N k32 32 w' w.heap.size (fun k_=>(w.heap.size≤k_)) b7 r6∧Below w.heap.size w w':=by
 have HB:=zzm (Below.refl w.heap.size w);unfold Qy.f markRow at h;replace h:=Option.bind_eq_some_iff.mp h;obtain ⟨t,b8,h⟩:=h;have A7:=zzm b8;clear b8;cases a4 with
 | true=>
  simp only [if_true,Bool.false_eq_true,if_false] at h A7;have HH:=zzm h;clear h;go_enter Try.func4,Try.ntmps4;go_upto_region 5 with (first|((with_reducible refine gate_dst (N:=10) rfl ?_);refine box_event ?hg (N:=10) ?hd (cs:=#[.bool false,.bool false,.int .i64 0,.int .i64 0,.int .i64 0,.slice none 0 0]) (t:=24) ?hr ?_;(case hd=>rfl);(case hg=>rfl);(case hr=>first|(go_simp;done)|(go_simp;rfl));intro g1 hg w1 hbox hb;have HB1:=zzm (zzp HB.out hb);have b0:=zzm hbox;have a6:=zzm (show w.heap.size≤g1 by rw [hg];exact HB.out.size);clear hb hbox hg)|((with_reducible refine gate_dst (N:=18) rfl ?_);refine Kd.R_lit (Kd.int .i64) _ 3 ?hg (N:=18) ?hd (xs:=([]:List Int)) (inner:=[]) (ok:=fun _=>True) (okp:=fun _=>True) ?hr ?hp (fun _ hk=>hk) trivial (Below.refl _ _) (Nat.le_refl _) (by simp) ?_;(case hd=>rfl);(case hg=>rfl);(case hr=>first|(go_simp;done)|(go_simp;rfl));(case hp=>exact (Reps.none _ _));intro b9 w2 ho hb hg_ hnew_;have HK2:=zzm (Kd.R_lower (Kd.R_mono (Kd.R_bound (Kd.R_newB ho b0.out)) (fun k hk=>(⟨Nat.le_trans HB1.out.size hk.2.1,hk.1.2⟩:w.heap.size≤k∧k≠g1))) HB1.out.size);have HB2:=zzm (zzp HB1.out hb);have b1:=zzm (zzh b0.out hb);clear hg_ hnew_ ho hb;obtain ⟨Ak,ck,e_⟩:=Kd.R_slice HK2.out;subst e_)|((with_reducible refine gate_dst (N:=20) rfl ?_);refine Kd.R_lit (Kd.int .i64) _ 3 ?hg (N:=20) ?hd (xs:=([1]:List Int)) (inner:=[.int .i64 1]) (ok:=fun _=>True) (okp:=fun _=>True) ?hr ?hp (fun _ hk=>hk) trivial (Below.refl _ _) (Nat.le_refl _) (by simp) ?_;(case hd=>rfl);(case hg=>rfl);(case hr=>first|(go_simp;done)|(go_simp;rfl));(case hp=>exact (Reps.one (show Kd.M (Kd.int .i64) _ _ _ 1 [.int .i64 1] from rfl) (Reps.none _ _)));intro c0 w3 ho hb hg_ hnew_;have HV3:=zzm (Kd.R_lower (Kd.R_mono (Kd.R_bound (Kd.R_newB ho b1.out)) (fun k hk=>(⟨Nat.le_trans HB2.out.size hk.2.1,hk.1.2⟩:w.heap.size≤k∧k≠g1))) HB2.out.size);have HB3:=zzm (zzp HB2.out hb);have b2:=zzm (zzh b1.out hb);have HK3:=zzm (Kd.R_below HK2.out hb);clear hg_ hnew_ ho hb;obtain ⟨Av,cv,e_⟩:=Kd.R_slice HV3.out;subst e_)|((with_reducible refine gate_dst (N:=13) rfl ?_);refine box_event ?hg (N:=13) ?hd (cs:=#[.int .i64 0,.int .i64 0,.bool false,.slice none 0 0,.bool false,.slice none 0 0]) (t:=32) ?hr ?_;(case hd=>rfl);(case hg=>rfl);(case hr=>first|(go_simp;done)|(go_simp;rfl));intro g2 hg w4 hbox hb;have HB4:=zzm (zzp HB3.out hb);have b4:=zzm (zzh b2.out hb);have HK4:=zzm (Kd.R_below HK3.out hb);have HV4:=zzm (Kd.R_below HV3.out hb);have BX:=zzm hbox;have a7:=zzm (show w.heap.size≤g2 by rw [hg];exact HB3.out.size);have NE:=zzm (show g1≠g2 by rw [hg];exact Nat.ne_of_lt (blk_lt b2.out));clear hb hbox hg;have hz0:w4.cell? ⟨_,0,none⟩=some _:=(zzk BX.out 0).trans rfl;have hf0:=zzl BX.out 0;have hz1:w4.cell? ⟨_,1,none⟩=some _:=(zzk BX.out 1).trans rfl;have hf1:=zzl BX.out 1;have hz2:w4.cell? ⟨_,2,none⟩=some _:=(zzk BX.out 2).trans rfl;have hf2:=zzl BX.out 2;have hz3:w4.cell? ⟨_,3,none⟩=some _:=(zzk BX.out 3).trans rfl;have hf3:=zzl BX.out 3;have hz4:w4.cell? ⟨_,4,none⟩=some _:=(zzk BX.out 4).trans rfl;have hf4:=zzl BX.out 4;have hz5:w4.cell? ⟨_,5,none⟩=some _:=(zzk BX.out 5).trans rfl;have hf5:=zzl BX.out 5));have HK5:=zzm (Kd.R_mono (Kd.R_far (p:=⟨g2,5,none⟩) (Kd.R_far (p:=⟨g2,4,none⟩) (Kd.R_far (p:=⟨g2,3,none⟩) (Kd.R_far (p:=⟨g2,2,none⟩) (Kd.R_far (p:=⟨g2,1,none⟩) (Kd.R_far (p:=⟨g2,0,none⟩) (Kd.R_types HK4.out BX.out (by decide)) (fun _ hk=>hk.2) (.int .i64 a2)) (fun _ hk=>hk.2) (.int .i64 a3)) (fun _ hk=>hk.2) (.bool false)) (fun _ hk=>hk.2) (.slice Ak ([]:List Int).length ck)) (fun _ hk=>hk.2) (.bool true)) (fun _ hk=>hk.2) (.slice Av ([1]:List Int).length cv)) (fun k hk=>hk.1));have HV5:=zzm (Kd.R_mono (Kd.R_far (p:=⟨g2,5,none⟩) (Kd.R_far (p:=⟨g2,4,none⟩) (Kd.R_far (p:=⟨g2,3,none⟩) (Kd.R_far (p:=⟨g2,2,none⟩) (Kd.R_far (p:=⟨g2,1,none⟩) (Kd.R_far (p:=⟨g2,0,none⟩) (Kd.R_types HV4.out BX.out (by decide)) (fun _ hk=>hk.2) (.int .i64 a2)) (fun _ hk=>hk.2) (.int .i64 a3)) (fun _ hk=>hk.2) (.bool false)) (fun _ hk=>hk.2) (.slice Ak ([]:List Int).length ck)) (fun _ hk=>hk.2) (.bool true)) (fun _ hk=>hk.2) (.slice Av ([1]:List Int).length cv)) (fun k hk=>hk.1));have a9:=zzm (zzj (p:=⟨g2,5,none⟩) (zzj (p:=⟨g2,4,none⟩) (zzj (p:=⟨g2,3,none⟩) (zzj (p:=⟨g2,2,none⟩) (zzj (p:=⟨g2,1,none⟩) (zzj (p:=⟨g2,0,none⟩) (b4.out) NE.out (.int .i64 a2)) NE.out (.int .i64 a3)) NE.out (.bool false)) NE.out (.slice Ak ([]:List Int).length ck)) NE.out (.bool true)) NE.out (.slice Av ([1]:List Int).length cv));have BX5:=zzm (zzi (cs:=#[.int .i64 a2,.int .i64 a3,.bool false,.slice Ak ([]:List Int).length ck,.bool true,.slice none 0 0]) (cs':=#[.int .i64 a2,.int .i64 a3,.bool false,.slice Ak ([]:List Int).length ck,.bool true,.slice Av ([1]:List Int).length cv]) (zzi (cs:=#[.int .i64 a2,.int .i64 a3,.bool false,.slice Ak ([]:List Int).length ck,.bool false,.slice none 0 0]) (cs':=#[.int .i64 a2,.int .i64 a3,.bool false,.slice Ak ([]:List Int).length ck,.bool true,.slice none 0 0]) (zzi (cs:=#[.int .i64 a2,.int .i64 a3,.bool false,.slice none 0 0,.bool false,.slice none 0 0]) (cs':=#[.int .i64 a2,.int .i64 a3,.bool false,.slice Ak ([]:List Int).length ck,.bool false,.slice none 0 0]) (zzi (cs:=#[.int .i64 a2,.int .i64 a3,.bool false,.slice none 0 0,.bool false,.slice none 0 0]) (cs':=#[.int .i64 a2,.int .i64 a3,.bool false,.slice none 0 0,.bool false,.slice none 0 0]) (zzi (cs:=#[.int .i64 a2,.int .i64 0,.bool false,.slice none 0 0,.bool false,.slice none 0 0]) (cs':=#[.int .i64 a2,.int .i64 a3,.bool false,.slice none 0 0,.bool false,.slice none 0 0]) (zzi (cs:=#[.int .i64 0,.int .i64 0,.bool false,.slice none 0 0,.bool false,.slice none 0 0]) (cs':=#[.int .i64 a2,.int .i64 0,.bool false,.slice none 0 0,.bool false,.slice none 0 0]) (BX.out) 0 (.int .i64 a2) rfl) 1 (.int .i64 a3) rfl) 2 (.bool false) rfl) 3 (.slice Ak ([]:List Int).length ck) rfl) 4 (.bool true) rfl) 5 (.slice Av ([1]:List Int).length cv) rfl);have HB5:=zzm (zzd (zzd (zzd (zzd (zzd (zzd (HB4.out) a7.out (j:=0) (v:=.int .i64 a2)) a7.out (j:=1) (v:=.int .i64 a3)) a7.out (j:=2) (v:=.bool false)) a7.out (j:=3) (v:=.slice Ak ([]:List Int).length ck)) a7.out (j:=4) (v:=.bool true)) a7.out (j:=5) (v:=.slice Av ([1]:List Int).length cv));clear hz0 hz1 hz2 hz3 hz4 hz5 hf0 hf1 hf2 hf3 hf4 hf5 HB1 HB2 HB3 HB4 b0 b1 b2 b4 HK2 HK3 HK4 HV3 HV4 BX;generalize (((((w4.setCell ⟨g2,0,none⟩ (.int .i64 a2)).setCell ⟨g2,1,none⟩ (.int .i64 a3)).setCell ⟨g2,2,none⟩ (.bool false)).setCell ⟨g2,3,none⟩ (.slice Ak ([]:List Int).length ck)).setCell ⟨g2,4,none⟩ (.bool true)).setCell ⟨g2,5,none⟩ (.slice Av ([1]:List Int).length cv)=w5 at HK5 HV5 a9 BX5 HB5 ⊢;have d0:w5.cell? ⟨g2,0,none⟩=some (.int .i64 a2):=(zzk BX5.out 0).trans rfl;have d1:w5.cell? ⟨g2,1,none⟩=some (.int .i64 a3):=(zzk BX5.out 1).trans rfl;have d2:w5.cell? ⟨g2,2,none⟩=some (.bool false):=(zzk BX5.out 2).trans rfl;have d3:w5.cell? ⟨g2,3,none⟩=some (.slice Ak ([]:List Int).length ck):=(zzk BX5.out 3).trans rfl;have d4:w5.cell? ⟨g2,4,none⟩=some (.bool true):=(zzk BX5.out 4).trans rfl;have d5:w5.cell? ⟨g2,5,none⟩=some (.slice Av ([1]:List Int).length cv):=(zzk BX5.out 5).trans rfl;go_upto_region 6 with (first|((with_reducible refine gate_dst (N:=25) rfl ?_);refine Kd.N_lit k32 _ 32 ?hg (N':=25) ?hd (xs:=([(⟨a2,a3,false,[],true,[1]⟩:S32)]:List (S32))) (inner:=[.int .i64 a2,.int .i64 a3,.bool false,.slice Ak ([]:List Int).length ck,.bool true,.slice Av ([1]:List Int).length cv]) (ok:=(fun k=>w.heap.size≤k∧k≠g1)) (okp:=(fun k=>w.heap.size≤k∧k≠g1)) ?hr ?hp (fun _ hk=>hk) ((show ∀ k,w5.heap.size≤k→(fun k=>w.heap.size≤k∧k≠g1) k from fun k hk=>⟨Nat.le_trans HB5.out.size hk,fun e=>by have:=blk_lt a9.out;omega⟩) _ (Nat.le_refl _)) (Below.refl _ _) (Nat.le_refl _) (by simp) ?_;(case hd=>rfl);(case hg=>rfl);(case hr=>first|(go_simp;done)|(go_simp;rfl));(case hp=>exact (Reps.c6 (show Kd.FK k32 _ _ (⟨a2,a3,false,[],true,[1]⟩:S32) [.int .i64 a2,.int .i64 a3,.bool false,.slice Ak ([]:List Int).length ck,.bool true,.slice Av ([1]:List Int).length cv] from (k32_mkF _ _ (⟨a2,a3,false,[],true,[1]⟩:S32) (Kd.R_reads' HK5.out).2.1 (Kd.R_F HK5.out) (Kd.R_reads' HV5.out).2.1 (Kd.R_F HV5.out))) (Reps.none _ _)));intro c1 w6 ho hb hg_ hnew_;have HN6:=zzm (Kd.N_lower ho HB5.out.size);have HB6:=zzm (zzp HB5.out hb);have b3:=zzm (zzh a9.out hb);clear hg_ hnew_ ho hb;obtain ⟨An,cn,e_⟩:=Kd.N_slice HN6.out;subst e_)|((with_reducible refine gate_dst (N:=14) rfl ?_);refine box_event ?hg (N:=14) ?hd (cs:=#[.bool false,.bool false,.int .i64 0,.int .i64 0,.int .i64 0,.slice none 0 0]) (t:=24) ?hr ?_;(case hd=>rfl);(case hg=>rfl);(case hr=>first|(go_simp;done)|(go_simp;rfl));intro g3 hg w7 hbox hb;have HB7:=zzm (zzp HB6.out hb);have b5:=zzm (zzh b3.out hb);have HN7:=zzm (Kd.N_below (Kd.N_elderB HN6.out g3 (Nat.le_of_eq hg.symm)) hb);have BY:=zzm hbox;have a8:=zzm (show w.heap.size≤g3 by rw [hg];exact HB6.out.size);have NE3:=zzm (show g1≠g3 by rw [hg];exact Nat.ne_of_lt (blk_lt b3.out));clear hb hbox hg d0 d1 d2 d3 d4 d5;have hz0:w7.cell? ⟨_,0,none⟩=some _:=(zzk BY.out 0).trans rfl;have hf0:=zzl BY.out 0;have hz1:w7.cell? ⟨_,1,none⟩=some _:=(zzk BY.out 1).trans rfl;have hf1:=zzl BY.out 1;have hz2:w7.cell? ⟨_,2,none⟩=some _:=(zzk BY.out 2).trans rfl;have hf2:=zzl BY.out 2;have hz3:w7.cell? ⟨_,3,none⟩=some _:=(zzk BY.out 3).trans rfl;have hf3:=zzl BY.out 3;have hz4:w7.cell? ⟨_,4,none⟩=some _:=(zzk BY.out 4).trans rfl;have hf4:=zzl BY.out 4;have hz5:w7.cell? ⟨_,5,none⟩=some _:=(zzk BY.out 5).trans rfl;have hf5:=zzl BY.out 5));have HN8:=zzm (Kd.N_far (p:=⟨g3,5,none⟩) (Kd.N_far (p:=⟨g3,4,none⟩) (Kd.N_far (p:=⟨g3,3,none⟩) (Kd.N_far (p:=⟨g3,2,none⟩) (Kd.N_far (p:=⟨g3,1,none⟩) (Kd.N_far (p:=⟨g3,0,none⟩) (HN7.out) (fun _ hk=>hk.2) (.bool false)) (fun _ hk=>hk.2) (.bool true)) (fun _ hk=>hk.2) (.int .i64 a0)) (fun _ hk=>hk.2) (.int .i64 a1)) (fun _ hk=>hk.2) (.int .i64 0)) (fun _ hk=>hk.2) (.slice An ([(⟨a2,a3,false,[],true,[1]⟩:S32)]:List S32).length cn));have b6:=zzm (zzj (p:=⟨g3,5,none⟩) (zzj (p:=⟨g3,4,none⟩) (zzj (p:=⟨g3,3,none⟩) (zzj (p:=⟨g3,2,none⟩) (zzj (p:=⟨g3,1,none⟩) (zzj (p:=⟨g3,0,none⟩) (b5.out) NE3.out (.bool false)) NE3.out (.bool true)) NE3.out (.int .i64 a0)) NE3.out (.int .i64 a1)) NE3.out (.int .i64 0)) NE3.out (.slice An ([(⟨a2,a3,false,[],true,[1]⟩:S32)]:List S32).length cn));have BY8:=zzm (zzi (cs:=#[.bool false,.bool true,.int .i64 a0,.int .i64 a1,.int .i64 0,.slice none 0 0]) (cs':=#[.bool false,.bool true,.int .i64 a0,.int .i64 a1,.int .i64 0,.slice An ([(⟨a2,a3,false,[],true,[1]⟩:S32)]:List S32).length cn]) (zzi (cs:=#[.bool false,.bool true,.int .i64 a0,.int .i64 a1,.int .i64 0,.slice none 0 0]) (cs':=#[.bool false,.bool true,.int .i64 a0,.int .i64 a1,.int .i64 0,.slice none 0 0]) (zzi (cs:=#[.bool false,.bool true,.int .i64 a0,.int .i64 0,.int .i64 0,.slice none 0 0]) (cs':=#[.bool false,.bool true,.int .i64 a0,.int .i64 a1,.int .i64 0,.slice none 0 0]) (zzi (cs:=#[.bool false,.bool true,.int .i64 0,.int .i64 0,.int .i64 0,.slice none 0 0]) (cs':=#[.bool false,.bool true,.int .i64 a0,.int .i64 0,.int .i64 0,.slice none 0 0]) (zzi (cs:=#[.bool false,.bool false,.int .i64 0,.int .i64 0,.int .i64 0,.slice none 0 0]) (cs':=#[.bool false,.bool true,.int .i64 0,.int .i64 0,.int .i64 0,.slice none 0 0]) (zzi (cs:=#[.bool false,.bool false,.int .i64 0,.int .i64 0,.int .i64 0,.slice none 0 0]) (cs':=#[.bool false,.bool false,.int .i64 0,.int .i64 0,.int .i64 0,.slice none 0 0]) (BY.out) 0 (.bool false) rfl) 1 (.bool true) rfl) 2 (.int .i64 a0) rfl) 3 (.int .i64 a1) rfl) 4 (.int .i64 0) rfl) 5 (.slice An ([(⟨a2,a3,false,[],true,[1]⟩:S32)]:List S32).length cn) rfl);have HB8:=zzm (zzd (zzd (zzd (zzd (zzd (zzd (HB7.out) a8.out (j:=0) (v:=.bool false)) a8.out (j:=1) (v:=.bool true)) a8.out (j:=2) (v:=.int .i64 a0)) a8.out (j:=3) (v:=.int .i64 a1)) a8.out (j:=4) (v:=.int .i64 0)) a8.out (j:=5) (v:=.slice An ([(⟨a2,a3,false,[],true,[1]⟩:S32)]:List S32).length cn));clear hz0 hz1 hz2 hz3 hz4 hz5 hf0 hf1 hf2 hf3 hf4 hf5 HB5 HB6 HB7 a9 b3 b5 HN6 HN7 HK5 HV5 BX5 BY;generalize (((((w7.setCell ⟨g3,0,none⟩ (.bool false)).setCell ⟨g3,1,none⟩ (.bool true)).setCell ⟨g3,2,none⟩ (.int .i64 a0)).setCell ⟨g3,3,none⟩ (.int .i64 a1)).setCell ⟨g3,4,none⟩ (.int .i64 0)).setCell ⟨g3,5,none⟩ (.slice An ([(⟨a2,a3,false,[],true,[1]⟩:S32)]:List S32).length cn)=w8 at HN8 b6 BY8 HB8 ⊢;have d0:w8.cell? ⟨g3,0,none⟩=some (.bool false):=(zzk BY8.out 0).trans rfl;have d1:w8.cell? ⟨g3,1,none⟩=some (.bool true):=(zzk BY8.out 1).trans rfl;have d2:w8.cell? ⟨g3,2,none⟩=some (.int .i64 a0):=(zzk BY8.out 2).trans rfl;have d3:w8.cell? ⟨g3,3,none⟩=some (.int .i64 a1):=(zzk BY8.out 3).trans rfl;have d4:w8.cell? ⟨g3,4,none⟩=some (.int .i64 0):=(zzk BY8.out 4).trans rfl;have d5:w8.cell? ⟨g3,5,none⟩=some (.slice An ([(⟨a2,a3,false,[],true,[1]⟩:S32)]:List S32).length cn):=(zzk BY8.out 5).trans rfl;go_wp2_with (((with_reducible refine gate_callee (f:=9) rfl ?_);refine goesL_ (some 28) rfl rfl Try.func9 (by kernel_rfl) rfl #[.agg #[.bool false,.bool true,.int .i64 a0,.int .i64 a1,.int .i64 0,.slice An ([(⟨a2,a3,false,[],true,[1]⟩:S32)]:List S32).length cn]] rfl (by (try simp only [map_toArray,map_cons,map_nil]);first|done|rfl) ?_;(with_reducible refine (Qe.calls k false true a0 a1 0 _ _ ([(⟨a2,a3,false,[],true,[1]⟩:S32)]:List S32) t _ ?s1 ?s2 A7.out).mono ?_);(case s1=>exact (Kd.N_reads' HN8.out).2.2);(case s2=>exact (Kd.N_reads' HN8.out).2.1);rintro e w9 ⟨rfl,hb⟩;refine ⟨_,rfl,?_⟩;have HN9:=zzm (Kd.N_below HN8.out hb);have a5:=zzm (zzh b6.out hb);have BY9:=zzm (zzh BY8.out hb);have HB9:=zzm (zzp HB8.out hb);clear hb d0 d1 d2 d3 d4 d5;have hz0:w9.cell? ⟨_,0,none⟩=some _:=(zzk a5.out 0).trans rfl;have hf0:=zzl a5.out 0;have hz1:w9.cell? ⟨_,1,none⟩=some _:=(zzk a5.out 1).trans rfl;have hf1:=zzl a5.out 1;have hz2:w9.cell? ⟨_,2,none⟩=some _:=(zzk a5.out 2).trans rfl;have hf2:=zzl a5.out 2;have hz3:w9.cell? ⟨_,3,none⟩=some _:=(zzk a5.out 3).trans rfl;have hf3:=zzl a5.out 3;have hz4:w9.cell? ⟨_,4,none⟩=some _:=(zzk a5.out 4).trans rfl;have hf4:=zzl a5.out 4;have hz5:w9.cell? ⟨_,5,none⟩=some _:=(zzk a5.out 5).trans rfl;have hf5:=zzl a5.out 5;have d0:w9.cell? ⟨g3,0,none⟩=some (.bool false):=(zzk BY9.out 0).trans rfl;have d1:w9.cell? ⟨g3,1,none⟩=some (.bool true):=(zzk BY9.out 1).trans rfl;have d2:w9.cell? ⟨g3,2,none⟩=some (.int .i64 a0):=(zzk BY9.out 2).trans rfl;have d3:w9.cell? ⟨g3,3,none⟩=some (.int .i64 a1):=(zzk BY9.out 3).trans rfl;have d4:w9.cell? ⟨g3,4,none⟩=some (.int .i64 0):=(zzk BY9.out 4).trans rfl;have d5:w9.cell? ⟨g3,5,none⟩=some (.slice An ([(⟨a2,a3,false,[],true,[1]⟩:S32)]:List S32).length cn):=(zzk BY9.out 5).trans rfl;cases t))
  ·
   have h2:=HH.out;simp only [if_true,Bool.false_eq_true,if_false,Option.some.injEq,Prod.mk.injEq] at h2;obtain ⟨rfl,rfl,rfl,rfl,rfl,rfl,rfl⟩:=h2;refine bodyPost_ret (results_ct rfl _ _ g1 24 #[.bool false,.bool false,.int .i64 0,.int .i64 0,.int .i64 0,.slice none 0 0] (0,0) _ rfl (zzi (cs:=#[.bool false,.bool false,.int .i64 0,.int .i64 0,.int .i64 0,.slice none 0 0]) (cs':=#[.bool false,.bool false,.int .i64 0,.int .i64 0,.int .i64 0,.slice none 0 0]) (zzi (cs:=#[.bool false,.bool false,.int .i64 0,.int .i64 0,.int .i64 0,.slice none 0 0]) (cs':=#[.bool false,.bool false,.int .i64 0,.int .i64 0,.int .i64 0,.slice none 0 0]) (zzi (cs:=#[.bool false,.bool false,.int .i64 0,.int .i64 0,.int .i64 0,.slice none 0 0]) (cs':=#[.bool false,.bool false,.int .i64 0,.int .i64 0,.int .i64 0,.slice none 0 0]) (zzi (cs:=#[.bool false,.bool false,.int .i64 0,.int .i64 0,.int .i64 0,.slice none 0 0]) (cs':=#[.bool false,.bool false,.int .i64 0,.int .i64 0,.int .i64 0,.slice none 0 0]) (zzi (cs:=#[.bool false,.bool false,.int .i64 0,.int .i64 0,.int .i64 0,.slice none 0 0]) (cs':=#[.bool false,.bool false,.int .i64 0,.int .i64 0,.int .i64 0,.slice none 0 0]) (zzi (cs:=#[.bool false,.bool false,.int .i64 0,.int .i64 0,.int .i64 0,.slice none 0 0]) (cs':=#[.bool false,.bool false,.int .i64 0,.int .i64 0,.int .i64 0,.slice none 0 0]) (a5.out) 0 (.bool false) rfl) 1 (.bool false) rfl) 2 (.int .i64 0) rfl) 3 (.int .i64 0) rfl) 4 (.int .i64 0) rfl) 5 (.slice none 0 0) rfl) Try.underlying24 rfl (by kernel_rfl)) rfl ?_;exact ⟨_,rfl,Kd.N_nil _ _ _ _ _,zzd (zzd (zzd (zzd (zzd (zzd (HB9.out) a6.out (j:=0) (v:=.bool false)) a6.out (j:=1) (v:=.bool false)) a6.out (j:=2) (v:=.int .i64 0)) a6.out (j:=3) (v:=.int .i64 0)) a6.out (j:=4) (v:=.int .i64 0)) a6.out (j:=5) (v:=.slice none 0 0)⟩
  ·
   have h2:=HH.out;simp only [if_true,Bool.false_eq_true,if_false,Option.some.injEq,Prod.mk.injEq] at h2;obtain ⟨rfl,rfl,rfl,rfl,rfl,rfl,rfl⟩:=h2;refine bodyPost_ret (results_ct rfl _ _ g1 24 #[.bool false,.bool true,.int .i64 a0,.int .i64 a1,.int .i64 0,.slice An ([(⟨a2,a3,false,[],true,[1]⟩:S32)]:List S32).length cn] (0,0) _ rfl (zzi (cs:=#[.bool false,.bool true,.int .i64 a0,.int .i64 a1,.int .i64 0,.slice none 0 0]) (cs':=#[.bool false,.bool true,.int .i64 a0,.int .i64 a1,.int .i64 0,.slice An ([(⟨a2,a3,false,[],true,[1]⟩:S32)]:List S32).length cn]) (zzi (cs:=#[.bool false,.bool true,.int .i64 a0,.int .i64 a1,.int .i64 0,.slice none 0 0]) (cs':=#[.bool false,.bool true,.int .i64 a0,.int .i64 a1,.int .i64 0,.slice none 0 0]) (zzi (cs:=#[.bool false,.bool true,.int .i64 a0,.int .i64 0,.int .i64 0,.slice none 0 0]) (cs':=#[.bool false,.bool true,.int .i64 a0,.int .i64 a1,.int .i64 0,.slice none 0 0]) (zzi (cs:=#[.bool false,.bool true,.int .i64 0,.int .i64 0,.int .i64 0,.slice none 0 0]) (cs':=#[.bool false,.bool true,.int .i64 a0,.int .i64 0,.int .i64 0,.slice none 0 0]) (zzi (cs:=#[.bool false,.bool false,.int .i64 0,.int .i64 0,.int .i64 0,.slice none 0 0]) (cs':=#[.bool false,.bool true,.int .i64 0,.int .i64 0,.int .i64 0,.slice none 0 0]) (zzi (cs:=#[.bool false,.bool false,.int .i64 0,.int .i64 0,.int .i64 0,.slice none 0 0]) (cs':=#[.bool false,.bool false,.int .i64 0,.int .i64 0,.int .i64 0,.slice none 0 0]) (a5.out) 0 (.bool false) rfl) 1 (.bool true) rfl) 2 (.int .i64 a0) rfl) 3 (.int .i64 a1) rfl) 4 (.int .i64 0) rfl) 5 (.slice An ([(⟨a2,a3,false,[],true,[1]⟩:S32)]:List S32).length cn) rfl) Try.underlying24 rfl (by kernel_rfl)) rfl ?_;exact ⟨_,rfl,Kd.N_mono (Kd.N_far (p:=⟨g1,5,none⟩) (Kd.N_far (p:=⟨g1,4,none⟩) (Kd.N_far (p:=⟨g1,3,none⟩) (Kd.N_far (p:=⟨g1,2,none⟩) (Kd.N_far (p:=⟨g1,1,none⟩) (Kd.N_far (p:=⟨g1,0,none⟩) (Kd.N_mono HN9.out (fun k hk=>(⟨hk.1.1,hk.1.2⟩:_∧k≠g1))) (fun _ hk=>hk.2) (.bool false)) (fun _ hk=>hk.2) (.bool true)) (fun _ hk=>hk.2) (.int .i64 a0)) (fun _ hk=>hk.2) (.int .i64 a1)) (fun _ hk=>hk.2) (.int .i64 0)) (fun _ hk=>hk.2) (.slice An ([(⟨a2,a3,false,[],true,[1]⟩:S32)]:List S32).length cn)) (fun _ hk=>hk.1),zzd (zzd (zzd (zzd (zzd (zzd (HB9.out) a6.out (j:=0) (v:=.bool false)) a6.out (j:=1) (v:=.bool true)) a6.out (j:=2) (v:=.int .i64 a0)) a6.out (j:=3) (v:=.int .i64 a1)) a6.out (j:=4) (v:=.int .i64 0)) a6.out (j:=5) (v:=.slice An ([(⟨a2,a3,false,[],true,[1]⟩:S32)]:List S32).length cn)⟩
 | false=>
  simp only [if_true,Bool.false_eq_true,if_false] at h A7;have HH:=zzm h;clear h;go_enter Try.func4,Try.ntmps4;go_upto_region 5 with (first|((with_reducible refine gate_dst (N:=10) rfl ?_);refine box_event ?hg (N:=10) ?hd (cs:=#[.bool false,.bool false,.int .i64 0,.int .i64 0,.int .i64 0,.slice none 0 0]) (t:=24) ?hr ?_;(case hd=>rfl);(case hg=>rfl);(case hr=>first|(go_simp;done)|(go_simp;rfl));intro g1 hg w1 hbox hb;have HB1:=zzm (zzp HB.out hb);have b0:=zzm hbox;have a6:=zzm (show w.heap.size≤g1 by rw [hg];exact HB.out.size);clear hb hbox hg)|((with_reducible refine gate_dst (N:=18) rfl ?_);refine Kd.R_lit (Kd.int .i64) _ 3 ?hg (N:=18) ?hd (xs:=([]:List Int)) (inner:=[]) (ok:=fun _=>True) (okp:=fun _=>True) ?hr ?hp (fun _ hk=>hk) trivial (Below.refl _ _) (Nat.le_refl _) (by simp) ?_;(case hd=>rfl);(case hg=>rfl);(case hr=>first|(go_simp;done)|(go_simp;rfl));(case hp=>exact (Reps.none _ _));intro b9 w2 ho hb hg_ hnew_;have HK2:=zzm (Kd.R_lower (Kd.R_mono (Kd.R_bound (Kd.R_newB ho b0.out)) (fun k hk=>(⟨Nat.le_trans HB1.out.size hk.2.1,hk.1.2⟩:w.heap.size≤k∧k≠g1))) HB1.out.size);have HB2:=zzm (zzp HB1.out hb);have b1:=zzm (zzh b0.out hb);clear hg_ hnew_ ho hb;obtain ⟨Ak,ck,e_⟩:=Kd.R_slice HK2.out;subst e_)|((with_reducible refine gate_dst (N:=20) rfl ?_);refine Kd.R_lit (Kd.int .i64) _ 3 ?hg (N:=20) ?hd (xs:=([0]:List Int)) (inner:=[.int .i64 0]) (ok:=fun _=>True) (okp:=fun _=>True) ?hr ?hp (fun _ hk=>hk) trivial (Below.refl _ _) (Nat.le_refl _) (by simp) ?_;(case hd=>rfl);(case hg=>rfl);(case hr=>first|(go_simp;done)|(go_simp;rfl));(case hp=>exact (Reps.one (show Kd.M (Kd.int .i64) _ _ _ 0 [.int .i64 0] from rfl) (Reps.none _ _)));intro c0 w3 ho hb hg_ hnew_;have HV3:=zzm (Kd.R_lower (Kd.R_mono (Kd.R_bound (Kd.R_newB ho b1.out)) (fun k hk=>(⟨Nat.le_trans HB2.out.size hk.2.1,hk.1.2⟩:w.heap.size≤k∧k≠g1))) HB2.out.size);have HB3:=zzm (zzp HB2.out hb);have b2:=zzm (zzh b1.out hb);have HK3:=zzm (Kd.R_below HK2.out hb);clear hg_ hnew_ ho hb;obtain ⟨Av,cv,e_⟩:=Kd.R_slice HV3.out;subst e_)|((with_reducible refine gate_dst (N:=13) rfl ?_);refine box_event ?hg (N:=13) ?hd (cs:=#[.int .i64 0,.int .i64 0,.bool false,.slice none 0 0,.bool false,.slice none 0 0]) (t:=32) ?hr ?_;(case hd=>rfl);(case hg=>rfl);(case hr=>first|(go_simp;done)|(go_simp;rfl));intro g2 hg w4 hbox hb;have HB4:=zzm (zzp HB3.out hb);have b4:=zzm (zzh b2.out hb);have HK4:=zzm (Kd.R_below HK3.out hb);have HV4:=zzm (Kd.R_below HV3.out hb);have BX:=zzm hbox;have a7:=zzm (show w.heap.size≤g2 by rw [hg];exact HB3.out.size);have NE:=zzm (show g1≠g2 by rw [hg];exact Nat.ne_of_lt (blk_lt b2.out));clear hb hbox hg;have hz0:w4.cell? ⟨_,0,none⟩=some _:=(zzk BX.out 0).trans rfl;have hf0:=zzl BX.out 0;have hz1:w4.cell? ⟨_,1,none⟩=some _:=(zzk BX.out 1).trans rfl;have hf1:=zzl BX.out 1;have hz2:w4.cell? ⟨_,2,none⟩=some _:=(zzk BX.out 2).trans rfl;have hf2:=zzl BX.out 2;have hz3:w4.cell? ⟨_,3,none⟩=some _:=(zzk BX.out 3).trans rfl;have hf3:=zzl BX.out 3;have hz4:w4.cell? ⟨_,4,none⟩=some _:=(zzk BX.out 4).trans rfl;have hf4:=zzl BX.out 4;have hz5:w4.cell? ⟨_,5,none⟩=some _:=(zzk BX.out 5).trans rfl;have hf5:=zzl BX.out 5));have HK5:=zzm (Kd.R_mono (Kd.R_far (p:=⟨g2,5,none⟩) (Kd.R_far (p:=⟨g2,4,none⟩) (Kd.R_far (p:=⟨g2,3,none⟩) (Kd.R_far (p:=⟨g2,2,none⟩) (Kd.R_far (p:=⟨g2,1,none⟩) (Kd.R_far (p:=⟨g2,0,none⟩) (Kd.R_types HK4.out BX.out (by decide)) (fun _ hk=>hk.2) (.int .i64 a2)) (fun _ hk=>hk.2) (.int .i64 a3)) (fun _ hk=>hk.2) (.bool false)) (fun _ hk=>hk.2) (.slice Ak ([]:List Int).length ck)) (fun _ hk=>hk.2) (.bool true)) (fun _ hk=>hk.2) (.slice Av ([0]:List Int).length cv)) (fun k hk=>hk.1));have HV5:=zzm (Kd.R_mono (Kd.R_far (p:=⟨g2,5,none⟩) (Kd.R_far (p:=⟨g2,4,none⟩) (Kd.R_far (p:=⟨g2,3,none⟩) (Kd.R_far (p:=⟨g2,2,none⟩) (Kd.R_far (p:=⟨g2,1,none⟩) (Kd.R_far (p:=⟨g2,0,none⟩) (Kd.R_types HV4.out BX.out (by decide)) (fun _ hk=>hk.2) (.int .i64 a2)) (fun _ hk=>hk.2) (.int .i64 a3)) (fun _ hk=>hk.2) (.bool false)) (fun _ hk=>hk.2) (.slice Ak ([]:List Int).length ck)) (fun _ hk=>hk.2) (.bool true)) (fun _ hk=>hk.2) (.slice Av ([0]:List Int).length cv)) (fun k hk=>hk.1));have a9:=zzm (zzj (p:=⟨g2,5,none⟩) (zzj (p:=⟨g2,4,none⟩) (zzj (p:=⟨g2,3,none⟩) (zzj (p:=⟨g2,2,none⟩) (zzj (p:=⟨g2,1,none⟩) (zzj (p:=⟨g2,0,none⟩) (b4.out) NE.out (.int .i64 a2)) NE.out (.int .i64 a3)) NE.out (.bool false)) NE.out (.slice Ak ([]:List Int).length ck)) NE.out (.bool true)) NE.out (.slice Av ([0]:List Int).length cv));have BX5:=zzm (zzi (cs:=#[.int .i64 a2,.int .i64 a3,.bool false,.slice Ak ([]:List Int).length ck,.bool true,.slice none 0 0]) (cs':=#[.int .i64 a2,.int .i64 a3,.bool false,.slice Ak ([]:List Int).length ck,.bool true,.slice Av ([0]:List Int).length cv]) (zzi (cs:=#[.int .i64 a2,.int .i64 a3,.bool false,.slice Ak ([]:List Int).length ck,.bool false,.slice none 0 0]) (cs':=#[.int .i64 a2,.int .i64 a3,.bool false,.slice Ak ([]:List Int).length ck,.bool true,.slice none 0 0]) (zzi (cs:=#[.int .i64 a2,.int .i64 a3,.bool false,.slice none 0 0,.bool false,.slice none 0 0]) (cs':=#[.int .i64 a2,.int .i64 a3,.bool false,.slice Ak ([]:List Int).length ck,.bool false,.slice none 0 0]) (zzi (cs:=#[.int .i64 a2,.int .i64 a3,.bool false,.slice none 0 0,.bool false,.slice none 0 0]) (cs':=#[.int .i64 a2,.int .i64 a3,.bool false,.slice none 0 0,.bool false,.slice none 0 0]) (zzi (cs:=#[.int .i64 a2,.int .i64 0,.bool false,.slice none 0 0,.bool false,.slice none 0 0]) (cs':=#[.int .i64 a2,.int .i64 a3,.bool false,.slice none 0 0,.bool false,.slice none 0 0]) (zzi (cs:=#[.int .i64 0,.int .i64 0,.bool false,.slice none 0 0,.bool false,.slice none 0 0]) (cs':=#[.int .i64 a2,.int .i64 0,.bool false,.slice none 0 0,.bool false,.slice none 0 0]) (BX.out) 0 (.int .i64 a2) rfl) 1 (.int .i64 a3) rfl) 2 (.bool false) rfl) 3 (.slice Ak ([]:List Int).length ck) rfl) 4 (.bool true) rfl) 5 (.slice Av ([0]:List Int).length cv) rfl);have HB5:=zzm (zzd (zzd (zzd (zzd (zzd (zzd (HB4.out) a7.out (j:=0) (v:=.int .i64 a2)) a7.out (j:=1) (v:=.int .i64 a3)) a7.out (j:=2) (v:=.bool false)) a7.out (j:=3) (v:=.slice Ak ([]:List Int).length ck)) a7.out (j:=4) (v:=.bool true)) a7.out (j:=5) (v:=.slice Av ([0]:List Int).length cv));clear hz0 hz1 hz2 hz3 hz4 hz5 hf0 hf1 hf2 hf3 hf4 hf5 HB1 HB2 HB3 HB4 b0 b1 b2 b4 HK2 HK3 HK4 HV3 HV4 BX;generalize (((((w4.setCell ⟨g2,0,none⟩ (.int .i64 a2)).setCell ⟨g2,1,none⟩ (.int .i64 a3)).setCell ⟨g2,2,none⟩ (.bool false)).setCell ⟨g2,3,none⟩ (.slice Ak ([]:List Int).length ck)).setCell ⟨g2,4,none⟩ (.bool true)).setCell ⟨g2,5,none⟩ (.slice Av ([0]:List Int).length cv)=w5 at HK5 HV5 a9 BX5 HB5 ⊢;have d0:w5.cell? ⟨g2,0,none⟩=some (.int .i64 a2):=(zzk BX5.out 0).trans rfl;have d1:w5.cell? ⟨g2,1,none⟩=some (.int .i64 a3):=(zzk BX5.out 1).trans rfl;have d2:w5.cell? ⟨g2,2,none⟩=some (.bool false):=(zzk BX5.out 2).trans rfl;have d3:w5.cell? ⟨g2,3,none⟩=some (.slice Ak ([]:List Int).length ck):=(zzk BX5.out 3).trans rfl;have d4:w5.cell? ⟨g2,4,none⟩=some (.bool true):=(zzk BX5.out 4).trans rfl;have d5:w5.cell? ⟨g2,5,none⟩=some (.slice Av ([0]:List Int).length cv):=(zzk BX5.out 5).trans rfl;go_upto_region 6 with (first|((with_reducible refine gate_dst (N:=25) rfl ?_);refine Kd.N_lit k32 _ 32 ?hg (N':=25) ?hd (xs:=([(⟨a2,a3,false,[],true,[0]⟩:S32)]:List (S32))) (inner:=[.int .i64 a2,.int .i64 a3,.bool false,.slice Ak ([]:List Int).length ck,.bool true,.slice Av ([0]:List Int).length cv]) (ok:=(fun k=>w.heap.size≤k∧k≠g1)) (okp:=(fun k=>w.heap.size≤k∧k≠g1)) ?hr ?hp (fun _ hk=>hk) ((show ∀ k,w5.heap.size≤k→(fun k=>w.heap.size≤k∧k≠g1) k from fun k hk=>⟨Nat.le_trans HB5.out.size hk,fun e=>by have:=blk_lt a9.out;omega⟩) _ (Nat.le_refl _)) (Below.refl _ _) (Nat.le_refl _) (by simp) ?_;(case hd=>rfl);(case hg=>rfl);(case hr=>first|(go_simp;done)|(go_simp;rfl));(case hp=>exact (Reps.c6 (show Kd.FK k32 _ _ (⟨a2,a3,false,[],true,[0]⟩:S32) [.int .i64 a2,.int .i64 a3,.bool false,.slice Ak ([]:List Int).length ck,.bool true,.slice Av ([0]:List Int).length cv] from (k32_mkF _ _ (⟨a2,a3,false,[],true,[0]⟩:S32) (Kd.R_reads' HK5.out).2.1 (Kd.R_F HK5.out) (Kd.R_reads' HV5.out).2.1 (Kd.R_F HV5.out))) (Reps.none _ _)));intro c1 w6 ho hb hg_ hnew_;have HN6:=zzm (Kd.N_lower ho HB5.out.size);have HB6:=zzm (zzp HB5.out hb);have b3:=zzm (zzh a9.out hb);clear hg_ hnew_ ho hb;obtain ⟨An,cn,e_⟩:=Kd.N_slice HN6.out;subst e_)|((with_reducible refine gate_dst (N:=14) rfl ?_);refine box_event ?hg (N:=14) ?hd (cs:=#[.bool false,.bool false,.int .i64 0,.int .i64 0,.int .i64 0,.slice none 0 0]) (t:=24) ?hr ?_;(case hd=>rfl);(case hg=>rfl);(case hr=>first|(go_simp;done)|(go_simp;rfl));intro g3 hg w7 hbox hb;have HB7:=zzm (zzp HB6.out hb);have b5:=zzm (zzh b3.out hb);have HN7:=zzm (Kd.N_below (Kd.N_elderB HN6.out g3 (Nat.le_of_eq hg.symm)) hb);have BY:=zzm hbox;have a8:=zzm (show w.heap.size≤g3 by rw [hg];exact HB6.out.size);have NE3:=zzm (show g1≠g3 by rw [hg];exact Nat.ne_of_lt (blk_lt b3.out));clear hb hbox hg d0 d1 d2 d3 d4 d5;have hz0:w7.cell? ⟨_,0,none⟩=some _:=(zzk BY.out 0).trans rfl;have hf0:=zzl BY.out 0;have hz1:w7.cell? ⟨_,1,none⟩=some _:=(zzk BY.out 1).trans rfl;have hf1:=zzl BY.out 1;have hz2:w7.cell? ⟨_,2,none⟩=some _:=(zzk BY.out 2).trans rfl;have hf2:=zzl BY.out 2;have hz3:w7.cell? ⟨_,3,none⟩=some _:=(zzk BY.out 3).trans rfl;have hf3:=zzl BY.out 3;have hz4:w7.cell? ⟨_,4,none⟩=some _:=(zzk BY.out 4).trans rfl;have hf4:=zzl BY.out 4;have hz5:w7.cell? ⟨_,5,none⟩=some _:=(zzk BY.out 5).trans rfl;have hf5:=zzl BY.out 5));have HN8:=zzm (Kd.N_far (p:=⟨g3,5,none⟩) (Kd.N_far (p:=⟨g3,4,none⟩) (Kd.N_far (p:=⟨g3,3,none⟩) (Kd.N_far (p:=⟨g3,2,none⟩) (Kd.N_far (p:=⟨g3,1,none⟩) (Kd.N_far (p:=⟨g3,0,none⟩) (HN7.out) (fun _ hk=>hk.2) (.bool false)) (fun _ hk=>hk.2) (.bool true)) (fun _ hk=>hk.2) (.int .i64 a0)) (fun _ hk=>hk.2) (.int .i64 a1)) (fun _ hk=>hk.2) (.int .i64 0)) (fun _ hk=>hk.2) (.slice An ([(⟨a2,a3,false,[],true,[0]⟩:S32)]:List S32).length cn));have b6:=zzm (zzj (p:=⟨g3,5,none⟩) (zzj (p:=⟨g3,4,none⟩) (zzj (p:=⟨g3,3,none⟩) (zzj (p:=⟨g3,2,none⟩) (zzj (p:=⟨g3,1,none⟩) (zzj (p:=⟨g3,0,none⟩) (b5.out) NE3.out (.bool false)) NE3.out (.bool true)) NE3.out (.int .i64 a0)) NE3.out (.int .i64 a1)) NE3.out (.int .i64 0)) NE3.out (.slice An ([(⟨a2,a3,false,[],true,[0]⟩:S32)]:List S32).length cn));have BY8:=zzm (zzi (cs:=#[.bool false,.bool true,.int .i64 a0,.int .i64 a1,.int .i64 0,.slice none 0 0]) (cs':=#[.bool false,.bool true,.int .i64 a0,.int .i64 a1,.int .i64 0,.slice An ([(⟨a2,a3,false,[],true,[0]⟩:S32)]:List S32).length cn]) (zzi (cs:=#[.bool false,.bool true,.int .i64 a0,.int .i64 a1,.int .i64 0,.slice none 0 0]) (cs':=#[.bool false,.bool true,.int .i64 a0,.int .i64 a1,.int .i64 0,.slice none 0 0]) (zzi (cs:=#[.bool false,.bool true,.int .i64 a0,.int .i64 0,.int .i64 0,.slice none 0 0]) (cs':=#[.bool false,.bool true,.int .i64 a0,.int .i64 a1,.int .i64 0,.slice none 0 0]) (zzi (cs:=#[.bool false,.bool true,.int .i64 0,.int .i64 0,.int .i64 0,.slice none 0 0]) (cs':=#[.bool false,.bool true,.int .i64 a0,.int .i64 0,.int .i64 0,.slice none 0 0]) (zzi (cs:=#[.bool false,.bool false,.int .i64 0,.int .i64 0,.int .i64 0,.slice none 0 0]) (cs':=#[.bool false,.bool true,.int .i64 0,.int .i64 0,.int .i64 0,.slice none 0 0]) (zzi (cs:=#[.bool false,.bool false,.int .i64 0,.int .i64 0,.int .i64 0,.slice none 0 0]) (cs':=#[.bool false,.bool false,.int .i64 0,.int .i64 0,.int .i64 0,.slice none 0 0]) (BY.out) 0 (.bool false) rfl) 1 (.bool true) rfl) 2 (.int .i64 a0) rfl) 3 (.int .i64 a1) rfl) 4 (.int .i64 0) rfl) 5 (.slice An ([(⟨a2,a3,false,[],true,[0]⟩:S32)]:List S32).length cn) rfl);have HB8:=zzm (zzd (zzd (zzd (zzd (zzd (zzd (HB7.out) a8.out (j:=0) (v:=.bool false)) a8.out (j:=1) (v:=.bool true)) a8.out (j:=2) (v:=.int .i64 a0)) a8.out (j:=3) (v:=.int .i64 a1)) a8.out (j:=4) (v:=.int .i64 0)) a8.out (j:=5) (v:=.slice An ([(⟨a2,a3,false,[],true,[0]⟩:S32)]:List S32).length cn));clear hz0 hz1 hz2 hz3 hz4 hz5 hf0 hf1 hf2 hf3 hf4 hf5 HB5 HB6 HB7 a9 b3 b5 HN6 HN7 HK5 HV5 BX5 BY;generalize (((((w7.setCell ⟨g3,0,none⟩ (.bool false)).setCell ⟨g3,1,none⟩ (.bool true)).setCell ⟨g3,2,none⟩ (.int .i64 a0)).setCell ⟨g3,3,none⟩ (.int .i64 a1)).setCell ⟨g3,4,none⟩ (.int .i64 0)).setCell ⟨g3,5,none⟩ (.slice An ([(⟨a2,a3,false,[],true,[0]⟩:S32)]:List S32).length cn)=w8 at HN8 b6 BY8 HB8 ⊢;have d0:w8.cell? ⟨g3,0,none⟩=some (.bool false):=(zzk BY8.out 0).trans rfl;have d1:w8.cell? ⟨g3,1,none⟩=some (.bool true):=(zzk BY8.out 1).trans rfl;have d2:w8.cell? ⟨g3,2,none⟩=some (.int .i64 a0):=(zzk BY8.out 2).trans rfl;have d3:w8.cell? ⟨g3,3,none⟩=some (.int .i64 a1):=(zzk BY8.out 3).trans rfl;have d4:w8.cell? ⟨g3,4,none⟩=some (.int .i64 0):=(zzk BY8.out 4).trans rfl;have d5:w8.cell? ⟨g3,5,none⟩=some (.slice An ([(⟨a2,a3,false,[],true,[0]⟩:S32)]:List S32).length cn):=(zzk BY8.out 5).trans rfl;go_wp2_with (((with_reducible refine gate_callee (f:=9) rfl ?_);refine goesL_ (some 28) rfl rfl Try.func9 (by kernel_rfl) rfl #[.agg #[.bool false,.bool true,.int .i64 a0,.int .i64 a1,.int .i64 0,.slice An ([(⟨a2,a3,false,[],true,[0]⟩:S32)]:List S32).length cn]] rfl (by (try simp only [map_toArray,map_cons,map_nil]);first|done|rfl) ?_;(with_reducible refine (Qe.calls k false true a0 a1 0 _ _ ([(⟨a2,a3,false,[],true,[0]⟩:S32)]:List S32) t _ ?s1 ?s2 A7.out).mono ?_);(case s1=>exact (Kd.N_reads' HN8.out).2.2);(case s2=>exact (Kd.N_reads' HN8.out).2.1);rintro e w9 ⟨rfl,hb⟩;refine ⟨_,rfl,?_⟩;have HN9:=zzm (Kd.N_below HN8.out hb);have a5:=zzm (zzh b6.out hb);have BY9:=zzm (zzh BY8.out hb);have HB9:=zzm (zzp HB8.out hb);clear hb d0 d1 d2 d3 d4 d5;have hz0:w9.cell? ⟨_,0,none⟩=some _:=(zzk a5.out 0).trans rfl;have hf0:=zzl a5.out 0;have hz1:w9.cell? ⟨_,1,none⟩=some _:=(zzk a5.out 1).trans rfl;have hf1:=zzl a5.out 1;have hz2:w9.cell? ⟨_,2,none⟩=some _:=(zzk a5.out 2).trans rfl;have hf2:=zzl a5.out 2;have hz3:w9.cell? ⟨_,3,none⟩=some _:=(zzk a5.out 3).trans rfl;have hf3:=zzl a5.out 3;have hz4:w9.cell? ⟨_,4,none⟩=some _:=(zzk a5.out 4).trans rfl;have hf4:=zzl a5.out 4;have hz5:w9.cell? ⟨_,5,none⟩=some _:=(zzk a5.out 5).trans rfl;have hf5:=zzl a5.out 5;have d0:w9.cell? ⟨g3,0,none⟩=some (.bool false):=(zzk BY9.out 0).trans rfl;have d1:w9.cell? ⟨g3,1,none⟩=some (.bool true):=(zzk BY9.out 1).trans rfl;have d2:w9.cell? ⟨g3,2,none⟩=some (.int .i64 a0):=(zzk BY9.out 2).trans rfl;have d3:w9.cell? ⟨g3,3,none⟩=some (.int .i64 a1):=(zzk BY9.out 3).trans rfl;have d4:w9.cell? ⟨g3,4,none⟩=some (.int .i64 0):=(zzk BY9.out 4).trans rfl;have d5:w9.cell? ⟨g3,5,none⟩=some (.slice An ([(⟨a2,a3,false,[],true,[0]⟩:S32)]:List S32).length cn):=(zzk BY9.out 5).trans rfl;cases t))
  ·
   have h2:=HH.out;simp only [if_true,Bool.false_eq_true,if_false,Option.some.injEq,Prod.mk.injEq] at h2;obtain ⟨rfl,rfl,rfl,rfl,rfl,rfl,rfl⟩:=h2;refine bodyPost_ret (results_ct rfl _ _ g1 24 #[.bool false,.bool false,.int .i64 0,.int .i64 0,.int .i64 0,.slice none 0 0] (0,0) _ rfl (zzi (cs:=#[.bool false,.bool false,.int .i64 0,.int .i64 0,.int .i64 0,.slice none 0 0]) (cs':=#[.bool false,.bool false,.int .i64 0,.int .i64 0,.int .i64 0,.slice none 0 0]) (zzi (cs:=#[.bool false,.bool false,.int .i64 0,.int .i64 0,.int .i64 0,.slice none 0 0]) (cs':=#[.bool false,.bool false,.int .i64 0,.int .i64 0,.int .i64 0,.slice none 0 0]) (zzi (cs:=#[.bool false,.bool false,.int .i64 0,.int .i64 0,.int .i64 0,.slice none 0 0]) (cs':=#[.bool false,.bool false,.int .i64 0,.int .i64 0,.int .i64 0,.slice none 0 0]) (zzi (cs:=#[.bool false,.bool false,.int .i64 0,.int .i64 0,.int .i64 0,.slice none 0 0]) (cs':=#[.bool false,.bool false,.int .i64 0,.int .i64 0,.int .i64 0,.slice none 0 0]) (zzi (cs:=#[.bool false,.bool false,.int .i64 0,.int .i64 0,.int .i64 0,.slice none 0 0]) (cs':=#[.bool false,.bool false,.int .i64 0,.int .i64 0,.int .i64 0,.slice none 0 0]) (zzi (cs:=#[.bool false,.bool false,.int .i64 0,.int .i64 0,.int .i64 0,.slice none 0 0]) (cs':=#[.bool false,.bool false,.int .i64 0,.int .i64 0,.int .i64 0,.slice none 0 0]) (a5.out) 0 (.bool false) rfl) 1 (.bool false) rfl) 2 (.int .i64 0) rfl) 3 (.int .i64 0) rfl) 4 (.int .i64 0) rfl) 5 (.slice none 0 0) rfl) Try.underlying24 rfl (by kernel_rfl)) rfl ?_;exact ⟨_,rfl,Kd.N_nil _ _ _ _ _,zzd (zzd (zzd (zzd (zzd (zzd (HB9.out) a6.out (j:=0) (v:=.bool false)) a6.out (j:=1) (v:=.bool false)) a6.out (j:=2) (v:=.int .i64 0)) a6.out (j:=3) (v:=.int .i64 0)) a6.out (j:=4) (v:=.int .i64 0)) a6.out (j:=5) (v:=.slice none 0 0)⟩
  ·
   have h2:=HH.out;simp only [if_true,Bool.false_eq_true,if_false,Option.some.injEq,Prod.mk.injEq] at h2;obtain ⟨rfl,rfl,rfl,rfl,rfl,rfl,rfl⟩:=h2;refine bodyPost_ret (results_ct rfl _ _ g1 24 #[.bool false,.bool true,.int .i64 a0,.int .i64 a1,.int .i64 0,.slice An ([(⟨a2,a3,false,[],true,[0]⟩:S32)]:List S32).length cn] (0,0) _ rfl (zzi (cs:=#[.bool false,.bool true,.int .i64 a0,.int .i64 a1,.int .i64 0,.slice none 0 0]) (cs':=#[.bool false,.bool true,.int .i64 a0,.int .i64 a1,.int .i64 0,.slice An ([(⟨a2,a3,false,[],true,[0]⟩:S32)]:List S32).length cn]) (zzi (cs:=#[.bool false,.bool true,.int .i64 a0,.int .i64 a1,.int .i64 0,.slice none 0 0]) (cs':=#[.bool false,.bool true,.int .i64 a0,.int .i64 a1,.int .i64 0,.slice none 0 0]) (zzi (cs:=#[.bool false,.bool true,.int .i64 a0,.int .i64 0,.int .i64 0,.slice none 0 0]) (cs':=#[.bool false,.bool true,.int .i64 a0,.int .i64 a1,.int .i64 0,.slice none 0 0]) (zzi (cs:=#[.bool false,.bool true,.int .i64 0,.int .i64 0,.int .i64 0,.slice none 0 0]) (cs':=#[.bool false,.bool true,.int .i64 a0,.int .i64 0,.int .i64 0,.slice none 0 0]) (zzi (cs:=#[.bool false,.bool false,.int .i64 0,.int .i64 0,.int .i64 0,.slice none 0 0]) (cs':=#[.bool false,.bool true,.int .i64 0,.int .i64 0,.int .i64 0,.slice none 0 0]) (zzi (cs:=#[.bool false,.bool false,.int .i64 0,.int .i64 0,.int .i64 0,.slice none 0 0]) (cs':=#[.bool false,.bool false,.int .i64 0,.int .i64 0,.int .i64 0,.slice none 0 0]) (a5.out) 0 (.bool false) rfl) 1 (.bool true) rfl) 2 (.int .i64 a0) rfl) 3 (.int .i64 a1) rfl) 4 (.int .i64 0) rfl) 5 (.slice An ([(⟨a2,a3,false,[],true,[0]⟩:S32)]:List S32).length cn) rfl) Try.underlying24 rfl (by kernel_rfl)) rfl ?_;exact ⟨_,rfl,Kd.N_mono (Kd.N_far (p:=⟨g1,5,none⟩) (Kd.N_far (p:=⟨g1,4,none⟩) (Kd.N_far (p:=⟨g1,3,none⟩) (Kd.N_far (p:=⟨g1,2,none⟩) (Kd.N_far (p:=⟨g1,1,none⟩) (Kd.N_far (p:=⟨g1,0,none⟩) (Kd.N_mono HN9.out (fun k hk=>(⟨hk.1.1,hk.1.2⟩:_∧k≠g1))) (fun _ hk=>hk.2) (.bool false)) (fun _ hk=>hk.2) (.bool true)) (fun _ hk=>hk.2) (.int .i64 a0)) (fun _ hk=>hk.2) (.int .i64 a1)) (fun _ hk=>hk.2) (.int .i64 0)) (fun _ hk=>hk.2) (.slice An ([(⟨a2,a3,false,[],true,[0]⟩:S32)]:List S32).length cn)) (fun _ hk=>hk.1),zzd (zzd (zzd (zzd (zzd (zzd (HB9.out) a6.out (j:=0) (v:=.bool false)) a6.out (j:=1) (v:=.bool true)) a6.out (j:=2) (v:=.int .i64 a0)) a6.out (j:=3) (v:=.int .i64 a1)) a6.out (j:=4) (v:=.int .i64 0)) a6.out (j:=5) (v:=.slice An ([(⟨a2,a3,false,[],true,[0]⟩:S32)]:List S32).length cn)⟩
def Qf.f (a0:Int) (a1:Int) (a2:Int):Option (Bool):=if a0 ≥ a1 then (some (decide (a0≤a2))) else (some false)
set_option maxHeartbeats 8000000 in
theorem Qf.calls (a0:Int) (a1:Int) (a2:Int) (r:Bool) (w:World) (h:Qf.f a0 a1 a2=some r) :
  Calls Try.prog 17 #[.int .i64 a0,.int .i64 a1,.int .i64 a2] w fun e w'=>e = .returned (.bool r)∧Drawn0 w w':=by
 have H:(if a0 ≥ a1 then (some (decide (a0≤a2))) else (some false))=some r:=h;clear h;by_cases c4:a0 ≥ a1
 ·
  rw [if_pos c4] at H;have c4b0:decide (a1≤a0)=true:=decide_eq_true c4;clear c4;obtain rfl:=Option.some.inj H;go_enter Try.func17,Try.ntmps17;go_wp2;go_ret;exact ⟨by first|rfl|(simp;done)|(simp [*];done),by repeat (first|exact Drawn0.refl _|apply Drawn0.step)⟩
 ·
  rw [if_neg c4] at H;have c4b0:decide (a1≤a0)=false:=decide_eq_false c4;clear c4;obtain rfl:=Option.some.inj H;go_enter Try.func17,Try.ntmps17;go_wp2;go_ret;exact ⟨by first|rfl|(simp;done)|(simp [*];done),by repeat (first|exact Drawn0.refl _|apply Drawn0.step)⟩
def Qw.f (a0:Int):Option (Bool):=(Qf.f a0 0 254).bind fun t120=>(some t120)
set_option maxHeartbeats 8000000 in
theorem Qw.calls (a0:Int) (r:Bool) (w:World) (h:Qw.f a0=some r) :
  Calls Try.prog 16 #[.int .i64 a0] w fun e w'=>e = .returned (.bool r)∧Drawn0 w w':=by
 have H:((Qf.f a0 0 254).bind fun a1=>(some a1))=some r:=h;clear h;obtain ⟨a1,A2,H⟩:=zzG H;obtain rfl:=Option.some.inj H;go_enter Try.func16,Try.ntmps16;go_wp2_with (first|((with_reducible refine gate_callee (f:=17) rfl ?_);refine goesL_ (some 4) rfl rfl Try.func17 (by kernel_rfl) rfl #[.int .i64 a0,.int .i64 0,.int .i64 254] rfl zzM2 ?_;(with_reducible refine (Qf.calls a0 0 254 a1 _ A2.out).mono ?_);rintro e w' ⟨rfl,⟨nd,rfl⟩⟩;refine ⟨_,rfl,?_⟩));go_ret;exact ⟨by first|rfl|(simp;done)|(simp [*];done),by repeat (first|exact Drawn0.refl _|apply Drawn0.step)⟩
def Qv.f (a0:Int) (a1:Int):Option (Bool):=(Qf.f a0 0 99999).bind fun t121=>(if t121=true then ((Qf.f a1 0 99999).bind fun t122=>(some t122)) else (some false))
set_option maxHeartbeats 8000000 in
theorem Qv.calls (a0:Int) (a1:Int) (r:Bool) (w:World) (h:Qv.f a0 a1=some r) :
  Calls Try.prog 23 #[.int .i64 a0,.int .i64 a1] w fun e w'=>e = .returned (.bool r)∧Drawn0 w w':=by
 have H:((Qf.f a0 0 99999).bind fun a2=>(if a2=true then ((Qf.f a1 0 99999).bind fun a3=>(some a3)) else (some false)))=some r:=h;clear h;obtain ⟨a2,A3,H⟩:=zzG H;by_cases c4:a2=true
 ·
  subst c4;replace H:=zzIt H;obtain ⟨a3,A5,H⟩:=zzG H;obtain rfl:=Option.some.inj H;go_enter Try.func23,Try.ntmps23;go_wp2_with (first|((with_reducible refine gate_callee (f:=17) rfl ?_);refine goesL_ (some 6) rfl rfl Try.func17 (by kernel_rfl) rfl #[.int .i64 a0,.int .i64 0,.int .i64 99999] rfl zzM2 ?_;(with_reducible refine (Qf.calls a0 0 99999 true _ A3.out).mono ?_);rintro e w' ⟨rfl,⟨nd,rfl⟩⟩;refine ⟨_,rfl,?_⟩)|(go_at_call 17;(with_reducible refine (Qf.calls a1 0 99999 a3 _ A5.out).mono ?_);rintro e w' ⟨rfl,⟨nd,rfl⟩⟩));go_ret;exact ⟨by first|rfl|(simp;done)|(simp [*];done),by repeat (first|exact Drawn0.refl _|apply Drawn0.step)⟩
 ·
  replace c4:=Bool.eq_false_iff.mpr c4;subst c4;replace H:=zzIf H;obtain rfl:=Option.some.inj H;go_enter Try.func23,Try.ntmps23;go_wp2_with (first|((with_reducible refine gate_callee (f:=17) rfl ?_);refine goesL_ (some 6) rfl rfl Try.func17 (by kernel_rfl) rfl #[.int .i64 a0,.int .i64 0,.int .i64 99999] rfl zzM2 ?_;(with_reducible refine (Qf.calls a0 0 99999 false _ A3.out).mono ?_);rintro e w' ⟨rfl,⟨nd,rfl⟩⟩;refine ⟨_,rfl,?_⟩));go_ret;exact ⟨by first|rfl|(simp;done)|(simp [*];done),by repeat (first|exact Drawn0.refl _|apply Drawn0.step)⟩

set_option linter.unusedVariables false
set_option linter.unusedSimpArgs false
def Ra.f (a0:Int):Option (Bool):=if a0 ≥ 0 then (some (decide (a0≤255))) else (some false)
set_option maxHeartbeats 8000000 in
theorem Ra.calls (a0:Int) (r:Bool) (w:World) (h:Ra.f a0=some r) :
  Calls Try.prog 29 #[.int .i64 a0] w fun e w'=>e = .returned (.bool r)∧Drawn0 w w':=by
 have H:(if a0 ≥ 0 then (some (decide (a0≤255))) else (some false))=some r:=h;clear h;by_cases c2:a0 ≥ 0
 ·
  rw [if_pos c2] at H;have c2b0:decide (0≤a0)=true:=decide_eq_true c2;clear c2;obtain rfl:=Option.some.inj H;go_enter Try.func29,Try.ntmps29;go_wp2;go_ret;exact ⟨by first|rfl|(simp;done)|(simp [*];done),by repeat (first|exact Drawn0.refl _|apply Drawn0.step)⟩
 ·
  rw [if_neg c2] at H;have c2b0:decide (0≤a0)=false:=decide_eq_false c2;clear c2;obtain rfl:=Option.some.inj H;go_enter Try.func29,Try.ntmps29;go_wp2;go_ret;exact ⟨by first|rfl|(simp;done)|(simp [*];done),by repeat (first|exact Drawn0.refl _|apply Drawn0.step)⟩
def Qk.l0:Nat→List Int→Int→Int→Option (Bool)
 | 0,_,_,_=>none
 | k+1,x5,x6,x7=>if x7 < x6 then (if 0≤x7 then (if x7 < (x5.length:Int) then ((Ra.f (rd x5 x7)).bind fun t124=>(if t124=true then (Qk.l0 k x5 x6 (wrap64 (x7+1))) else (some false))) else (none)) else (none)) else (some true)
def Qk.f (k:Nat) (l0:List Int):Option (Bool):=Qk.l0 k l0 (l0.length:Int) 0
set_option maxHeartbeats 8000000 in
theorem Qk.calls (k:Nat) (A0:Option Addr) (c0:Nat) (l0:List Int) (r:Bool) (w:World) (a6:Kd.C (Kd.int .i64) w A0 l0.length l0) (a7:l0.length≤c0) (h:Qk.f k l0=some r) :
  Calls Try.prog 27 #[.slice A0 l0.length c0] w fun e w'=>e = .returned (.bool r)∧Drawn0 w w':=by
 have a8:=zzm a6;have b3:=zzm a7;clear a6 a7;have H:(Qk.l0 k l0 (l0.length:Int) 0)=some r:=h;clear h;have H':=zzm H;clear H;go_enter Try.func27,Try.ntmps27;go_wp2;go_loopg [7] k (fun kq v7 w'=>∃ (a0:Int),v7 = .int .i64 a0∧Aside0 (Qk.l0 kq l0 (l0.length:Int) a0=some r)∧Aside0 (kq≤k)∧Drawn0 w w')
 case atStart=>exact ⟨(0),(by first|rfl|(simp;done)|(simp [*];done)),H',⟨Nat.le_refl _⟩,by repeat (first|exact Drawn0.refl _|apply Drawn0.step)⟩
 case round=>
  clear H';obtain ⟨a0,rfl,HA,HK1,⟨m1,rfl⟩⟩:=hrel;cases gk with
  | zero=>exact absurd HA.out (by simp [Qk.l0])
  | succ k1=>
   have H:=HA.out;clear HA;simp only [Qk.l0] at H;by_cases c2:a0 < (l0.length:Int)
   ·
    rw [if_pos c2] at H;have a9:decide (a0 < (l0.length:Int))=true:=decide_eq_true c2;clear c2;by_cases c3 : 0≤a0
    ·
     rw [if_pos c3] at H;have b1:decide (0≤a0)=true:=decide_eq_true c3;clear c3;by_cases c4:a0 < (l0.length:Int)
     ·
      rw [if_pos c4] at H;have b2:decide (a0 < (l0.length:Int))=true:=decide_eq_true c4;clear c4;obtain ⟨b0,A5,H⟩:=zzG H;by_cases c6:b0=true
      ·
       subst c6;replace H:=zzIt H;have H':=zzm H;clear H;have a1 : 0≤(a0:Int):=zzt;have a2:a0 < (l0.length:Int):=zzt;obtain ⟨a5,a3,a4⟩:=Kd.at_int a8.out a0 a1 a2;cases a3;replace a1:=eq_true a1;replace a2:=eq_true a2;go_wp2_with (first|((with_reducible refine gate_callee (f:=29) rfl ?_);refine goesL_ (some 12) rfl rfl Try.func29 (by kernel_rfl) rfl #[.int .i64 (rd l0 a0)] rfl zzM2 ?_;(with_reducible refine (Ra.calls (rd l0 a0) true _ A5.out).mono ?_);rintro e w' ⟨rfl,⟨nd,rfl⟩⟩;refine ⟨_,rfl,?_⟩));go_roundg k1
       case measure=>have:=HK1.out;omega
       case rel=>exact ⟨(wrap64 (a0+1)),(by first|rfl|(simp;done)|(simp [*];done)),H',⟨by have:=HK1.out;omega⟩,by repeat (first|exact Drawn0.refl _|apply Drawn0.step)⟩
      ·
       replace c6:=Bool.eq_false_iff.mpr c6;subst c6;replace H:=zzIf H;obtain rfl:=Option.some.inj H;have a1 : 0≤(a0:Int):=zzt;have a2:a0 < (l0.length:Int):=zzt;obtain ⟨a5,a3,a4⟩:=Kd.at_int a8.out a0 a1 a2;cases a3;replace a1:=eq_true a1;replace a2:=eq_true a2;go_wp2_with (first|((with_reducible refine gate_callee (f:=29) rfl ?_);refine goesL_ (some 12) rfl rfl Try.func29 (by kernel_rfl) rfl #[.int .i64 (rd l0 a0)] rfl zzM2 ?_;(with_reducible refine (Ra.calls (rd l0 a0) false _ A5.out).mono ?_);rintro e w' ⟨rfl,⟨nd,rfl⟩⟩;refine ⟨_,rfl,?_⟩));go_ret;exact ⟨by first|rfl|(simp;done)|(simp [*];done),by repeat (first|exact Drawn0.refl _|apply Drawn0.step)⟩
     ·
      rw [if_neg c4] at H;exact absurd H (by simp)
    ·
     rw [if_neg c3] at H;exact absurd H (by simp)
   ·
    rw [if_neg c2] at H;have a9:decide (a0 < (l0.length:Int))=false:=decide_eq_false c2;clear c2;obtain rfl:=Option.some.inj H;go_wp2;go_ret;exact ⟨by first|rfl|(simp;done)|(simp [*];done),by repeat (first|exact Drawn0.refl _|apply Drawn0.step)⟩

set_option linter.unusedVariables false
set_option linter.unusedSimpArgs false
def Qq.f (k:Nat) (a0:Bool) (l1:List Int):Option (Bool):=if a0=true then (if (l1.length:Int)≤12 then ((Qk.f k l1).bind fun t125=>(some t125)) else (some false)) else (some ((l1.length:Int)==0))
set_option maxHeartbeats 8000000 in
theorem Qq.calls (k:Nat) (a0:Bool) (A1:Option Addr) (c1:Nat) (l1:List Int) (r:Bool) (w:World) (a2:Kd.C (Kd.int .i64) w A1 l1.length l1) (a3:l1.length≤c1) (h:Qq.f k a0 l1=some r) :
  Calls Try.prog 24 #[.bool a0,.slice A1 l1.length c1] w fun e w'=>e = .returned (.bool r)∧Drawn0 w w':=by
 have a6:=zzm a2;have a7:=zzm a3;clear a2 a3;have H:(if a0=true then (if (l1.length:Int)≤12 then ((Qk.f k l1).bind fun a1=>(some a1)) else (some false)) else (some ((l1.length:Int)==0)))=some r:=h;clear h;by_cases c3:a0=true
 ·
  subst c3;replace H:=zzIt H;by_cases c4:(l1.length:Int)≤12
  ·
   rw [if_pos c4] at H;have a4:decide ((l1.length:Int)≤12)=true:=decide_eq_true c4;have a5:decide (l1.length≤12)=true:=decide_eq_true (by omega);clear c4;obtain ⟨a1,A5,H⟩:=zzG H;obtain rfl:=Option.some.inj H;go_enter Try.func24,Try.ntmps24;go_wp2_with (first|(go_at_call 27;(with_reducible refine (Qk.calls k _ _ l1 a1 _ ?side1 ?side2 A5.out).mono ?_);(case side1=>repeat (first|exact a6.out|(with_reducible refine Kd.C_alloc ?_ _)|(with_reducible refine Kd.C_drewN ?_ _)|(with_reducible refine Kd.C_drew ?_)));(case side2=>exact a7.out);rintro e w' ⟨rfl,⟨nd,rfl⟩⟩));go_ret;exact ⟨by first|rfl|(simp;done)|(simp [*];done),by repeat (first|exact Drawn0.refl _|apply Drawn0.step)⟩
  ·
   rw [if_neg c4] at H;have a4:decide ((l1.length:Int)≤12)=false:=decide_eq_false c4;have a5:decide (l1.length≤12)=false:=decide_eq_false (by omega);clear c4;obtain rfl:=Option.some.inj H;go_enter Try.func24,Try.ntmps24;go_wp2;go_ret;exact ⟨by first|rfl|(simp;done)|(simp [*];done),by repeat (first|exact Drawn0.refl _|apply Drawn0.step)⟩
 ·
  replace c3:=Bool.eq_false_iff.mpr c3;subst c3;replace H:=zzIf H;obtain rfl:=Option.some.inj H;go_enter Try.func24,Try.ntmps24;go_wp2;go_ret;exact ⟨by first|rfl|(simp;done)|(simp [*];done),by repeat (first|exact Drawn0.refl _|apply Drawn0.step)⟩
def Qu.f (k:Nat) (a0_0:Int) (a0_1:Int) (a0_2:Bool) (l0_3:List Int) (a0_4:Bool) (l0_5:List Int):Option (Bool):=(Qv.f a0_0 a0_1).bind fun t127=>(if t127=true then ((Qq.f k a0_2 l0_3).bind fun t128=>(if t128=true then ((Qq.f k a0_4 l0_5).bind fun t129=>(some t129)) else (some false))) else (some false))
set_option maxHeartbeats 8000000 in
theorem Qu.calls (k:Nat) (a0:Int) (a1:Int) (a5:Bool) (b2:Option Addr) (b3:Nat) (a2:List Int) (a6:Bool) (b4:Option Addr) (b5:Nat) (a4:List Int) (r:Bool) (w:World) (b9:Kd.C (Kd.int .i64) w b2 a2.length a2) (c0:a2.length≤b3) (c1:Kd.C (Kd.int .i64) w b4 a4.length a4) (c2:a4.length≤b5) (h:Qu.f k a0 a1 a5 a2 a6 a4=some r) :
  Calls Try.prog 18 #[.agg #[.int .i64 a0,.int .i64 a1,.bool a5,.slice b2 a2.length b3,.bool a6,.slice b4 a4.length b5]] w fun e w'=>e = .returned (.bool r)∧Below w.heap.size w w':=by
 have hu32:=Try.underlying32;have c4:=zzm b9;have c7:=zzm c0;clear b9 c0;have d0:=zzm c1;have d1:=zzm c2;clear c1 c2;have HB:=zzm (Below.refl w.heap.size w);have H:((Qv.f a0 a1).bind fun b6=>(if b6=true then ((Qq.f k a5 a2).bind fun b7=>(if b7=true then ((Qq.f k a6 a4).bind fun b8=>(some b8)) else (some false))) else (some false)))=some r:=h;clear h;obtain ⟨b6,A2,H⟩:=zzG H;by_cases c3:b6=true
 ·
  subst c3;replace H:=zzIt H;obtain ⟨b7,A4,H⟩:=zzG H;by_cases c5:b7=true
  ·
   subst c5;replace H:=zzIt H;obtain ⟨b8,A6,H⟩:=zzG H;obtain rfl:=Option.some.inj H;go_enter Try.func18,Try.ntmps18;go_wp2_with (first|((with_reducible refine gate_dst (N:=1) rfl ?_);refine box_event ?hg (N:=1) ?hd (cs:=#[.int .i64 a0,.int .i64 a1,.bool a5,.slice b2 a2.length b3,.bool a6,.slice b4 a4.length b5]) (t:=32) ?hr ?_;(case hd=>rfl);(case hg=>rfl);(case hr=>first|(go_simp;done)|(go_simp;rfl));intro a3 hg w7 hbox hb;have a8:=zzm (zzp zzh1 hb);have a9:=zzm (hbox);have b0:=zzm ((by rw [hg];exact (zzo zzh1):w.heap.size≤a3));have b1:=zzm ((by rw [hg];exact (zzo zzh1):w.heap.size≤a3));clear HB;have HB:=a8;have a7:=a9;have c8:=b0;have c9:=b1;clear a8 a9 b0 b1 hb hbox hg;obtain ⟨g6,g7,g8,g9,h0,h1,h2,h3,h4,h5,h6,h7⟩:=zzc6 a7.out)|((with_reducible refine gate_callee (f:=23) rfl ?_);refine goesL_ (some 7) rfl rfl Try.func23 (by kernel_rfl) rfl #[.int .i64 a0,.int .i64 a1] rfl zzM2 ?_;(with_reducible refine (Qv.calls a0 a1 true _ A2.out).mono ?_);rintro e w' ⟨rfl,⟨nd,rfl⟩⟩;refine ⟨_,rfl,?_⟩)|(go_at_call 24;(with_reducible refine (Qq.calls k a5 _ _ a2 true _ ?side1 ?side2 A4.out).mono ?_);(case side1=>repeat (first|exact (Kd.C_below c4.out zzh2)|(with_reducible refine Kd.C_alloc ?_ _)|(with_reducible refine Kd.C_drewN ?_ _)|(with_reducible refine Kd.C_drew ?_)));(case side2=>exact c7.out);rintro e w' ⟨rfl,⟨nd,rfl⟩⟩)|(go_at_call 24;(with_reducible refine (Qq.calls k a6 _ _ a4 b8 _ ?side1 ?side2 A6.out).mono ?_);(case side1=>repeat (first|exact (Kd.C_below d0.out zzh2)|(with_reducible refine Kd.C_alloc ?_ _)|(with_reducible refine Kd.C_drewN ?_ _)|(with_reducible refine Kd.C_drew ?_)));(case side2=>exact d1.out);rintro e w' ⟨rfl,⟨nd,rfl⟩⟩));go_ret;exact ⟨zzR,zzh3⟩
  ·
   replace c5:=Bool.eq_false_iff.mpr c5;subst c5;replace H:=zzIf H;obtain rfl:=Option.some.inj H;go_enter Try.func18,Try.ntmps18;go_wp2_with (first|((with_reducible refine gate_dst (N:=1) rfl ?_);refine box_event ?hg (N:=1) ?hd (cs:=#[.int .i64 a0,.int .i64 a1,.bool a5,.slice b2 a2.length b3,.bool a6,.slice b4 a4.length b5]) (t:=32) ?hr ?_;(case hd=>rfl);(case hg=>rfl);(case hr=>first|(go_simp;done)|(go_simp;rfl));intro a3 hg w9 hbox hb;have a8:=zzm (zzp zzh1 hb);have a9:=zzm (hbox);have b0:=zzm ((by rw [hg];exact (zzo zzh1):w.heap.size≤a3));have b1:=zzm ((by rw [hg];exact (zzo zzh1):w.heap.size≤a3));clear HB;have HB:=a8;have a7:=a9;have c8:=b0;have c9:=b1;clear a8 a9 b0 b1 hb hbox hg;obtain ⟨d2,d3,d4,d5,d6,d7,d8,d9,e0,e1,e2,e3⟩:=zzc6 a7.out)|((with_reducible refine gate_callee (f:=23) rfl ?_);refine goesL_ (some 7) rfl rfl Try.func23 (by kernel_rfl) rfl #[.int .i64 a0,.int .i64 a1] rfl zzM2 ?_;(with_reducible refine (Qv.calls a0 a1 true _ A2.out).mono ?_);rintro e w' ⟨rfl,⟨nd,rfl⟩⟩;refine ⟨_,rfl,?_⟩)|(go_at_call 24;(with_reducible refine (Qq.calls k a5 _ _ a2 false _ ?side1 ?side2 A4.out).mono ?_);(case side1=>repeat (first|exact (Kd.C_below c4.out zzh2)|(with_reducible refine Kd.C_alloc ?_ _)|(with_reducible refine Kd.C_drewN ?_ _)|(with_reducible refine Kd.C_drew ?_)));(case side2=>exact c7.out);rintro e w' ⟨rfl,⟨nd,rfl⟩⟩));go_ret;exact ⟨zzR,zzh3⟩
 ·
  replace c3:=Bool.eq_false_iff.mpr c3;subst c3;replace H:=zzIf H;obtain rfl:=Option.some.inj H;go_enter Try.func18,Try.ntmps18;go_wp2_with (first|((with_reducible refine gate_dst (N:=1) rfl ?_);refine box_event ?hg (N:=1) ?hd (cs:=#[.int .i64 a0,.int .i64 a1,.bool a5,.slice b2 a2.length b3,.bool a6,.slice b4 a4.length b5]) (t:=32) ?hr ?_;(case hd=>rfl);(case hg=>rfl);(case hr=>first|(go_simp;done)|(go_simp;rfl));intro a3 hg h8 hbox hb;have a8:=zzm (zzp zzh1 hb);have a9:=zzm (hbox);have b0:=zzm ((by rw [hg];exact (zzo zzh1):w.heap.size≤a3));have b1:=zzm ((by rw [hg];exact (zzo zzh1):w.heap.size≤a3));clear HB;have HB:=a8;have a7:=a9;have c8:=b0;have c9:=b1;clear a8 a9 b0 b1 hb hbox hg;obtain ⟨e4,e5,e6,e7,e8,e9,g0,g1,g2,g3,g4,g5⟩:=zzc6 a7.out)|((with_reducible refine gate_callee (f:=23) rfl ?_);refine goesL_ (some 7) rfl rfl Try.func23 (by kernel_rfl) rfl #[.int .i64 a0,.int .i64 a1] rfl zzM2 ?_;(with_reducible refine (Qv.calls a0 a1 false _ A2.out).mono ?_);rintro e w' ⟨rfl,⟨nd,rfl⟩⟩;refine ⟨_,rfl,?_⟩));go_ret;exact ⟨zzR,zzh3⟩

set_option linter.unusedVariables false
set_option linter.unusedSimpArgs false
mutual
def Qb.j0:Nat→Bool→Bool→Int→Int→Int→List (S32)→Option (Bool)
 | 0,_,_,_,_,_,_=>none
 | k+1,x131000,x131001,x131002,x131003,x131004,x131005=>(Qf.f (x131005.length:Int) 1 6).bind fun t134=>(if t134=true then (if x131001=true then (Qb.j1 k ((x131005.length:Int) != 1) x131000 x131001 x131002 x131003 x131004 x131005) else (Qb.j1 k false x131000 x131001 x131002 x131003 x131004 x131005)) else (Qb.j1 k true x131000 x131001 x131002 x131003 x131004 x131005))
def Qb.j1:Nat→Bool→Bool→Bool→Int→Int→Int→List (S32)→Option (Bool)
 | 0,_,_,_,_,_,_,_=>none
 | k+1,x50,x131000,x131001,x131002,x131003,x131004,x131005=>if x50=true then (some false) else (Qb.l0 k x131005 (x131005.length:Int) 0 x131000 x131001 x131002 x131003 x131004 x131005)
def Qb.l0:Nat→List (S32)→Int→Int→Bool→Bool→Int→Int→Int→List (S32)→Option (Bool)
 | 0,_,_,_,_,_,_,_,_,_=>none
 | k+1,x52,x53,x54,x131000,x131001,x131002,x131003,x131004,x131005=>if x54 < x53 then (if 0≤x54 then (if x54 < (x52.length:Int) then ((Qu.f k ((Qa x52 x54).f0) ((Qa x52 x54).f1) ((Qa x52 x54).f2) ((Qa x52 x54).f3) ((Qa x52 x54).f4) ((Qa x52 x54).f5)).bind fun t137=>(if t137=true then (if x54 > 0 then (if 0≤(wrap64 (x54 - 1)) then (if (wrap64 (x54 - 1)) < (x131005.length:Int) then (if ((Qa x131005 (wrap64 (x54 - 1))).f0) ≥ ((Qa x52 x54).f0) then (some false) else (Qb.l0 k x52 x53 (wrap64 (x54+1)) x131000 x131001 x131002 x131003 x131004 x131005)) else (none)) else (none)) else (Qb.l0 k x52 x53 (wrap64 (x54+1)) x131000 x131001 x131002 x131003 x131004 x131005)) else (some false))) else (none)) else (none)) else (some true)
end
def Qb.f (k:Nat) (a0_0:Bool) (a0_1:Bool) (a0_2:Int) (a0_3:Int) (a0_4:Int) (l0_5:List (S32)):Option (Bool):=if a0_2=255 then (if a0_3=0 then (if a0_4=0 then (if a0_1=true then (some false) else (Qb.j0 k a0_0 a0_1 a0_2 a0_3 a0_4 l0_5)) else (some false)) else (some false)) else ((Qw.f a0_2).bind fun t131=>(if t131=true then ((Qf.f a0_3 0 99).bind fun t132=>(if t132=true then ((Qf.f a0_4 0 9999).bind fun t133=>(if t133=true then (Qb.j0 k a0_0 a0_1 a0_2 a0_3 a0_4 l0_5) else (some false))) else (some false))) else (some false)))
def Qb.T11:Bool×List (List Nat×List Nat):=(true,[([],[]),([0],[0]),([1],[1]),([2,1],[2]),([3],[3]),([4,3],[3,4]),([5,3,3],[3,5]),([6],[6]),([7,6],[6,7]),([6],[6]),([9,6],[6,9]),([8,10,6],[6,8,10]),([11,6],[6,11]),([12,6],[6,12]),([6],[6]),([14,6],[6,14]),([13,15,6],[6,13,15]),([6,16,3],[3,6,16]),([3,17],[3,17])])
def Qb.B11:List Nat:=[0,1,3,7,15,31,63,127,255,127,639,2047,4095,8191,127,16511,65535,131071,262143]
theorem Qb.tab11:rtab .any (opsOf Try.f10 11)=Qb.T11:=by kernel_rfl
theorem Qb.bits11:waitsOk Qb.T11.2 Qb.B11=true:=by kernel_rfl
set_option maxHeartbeats 8000000 in
theorem Qb.calls (k:Nat) (c4:Bool) (c0:Bool) (b4:Int) (b8:Int) (b9:Int) (j7:Option Addr) (c9:Nat) (a1:List (S32)) (r:Bool) (w:World) (C7:Kd.C k32 w j7 a1.length a1) (C8:a1.length≤c9) (h:Qb.f k c4 c0 b4 b8 b9 a1=some r) :
  Calls Try.prog 10 #[.agg #[.bool c4,.bool c0,.int .i64 b4,.int .i64 b8,.int .i64 b9,.slice j7 a1.length c9]] w fun e w'=>e = .returned (.bool r)∧Below w.heap.size w w':=by
 have hu24:=Try.underlying24;have hu32:=Try.underlying32;have j2:=zzm C7;have M0:=zzm C8;clear C7 C8;have HB:=zzm (Below.refl w.heap.size w);have H:(if b4=255 then (if b8=0 then (if b9=0 then (if c0=true then (some false) else (Qb.j0 k c4 c0 b4 b8 b9 a1)) else (some false)) else (some false)) else ((Qw.f b4).bind fun C2=>(if C2=true then ((Qf.f b8 0 99).bind fun C3=>(if C3=true then ((Qf.f b9 0 9999).bind fun C4=>(if C4=true then (Qb.j0 k c4 c0 b4 b8 b9 a1) else (some false))) else (some false))) else (some false))))=some r:=h;clear h;have F3:=zzm H;clear H;go_enter Try.func10,Try.ntmps10;go_upto_if 7 with (first|((with_reducible refine gate_dst (N:=1) rfl ?_);(try (refine gate_guard (by rfl) ?_;dsimp only));refine box_event ?hg (N:=1) ?hd (cs:=#[.bool c4,.bool c0,.int .i64 b4,.int .i64 b8,.int .i64 b9,.slice j7 a1.length c9]) (t:=24) ?hr ?_;(case hd=>rfl);(case hg=>rfl);(case hr=>first|(go_simp;done)|(go_simp;rfl));intro b0 hg w3 hbox hb;have b5:=zzm (zzp zzh1 hb);have b6:=zzm (hbox);have b7:=zzm ((by rw [hg];exact (zzo zzh1):w.heap.size≤b0));have g4:=zzm ((by rw [hg];exact (zzo zzh1):w.heap.size≤b0));clear HB;have HB:=b5;have a3:=b6;have M1:=b7;have M2:=g4;clear b5 b6 b7 g4 hb hbox hg;obtain ⟨s7,s8,s9,t0,t1,t2,t3,t4,t5,t6,t7,t8⟩:=zzc6 a3.out))
 (try simp only [Act.put,zzq,zzr,zzs]);go_cut [] (fun wc=>∃ (kq:Nat),Aside0 (Qb.j0 kq c4 c0 b4 b8 b9 a1=some r)∧Aside0 (kq≤k)∧Aside0 (wc.heap[b0]? = some (.cells #[.bool c4,.bool c0,.int .i64 b4,.int .i64 b8,.int .i64 b9,(.slice j7 a1.length c9)] 24 (0,0)))∧Aside0 (Below w.heap.size w wc))
 case first=>
  have H:=F3.out;clear F3;by_cases c5:b4=255
  ·
   rw [if_pos c5] at H;obtain ⟨h6,B0⟩:=zzQ c5;clear c5
   (first|rw [h6]|(simp only [i64_w,i32_w];rw [h6])|skip);by_cases c6:b8=0
   ·
    rw [if_pos c6] at H;obtain ⟨B1,B2⟩:=zzQ c6;clear c6;by_cases c7:b9=0
    ·
     rw [if_pos c7] at H;obtain ⟨B3,B5⟩:=zzQ c7;clear c7;by_cases c8:c0=true
     ·
      subst c8;replace H:=zzIt H;obtain rfl:=Option.some.inj H;obtain ⟨t9,v0,v1,v2,v3,v4,v5,v6,v7,v8,v9,w0⟩:=zzc6 a3.out;go_wp2;go_ret;exact ⟨zzR,zzh3⟩
     ·
      replace c8:=Bool.eq_false_iff.mpr c8;subst c8;replace H:=zzIf H;have H':=zzm H;clear H;obtain ⟨j8,j9,k0,k1,k2,k4,k5,k6,k7,k8,k9,l1⟩:=zzc6 a3.out;go_wp2;go_meet
      case rel=>exact ⟨_,H',⟨by first|omega|exact Nat.le_refl _⟩,⟨zzE a3.out⟩,⟨zzh3⟩⟩
    ·
     rw [if_neg c7] at H;obtain ⟨B3,B5⟩:=zzY c7;obtain rfl:=Option.some.inj H;obtain ⟨l2,l3,l4,l5,l6,l7,l8,l9,m0,m1,m2,m3⟩:=zzc6 a3.out;go_wp2;go_ret;exact ⟨zzR,zzh3⟩
   ·
    rw [if_neg c6] at H;obtain ⟨B1,B2⟩:=zzY c6;obtain rfl:=Option.some.inj H;obtain ⟨m4,m5,m6,m7,m8,m9,n0,n1,n2,n3,n4,n5⟩:=zzc6 a3.out;go_wp2;go_ret;exact ⟨zzR,zzh3⟩
  ·
   rw [if_neg c5] at H;obtain ⟨h6,B0⟩:=zzY c5
   (first|rw [h6]|(simp only [i64_w,i32_w];rw [h6])|skip);obtain ⟨C2,C9,H⟩:=zzG H;by_cases w1:C2=true
   ·
    subst w1;replace H:=zzIt H;obtain ⟨C3,F4,H⟩:=zzG H;by_cases w2:C3=true
    ·
     subst w2;replace H:=zzIt H;obtain ⟨C4,G0,H⟩:=zzG H;by_cases w4:C4=true
     ·
      subst w4;replace H:=zzIt H;have H':=zzm H;clear H;obtain ⟨n6,n7,n8,n9,o0,o1,o2,o3,o4,o5,o6,o7⟩:=zzc6 a3.out;go_wp2_with (first|((with_reducible refine gate_callee (f:=16) rfl ?_);refine goesL_ (some 22) rfl rfl Try.func16 (by kernel_rfl) rfl #[.int .i64 b4] rfl zzM2 ?_;(with_reducible refine (Qw.calls b4 true _ C9.out).mono ?_);rintro e w' ⟨rfl,⟨nd,rfl⟩⟩;refine ⟨_,rfl,?_⟩)|(go_at_call 17;(with_reducible refine (Qf.calls b8 0 99 true _ F4.out).mono ?_);rintro e w' ⟨rfl,⟨nd,rfl⟩⟩)|(go_at_call 17;(with_reducible refine (Qf.calls b9 0 9999 true _ G0.out).mono ?_);rintro e w' ⟨rfl,⟨nd,rfl⟩⟩));go_meet
      case rel=>exact ⟨_,H',⟨by first|omega|exact Nat.le_refl _⟩,⟨zzE a3.out⟩,⟨zzh3⟩⟩
     ·
      replace w4:=Bool.eq_false_iff.mpr w4;subst w4;replace H:=zzIf H;obtain rfl:=Option.some.inj H;obtain ⟨o8,o9,p0,p1,p3,p4,p5,p6,p7,p8,p9,q0⟩:=zzc6 a3.out;go_wp2_with (first|((with_reducible refine gate_callee (f:=16) rfl ?_);refine goesL_ (some 22) rfl rfl Try.func16 (by kernel_rfl) rfl #[.int .i64 b4] rfl zzM2 ?_;(with_reducible refine (Qw.calls b4 true _ C9.out).mono ?_);rintro e w' ⟨rfl,⟨nd,rfl⟩⟩;refine ⟨_,rfl,?_⟩)|(go_at_call 17;(with_reducible refine (Qf.calls b8 0 99 true _ F4.out).mono ?_);rintro e w' ⟨rfl,⟨nd,rfl⟩⟩)|(go_at_call 17;(with_reducible refine (Qf.calls b9 0 9999 false _ G0.out).mono ?_);rintro e w' ⟨rfl,⟨nd,rfl⟩⟩));go_ret;exact ⟨zzR,zzh3⟩
    ·
     replace w2:=Bool.eq_false_iff.mpr w2;subst w2;replace H:=zzIf H;obtain rfl:=Option.some.inj H;obtain ⟨q1,q2,q3,q4,q5,q6,q7,q8,q9,r0,r1,r2⟩:=zzc6 a3.out;go_wp2_with (first|((with_reducible refine gate_callee (f:=16) rfl ?_);refine goesL_ (some 22) rfl rfl Try.func16 (by kernel_rfl) rfl #[.int .i64 b4] rfl zzM2 ?_;(with_reducible refine (Qw.calls b4 true _ C9.out).mono ?_);rintro e w' ⟨rfl,⟨nd,rfl⟩⟩;refine ⟨_,rfl,?_⟩)|(go_at_call 17;(with_reducible refine (Qf.calls b8 0 99 false _ F4.out).mono ?_);rintro e w' ⟨rfl,⟨nd,rfl⟩⟩));go_ret;exact ⟨zzR,zzh3⟩
   ·
    replace w1:=Bool.eq_false_iff.mpr w1;subst w1;replace H:=zzIf H;obtain rfl:=Option.some.inj H;obtain ⟨r3,r4,r5,r6,r7,r8,r9,s0,s1,s2,s3,s4⟩:=zzc6 a3.out;go_wp2_with (first|((with_reducible refine gate_callee (f:=16) rfl ?_);refine goesL_ (some 22) rfl rfl Try.func16 (by kernel_rfl) rfl #[.int .i64 b4] rfl zzM2 ?_;(with_reducible refine (Qw.calls b4 false _ C9.out).mono ?_);rintro e w' ⟨rfl,⟨nd,rfl⟩⟩;refine ⟨_,rfl,?_⟩));go_ret;exact ⟨zzR,zzh3⟩
 case rest=>
  clear F3;try clear c1
  try clear p2
  try clear c5
  try clear h6
  try clear B0
  try clear c6
  try clear B1
  try clear B2
  try clear c7
  try clear B3
  try clear B5
  try clear c8
  try clear G1
  try clear w1
  try clear w2
  try clear w4
  try clear j8
  try clear j9
  try clear k0
  try clear k1
  try clear k2
  try clear k4
  try clear l2
  try clear l3
  try clear l4
  try clear l5
  try clear l6
  try clear l7
  try clear m4
  try clear m5
  try clear m6
  try clear m7
  try clear m8
  try clear m9
  try clear n6
  try clear n7
  try clear n8
  try clear n9
  try clear o0
  try clear o1
  try clear o8
  try clear o9
  try clear p0
  try clear p1
  try clear p3
  try clear p4
  try clear q1
  try clear q2
  try clear q3
  try clear q4
  try clear q5
  try clear q6
  try clear r3
  try clear r4
  try clear r5
  try clear r6
  try clear r7
  try clear r8
  try clear s7
  try clear s8
  try clear s9
  try clear t0
  try clear t1
  try clear t2
  try clear t9
  try clear v0
  try clear v1
  try clear v2
  try clear v3
  try clear v4
  try clear k5
  try clear k6
  try clear k7
  try clear k8
  try clear k9
  try clear l1
  try clear l8
  try clear l9
  try clear m0
  try clear m1
  try clear m2
  try clear m3
  try clear n0
  try clear n1
  try clear n2
  try clear n3
  try clear n4
  try clear n5
  try clear o2
  try clear o3
  try clear o4
  try clear o5
  try clear o6
  try clear o7
  try clear p5
  try clear p6
  try clear p7
  try clear p8
  try clear p9
  try clear q0
  try clear q7
  try clear q8
  try clear q9
  try clear r0
  try clear r1
  try clear r2
  try clear r9
  try clear s0
  try clear s1
  try clear s2
  try clear s3
  try clear s4
  try clear t3
  try clear t4
  try clear t5
  try clear t6
  try clear t7
  try clear t8
  try clear v5
  try clear v6
  try clear v7
  try clear v8
  try clear v9
  try clear w0
  obtain ⟨kq,HA,HJ1,a3,HB⟩:=hcut;cases kq with
  | zero=>exact absurd HA.out (by simp [Qb.j0])
  | succ L2=>
   have H:=HA.out;clear HA;simp only [Qb.j0] at H;have C5:=zzm H;clear H;go_upto_region 6 with (fail);go_cut [50] (fun L3 wc=>∃ (kq:Nat) (j6:Bool),L3 = .bool j6∧Aside0 (Qb.j1 kq j6 c4 c0 b4 b8 b9 a1=some r)∧Aside0 (kq≤L2)∧Aside0 (wc.heap[b0]? = some (.cells #[.bool c4,.bool c0,.int .i64 b4,.int .i64 b8,.int .i64 b9,(.slice j7 a1.length c9)] 24 (0,0)))∧Aside0 (Below w.heap.size w wc))
   case first=>
    have H:=C5.out;clear C5;obtain ⟨G2,F5,H⟩:=zzG H;by_cases w9:G2=true
    ·
     subst w9;replace H:=zzIt H;by_cases x0:c0=true
     ·
      subst x0;replace H:=zzIt H;have H':=zzm H;clear H;obtain ⟨x1,x2,x3,x4,x5,x6,x7,x8,x9,y0,y1,y2⟩:=zzc6 a3.out;go_wp2_with (first|((with_reducible refine gate_callee (f:=17) rfl ?_);refine goesL_ (some 39) rfl rfl Try.func17 (by kernel_rfl) rfl #[.int .i64 (a1.length:Int),.int .i64 1,.int .i64 6] rfl zzM2 ?_;(with_reducible refine (Qf.calls (a1.length:Int) 1 6 true _ F5.out).mono ?_);rintro e w' ⟨rfl,⟨nd,rfl⟩⟩;refine ⟨_,rfl,?_⟩));go_meet
      case rel=>exact ⟨_,(((a1.length:Int) != 1)),(by first|rfl|(simp;done)|(simp [*];done)),H',⟨by have:=HJ1.out;first|omega|exact Nat.le_refl _⟩,⟨zzE a3.out⟩,⟨zzh3⟩⟩
     ·
      replace x0:=Bool.eq_false_iff.mpr x0;subst x0;replace H:=zzIf H;have H':=zzm H;clear H;obtain ⟨y3,y4,y5,y6,y7,y8,y9,z0,z1,z2,z3,z4⟩:=zzc6 a3.out;go_wp2_with (first|((with_reducible refine gate_callee (f:=17) rfl ?_);refine goesL_ (some 39) rfl rfl Try.func17 (by kernel_rfl) rfl #[.int .i64 (a1.length:Int),.int .i64 1,.int .i64 6] rfl zzM2 ?_;(with_reducible refine (Qf.calls (a1.length:Int) 1 6 true _ F5.out).mono ?_);rintro e w' ⟨rfl,⟨nd,rfl⟩⟩;refine ⟨_,rfl,?_⟩));go_meet
      case rel=>exact ⟨_,(false),(by first|rfl|(simp;done)|(simp [*];done)),H',⟨by have:=HJ1.out;first|omega|exact Nat.le_refl _⟩,⟨zzE a3.out⟩,⟨zzh3⟩⟩
    ·
     replace w9:=Bool.eq_false_iff.mpr w9;subst w9;replace H:=zzIf H;have H':=zzm H;clear H;obtain ⟨z5,z6,z7,z8,z9,A0,A1,A2,A3,A4,A5,A6⟩:=zzc6 a3.out;go_wp2_with (first|((with_reducible refine gate_callee (f:=17) rfl ?_);refine goesL_ (some 39) rfl rfl Try.func17 (by kernel_rfl) rfl #[.int .i64 (a1.length:Int),.int .i64 1,.int .i64 6] rfl zzM2 ?_;(with_reducible refine (Qf.calls (a1.length:Int) 1 6 false _ F5.out).mono ?_);rintro e w' ⟨rfl,⟨nd,rfl⟩⟩;refine ⟨_,rfl,?_⟩));go_meet
     case rel=>exact ⟨_,(true),(by first|rfl|(simp;done)|(simp [*];done)),H',⟨by have:=HJ1.out;first|omega|exact Nat.le_refl _⟩,⟨zzE a3.out⟩,⟨zzh3⟩⟩
   case rest=>
    clear C5;try clear c1
    try clear c2
    try clear p2
    try clear c5
    try clear h6
    try clear B0
    try clear c6
    try clear B1
    try clear B2
    try clear c7
    try clear B3
    try clear B5
    try clear c8
    try clear G1
    try clear w1
    try clear w2
    try clear L4
    try clear w4
    try clear w9
    try clear x0
    try clear j8
    try clear j9
    try clear k0
    try clear k1
    try clear k2
    try clear k4
    try clear l2
    try clear l3
    try clear l4
    try clear l5
    try clear l6
    try clear l7
    try clear m4
    try clear m5
    try clear m6
    try clear m7
    try clear m8
    try clear m9
    try clear n6
    try clear n7
    try clear n8
    try clear n9
    try clear o0
    try clear o1
    try clear o8
    try clear o9
    try clear p0
    try clear p1
    try clear p3
    try clear p4
    try clear q1
    try clear q2
    try clear q3
    try clear q4
    try clear q5
    try clear q6
    try clear r3
    try clear r4
    try clear r5
    try clear r6
    try clear r7
    try clear r8
    try clear x1
    try clear x2
    try clear x3
    try clear x4
    try clear x5
    try clear x6
    try clear y3
    try clear y4
    try clear y5
    try clear y6
    try clear y7
    try clear y8
    try clear z5
    try clear z6
    try clear z7
    try clear z8
    try clear z9
    try clear A0
    try clear s7
    try clear s8
    try clear s9
    try clear t0
    try clear t1
    try clear t2
    try clear t9
    try clear v0
    try clear v1
    try clear v2
    try clear v3
    try clear v4
    try clear k5
    try clear k6
    try clear k7
    try clear k8
    try clear k9
    try clear l1
    try clear l8
    try clear l9
    try clear m0
    try clear m1
    try clear m2
    try clear m3
    try clear n0
    try clear n1
    try clear n2
    try clear n3
    try clear n4
    try clear n5
    try clear o2
    try clear o3
    try clear o4
    try clear o5
    try clear o6
    try clear o7
    try clear p5
    try clear p6
    try clear p7
    try clear p8
    try clear p9
    try clear q0
    try clear q7
    try clear q8
    try clear q9
    try clear r0
    try clear r1
    try clear r2
    try clear r9
    try clear s0
    try clear s1
    try clear s2
    try clear s3
    try clear s4
    try clear x7
    try clear x8
    try clear x9
    try clear y0
    try clear y1
    try clear y2
    try clear y9
    try clear z0
    try clear z1
    try clear z2
    try clear z3
    try clear z4
    try clear A1
    try clear A2
    try clear A3
    try clear A4
    try clear A5
    try clear A6
    try clear t3
    try clear t4
    try clear t5
    try clear t6
    try clear t7
    try clear t8
    try clear v5
    try clear v6
    try clear v7
    try clear v8
    try clear v9
    try clear w0
    try clear p2
    obtain ⟨kq,j6,rfl,HA,HJ22,a3,HB⟩:=hcut;cases kq with
    | zero=>exact absurd HA.out (by simp [Qb.j1])
    | succ F6=>
     have H:=HA.out;clear HA;simp only [Qb.j1] at H;by_cases C0:j6=true
     ·
      subst C0;replace H:=zzIt H;obtain rfl:=Option.some.inj H;go_wp2;go_ret;exact ⟨zzR,zzh3⟩
     ·
      replace C0:=Bool.eq_false_iff.mpr C0;subst C0;replace H:=zzIf H;have H':=zzm H;clear H;obtain ⟨D9,E0,E1,E2,E3,E4,E5,E6,E7,E8,E9,F0⟩:=zzc6 a3.out;go_wp2;go_loopg [54] F6 (fun kq L5 w'=>∃ (a0:Int),L5 = .int .i64 a0∧Aside0 (Qb.l0 kq a1 (a1.length:Int) a0 c4 c0 b4 b8 b9 a1=some r)∧Aside0 (kq≤F6)∧Aside0 (w'.heap[b0]? = some (.cells #[.bool c4,.bool c0,.int .i64 b4,.int .i64 b8,.int .i64 b9,(.slice j7 a1.length c9)] 24 (0,0)))∧Aside0 (Below w.heap.size w w'))
      case atStart=>exact ⟨(0),(by first|rfl|(simp;done)|(simp [*];done)),H',⟨Nat.le_refl _⟩,⟨zzE a3.out⟩,⟨zzh3⟩⟩
      case round=>
       clear H';try clear c1
       try clear c2
       try clear p2
       try clear c3
       try clear c5
       try clear h6
       try clear B0
       try clear c6
       try clear B1
       try clear B2
       try clear c7
       try clear B3
       try clear B5
       try clear c8
       try clear G1
       try clear w1
       try clear w2
       try clear L4
       try clear w4
       try clear w9
       try clear x0
       try clear C0
       try clear j8
       try clear j9
       try clear k0
       try clear k1
       try clear k2
       try clear k4
       try clear l2
       try clear l3
       try clear l4
       try clear l5
       try clear l6
       try clear l7
       try clear m4
       try clear m5
       try clear m6
       try clear m7
       try clear m8
       try clear m9
       try clear n6
       try clear n7
       try clear n8
       try clear n9
       try clear o0
       try clear o1
       try clear o8
       try clear o9
       try clear p0
       try clear p1
       try clear p3
       try clear p4
       try clear q1
       try clear q2
       try clear q3
       try clear q4
       try clear q5
       try clear q6
       try clear r3
       try clear r4
       try clear r5
       try clear r6
       try clear r7
       try clear r8
       try clear x1
       try clear x2
       try clear x3
       try clear x4
       try clear x5
       try clear x6
       try clear y3
       try clear y4
       try clear y5
       try clear y6
       try clear y7
       try clear y8
       try clear z5
       try clear z6
       try clear z7
       try clear z8
       try clear z9
       try clear A0
       try clear D9
       try clear E0
       try clear E1
       try clear E2
       try clear E3
       try clear E4
       try clear s7
       try clear s8
       try clear s9
       try clear t0
       try clear t1
       try clear t2
       try clear t9
       try clear v0
       try clear v1
       try clear v2
       try clear v3
       try clear v4
       try clear k5
       try clear k6
       try clear k7
       try clear k8
       try clear k9
       try clear l1
       try clear l8
       try clear l9
       try clear m0
       try clear m1
       try clear m2
       try clear m3
       try clear n0
       try clear n1
       try clear n2
       try clear n3
       try clear n4
       try clear n5
       try clear o2
       try clear o3
       try clear o4
       try clear o5
       try clear o6
       try clear o7
       try clear p5
       try clear p6
       try clear p7
       try clear p8
       try clear p9
       try clear q0
       try clear q7
       try clear q8
       try clear q9
       try clear r0
       try clear r1
       try clear r2
       try clear r9
       try clear s0
       try clear s1
       try clear s2
       try clear s3
       try clear s4
       try clear x7
       try clear x8
       try clear x9
       try clear y0
       try clear y1
       try clear y2
       try clear y9
       try clear z0
       try clear z1
       try clear z2
       try clear z3
       try clear z4
       try clear A1
       try clear A2
       try clear A3
       try clear A4
       try clear A5
       try clear A6
       try clear E5
       try clear E6
       try clear E7
       try clear E8
       try clear E9
       try clear F0
       try clear t3
       try clear t4
       try clear t5
       try clear t6
       try clear t7
       try clear t8
       try clear v5
       try clear v6
       try clear v7
       try clear v8
       try clear v9
       try clear w0
       try clear p2
       obtain ⟨a0,rfl,HA,HK3,a3,HB⟩:=hrel;cases gk with
       | zero=>exact absurd HA.out (by simp [Qb.l0])
       | succ k3=>
        have H:=HA.out;clear HA;simp only [Qb.l0] at H;by_cases A7:a0 < (a1.length:Int)
        ·
         rw [if_pos A7] at H;have F7:decide (a0 < (a1.length:Int))=true:=decide_eq_true A7;clear A7;by_cases D0 : 0≤a0
         ·
          rw [if_pos D0] at H;have M3:decide (0≤a0)=true:=decide_eq_true D0;clear D0;by_cases D1:a0 < (a1.length:Int)
          ·
           rw [if_pos D1] at H;have M4:decide (a0 < (a1.length:Int))=true:=decide_eq_true D1;clear D1;obtain ⟨G3,C1,H⟩:=zzG H;by_cases D2:G3=true
           ·
            subst D2;replace H:=zzIt H;by_cases A8:a0 > 0
            ·
             rw [if_pos A8] at H;have F8:decide (0 < a0)=true:=decide_eq_true A8;clear A8;obtain ⟨b3,hji38⟩:∃ j_:Int,(wrap64 (a0 - 1))=j_:=⟨_,rfl⟩;replace H:(if 0≤(b3) then (if (b3) < (a1.length:Int) then (if ((Qa a1 (b3)).f0) ≥ ((Qa a1 a0).f0) then (some false) else (Qb.l0 k3 a1 (a1.length:Int) (wrap64 (a0+1)) c4 c0 b4 b8 b9 a1)) else (none)) else (none))=some r:=by first|(rw [hji38] at H;exact H)|(simp only [hji38] at H ⊢;exact H)
             (try rw [hji38] at C1);have hji38w:(IntKind.i64.wrap (a0 - 1))=b3:=(i64_w _).trans hji38;by_cases D3 : 0≤(b3)
             ·
              rw [if_pos D3] at H;have M5:decide (0≤(b3))=true:=decide_eq_true D3;clear D3;by_cases D4:(b3) < (a1.length:Int)
              ·
               rw [if_pos D4] at H;have M6:decide ((b3) < (a1.length:Int))=true:=decide_eq_true D4;clear D4;by_cases A9:((Qa a1 (b3)).f0) ≥ ((Qa a1 a0).f0)
               ·
                rw [if_pos A9] at H;have F9:decide (((Qa a1 a0).f0)≤((Qa a1 (b3)).f0))=true:=decide_eq_true A9;clear A9;obtain rfl:=Option.some.inj H;have e8 : 0≤(a0:Int):=zzt;have e9:a0 < (a1.length:Int):=zzt;obtain ⟨a9,a6,a7,b1,b2,j3,d1,d2,d3,d4,d5,d6,d7,d8,d9,e0⟩:=Qm j2.out a0 e8 e9;cases j3;replace d1:=zzx HB.out d1;replace d2:=zzx HB.out d2;replace d3:=zzx HB.out d3;replace d4:=zzx HB.out d4;replace d5:=zzx HB.out d5;replace d6:=zzx HB.out d6;have g0:=zzm d8;have g1:=zzm d7;clear d8 d7;have g2:=zzm e0;have g3:=zzm d9;clear e0 d9;replace e8:=eq_true e8;replace e9:=eq_true e9;try go_wp2_with (first|((with_reducible refine gate_dst (N:=4) rfl ?_);(try (refine gate_guard (by rfl) ?_;dsimp only));refine box_event ?hg (N:=4) ?hd (cs:=#[.int .i64 0,.int .i64 0,.bool false,.slice none 0 0,.bool false,.slice none 0 0]) (t:=32) ?hr ?_;(case hd=>rfl);(case hg=>rfl);(case hr=>first|(go_simp;done)|(go_simp;rfl));intro a2 hg D5 hbox hb;have b5:=zzm (zzh (g:=b0) (o:=.cells #[.bool c4,.bool c0,.int .i64 b4,.int .i64 b8,.int .i64 b9,.slice (some a9) a1.length c9] 24 (0,0)) (zzE a3.out) hb);have b6:=zzm (zzp zzh2 hb);have b7:=zzm (hbox);have g4:=zzm ((by rw [hg];exact (zzo zzh2):w.heap.size≤a2));have h7:=zzm ((by rw [hg];exact (zzo zzh2):w.heap.size≤a2));have h8:=zzm ((by rw [hg];exact Nat.ne_of_lt (blk_lt (g:=b0) (o:=.cells #[.bool c4,.bool c0,.int .i64 b4,.int .i64 b8,.int .i64 b9,.slice (some a9) a1.length c9] 24 (0,0)) (zzE a3.out)):b0≠a2));have h9:=zzm ((by rw [hg];exact Nat.ne_of_gt (blk_lt (g:=b0) (o:=.cells #[.bool c4,.bool c0,.int .i64 b4,.int .i64 b8,.int .i64 b9,.slice (some a9) a1.length c9] 24 (0,0)) (zzE a3.out)):a2≠b0));clear a3 HB;have a3:=b5;have HB:=b6;have a4:=b7;have B7:=g4;have B8:=h7;have a5:=h8;have e1:=h9;clear b5 b6 b7 g4 h7 h8 h9 hb hbox hg;have M7:=e1.out;have M8:=a5.out;obtain ⟨G4,G5,G6,G7,G8,G9,H0,H1,H2,H3,H4,H5⟩:=zzc6 a4.out))
                have b5:Aside0 (((((((D5.setCell ⟨a2,0,none⟩ (.int .i64 ((Qa a1 a0).f0))).setCell ⟨a2,1,none⟩ (.int .i64 ((Qa a1 a0).f1))).setCell ⟨a2,2,none⟩ (.bool ((Qa a1 a0).f2))).setCell ⟨a2,3,none⟩ (.slice a6 ((Qa a1 a0).f3).length a7)).setCell ⟨a2,4,none⟩ (.bool ((Qa a1 a0).f4))).setCell ⟨a2,5,none⟩ (.slice b1 ((Qa a1 a0).f5).length b2)).heap[b0]? = some (.cells #[.bool c4,.bool c0,.int .i64 b4,.int .i64 b8,.int .i64 b9,.slice (some a9) a1.length c9] 24 (0,0))):=⟨by (with_reducible repeat (first|apply zzf|apply zzg|apply zze));refine zzj ?_ a5.out _;(with_reducible repeat (first|apply zzf|apply zzg|apply zze));refine zzj ?_ a5.out _;(with_reducible repeat (first|apply zzf|apply zzg|apply zze));refine zzj ?_ a5.out _;(with_reducible repeat (first|apply zzf|apply zzg|apply zze));refine zzj ?_ a5.out _;(with_reducible repeat (first|apply zzf|apply zzg|apply zze));refine zzj ?_ a5.out _;(with_reducible repeat (first|apply zzf|apply zzg|apply zze));refine zzj ?_ a5.out _;(with_reducible repeat (first|apply zzf|apply zzg|apply zze));exact a3.out⟩;have b6:Aside0 (((((((D5.setCell ⟨a2,0,none⟩ (.int .i64 ((Qa a1 a0).f0))).setCell ⟨a2,1,none⟩ (.int .i64 ((Qa a1 a0).f1))).setCell ⟨a2,2,none⟩ (.bool ((Qa a1 a0).f2))).setCell ⟨a2,3,none⟩ (.slice a6 ((Qa a1 a0).f3).length a7)).setCell ⟨a2,4,none⟩ (.bool ((Qa a1 a0).f4))).setCell ⟨a2,5,none⟩ (.slice b1 ((Qa a1 a0).f5).length b2)).heap[a2]? = some (.cells #[.int .i64 ((Qa a1 a0).f0),.int .i64 ((Qa a1 a0).f1),.bool ((Qa a1 a0).f2),.slice a6 ((Qa a1 a0).f3).length a7,.bool ((Qa a1 a0).f4),.slice b1 ((Qa a1 a0).f5).length b2] 32 (0,0))):=⟨by (with_reducible repeat (first|apply zzf|apply zzg|apply zze));refine zzi (cs:=#[.int .i64 ((Qa a1 a0).f0),.int .i64 ((Qa a1 a0).f1),.bool ((Qa a1 a0).f2),.slice a6 ((Qa a1 a0).f3).length a7,.bool ((Qa a1 a0).f4),.slice none 0 0]) ?_ 5 _ rfl;refine zzi (cs:=#[.int .i64 ((Qa a1 a0).f0),.int .i64 ((Qa a1 a0).f1),.bool ((Qa a1 a0).f2),.slice a6 ((Qa a1 a0).f3).length a7,.bool false,.slice none 0 0]) ?_ 4 _ rfl;refine zzi (cs:=#[.int .i64 ((Qa a1 a0).f0),.int .i64 ((Qa a1 a0).f1),.bool ((Qa a1 a0).f2),.slice none 0 0,.bool false,.slice none 0 0]) ?_ 3 _ rfl;refine zzi (cs:=#[.int .i64 ((Qa a1 a0).f0),.int .i64 ((Qa a1 a0).f1),.bool false,.slice none 0 0,.bool false,.slice none 0 0]) ?_ 2 _ rfl;refine zzi (cs:=#[.int .i64 ((Qa a1 a0).f0),.int .i64 0,.bool false,.slice none 0 0,.bool false,.slice none 0 0]) ?_ 1 _ rfl;refine zzi (cs:=#[.int .i64 0,.int .i64 0,.bool false,.slice none 0 0,.bool false,.slice none 0 0]) ?_ 0 _ rfl;(with_reducible repeat (first|apply zzf|apply zzg|apply zze));exact a4.out⟩;have b7:Aside0 (Below w.heap.size w ((((((D5.setCell ⟨a2,0,none⟩ (.int .i64 ((Qa a1 a0).f0))).setCell ⟨a2,1,none⟩ (.int .i64 ((Qa a1 a0).f1))).setCell ⟨a2,2,none⟩ (.bool ((Qa a1 a0).f2))).setCell ⟨a2,3,none⟩ (.slice a6 ((Qa a1 a0).f3).length a7)).setCell ⟨a2,4,none⟩ (.bool ((Qa a1 a0).f4))).setCell ⟨a2,5,none⟩ (.slice b1 ((Qa a1 a0).f5).length b2))):=⟨zzh3⟩
                (try clear a3)
                (try clear a4)
                (try clear HB);generalize ((((((D5.setCell ⟨a2,0,none⟩ (.int .i64 ((Qa a1 a0).f0))).setCell ⟨a2,1,none⟩ (.int .i64 ((Qa a1 a0).f1))).setCell ⟨a2,2,none⟩ (.bool ((Qa a1 a0).f2))).setCell ⟨a2,3,none⟩ (.slice a6 ((Qa a1 a0).f3).length a7)).setCell ⟨a2,4,none⟩ (.bool ((Qa a1 a0).f4))).setCell ⟨a2,5,none⟩ (.slice b1 ((Qa a1 a0).f5).length b2))=L6 at b5 b6 b7 ⊢;have a3:=b5;have a4:=b6;have HB:=b7;clear b5 b6 b7;have b5:=zzm (zzg a3.out);have b6:=zzm (zzg a4.out);have b7:=zzm (zzc HB.out);clear a3 a4 HB;have a3:=b5;have a4:=b6;have HB:=b7;clear b5 b6 b7;have j4 : 0≤((b3):Int):=zzt;have j5:(b3) < (a1.length:Int):=zzt;obtain ⟨B9,w5,w6,w7,w8,C6,e2,e3,e4,e5,e6,e7,g5,g6,g7,g8⟩:=Qm j2.out (b3) j4 j5;have g9:=e7;have h0:=e6;have h1:=e5;have h2:=e4;have h3:=e3;have h4:=e2;obtain rfl:a9=B9:=(by injection C6);replace e2:=zzx HB.out e2;replace e3:=zzx HB.out e3;replace e4:=zzx HB.out e4;replace e5:=zzx HB.out e5;replace e6:=zzx HB.out e6;replace e7:=zzx HB.out e7;have s5:=zzm g6;have F1:=zzm g5;clear g6 g5;have s6:=zzm g8;have F2:=zzm g7;clear g8 g7;replace j4:=eq_true j4;replace j5:=eq_true j5;refine start_ (n:=19) (S:=fun w'=>w'.cell? ⟨a2,0,none⟩=some (.int .i64 ((Qa a1 a0).f0))∧w'.cell? ⟨a2,1,none⟩=some (.int .i64 ((Qa a1 a0).f1))∧w'.cell? ⟨a2,2,none⟩=some (.bool ((Qa a1 a0).f2))∧w'.cell? ⟨a2,3,none⟩=some (.slice a6 ((Qa a1 a0).f3).length a7)∧w'.cell? ⟨a2,4,none⟩=some (.bool ((Qa a1 a0).f4))∧w'.cell? ⟨a2,5,none⟩=some (.slice b1 ((Qa a1 a0).f5).length b2)∧w'.cell? ⟨b0,0,none⟩=some (.bool c4)∧w'.cell? ⟨b0,1,none⟩=some (.bool c0)∧w'.cell? ⟨b0,2,none⟩=some (.int .i64 b4)∧w'.cell? ⟨b0,3,none⟩=some (.int .i64 b8)∧w'.cell? ⟨b0,4,none⟩=some (.int .i64 b9)∧w'.cell? ⟨b0,5,none⟩=some (.slice (some a9) a1.length c9)∧w'.cell? (a9.add (((b3)).toNat * 6))=some (.int .i64 ((Qa a1 (b3)).f0))∧w'.cell? ⟨(a9.add (((b3)).toNat * 6)).block,(a9.add (((b3)).toNat * 6)).off+1,none⟩=some (.int .i64 ((Qa a1 (b3)).f1))∧w'.cell? ⟨(a9.add (((b3)).toNat * 6)).block,(a9.add (((b3)).toNat * 6)).off+2,none⟩=some (.bool ((Qa a1 (b3)).f2))∧w'.cell? ⟨(a9.add (((b3)).toNat * 6)).block,(a9.add (((b3)).toNat * 6)).off+3,none⟩=some (.slice w5 ((Qa a1 (b3)).f3).length w6)∧w'.cell? ⟨(a9.add (((b3)).toNat * 6)).block,(a9.add (((b3)).toNat * 6)).off+4,none⟩=some (.bool ((Qa a1 (b3)).f4))∧w'.cell? ⟨(a9.add (((b3)).toNat * 6)).block,(a9.add (((b3)).toNat * 6)).off+5,none⟩=some (.slice w7 ((Qa a1 (b3)).f5).length w8)) (ds:=[]) (zzB 19 0) (by kernel_rfl) rfl rfl ⟨(zzk a4.out 0).trans rfl,(zzk a4.out 1).trans rfl,(zzk a4.out 2).trans rfl,(zzk a4.out 3).trans rfl,(zzk a4.out 4).trans rfl,(zzk a4.out 5).trans rfl,(zzk a3.out 0).trans rfl,(zzk a3.out 1).trans rfl,(zzk a3.out 2).trans rfl,(zzk a3.out 3).trans rfl,(zzk a3.out 4).trans rfl,(zzk a3.out 5).trans rfl,(zzx HB.out h4 :),(zzx HB.out h3 :),(zzx HB.out h2 :),(zzx HB.out h1 :),(zzx HB.out h0 :),(zzx HB.out g9 :)⟩ (fun d0=>?_);refine with_tabW Qb.tab11 Qb.bits11 (fun a8 h5=>?_);generalize L6.drew=N5 at a3 a4 HB s5 s6 e2 e3 e4 e5 e6 e7 d0 ⊢;refine zzT 0 59 19 1 a8 h5 d0 ?_
                refine one_ (i:=1) (N:=some 60) (zzB 19 3) rfl rfl (one_of a8.out (by kernel_rfl)) (by decide) (fun K hK=>?_);refine goes_ Try.func18 (by kernel_rfl) rfl #[.agg #[.int .i64 ((Qa a1 a0).f0),.int .i64 ((Qa a1 a0).f1),.bool ((Qa a1 a0).f2),.slice a6 ((Qa a1 a0).f3).length a7,.bool ((Qa a1 a0).f4),.slice b1 ((Qa a1 a0).f5).length b2]] (by rfl) rfl rfl zzM2 ?_;with_reducible refine (Qu.calls k3 ((Qa a1 a0).f0) ((Qa a1 a0).f1) ((Qa a1 a0).f2) _ _ ((Qa a1 a0).f3) ((Qa a1 a0).f4) _ _ ((Qa a1 a0).f5) true _ ?side1 ?side2 ?side3 ?side4 C1.out).mono ?_
                (case side1=>exact zzcb g0 HB)
                (case side2=>exact g1.out)
                (case side3=>exact zzcb g2 HB)
                (case side4=>exact g3.out);rintro e N6 ⟨rfl,hb⟩;refine ⟨_,rfl,?_⟩;have b5:=zzm (zzh (g:=b0) (o:=.cells #[.bool c4,.bool c0,.int .i64 b4,.int .i64 b8,.int .i64 b9,.slice (some a9) a1.length c9] 24 (0,0)) (zzE a3.out) hb);have b6:=zzm (zzh (g:=a2) (o:=.cells #[.int .i64 ((Qa a1 a0).f0),.int .i64 ((Qa a1 a0).f1),.bool ((Qa a1 a0).f2),.slice a6 ((Qa a1 a0).f3).length a7,.bool ((Qa a1 a0).f4),.slice b1 ((Qa a1 a0).f5).length b2] 32 (0,0)) (zzE a4.out) hb);have b7:=zzm (zzp zzh2 hb);clear a3 a4 HB;have a3:=b5;have a4:=b6;have HB:=b7;clear b5 b6 b7
                (try clear hb)
                (try clear hb2)
                (try clear hk)
                (try clear hi);refine hK.out _ _ ⟨(zzk a4.out 0).trans rfl,(zzk a4.out 1).trans rfl,(zzk a4.out 2).trans rfl,(zzk a4.out 3).trans rfl,(zzk a4.out 4).trans rfl,(zzk a4.out 5).trans rfl,(zzk a3.out 0).trans rfl,(zzk a3.out 1).trans rfl,(zzk a3.out 2).trans rfl,(zzk a3.out 3).trans rfl,(zzk a3.out 4).trans rfl,(zzk a3.out 5).trans rfl,(zzx HB.out h4 :),(zzx HB.out h3 :),(zzx HB.out h2 :),(zzx HB.out h1 :),(zzx HB.out h0 :),(zzx HB.out g9 :)⟩ (fun d0=>?_);clear hK K;refine zzO 60 ?_
                refine zzP 2 61 19 7 a8 ?_
                refine zzP 3 62 19 15 a8 ?_
                refine zzP 4 63 19 31 a8 ?_
                refine zzP 5 64 19 63 a8 ?_
                refine zzP 6 65 19 127 a8 ?_
                refine zzP 7 66 19 255 a8 ?_
                refine zzP 9 68 19 767 a8 ?_
                refine zzP 10 69 19 1791 a8 ?_
                refine zzP 14 73 19 18175 a8 ?_
                refine zzT 8 67 19 18431 a8 h5 d0 ?_
                refine zzP 11 70 19 20479 a8 ?_
                refine zzP 12 71 19 24575 a8 ?_
                refine zzT 13 72 19 32767 a8 h5 d0 ?_
                refine zzT 15 74 19 65535 a8 h5 d0 ?_
                refine zzP 16 75 19 131071 a8 ?_
                refine zzP 17 76 19 262143 a8 ?_
                refine zzP 18 77 19 524287 a8 ?_
                refine done_ (done_of a8.out (by kernel_rfl)) ?_;try go_wp2
                go_ret;exact ⟨by first|rfl|(simp [errW_none,errW_some] <;> rfl)|(simp only [← hji38];first|rfl|(simp [errW_none,errW_some] <;> rfl))|(simp [*,errW_none,errW_some] <;> rfl),zzh3⟩
               ·
                rw [if_neg A9] at H;have F9:decide (((Qa a1 a0).f0)≤((Qa a1 (b3)).f0))=false:=decide_eq_false A9;clear A9;have H':=zzm H;clear H;have e8 : 0≤(a0:Int):=zzt;have e9:a0 < (a1.length:Int):=zzt;obtain ⟨a9,a6,a7,b1,b2,j3,d1,d2,d3,d4,d5,d6,d7,d8,d9,e0⟩:=Qm j2.out a0 e8 e9;cases j3;replace d1:=zzx HB.out d1;replace d2:=zzx HB.out d2;replace d3:=zzx HB.out d3;replace d4:=zzx HB.out d4;replace d5:=zzx HB.out d5;replace d6:=zzx HB.out d6;have g0:=zzm d8;have g1:=zzm d7;clear d8 d7;have g2:=zzm e0;have g3:=zzm d9;clear e0 d9;replace e8:=eq_true e8;replace e9:=eq_true e9;try go_wp2_with (first|((with_reducible refine gate_dst (N:=4) rfl ?_);(try (refine gate_guard (by rfl) ?_;dsimp only));refine box_event ?hg (N:=4) ?hd (cs:=#[.int .i64 0,.int .i64 0,.bool false,.slice none 0 0,.bool false,.slice none 0 0]) (t:=32) ?hr ?_;(case hd=>rfl);(case hg=>rfl);(case hr=>first|(go_simp;done)|(go_simp;rfl));intro a2 hg D6 hbox hb;have b5:=zzm (zzh (g:=b0) (o:=.cells #[.bool c4,.bool c0,.int .i64 b4,.int .i64 b8,.int .i64 b9,.slice (some a9) a1.length c9] 24 (0,0)) (zzE a3.out) hb);have b6:=zzm (zzp zzh2 hb);have b7:=zzm (hbox);have g4:=zzm ((by rw [hg];exact (zzo zzh2):w.heap.size≤a2));have h7:=zzm ((by rw [hg];exact (zzo zzh2):w.heap.size≤a2));have h8:=zzm ((by rw [hg];exact Nat.ne_of_lt (blk_lt (g:=b0) (o:=.cells #[.bool c4,.bool c0,.int .i64 b4,.int .i64 b8,.int .i64 b9,.slice (some a9) a1.length c9] 24 (0,0)) (zzE a3.out)):b0≠a2));have h9:=zzm ((by rw [hg];exact Nat.ne_of_gt (blk_lt (g:=b0) (o:=.cells #[.bool c4,.bool c0,.int .i64 b4,.int .i64 b8,.int .i64 b9,.slice (some a9) a1.length c9] 24 (0,0)) (zzE a3.out)):a2≠b0));clear a3 HB;have a3:=b5;have HB:=b6;have a4:=b7;have B7:=g4;have B8:=h7;have a5:=h8;have e1:=h9;clear b5 b6 b7 g4 h7 h8 h9 hb hbox hg;have M9:=e1.out;have N0:=a5.out;obtain ⟨H6,H7,H8,H9,I0,I1,I2,I3,I4,I5,I6,I7⟩:=zzc6 a4.out))
                have b5:Aside0 (((((((D6.setCell ⟨a2,0,none⟩ (.int .i64 ((Qa a1 a0).f0))).setCell ⟨a2,1,none⟩ (.int .i64 ((Qa a1 a0).f1))).setCell ⟨a2,2,none⟩ (.bool ((Qa a1 a0).f2))).setCell ⟨a2,3,none⟩ (.slice a6 ((Qa a1 a0).f3).length a7)).setCell ⟨a2,4,none⟩ (.bool ((Qa a1 a0).f4))).setCell ⟨a2,5,none⟩ (.slice b1 ((Qa a1 a0).f5).length b2)).heap[b0]? = some (.cells #[.bool c4,.bool c0,.int .i64 b4,.int .i64 b8,.int .i64 b9,.slice (some a9) a1.length c9] 24 (0,0))):=⟨by (with_reducible repeat (first|apply zzf|apply zzg|apply zze));refine zzj ?_ a5.out _;(with_reducible repeat (first|apply zzf|apply zzg|apply zze));refine zzj ?_ a5.out _;(with_reducible repeat (first|apply zzf|apply zzg|apply zze));refine zzj ?_ a5.out _;(with_reducible repeat (first|apply zzf|apply zzg|apply zze));refine zzj ?_ a5.out _;(with_reducible repeat (first|apply zzf|apply zzg|apply zze));refine zzj ?_ a5.out _;(with_reducible repeat (first|apply zzf|apply zzg|apply zze));refine zzj ?_ a5.out _;(with_reducible repeat (first|apply zzf|apply zzg|apply zze));exact a3.out⟩;have b6:Aside0 (((((((D6.setCell ⟨a2,0,none⟩ (.int .i64 ((Qa a1 a0).f0))).setCell ⟨a2,1,none⟩ (.int .i64 ((Qa a1 a0).f1))).setCell ⟨a2,2,none⟩ (.bool ((Qa a1 a0).f2))).setCell ⟨a2,3,none⟩ (.slice a6 ((Qa a1 a0).f3).length a7)).setCell ⟨a2,4,none⟩ (.bool ((Qa a1 a0).f4))).setCell ⟨a2,5,none⟩ (.slice b1 ((Qa a1 a0).f5).length b2)).heap[a2]? = some (.cells #[.int .i64 ((Qa a1 a0).f0),.int .i64 ((Qa a1 a0).f1),.bool ((Qa a1 a0).f2),.slice a6 ((Qa a1 a0).f3).length a7,.bool ((Qa a1 a0).f4),.slice b1 ((Qa a1 a0).f5).length b2] 32 (0,0))):=⟨by (with_reducible repeat (first|apply zzf|apply zzg|apply zze));refine zzi (cs:=#[.int .i64 ((Qa a1 a0).f0),.int .i64 ((Qa a1 a0).f1),.bool ((Qa a1 a0).f2),.slice a6 ((Qa a1 a0).f3).length a7,.bool ((Qa a1 a0).f4),.slice none 0 0]) ?_ 5 _ rfl;refine zzi (cs:=#[.int .i64 ((Qa a1 a0).f0),.int .i64 ((Qa a1 a0).f1),.bool ((Qa a1 a0).f2),.slice a6 ((Qa a1 a0).f3).length a7,.bool false,.slice none 0 0]) ?_ 4 _ rfl;refine zzi (cs:=#[.int .i64 ((Qa a1 a0).f0),.int .i64 ((Qa a1 a0).f1),.bool ((Qa a1 a0).f2),.slice none 0 0,.bool false,.slice none 0 0]) ?_ 3 _ rfl;refine zzi (cs:=#[.int .i64 ((Qa a1 a0).f0),.int .i64 ((Qa a1 a0).f1),.bool false,.slice none 0 0,.bool false,.slice none 0 0]) ?_ 2 _ rfl;refine zzi (cs:=#[.int .i64 ((Qa a1 a0).f0),.int .i64 0,.bool false,.slice none 0 0,.bool false,.slice none 0 0]) ?_ 1 _ rfl;refine zzi (cs:=#[.int .i64 0,.int .i64 0,.bool false,.slice none 0 0,.bool false,.slice none 0 0]) ?_ 0 _ rfl;(with_reducible repeat (first|apply zzf|apply zzg|apply zze));exact a4.out⟩;have b7:Aside0 (Below w.heap.size w ((((((D6.setCell ⟨a2,0,none⟩ (.int .i64 ((Qa a1 a0).f0))).setCell ⟨a2,1,none⟩ (.int .i64 ((Qa a1 a0).f1))).setCell ⟨a2,2,none⟩ (.bool ((Qa a1 a0).f2))).setCell ⟨a2,3,none⟩ (.slice a6 ((Qa a1 a0).f3).length a7)).setCell ⟨a2,4,none⟩ (.bool ((Qa a1 a0).f4))).setCell ⟨a2,5,none⟩ (.slice b1 ((Qa a1 a0).f5).length b2))):=⟨zzh3⟩
                (try clear a3)
                (try clear a4)
                (try clear HB);generalize ((((((D6.setCell ⟨a2,0,none⟩ (.int .i64 ((Qa a1 a0).f0))).setCell ⟨a2,1,none⟩ (.int .i64 ((Qa a1 a0).f1))).setCell ⟨a2,2,none⟩ (.bool ((Qa a1 a0).f2))).setCell ⟨a2,3,none⟩ (.slice a6 ((Qa a1 a0).f3).length a7)).setCell ⟨a2,4,none⟩ (.bool ((Qa a1 a0).f4))).setCell ⟨a2,5,none⟩ (.slice b1 ((Qa a1 a0).f5).length b2))=L7 at b5 b6 b7 ⊢;have a3:=b5;have a4:=b6;have HB:=b7;clear b5 b6 b7;have b5:=zzm (zzg a3.out);have b6:=zzm (zzg a4.out);have b7:=zzm (zzc HB.out);clear a3 a4 HB;have a3:=b5;have a4:=b6;have HB:=b7;clear b5 b6 b7;have j4 : 0≤((b3):Int):=zzt;have j5:(b3) < (a1.length:Int):=zzt;obtain ⟨B9,w5,w6,w7,w8,C6,e2,e3,e4,e5,e6,e7,g5,g6,g7,g8⟩:=Qm j2.out (b3) j4 j5;have g9:=e7;have h0:=e6;have h1:=e5;have h2:=e4;have h3:=e3;have h4:=e2;obtain rfl:a9=B9:=(by injection C6);replace e2:=zzx HB.out e2;replace e3:=zzx HB.out e3;replace e4:=zzx HB.out e4;replace e5:=zzx HB.out e5;replace e6:=zzx HB.out e6;replace e7:=zzx HB.out e7;have s5:=zzm g6;have F1:=zzm g5;clear g6 g5;have s6:=zzm g8;have F2:=zzm g7;clear g8 g7;replace j4:=eq_true j4;replace j5:=eq_true j5;refine start_ (n:=19) (S:=fun w'=>w'.cell? ⟨a2,0,none⟩=some (.int .i64 ((Qa a1 a0).f0))∧w'.cell? ⟨a2,1,none⟩=some (.int .i64 ((Qa a1 a0).f1))∧w'.cell? ⟨a2,2,none⟩=some (.bool ((Qa a1 a0).f2))∧w'.cell? ⟨a2,3,none⟩=some (.slice a6 ((Qa a1 a0).f3).length a7)∧w'.cell? ⟨a2,4,none⟩=some (.bool ((Qa a1 a0).f4))∧w'.cell? ⟨a2,5,none⟩=some (.slice b1 ((Qa a1 a0).f5).length b2)∧w'.cell? ⟨b0,0,none⟩=some (.bool c4)∧w'.cell? ⟨b0,1,none⟩=some (.bool c0)∧w'.cell? ⟨b0,2,none⟩=some (.int .i64 b4)∧w'.cell? ⟨b0,3,none⟩=some (.int .i64 b8)∧w'.cell? ⟨b0,4,none⟩=some (.int .i64 b9)∧w'.cell? ⟨b0,5,none⟩=some (.slice (some a9) a1.length c9)∧w'.cell? (a9.add (((b3)).toNat * 6))=some (.int .i64 ((Qa a1 (b3)).f0))∧w'.cell? ⟨(a9.add (((b3)).toNat * 6)).block,(a9.add (((b3)).toNat * 6)).off+1,none⟩=some (.int .i64 ((Qa a1 (b3)).f1))∧w'.cell? ⟨(a9.add (((b3)).toNat * 6)).block,(a9.add (((b3)).toNat * 6)).off+2,none⟩=some (.bool ((Qa a1 (b3)).f2))∧w'.cell? ⟨(a9.add (((b3)).toNat * 6)).block,(a9.add (((b3)).toNat * 6)).off+3,none⟩=some (.slice w5 ((Qa a1 (b3)).f3).length w6)∧w'.cell? ⟨(a9.add (((b3)).toNat * 6)).block,(a9.add (((b3)).toNat * 6)).off+4,none⟩=some (.bool ((Qa a1 (b3)).f4))∧w'.cell? ⟨(a9.add (((b3)).toNat * 6)).block,(a9.add (((b3)).toNat * 6)).off+5,none⟩=some (.slice w7 ((Qa a1 (b3)).f5).length w8)) (ds:=[]) (zzB 19 0) (by kernel_rfl) rfl rfl ⟨(zzk a4.out 0).trans rfl,(zzk a4.out 1).trans rfl,(zzk a4.out 2).trans rfl,(zzk a4.out 3).trans rfl,(zzk a4.out 4).trans rfl,(zzk a4.out 5).trans rfl,(zzk a3.out 0).trans rfl,(zzk a3.out 1).trans rfl,(zzk a3.out 2).trans rfl,(zzk a3.out 3).trans rfl,(zzk a3.out 4).trans rfl,(zzk a3.out 5).trans rfl,(zzx HB.out h4 :),(zzx HB.out h3 :),(zzx HB.out h2 :),(zzx HB.out h1 :),(zzx HB.out h0 :),(zzx HB.out g9 :)⟩ (fun d0=>?_);refine with_tabW Qb.tab11 Qb.bits11 (fun a8 h5=>?_);generalize L7.drew=N7 at a3 a4 HB s5 s6 e2 e3 e4 e5 e6 e7 d0 ⊢;refine zzT 0 59 19 1 a8 h5 d0 ?_
                refine one_ (i:=1) (N:=some 60) (zzB 19 3) rfl rfl (one_of a8.out (by kernel_rfl)) (by decide) (fun K hK=>?_);refine goes_ Try.func18 (by kernel_rfl) rfl #[.agg #[.int .i64 ((Qa a1 a0).f0),.int .i64 ((Qa a1 a0).f1),.bool ((Qa a1 a0).f2),.slice a6 ((Qa a1 a0).f3).length a7,.bool ((Qa a1 a0).f4),.slice b1 ((Qa a1 a0).f5).length b2]] (by rfl) rfl rfl zzM2 ?_;with_reducible refine (Qu.calls k3 ((Qa a1 a0).f0) ((Qa a1 a0).f1) ((Qa a1 a0).f2) _ _ ((Qa a1 a0).f3) ((Qa a1 a0).f4) _ _ ((Qa a1 a0).f5) true _ ?side1 ?side2 ?side3 ?side4 C1.out).mono ?_
                (case side1=>exact zzcb g0 HB)
                (case side2=>exact g1.out)
                (case side3=>exact zzcb g2 HB)
                (case side4=>exact g3.out);rintro e N8 ⟨rfl,hb⟩;refine ⟨_,rfl,?_⟩;have b5:=zzm (zzh (g:=b0) (o:=.cells #[.bool c4,.bool c0,.int .i64 b4,.int .i64 b8,.int .i64 b9,.slice (some a9) a1.length c9] 24 (0,0)) (zzE a3.out) hb);have b6:=zzm (zzh (g:=a2) (o:=.cells #[.int .i64 ((Qa a1 a0).f0),.int .i64 ((Qa a1 a0).f1),.bool ((Qa a1 a0).f2),.slice a6 ((Qa a1 a0).f3).length a7,.bool ((Qa a1 a0).f4),.slice b1 ((Qa a1 a0).f5).length b2] 32 (0,0)) (zzE a4.out) hb);have b7:=zzm (zzp zzh2 hb);clear a3 a4 HB;have a3:=b5;have a4:=b6;have HB:=b7;clear b5 b6 b7
                (try clear hb)
                (try clear hb2)
                (try clear hk)
                (try clear hi);refine hK.out _ _ ⟨(zzk a4.out 0).trans rfl,(zzk a4.out 1).trans rfl,(zzk a4.out 2).trans rfl,(zzk a4.out 3).trans rfl,(zzk a4.out 4).trans rfl,(zzk a4.out 5).trans rfl,(zzk a3.out 0).trans rfl,(zzk a3.out 1).trans rfl,(zzk a3.out 2).trans rfl,(zzk a3.out 3).trans rfl,(zzk a3.out 4).trans rfl,(zzk a3.out 5).trans rfl,(zzx HB.out h4 :),(zzx HB.out h3 :),(zzx HB.out h2 :),(zzx HB.out h1 :),(zzx HB.out h0 :),(zzx HB.out g9 :)⟩ (fun d0=>?_);clear hK K;refine zzO 60 ?_
                refine zzP 2 61 19 7 a8 ?_
                refine zzP 3 62 19 15 a8 ?_
                refine zzP 4 63 19 31 a8 ?_
                refine zzP 5 64 19 63 a8 ?_
                refine zzP 6 65 19 127 a8 ?_
                refine zzP 7 66 19 255 a8 ?_
                refine zzP 9 68 19 767 a8 ?_
                refine zzP 10 69 19 1791 a8 ?_
                refine zzP 14 73 19 18175 a8 ?_
                refine zzT 8 67 19 18431 a8 h5 d0 ?_
                refine zzP 11 70 19 20479 a8 ?_
                refine zzP 12 71 19 24575 a8 ?_
                refine zzT 13 72 19 32767 a8 h5 d0 ?_
                refine zzT 15 74 19 65535 a8 h5 d0 ?_
                refine zzP 16 75 19 131071 a8 ?_
                refine zzP 17 76 19 262143 a8 ?_
                refine zzP 18 77 19 524287 a8 ?_
                refine done_ (done_of a8.out (by kernel_rfl)) ?_;try go_wp2
                go_roundg k3
                case measure=>have:=HJ1.out;have:=HJ22.out;have:=HK3.out;omega
                case rel=>exact ⟨(wrap64 (a0+1)),(by first|rfl|(simp;done)|(simp [*];done)),H',⟨by have:=HJ1.out;have:=HJ22.out;have:=HK3.out;omega⟩,⟨zzE a3.out⟩,⟨zzh3⟩⟩
              ·
               rw [if_neg D4] at H;exact absurd H (by simp)
             ·
              rw [if_neg D3] at H;exact absurd H (by simp)
            ·
             rw [if_neg A8] at H;have F8:decide (0 < a0)=false:=decide_eq_false A8;clear A8;have H':=zzm H;clear H;have e8 : 0≤(a0:Int):=zzt;have e9:a0 < (a1.length:Int):=zzt;obtain ⟨a9,a6,a7,b1,b2,j3,d1,d2,d3,d4,d5,d6,d7,d8,d9,e0⟩:=Qm j2.out a0 e8 e9;cases j3;replace d1:=zzx HB.out d1;replace d2:=zzx HB.out d2;replace d3:=zzx HB.out d3;replace d4:=zzx HB.out d4;replace d5:=zzx HB.out d5;replace d6:=zzx HB.out d6;have g0:=zzm d8;have g1:=zzm d7;clear d8 d7;have g2:=zzm e0;have g3:=zzm d9;clear e0 d9;replace e8:=eq_true e8;replace e9:=eq_true e9;try go_wp2_with (first|((with_reducible refine gate_dst (N:=4) rfl ?_);(try (refine gate_guard (by rfl) ?_;dsimp only));refine box_event ?hg (N:=4) ?hd (cs:=#[.int .i64 0,.int .i64 0,.bool false,.slice none 0 0,.bool false,.slice none 0 0]) (t:=32) ?hr ?_;(case hd=>rfl);(case hg=>rfl);(case hr=>first|(go_simp;done)|(go_simp;rfl));intro a2 hg D7 hbox hb;have b5:=zzm (zzh (g:=b0) (o:=.cells #[.bool c4,.bool c0,.int .i64 b4,.int .i64 b8,.int .i64 b9,.slice (some a9) a1.length c9] 24 (0,0)) (zzE a3.out) hb);have b6:=zzm (zzp zzh2 hb);have b7:=zzm (hbox);have g4:=zzm ((by rw [hg];exact (zzo zzh2):w.heap.size≤a2));have h7:=zzm ((by rw [hg];exact (zzo zzh2):w.heap.size≤a2));have h8:=zzm ((by rw [hg];exact Nat.ne_of_lt (blk_lt (g:=b0) (o:=.cells #[.bool c4,.bool c0,.int .i64 b4,.int .i64 b8,.int .i64 b9,.slice (some a9) a1.length c9] 24 (0,0)) (zzE a3.out)):b0≠a2));have h9:=zzm ((by rw [hg];exact Nat.ne_of_gt (blk_lt (g:=b0) (o:=.cells #[.bool c4,.bool c0,.int .i64 b4,.int .i64 b8,.int .i64 b9,.slice (some a9) a1.length c9] 24 (0,0)) (zzE a3.out)):a2≠b0));clear a3 HB;have a3:=b5;have HB:=b6;have a4:=b7;have B7:=g4;have B8:=h7;have a5:=h8;have e1:=h9;clear b5 b6 b7 g4 h7 h8 h9 hb hbox hg;have N1:=e1.out;have N2:=a5.out;obtain ⟨I8,I9,J0,J1,J2,J3,J4,J5,J6,J7,J8,J9⟩:=zzc6 a4.out))
             have b5:Aside0 (((((((D7.setCell ⟨a2,0,none⟩ (.int .i64 ((Qa a1 a0).f0))).setCell ⟨a2,1,none⟩ (.int .i64 ((Qa a1 a0).f1))).setCell ⟨a2,2,none⟩ (.bool ((Qa a1 a0).f2))).setCell ⟨a2,3,none⟩ (.slice a6 ((Qa a1 a0).f3).length a7)).setCell ⟨a2,4,none⟩ (.bool ((Qa a1 a0).f4))).setCell ⟨a2,5,none⟩ (.slice b1 ((Qa a1 a0).f5).length b2)).heap[b0]? = some (.cells #[.bool c4,.bool c0,.int .i64 b4,.int .i64 b8,.int .i64 b9,.slice (some a9) a1.length c9] 24 (0,0))):=⟨by (with_reducible repeat (first|apply zzf|apply zzg|apply zze));refine zzj ?_ a5.out _;(with_reducible repeat (first|apply zzf|apply zzg|apply zze));refine zzj ?_ a5.out _;(with_reducible repeat (first|apply zzf|apply zzg|apply zze));refine zzj ?_ a5.out _;(with_reducible repeat (first|apply zzf|apply zzg|apply zze));refine zzj ?_ a5.out _;(with_reducible repeat (first|apply zzf|apply zzg|apply zze));refine zzj ?_ a5.out _;(with_reducible repeat (first|apply zzf|apply zzg|apply zze));refine zzj ?_ a5.out _;(with_reducible repeat (first|apply zzf|apply zzg|apply zze));exact a3.out⟩;have b6:Aside0 (((((((D7.setCell ⟨a2,0,none⟩ (.int .i64 ((Qa a1 a0).f0))).setCell ⟨a2,1,none⟩ (.int .i64 ((Qa a1 a0).f1))).setCell ⟨a2,2,none⟩ (.bool ((Qa a1 a0).f2))).setCell ⟨a2,3,none⟩ (.slice a6 ((Qa a1 a0).f3).length a7)).setCell ⟨a2,4,none⟩ (.bool ((Qa a1 a0).f4))).setCell ⟨a2,5,none⟩ (.slice b1 ((Qa a1 a0).f5).length b2)).heap[a2]? = some (.cells #[.int .i64 ((Qa a1 a0).f0),.int .i64 ((Qa a1 a0).f1),.bool ((Qa a1 a0).f2),.slice a6 ((Qa a1 a0).f3).length a7,.bool ((Qa a1 a0).f4),.slice b1 ((Qa a1 a0).f5).length b2] 32 (0,0))):=⟨by (with_reducible repeat (first|apply zzf|apply zzg|apply zze));refine zzi (cs:=#[.int .i64 ((Qa a1 a0).f0),.int .i64 ((Qa a1 a0).f1),.bool ((Qa a1 a0).f2),.slice a6 ((Qa a1 a0).f3).length a7,.bool ((Qa a1 a0).f4),.slice none 0 0]) ?_ 5 _ rfl;refine zzi (cs:=#[.int .i64 ((Qa a1 a0).f0),.int .i64 ((Qa a1 a0).f1),.bool ((Qa a1 a0).f2),.slice a6 ((Qa a1 a0).f3).length a7,.bool false,.slice none 0 0]) ?_ 4 _ rfl;refine zzi (cs:=#[.int .i64 ((Qa a1 a0).f0),.int .i64 ((Qa a1 a0).f1),.bool ((Qa a1 a0).f2),.slice none 0 0,.bool false,.slice none 0 0]) ?_ 3 _ rfl;refine zzi (cs:=#[.int .i64 ((Qa a1 a0).f0),.int .i64 ((Qa a1 a0).f1),.bool false,.slice none 0 0,.bool false,.slice none 0 0]) ?_ 2 _ rfl;refine zzi (cs:=#[.int .i64 ((Qa a1 a0).f0),.int .i64 0,.bool false,.slice none 0 0,.bool false,.slice none 0 0]) ?_ 1 _ rfl;refine zzi (cs:=#[.int .i64 0,.int .i64 0,.bool false,.slice none 0 0,.bool false,.slice none 0 0]) ?_ 0 _ rfl;(with_reducible repeat (first|apply zzf|apply zzg|apply zze));exact a4.out⟩;have b7:Aside0 (Below w.heap.size w ((((((D7.setCell ⟨a2,0,none⟩ (.int .i64 ((Qa a1 a0).f0))).setCell ⟨a2,1,none⟩ (.int .i64 ((Qa a1 a0).f1))).setCell ⟨a2,2,none⟩ (.bool ((Qa a1 a0).f2))).setCell ⟨a2,3,none⟩ (.slice a6 ((Qa a1 a0).f3).length a7)).setCell ⟨a2,4,none⟩ (.bool ((Qa a1 a0).f4))).setCell ⟨a2,5,none⟩ (.slice b1 ((Qa a1 a0).f5).length b2))):=⟨zzh3⟩
             (try clear a3)
             (try clear a4)
             (try clear HB);generalize ((((((D7.setCell ⟨a2,0,none⟩ (.int .i64 ((Qa a1 a0).f0))).setCell ⟨a2,1,none⟩ (.int .i64 ((Qa a1 a0).f1))).setCell ⟨a2,2,none⟩ (.bool ((Qa a1 a0).f2))).setCell ⟨a2,3,none⟩ (.slice a6 ((Qa a1 a0).f3).length a7)).setCell ⟨a2,4,none⟩ (.bool ((Qa a1 a0).f4))).setCell ⟨a2,5,none⟩ (.slice b1 ((Qa a1 a0).f5).length b2))=L8 at b5 b6 b7 ⊢;have a3:=b5;have a4:=b6;have HB:=b7;clear b5 b6 b7;have b5:=zzm (zzg a3.out);have b6:=zzm (zzg a4.out);have b7:=zzm (zzc HB.out);clear a3 a4 HB;have a3:=b5;have a4:=b6;have HB:=b7;clear b5 b6 b7;refine start_ (n:=19) (S:=fun w'=>w'.cell? ⟨a2,0,none⟩=some (.int .i64 ((Qa a1 a0).f0))∧w'.cell? ⟨a2,1,none⟩=some (.int .i64 ((Qa a1 a0).f1))∧w'.cell? ⟨a2,2,none⟩=some (.bool ((Qa a1 a0).f2))∧w'.cell? ⟨a2,3,none⟩=some (.slice a6 ((Qa a1 a0).f3).length a7)∧w'.cell? ⟨a2,4,none⟩=some (.bool ((Qa a1 a0).f4))∧w'.cell? ⟨a2,5,none⟩=some (.slice b1 ((Qa a1 a0).f5).length b2)) (ds:=[]) (zzB 19 0) (by kernel_rfl) rfl rfl ⟨(zzk a4.out 0).trans rfl,(zzk a4.out 1).trans rfl,(zzk a4.out 2).trans rfl,(zzk a4.out 3).trans rfl,(zzk a4.out 4).trans rfl,(zzk a4.out 5).trans rfl⟩ (fun d0=>?_);refine with_tabW Qb.tab11 Qb.bits11 (fun a8 h5=>?_);generalize L8.drew=N9 at a3 a4 HB d0 ⊢;refine zzT 0 59 19 1 a8 h5 d0 ?_
             refine one_ (i:=1) (N:=some 60) (zzB 19 3) rfl rfl (one_of a8.out (by kernel_rfl)) (by decide) (fun K hK=>?_);refine goes_ Try.func18 (by kernel_rfl) rfl #[.agg #[.int .i64 ((Qa a1 a0).f0),.int .i64 ((Qa a1 a0).f1),.bool ((Qa a1 a0).f2),.slice a6 ((Qa a1 a0).f3).length a7,.bool ((Qa a1 a0).f4),.slice b1 ((Qa a1 a0).f5).length b2]] (by rfl) rfl rfl zzM2 ?_;with_reducible refine (Qu.calls k3 ((Qa a1 a0).f0) ((Qa a1 a0).f1) ((Qa a1 a0).f2) _ _ ((Qa a1 a0).f3) ((Qa a1 a0).f4) _ _ ((Qa a1 a0).f5) true _ ?side1 ?side2 ?side3 ?side4 C1.out).mono ?_
             (case side1=>exact zzcb g0 HB)
             (case side2=>exact g1.out)
             (case side3=>exact zzcb g2 HB)
             (case side4=>exact g3.out);rintro e O0 ⟨rfl,hb⟩;refine ⟨_,rfl,?_⟩;have b5:=zzm (zzh (g:=b0) (o:=.cells #[.bool c4,.bool c0,.int .i64 b4,.int .i64 b8,.int .i64 b9,.slice (some a9) a1.length c9] 24 (0,0)) (zzE a3.out) hb);have b6:=zzm (zzh (g:=a2) (o:=.cells #[.int .i64 ((Qa a1 a0).f0),.int .i64 ((Qa a1 a0).f1),.bool ((Qa a1 a0).f2),.slice a6 ((Qa a1 a0).f3).length a7,.bool ((Qa a1 a0).f4),.slice b1 ((Qa a1 a0).f5).length b2] 32 (0,0)) (zzE a4.out) hb);have b7:=zzm (zzp zzh2 hb);clear a3 a4 HB;have a3:=b5;have a4:=b6;have HB:=b7;clear b5 b6 b7
             (try clear hb)
             (try clear hb2)
             (try clear hk)
             (try clear hi);refine hK.out _ _ ⟨(zzk a4.out 0).trans rfl,(zzk a4.out 1).trans rfl,(zzk a4.out 2).trans rfl,(zzk a4.out 3).trans rfl,(zzk a4.out 4).trans rfl,(zzk a4.out 5).trans rfl⟩ (fun d0=>?_);clear hK K;refine zzO 60 ?_
             refine zzP 2 61 19 7 a8 ?_
             refine zzP 3 62 19 15 a8 ?_
             refine zzP 4 63 19 31 a8 ?_
             refine zzP 5 64 19 63 a8 ?_
             refine zzP 6 65 19 127 a8 ?_
             refine zzU 7 66 19 255 a8 ?_
             refine zzU 8 67 19 511 a8 ?_
             refine zzU 9 68 19 1023 a8 ?_
             refine zzU 10 69 19 2047 a8 ?_
             refine zzU 11 70 19 4095 a8 ?_
             refine zzU 12 71 19 8191 a8 ?_
             refine zzU 13 72 19 16383 a8 ?_
             refine zzU 14 73 19 32767 a8 ?_
             refine zzU 15 74 19 65535 a8 ?_
             refine zzU 16 75 19 131071 a8 ?_
             refine zzP 17 76 19 262143 a8 ?_
             refine zzP 18 77 19 524287 a8 ?_
             refine done_ (done_of a8.out (by kernel_rfl)) ?_;try go_wp2
             go_roundg k3
             case measure=>have:=HJ1.out;have:=HJ22.out;have:=HK3.out;omega
             case rel=>exact ⟨(wrap64 (a0+1)),(by first|rfl|(simp;done)|(simp [*];done)),H',⟨by have:=HJ1.out;have:=HJ22.out;have:=HK3.out;omega⟩,⟨zzE a3.out⟩,⟨zzh3⟩⟩
           ·
            replace D2:=Bool.eq_false_iff.mpr D2;subst D2;replace H:=zzIf H;obtain rfl:=Option.some.inj H;have e8 : 0≤(a0:Int):=zzt;have e9:a0 < (a1.length:Int):=zzt;obtain ⟨a9,a6,a7,b1,b2,j3,d1,d2,d3,d4,d5,d6,d7,d8,d9,e0⟩:=Qm j2.out a0 e8 e9;cases j3;replace d1:=zzx HB.out d1;replace d2:=zzx HB.out d2;replace d3:=zzx HB.out d3;replace d4:=zzx HB.out d4;replace d5:=zzx HB.out d5;replace d6:=zzx HB.out d6;have g0:=zzm d8;have g1:=zzm d7;clear d8 d7;have g2:=zzm e0;have g3:=zzm d9;clear e0 d9;replace e8:=eq_true e8;replace e9:=eq_true e9;try go_wp2_with (first|((with_reducible refine gate_dst (N:=4) rfl ?_);(try (refine gate_guard (by rfl) ?_;dsimp only));refine box_event ?hg (N:=4) ?hd (cs:=#[.int .i64 0,.int .i64 0,.bool false,.slice none 0 0,.bool false,.slice none 0 0]) (t:=32) ?hr ?_;(case hd=>rfl);(case hg=>rfl);(case hr=>first|(go_simp;done)|(go_simp;rfl));intro a2 hg D8 hbox hb;have b5:=zzm (zzh (g:=b0) (o:=.cells #[.bool c4,.bool c0,.int .i64 b4,.int .i64 b8,.int .i64 b9,.slice (some a9) a1.length c9] 24 (0,0)) (zzE a3.out) hb);have b6:=zzm (zzp zzh2 hb);have b7:=zzm (hbox);have g4:=zzm ((by rw [hg];exact (zzo zzh2):w.heap.size≤a2));have h7:=zzm ((by rw [hg];exact (zzo zzh2):w.heap.size≤a2));have h8:=zzm ((by rw [hg];exact Nat.ne_of_lt (blk_lt (g:=b0) (o:=.cells #[.bool c4,.bool c0,.int .i64 b4,.int .i64 b8,.int .i64 b9,.slice (some a9) a1.length c9] 24 (0,0)) (zzE a3.out)):b0≠a2));have h9:=zzm ((by rw [hg];exact Nat.ne_of_gt (blk_lt (g:=b0) (o:=.cells #[.bool c4,.bool c0,.int .i64 b4,.int .i64 b8,.int .i64 b9,.slice (some a9) a1.length c9] 24 (0,0)) (zzE a3.out)):a2≠b0));clear a3 HB;have a3:=b5;have HB:=b6;have a4:=b7;have B7:=g4;have B8:=h7;have a5:=h8;have e1:=h9;clear b5 b6 b7 g4 h7 h8 h9 hb hbox hg;have N3:=e1.out;have N4:=a5.out;obtain ⟨K0,K1,K2,K3,K4,K5,K6,K7,K8,K9,L0,L1⟩:=zzc6 a4.out))
            have b5:Aside0 (((((((D8.setCell ⟨a2,0,none⟩ (.int .i64 ((Qa a1 a0).f0))).setCell ⟨a2,1,none⟩ (.int .i64 ((Qa a1 a0).f1))).setCell ⟨a2,2,none⟩ (.bool ((Qa a1 a0).f2))).setCell ⟨a2,3,none⟩ (.slice a6 ((Qa a1 a0).f3).length a7)).setCell ⟨a2,4,none⟩ (.bool ((Qa a1 a0).f4))).setCell ⟨a2,5,none⟩ (.slice b1 ((Qa a1 a0).f5).length b2)).heap[b0]? = some (.cells #[.bool c4,.bool c0,.int .i64 b4,.int .i64 b8,.int .i64 b9,.slice (some a9) a1.length c9] 24 (0,0))):=⟨by (with_reducible repeat (first|apply zzf|apply zzg|apply zze));refine zzj ?_ a5.out _;(with_reducible repeat (first|apply zzf|apply zzg|apply zze));refine zzj ?_ a5.out _;(with_reducible repeat (first|apply zzf|apply zzg|apply zze));refine zzj ?_ a5.out _;(with_reducible repeat (first|apply zzf|apply zzg|apply zze));refine zzj ?_ a5.out _;(with_reducible repeat (first|apply zzf|apply zzg|apply zze));refine zzj ?_ a5.out _;(with_reducible repeat (first|apply zzf|apply zzg|apply zze));refine zzj ?_ a5.out _;(with_reducible repeat (first|apply zzf|apply zzg|apply zze));exact a3.out⟩;have b6:Aside0 (((((((D8.setCell ⟨a2,0,none⟩ (.int .i64 ((Qa a1 a0).f0))).setCell ⟨a2,1,none⟩ (.int .i64 ((Qa a1 a0).f1))).setCell ⟨a2,2,none⟩ (.bool ((Qa a1 a0).f2))).setCell ⟨a2,3,none⟩ (.slice a6 ((Qa a1 a0).f3).length a7)).setCell ⟨a2,4,none⟩ (.bool ((Qa a1 a0).f4))).setCell ⟨a2,5,none⟩ (.slice b1 ((Qa a1 a0).f5).length b2)).heap[a2]? = some (.cells #[.int .i64 ((Qa a1 a0).f0),.int .i64 ((Qa a1 a0).f1),.bool ((Qa a1 a0).f2),.slice a6 ((Qa a1 a0).f3).length a7,.bool ((Qa a1 a0).f4),.slice b1 ((Qa a1 a0).f5).length b2] 32 (0,0))):=⟨by (with_reducible repeat (first|apply zzf|apply zzg|apply zze));refine zzi (cs:=#[.int .i64 ((Qa a1 a0).f0),.int .i64 ((Qa a1 a0).f1),.bool ((Qa a1 a0).f2),.slice a6 ((Qa a1 a0).f3).length a7,.bool ((Qa a1 a0).f4),.slice none 0 0]) ?_ 5 _ rfl;refine zzi (cs:=#[.int .i64 ((Qa a1 a0).f0),.int .i64 ((Qa a1 a0).f1),.bool ((Qa a1 a0).f2),.slice a6 ((Qa a1 a0).f3).length a7,.bool false,.slice none 0 0]) ?_ 4 _ rfl;refine zzi (cs:=#[.int .i64 ((Qa a1 a0).f0),.int .i64 ((Qa a1 a0).f1),.bool ((Qa a1 a0).f2),.slice none 0 0,.bool false,.slice none 0 0]) ?_ 3 _ rfl;refine zzi (cs:=#[.int .i64 ((Qa a1 a0).f0),.int .i64 ((Qa a1 a0).f1),.bool false,.slice none 0 0,.bool false,.slice none 0 0]) ?_ 2 _ rfl;refine zzi (cs:=#[.int .i64 ((Qa a1 a0).f0),.int .i64 0,.bool false,.slice none 0 0,.bool false,.slice none 0 0]) ?_ 1 _ rfl;refine zzi (cs:=#[.int .i64 0,.int .i64 0,.bool false,.slice none 0 0,.bool false,.slice none 0 0]) ?_ 0 _ rfl;(with_reducible repeat (first|apply zzf|apply zzg|apply zze));exact a4.out⟩;have b7:Aside0 (Below w.heap.size w ((((((D8.setCell ⟨a2,0,none⟩ (.int .i64 ((Qa a1 a0).f0))).setCell ⟨a2,1,none⟩ (.int .i64 ((Qa a1 a0).f1))).setCell ⟨a2,2,none⟩ (.bool ((Qa a1 a0).f2))).setCell ⟨a2,3,none⟩ (.slice a6 ((Qa a1 a0).f3).length a7)).setCell ⟨a2,4,none⟩ (.bool ((Qa a1 a0).f4))).setCell ⟨a2,5,none⟩ (.slice b1 ((Qa a1 a0).f5).length b2))):=⟨zzh3⟩
            (try clear a3)
            (try clear a4)
            (try clear HB);generalize ((((((D8.setCell ⟨a2,0,none⟩ (.int .i64 ((Qa a1 a0).f0))).setCell ⟨a2,1,none⟩ (.int .i64 ((Qa a1 a0).f1))).setCell ⟨a2,2,none⟩ (.bool ((Qa a1 a0).f2))).setCell ⟨a2,3,none⟩ (.slice a6 ((Qa a1 a0).f3).length a7)).setCell ⟨a2,4,none⟩ (.bool ((Qa a1 a0).f4))).setCell ⟨a2,5,none⟩ (.slice b1 ((Qa a1 a0).f5).length b2))=L9 at b5 b6 b7 ⊢;have a3:=b5;have a4:=b6;have HB:=b7;clear b5 b6 b7;have b5:=zzm (zzg a3.out);have b6:=zzm (zzg a4.out);have b7:=zzm (zzc HB.out);clear a3 a4 HB;have a3:=b5;have a4:=b6;have HB:=b7;clear b5 b6 b7;refine start_ (n:=19) (S:=fun w'=>w'.cell? ⟨a2,0,none⟩=some (.int .i64 ((Qa a1 a0).f0))∧w'.cell? ⟨a2,1,none⟩=some (.int .i64 ((Qa a1 a0).f1))∧w'.cell? ⟨a2,2,none⟩=some (.bool ((Qa a1 a0).f2))∧w'.cell? ⟨a2,3,none⟩=some (.slice a6 ((Qa a1 a0).f3).length a7)∧w'.cell? ⟨a2,4,none⟩=some (.bool ((Qa a1 a0).f4))∧w'.cell? ⟨a2,5,none⟩=some (.slice b1 ((Qa a1 a0).f5).length b2)) (ds:=[]) (zzB 19 0) (by kernel_rfl) rfl rfl ⟨(zzk a4.out 0).trans rfl,(zzk a4.out 1).trans rfl,(zzk a4.out 2).trans rfl,(zzk a4.out 3).trans rfl,(zzk a4.out 4).trans rfl,(zzk a4.out 5).trans rfl⟩ (fun d0=>?_);refine with_tabW Qb.tab11 Qb.bits11 (fun a8 h5=>?_);generalize L9.drew=O1 at a3 a4 HB d0 ⊢;refine zzT 0 59 19 1 a8 h5 d0 ?_
            refine one_ (i:=1) (N:=some 60) (zzB 19 3) rfl rfl (one_of a8.out (by kernel_rfl)) (by decide) (fun K hK=>?_);refine goes_ Try.func18 (by kernel_rfl) rfl #[.agg #[.int .i64 ((Qa a1 a0).f0),.int .i64 ((Qa a1 a0).f1),.bool ((Qa a1 a0).f2),.slice a6 ((Qa a1 a0).f3).length a7,.bool ((Qa a1 a0).f4),.slice b1 ((Qa a1 a0).f5).length b2]] (by rfl) rfl rfl zzM2 ?_;with_reducible refine (Qu.calls k3 ((Qa a1 a0).f0) ((Qa a1 a0).f1) ((Qa a1 a0).f2) _ _ ((Qa a1 a0).f3) ((Qa a1 a0).f4) _ _ ((Qa a1 a0).f5) false _ ?side1 ?side2 ?side3 ?side4 C1.out).mono ?_
            (case side1=>exact zzcb g0 HB)
            (case side2=>exact g1.out)
            (case side3=>exact zzcb g2 HB)
            (case side4=>exact g3.out);rintro e O2 ⟨rfl,hb⟩;refine ⟨_,rfl,?_⟩;have b5:=zzm (zzh (g:=b0) (o:=.cells #[.bool c4,.bool c0,.int .i64 b4,.int .i64 b8,.int .i64 b9,.slice (some a9) a1.length c9] 24 (0,0)) (zzE a3.out) hb);have b6:=zzm (zzh (g:=a2) (o:=.cells #[.int .i64 ((Qa a1 a0).f0),.int .i64 ((Qa a1 a0).f1),.bool ((Qa a1 a0).f2),.slice a6 ((Qa a1 a0).f3).length a7,.bool ((Qa a1 a0).f4),.slice b1 ((Qa a1 a0).f5).length b2] 32 (0,0)) (zzE a4.out) hb);have b7:=zzm (zzp zzh2 hb);clear a3 a4 HB;have a3:=b5;have a4:=b6;have HB:=b7;clear b5 b6 b7
            (try clear hb)
            (try clear hb2)
            (try clear hk)
            (try clear hi);refine hK.out _ _ ⟨(zzk a4.out 0).trans rfl,(zzk a4.out 1).trans rfl,(zzk a4.out 2).trans rfl,(zzk a4.out 3).trans rfl,(zzk a4.out 4).trans rfl,(zzk a4.out 5).trans rfl⟩ (fun d0=>?_);clear hK K;refine zzO 60 ?_
            refine zzP 2 61 19 7 a8 ?_
            refine zzP 3 62 19 15 a8 ?_
            refine zzU 4 63 19 31 a8 ?_
            refine zzU 5 64 19 63 a8 ?_
            refine zzU 6 65 19 127 a8 ?_
            refine zzU 7 66 19 255 a8 ?_
            refine zzU 8 67 19 511 a8 ?_
            refine zzU 9 68 19 1023 a8 ?_
            refine zzU 10 69 19 2047 a8 ?_
            refine zzU 11 70 19 4095 a8 ?_
            refine zzU 12 71 19 8191 a8 ?_
            refine zzU 13 72 19 16383 a8 ?_
            refine zzU 14 73 19 32767 a8 ?_
            refine zzU 15 74 19 65535 a8 ?_
            refine zzU 16 75 19 131071 a8 ?_
            refine zzU 17 76 19 262143 a8 ?_
            refine zzP 18 77 19 524287 a8 ?_
            refine done_ (done_of a8.out (by kernel_rfl)) ?_;try go_wp2
            go_ret;exact ⟨zzR,zzh3⟩
          ·
           rw [if_neg D1] at H;exact absurd H (by simp)
         ·
          rw [if_neg D0] at H;exact absurd H (by simp)
        ·
         rw [if_neg A7] at H;have F7:decide (a0 < (a1.length:Int))=false:=decide_eq_false A7;clear A7;obtain rfl:=Option.some.inj H;go_wp2;go_ret;exact ⟨zzR,zzh3⟩
end Go.Proofs.Ytgfakffkmlejdaa.T
