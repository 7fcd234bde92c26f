/- The law FnExactStableRecords holds (part 2 of 5; merged by pack2.py). -/
import Derived.Test.YtmloblepcbimkaaRows
import Derived.JoinedOf
import Derived.Test.YtmloblepcbimkaaProg
import Derived.Test.YtmloblepcbimkaaFnExactStableRecordsK0
set_option maxRecDepth 1000000
open List (setIfInBounds_toArray set_cons_zero set_cons_succ map_toArray map_cons map_nil length_drop length_take)
namespace Go.Proofs.YtmloblepcbimkaaW.PrintWords
open Go.RowKit Go.Proofs.YtmloblepcbimkaaW.PrintLast
inductive Grew (W : World) : World → Prop
  | refl : Grew W W
  | alloc {V : World} (h : Grew W V) (o : Obj) : Grew W (V.alloc o)
  | drewN {V : World} (h : Grew W V) (n : Nat) : Grew W (V.drewN n)
  | drew {V : World} (h : Grew W V) : Grew W V.drew
theorem zzS {α : Type} {d : Kd α} {e base : Nat} {W W' : World} {ok : Nat → Prop} {v : Value} {xs : List α} (h : Kd.S d e W base ok v xs) (g : Grew W W' := by with_reducible repeat (first | exact Grew.refl | refine Grew.alloc ?_ _ | refine Grew.drewN ?_ _ | refine Grew.drew ?_)) : Kd.S d e W' base ok v xs := by
  induction g with
  | refl => exact h
  | alloc _ _ ih => exact Kd.S_alloc ih _
  | drewN _ _ ih => exact Kd.S_drewN ih _
  | drew _ ih => exact Kd.S_drew ih
theorem zzE {W W' : World} {b : Nat} {o : Obj} (h : W.heap[b]? = some o) (g : Grew W W' := by with_reducible repeat (first | exact Grew.refl | refine Grew.alloc ?_ _ | refine Grew.drewN ?_ _ | refine Grew.drew ?_)) : W'.heap[b]? = some o := by
  induction g with
  | refl => exact h
  | alloc _ _ ih => exact blk_alloc ih _
  | drewN _ _ ih => exact blk_drewN ih _
  | drew _ ih => exact blk_drew ih
theorem zzh2 {w W : World} (h : Below w.heap.size w W := by repeat (first | (with_reducible first | exact HB.out | apply zza | apply zzb | apply zzc | refine zzd ?_ (Aside0.out (by with_reducible assumption))) | exact HB.out)) : Below w.heap.size w W := h
theorem zzJ : (∀ {α : Type} {l : List α} {i : Nat} {a : α}, l.toArray.setIfInBounds i a = (l.set i a).toArray) ∧ (∀ {α : Type} {xs : List α} {a b : α}, (a :: xs).set 0 b = b :: xs) ∧ (∀ {α : Type} {xs : List α} {i : Nat} {a b : α}, (a :: xs).set (i + 1) b = a :: xs.set i b) ∧ (∀ n : Int, IntKind.i64.wrap n = Go.RowKit.wrap64 n) ∧ (∀ n : Int, IntKind.i32.wrap n = Go.RowKit.wrap32 n) ∧ (∀ (a : Act) (d : Tmp) (v : Value), a.put (some d) v = { a with tmps := a.tmps.setIfInBounds d v }) ∧ ∀ (a : Act) (v : Value), a.put none v = a := ⟨zzq, zzr, zzs, i64_w, i32_w, fun _ _ _ => rfl, fun _ _ => rfl⟩
theorem zzH {α β : Type} {o : Option α} {f : α → Option β} {b : β} (h : o.bind f = some b) : ∃ a, o = some a ∧ f a = some b := Option.bind_eq_some_iff.mp h
theorem zzR {α : Sort _} {x y : α} (h : x = y := by first | rfl | (simp [errW_none, errW_some] <;> rfl) | (simp [*, errW_none, errW_some] <;> rfl)) : x = y := h
theorem zzM2 {α : Type} {x y : α} (h : x = y := by (try simp only [List.map_toArray, List.map_cons, List.map_nil]); first | done | rfl | (simp only [List.length_drop, List.length_take]; rfl)) : x = y := h
theorem zzA2 {md : Region.Mode} {ops : Array Oper} {T : Bool × List (List Nat × List Nat)} {l l' : Array Bool} {i : Nat} (hT : rtab md ops = T) (h : anyT T l.toList l'.toList i = true := by kernel_rfl) : anyB md ops l l' i = true := any_of hT h
end Go.Proofs.YtmloblepcbimkaaW.PrintWords
namespace Go.Proofs.YtmloblepcbimkaaW.PrintWords
open Go.RowKit Go.Proofs.YtmloblepcbimkaaW.PrintLast
theorem zzC {α : Type} {d : Kd α} {W W' : World} {A : Option Addr} {n : Nat} {xs : List α} (h : Kd.C d W A n xs) (g : Grew W W' := by with_reducible repeat (first | exact Grew.refl | refine Grew.alloc ?_ _ | refine Grew.drewN ?_ _ | refine Grew.drew ?_)) : Kd.C d W' A n xs := by
  induction g with
  | refl => exact h
  | alloc _ _ ih => exact Kd.C_alloc ih _
  | drewN _ _ ih => exact Kd.C_drewN ih _
  | drew _ ih => exact Kd.C_drew ih
end Go.Proofs.YtmloblepcbimkaaW.PrintWords
namespace Go.Proofs.YtmloblepcbimkaaW.PrintWords
open Go.RowKit Go.Proofs.YtmloblepcbimkaaW.PrintLast
section
variable {P:Program} {md:Region.Mode} {ops:Array Oper} {ds:List Nat} {T:Bool×List (List Nat×List Nat)} {B:List Nat} {Q:Exit→Act→World→Prop} {S:World→Prop} {oi:Oper} {v:Value} {fuel:Nat} {l:Array Bool} {a a':Act} {w:World}
theorem zzP (i N c m:Nat) (HT:Aside0 (rtab md ops=T)) (h:wpAnyLast P md ops Q S ds fuel (zzB c m) a' w) (hi:ops[i]?=some oi:=by exact rfl) (hN:oi.dst=some N:=by exact rfl) (hc:anyT T l.toList (zzB c m).toList i=true:=by kernel_rfl) (hw:Region.wanted oi (yielded ops a.tmps)=true:=by rfl) (hy:∀ w,(execOp a.eval oi).run P w=.ok (.value v) w:=by intro w';go_simp;with_reducible rfl) (ha:a.put (some N) v=a':=by simp only [zzJ];rfl) (hQ:∀ c a w,Q (.panic c) (a.put oi.dst v) w→Q (.panic c) a w:=by exact fun _ _ _ h=>h):wpAnyLast P md ops Q S ds (fuel+1) l a w:=pure_ (zzB c m) hi hN (any_of HT.out hc) hQ (Or.inl ⟨hw,hy⟩) ha h
theorem zzU (i N c m:Nat) (HT:Aside0 (rtab md ops=T)) (h:wpAnyLast P md ops Q S ds fuel (zzB c m) a' w) (hi:ops[i]?=some oi:=by exact rfl) (hN:oi.dst=some N:=by exact rfl) (hc:anyT T l.toList (zzB c m).toList i=true:=by kernel_rfl) (hw:Region.wanted oi (yielded ops a.tmps)=false:=by rfl) (ha:a.put (some N) undef=a':=by simp only [zzJ];rfl) (hQ:∀ c a w,Q (.panic c) (a.put oi.dst undef) w→Q (.panic c) a w:=by exact fun _ _ _ h=>h):wpAnyLast P md ops Q S ds (fuel+1) l a w:=pure_ (zzB c m) hi hN (any_of HT.out hc) hQ (Or.inr ⟨hw,rfl⟩) ha h
theorem zzT (i N c m:Nat) (HT:Aside0 (rtab md ops=T)) (HW:Aside0 (waitsOk T.2 B=true)) (hS:S w) (h:wpAnyLast P md ops Q S ds fuel (zzB c m) a' w) (hi:ops[i]?=some oi:=by exact rfl) (hN:oi.dst=some N:=by exact rfl) (hc:takeW T B ds l.toList (zzB c m).toList i=true:=by kernel_rfl) (hw:Region.wanted oi (yielded ops a.tmps)=true:=by rfl) (hy:∀ w,S w→(execOp a.eval oi).run P w=.ok (.value v) w:=by intro w';(try simp only [and_imp]);intros;go_simp;with_reducible rfl) (ha:a.put (some N) v=a':=by simp only [zzJ];rfl) (hQ:∀ c a w,Q (.panic c) (a.put oi.dst v) w→Q (.panic c) a w:=by exact fun _ _ _ h=>h):wpAnyLast P md ops Q S ds (fuel+1) l a w:=take_ (zzB c m) hi hN (take_ofW HT.out HW.out hc) hQ (Or.inl ⟨hw,hy⟩) hS ha h
theorem zzO (N:Nat) {a0:Act} (h:wpAnyLast P md ops Q S ds fuel l a' w) (e:a=a0.put (some N) v:=by exact rfl) (ha:a0.put (some N) v=a':=by simp only [zzJ];rfl):wpAnyLast P md ops Q S ds fuel l a w:=norm_ (e.trans ha) h
end
theorem zzIt {α:Type} {a b c:α} {i:Decidable (true=true)} (h:(@ite α (true=true) i a b)=c):a=c:=by rw [if_pos rfl] at h;exact h
theorem zzIf {α:Type} {a b c:α} {i:Decidable (false=true)} (h:(@ite α (false=true) i a b)=c):b=c:=by rw [if_neg (fun e=>Bool.noConfusion e)] at h;exact h
theorem zzG {α β:Type} {o:Option α} {f:α→Option β} {b:β} (h:o.bind f=some b):∃ a,Aside0 (o=some a)∧f a=some b:=let ⟨a,x,y⟩:=Option.bind_eq_some_iff.mp h;⟨a,⟨x⟩,y⟩
theorem zzQ {α:Type} [BEq α] [LawfulBEq α] {a b:α} (h:a=b):(a==b)=true∧(a != b)=false:=⟨beq_iff_eq.mpr h,bne_eq_false_iff_eq.mpr h⟩
theorem zzY {α:Type} [BEq α] [LawfulBEq α] {a b:α} (h:¬ a=b):(a==b)=false∧(a != b)=true:=⟨beq_eq_false_iff_ne.mpr h,bne_iff_ne.mpr h⟩
theorem zzh3 {w W:World} (h:Below w.heap.size w W:=by repeat (first|(with_reducible first|exact HB.out|apply zza|apply zzb|apply zzc|refine zzd ?_ (Aside0.out (by with_reducible assumption)))|exact HB.out)):Below w.heap.size w W:=h
theorem zzcb {α:Type} {d:Kd α} {W V W':World} {A:Option Addr} {n:Nat} {xs:List α} (h:Aside0 (Kd.C d W A n xs)) (HB:Aside0 (Below W.heap.size W V)) (g:Grew V W':=by with_reducible repeat (first|exact Grew.refl|refine Grew.alloc ?_ _|refine Grew.drewN ?_ _|refine Grew.drew ?_)):Kd.C d W' A n xs:=zzC (Kd.C_below h.out HB.out) g
end Go.Proofs.YtmloblepcbimkaaW.PrintWords
namespace Go.Proofs.Ytmloblepcbimkaa.Head
open Go
theorem make_of (P : Program) (w : List Char) (R : List (List Char)) (h : behindMainWord (wordsSigns P.initOrder.toList) = w :: R) (h1 : (w == "gc".toList || w == "spec".toList) = false) (h2 : (w == "cut".toList) = true) : P.make = some .cut := by
 unfold Program.make
 rw [h]
 simp only [h1,h2,Bool.true_or,if_true,Bool.false_eq_true,if_false]
theorem enter_of (P : Program) (w : List Char) (R : List (List Char)) (h : behindMainWord (wordsSigns P.initOrder.toList) = w :: R) (h2 : stripLifts liftWords (w :: R) = ([], w :: R)) (h3 : ((w :: R).head? == some "cut".toList) = true)
  (h4:P.laysLater=false) (h5:P.bearsReflect=false) (h6:P.doorFits []=true):P.mayEnter=true:=by
 unfold Program.mayEnter
 rw [h]
 simp only [h2,h3,h4,h5,h6,List.contains_nil,Bool.not_false,Bool.and_self,Bool.or_true]
theorem lifts_of (P : Program) (w : List Char) (R : List (List Char)) (h : behindMainWord (wordsSigns P.initOrder.toList) = w :: R) (h2 : stripLifts liftWords (w :: R) = ([], w :: R)) (h3 : ((w :: R).head? == some "carried".toList) = false) : P.liftsFinal = false := by
 unfold Program.liftsFinal Program.headLifts
 rw [h]
 simp only [h2,h3,Bool.false_and,Bool.false_or,List.contains_nil,ite_self]
def chs (l:List Nat):List Char:=l.map Char.ofNat
theorem wordsSigns_word:∀ (w r:List Char),(∀ c∈w,c≠Char.ofNat 32)→wordsSigns (w++Char.ofNat 32::r)=w::wordsSigns r
 | [],r,_=>rfl
 | c::w,r,h=>by
  have ih:=wordsSigns_word w r (fun x hx=>h x (List.mem_cons_of_mem _ hx))
  have hc:c≠Char.ofNat 32:=h c List.mem_cons_self
  rw [List.cons_append,wordsSigns,ih]
  exact hc
def word1:List Nat:=[104,97,114,110,101,115,115]
def word2:List Nat:=[57,57,98,102,49,102,57,51,57,53,98,56,56,100,55,48,99,56,51,53,52,101,55,101,57,50,100,51,50,54,50,101,100,56,54,101,54,49,50,102,53,99,51,57,50,48,48,49,99,55,52,102,49,53,100,55,50,49,97,97,56,48,97,100]
def word3:List Nat:=[99,117,116]
def signs:List Nat:=[97,116,32,108,111,111,112,46,101,120,97,109,112,108,101,47,114,101,99,111,114,100,98,97,116,99,104,101,115,47,108,97,119,115,46,70,110,69,120,97,99,116,83,116,97,98,108,101,82,101,99,111,114,100,115]
theorem init_is:Try.prog.initOrder=String.ofList (chs word1++Char.ofNat 32::(chs word2++Char.ofNat 32::(chs word3++Char.ofNat 32::chs signs))):=by kernel_rfl
theorem init_words:wordsSigns Try.prog.initOrder.toList=chs word1::chs word2::chs word3::wordsSigns (chs signs):=by
 rw [init_is,String.toList_ofList,wordsSigns_word _ _ (by decide +kernel),wordsSigns_word _ _ (by decide +kernel),wordsSigns_word _ _ (by decide +kernel)]
theorem behind_is:∃ R,behindMainWord (wordsSigns Try.prog.initOrder.toList)=chs word3::R:=by
 rw [init_words]
 generalize wordsSigns (chs signs)=R
 exact ⟨R,by kernel_rfl⟩
theorem strip_is (R:List (List Char)):stripLifts liftWords (chs word3::R)=([],chs word3::R):=by kernel_rfl
theorem make_is:Try.prog.make=some .cut:=by
 obtain ⟨R,h⟩:=behind_is
 exact make_of _ _ R h (by kernel_rfl) (by kernel_rfl)
theorem lays_later:Try.prog.laysLater=false:=by kernel_rfl
theorem bears_reflect:Try.prog.bearsReflect=false:=by kernel_rfl
theorem door_fits:Try.prog.doorFits []=true:=by kernel_rfl
theorem may_enter:Try.prog.mayEnter=true:=by
 obtain ⟨R,h⟩:=behind_is
 exact enter_of _ _ R h (strip_is R) (by kernel_rfl) lays_later bears_reflect door_fits
theorem lifts_final:Try.prog.liftsFinal=false:=by
 obtain ⟨R,h⟩:=behind_is
 exact lifts_of _ _ R h (strip_is R) (by kernel_rfl)
theorem and2 {a b:Bool} (h:a=true) (h2:b=true):(a&&b)=true:=by rw [h,h2];rfl
theorem closed_of (P:Program) (f:FuncId) (fn:Func) (s:ChangeSpec) (c:OpenClaim) (k0:(c.wf (OpenSpec.ofChange s))=true) (k1:(laidOutB P)=true) (k2:(mapsRowed P)=true) (k3:(fn.params.all (P.readableRec ·))=true) (k4:(namedTie P c.named s.vars)=true) (k5:((c.stops == []))=true) (k6:((P.stops == []))=true) (k7:((c.knobs == []))=true) (k8:((P.stopKnobs == []))=true) (k9:((c.inPlace==P.inPlace f))=true) (k10:((c.unfollowed==P.unfollowed f))=true) (k11:((c.recurses==P.recurses f))=true) (k12:((c.named==P.varsNamed f))=true) (k13:((c.maps==(fn.params.toList++s.plain.varTypes P).any (P.mapsRec ·)))=true) (k14:((c.ifaces==(fn.params.toList++s.plain.varTypes P).any (P.ifacesRec ·)))=true) (k15:((c.mapsOut==P.mapsAmong fn.resultTypes.toList))=true) (k16:((c.loops==(fn.params.toList++s.plain.varTypes P).any (P.loopsFrom ·)))=true) (k17:((c.wideKeys==(fn.params.toList++s.plain.varTypes P++fn.resultTypes.toList).any (P.wideKeysFrom ·)))=true) (k18:(s.vars.all (P.varReadable ·))=true) (k19:(fn.resultTypes.all (fun t=>P.readableRec t&&decide (t < P.types.size)))=true) (k20:((c.ifacesOut==fn.resultTypes.toList.any (P.ifacesRec ·)))=true) (k21:((c.loopsOut==fn.resultTypes.toList.any (P.loopsFrom ·)))=true) (k22:((c.plainKeys==P.plainKeys))=true) (k23:(c.shortTexts.isNone)=true) (k24:(P.stopsHeard)=true) (k25:(P.mayEnter)=true) (k26:((c.lifted==P.liftsFinal))=true) (k27:((P.make==some c.make))=true) (k28:((c.kinds==(if c.domain.isEmpty then [] else fn.params.toList.map fun t=>match P.underlying t with|some (.int k)=>some k|_=>none)))=true) (k29:((c.pinned==c.pinnedBy))=true) (k30:((c.veiled==(fn.params.toList++s.plain.varTypes P++fn.resultTypes.toList).any (P.veiledRec ·)))=true) (k31:(c.veiledFits P fn.params.toList (fn.params.toList++s.plain.varTypes P++fn.resultTypes.toList))=true):joinedFacts P f fn s c=true:=by
 unfold joinedFacts
 exact (and2 (and2 (and2 (and2 (and2 (and2 (and2 (and2 (and2 (and2 (and2 (and2 (and2 (and2 (and2 (and2 (and2 (and2 (and2 (and2 (and2 (and2 (and2 (and2 (and2 (and2 (and2 (and2 (and2 (and2 (and2 k0 k1) k2) k3) k4) k5) k6) k7) k8) k9) k10) k11) k12) k13) k14) k15) k16) k17) k18) k19) k20) k21) k22) k23) k24) k25) k26) k27) k28) k29) k30) k31)
end Go.Proofs.Ytmloblepcbimkaa.Head
namespace Go.Proofs.Ytmloblepcbimkaa.T
open Go.RowKit Go.Proofs.YtmloblepcbimkaaW.PrintWords Go.Proofs.YtmloblepcbimkaaW.PrintLast Go.Proofs.YtmloblepcbimkaaW.PrintMore

set_option linter.unusedVariables false
set_option linter.unusedSimpArgs false
def errW:Option Int→Value
 | none=>.nilIface
 | some c=>.iface 0 (.int .i64 c)
theorem errW_none:errW none = .nilIface:=rfl
theorem errW_some (c:Int):errW (some c) = .iface 0 (.int .i64 c):=rfl
theorem info3:(Try.prog.info? 3).map (fun i=>(i.zero,i.size,i.bytes))=some (some (.int .i64 0),1,8):=by kernel_rfl
theorem info39:(Try.prog.info? 39).map (fun i=>(i.zero,i.size,i.bytes))=some (some (.agg #[(.bool false),(.bool false),(.int .i64 0),(.int .i64 0),(.int .i64 0),(.slice none 0 0)]),6,56):=by kernel_rfl
theorem info42:(Try.prog.info? 42).map (fun i=>(i.zero,i.size,i.bytes))=some (some (.agg #[(.int .i64 0),(.int .i64 0),(.bool false),(.slice none 0 0),(.bool false),(.slice none 0 0)]),6,80):=by kernel_rfl
structure S72 where
 f0:Int
 f1:Int
 f2:Bool
 f3:(List Int)
 f4:Bool
 f5:(List Int)
def z72:S72:=⟨(0:Int),(0:Int),false,([]:List Int),false,([]:List Int)⟩
def k72:Kd S72:=Kd.iso (Kd.pair (Kd.int .i64) (Kd.pair (Kd.int .i64) (Kd.pair Kd.bool (Kd.pair (Kd.slice 3 (Kd.int .i64)) (Kd.pair Kd.bool (Kd.slice 3 (Kd.int .i64))))))) (fun x:S72=>(x.f0,x.f1,x.f2,x.f3,x.f4,x.f5))
theorem k72_open {w:World} {x:S72} {cs:List Value} (h:k72.K w x cs):∃ A3 c3 A5 c5,cs = [.int .i64 x.f0,.int .i64 x.f1,.bool x.f2,.slice A3 x.f3.length c3,.bool x.f4,.slice A5 x.f5.length c5]∧x.f3.length≤c3∧(Kd.int .i64).C w A3 x.f3.length x.f3∧x.f5.length≤c5∧(Kd.int .i64).C w A5 x.f5.length x.f5:=by
 obtain ⟨_,_,rfl,rfl,⟨_,_,rfl,rfl,⟨_,_,rfl,rfl,⟨_,_,rfl,⟨A3,c3,rfl,l3,g3⟩,⟨_,_,rfl,rfl,⟨A5,c5,rfl,l5,g5⟩⟩⟩⟩⟩⟩:=h;exact ⟨A3,c3,A5,c5,rfl,l3,g3,l5,g5⟩
def Qp (xs:List S72) (i:Int):S72:=xs.getD i.toNat z72
theorem at_T72 {w:World} {A:Option Addr} {n:Nat} {xs:List S72} (h:Kd.C k72 w A n xs) (i:Int) (h0 : 0≤i) (h1:i < n):∃ ad A3 c3 A5 c5,A=some ad∧w.cell? (ad.add (i.toNat * 6))=some (.int .i64 (Qp xs i).f0)∧w.cell? ⟨(ad.add (i.toNat * 6)).block,(ad.add (i.toNat * 6)).off+1,none⟩=some (.int .i64 (Qp xs i).f1)∧w.cell? ⟨(ad.add (i.toNat * 6)).block,(ad.add (i.toNat * 6)).off+2,none⟩=some (.bool (Qp xs i).f2)∧w.cell? ⟨(ad.add (i.toNat * 6)).block,(ad.add (i.toNat * 6)).off+3,none⟩=some (.slice A3 (Qp xs i).f3.length c3)∧w.cell? ⟨(ad.add (i.toNat * 6)).block,(ad.add (i.toNat * 6)).off+4,none⟩=some (.bool (Qp xs i).f4)∧w.cell? ⟨(ad.add (i.toNat * 6)).block,(ad.add (i.toNat * 6)).off+5,none⟩=some (.slice A5 (Qp xs i).f5.length c5)∧(Qp xs i).f3.length≤c3∧(Kd.int .i64).C w A3 (Qp xs i).f3.length (Qp xs i).f3∧(Qp xs i).f5.length≤c5∧(Kd.int .i64).C w A5 (Qp xs i).f5.length (Qp xs i).f5:=by
 obtain ⟨ad,c,e,_,hK,hc0⟩:=Kd.C_get h z72 i h0 h1;have hc:∀ j u,c[j]? = some u→w.cell? (ad.add (i.toNat * 6+j))=some u:=hc0;obtain ⟨A3,c3,A5,c5,rfl,l3,g3,l5,g5⟩:=k72_open hK;exact ⟨ad,A3,c3,A5,c5,e,hc 0 _ rfl,by rw [← add_field _ _ 1 (by omega)];exact hc 1 _ rfl,by rw [← add_field _ _ 2 (by omega)];exact hc 2 _ rfl,by rw [← add_field _ _ 3 (by omega)];exact hc 3 _ rfl,by rw [← add_field _ _ 4 (by omega)];exact hc 4 _ rfl,by rw [← add_field _ _ 5 (by omega)];exact hc 5 _ rfl,l3,g3,l5,g5⟩
structure S36 where
 f0:Bool
 f1:Bool
 f2:Int
 f3:Int
 f4:Int
 f5:(List S72)
def z36:S36:=⟨false,false,(0:Int),(0:Int),(0:Int),([]:List S72)⟩
def k36:Kd S36:=Kd.iso (Kd.pair Kd.bool (Kd.pair Kd.bool (Kd.pair (Kd.int .i64) (Kd.pair (Kd.int .i64) (Kd.pair (Kd.int .i64) (Kd.slice 72 k72)))))) (fun x:S36=>(x.f0,x.f1,x.f2,x.f3,x.f4,x.f5))
theorem k36_open {w:World} {x:S36} {cs:List Value} (h:k36.K w x cs):∃ A5 c5,cs = [.bool x.f0,.bool x.f1,.int .i64 x.f2,.int .i64 x.f3,.int .i64 x.f4,.slice A5 x.f5.length c5]∧x.f5.length≤c5∧k72.C w A5 x.f5.length x.f5:=by
 obtain ⟨_,_,rfl,rfl,⟨_,_,rfl,rfl,⟨_,_,rfl,rfl,⟨_,_,rfl,rfl,⟨_,_,rfl,rfl,⟨A5,c5,rfl,l5,g5⟩⟩⟩⟩⟩⟩:=h;exact ⟨A5,c5,rfl,l5,g5⟩
def Qs (xs:List S36) (i:Int):S36:=xs.getD i.toNat z36
theorem at_T36 {w:World} {A:Option Addr} {n:Nat} {xs:List S36} (h:Kd.C k36 w A n xs) (i:Int) (h0 : 0≤i) (h1:i < n):∃ ad A5 c5,A=some ad∧w.cell? (ad.add (i.toNat * 6))=some (.bool (Qs xs i).f0)∧w.cell? ⟨(ad.add (i.toNat * 6)).block,(ad.add (i.toNat * 6)).off+1,none⟩=some (.bool (Qs xs i).f1)∧w.cell? ⟨(ad.add (i.toNat * 6)).block,(ad.add (i.toNat * 6)).off+2,none⟩=some (.int .i64 (Qs xs i).f2)∧w.cell? ⟨(ad.add (i.toNat * 6)).block,(ad.add (i.toNat * 6)).off+3,none⟩=some (.int .i64 (Qs xs i).f3)∧w.cell? ⟨(ad.add (i.toNat * 6)).block,(ad.add (i.toNat * 6)).off+4,none⟩=some (.int .i64 (Qs xs i).f4)∧w.cell? ⟨(ad.add (i.toNat * 6)).block,(ad.add (i.toNat * 6)).off+5,none⟩=some (.slice A5 (Qs xs i).f5.length c5)∧(Qs xs i).f5.length≤c5∧k72.C w A5 (Qs xs i).f5.length (Qs xs i).f5:=by
 obtain ⟨ad,c,e,_,hK,hc0⟩:=Kd.C_get h z36 i h0 h1;have hc:∀ j u,c[j]? = some u→w.cell? (ad.add (i.toNat * 6+j))=some u:=hc0;obtain ⟨A5,c5,rfl,l5,g5⟩:=k36_open hK;exact ⟨ad,A5,c5,e,hc 0 _ rfl,by rw [← add_field _ _ 1 (by omega)];exact hc 1 _ rfl,by rw [← add_field _ _ 2 (by omega)];exact hc 2 _ rfl,by rw [← add_field _ _ 3 (by omega)];exact hc 3 _ rfl,by rw [← add_field _ _ 4 (by omega)];exact hc 4 _ rfl,by rw [← add_field _ _ 5 (by omega)];exact hc 5 _ rfl,l5,g5⟩
structure S42 where
 f0:Int
 f1:Int
 f2:Bool
 f3:(List Int)
 f4:Bool
 f5:(List Int)
def z42:S42:=⟨(0:Int),(0:Int),false,([]:List Int),false,([]:List Int)⟩
def k42:Kd S42:=Kd.iso (Kd.pair (Kd.int .i64) (Kd.pair (Kd.int .i64) (Kd.pair Kd.bool (Kd.pair (Kd.slice 3 (Kd.int .i64)) (Kd.pair Kd.bool (Kd.slice 3 (Kd.int .i64))))))) (fun x:S42=>(x.f0,x.f1,x.f2,x.f3,x.f4,x.f5))
theorem k42_open {w:World} {x:S42} {cs:List Value} (h:k42.K w x cs):∃ A3 c3 A5 c5,cs = [.int .i64 x.f0,.int .i64 x.f1,.bool x.f2,.slice A3 x.f3.length c3,.bool x.f4,.slice A5 x.f5.length c5]∧x.f3.length≤c3∧(Kd.int .i64).C w A3 x.f3.length x.f3∧x.f5.length≤c5∧(Kd.int .i64).C w A5 x.f5.length x.f5:=by
 obtain ⟨_,_,rfl,rfl,⟨_,_,rfl,rfl,⟨_,_,rfl,rfl,⟨_,_,rfl,⟨A3,c3,rfl,l3,g3⟩,⟨_,_,rfl,rfl,⟨A5,c5,rfl,l5,g5⟩⟩⟩⟩⟩⟩:=h;exact ⟨A3,c3,A5,c5,rfl,l3,g3,l5,g5⟩
theorem k42_openM {w:World} {base:Nat} {ok:Nat→Prop} {x:S42} {cs:List Value} (h:k42.M w base ok x cs):∃ v3 v5,cs = [.int .i64 x.f0,.int .i64 x.f1,.bool x.f2,v3,.bool x.f4,v5]∧(Kd.int .i64).R 3 w base ok v3 x.f3∧(Kd.int .i64).R 3 w base ok v5 x.f5:=by
 obtain ⟨_,_,rfl,rfl,⟨_,_,rfl,rfl,⟨_,_,rfl,rfl,⟨_,_,rfl,⟨v3,rfl,g3⟩,⟨_,_,rfl,rfl,⟨v5,rfl,g5⟩⟩⟩⟩⟩⟩:=h;exact ⟨v3,v5,rfl,g3,g5⟩
theorem k42_mkM (w:World) (base:Nat) (ok:Nat→Prop) (x:S42) {v3:Value} (g3:(Kd.int .i64).R 3 w base ok v3 x.f3) {v5:Value} (g5:(Kd.int .i64).R 3 w base ok v5 x.f5):k42.M w base ok x [.int .i64 x.f0,.int .i64 x.f1,.bool x.f2,v3,.bool x.f4,v5]:=⟨[.int .i64 x.f0],[.int .i64 x.f1,.bool x.f2,v3,.bool x.f4,v5],rfl,rfl,⟨[.int .i64 x.f1],[.bool x.f2,v3,.bool x.f4,v5],rfl,rfl,⟨[.bool x.f2],[v3,.bool x.f4,v5],rfl,rfl,⟨[v3],[.bool x.f4,v5],rfl,⟨v3,rfl,g3⟩,⟨[.bool x.f4],[v5],rfl,rfl,⟨v5,rfl,g5⟩⟩⟩⟩⟩⟩
def Qb (xs:List S42) (i:Int):S42:=xs.getD i.toNat z42
theorem Qt {w:World} {A:Option Addr} {n:Nat} {xs:List S42} (h:Kd.C k42 w A n xs) (i:Int) (h0 : 0≤i) (h1:i < n):∃ ad A3 c3 A5 c5,A=some ad∧w.cell? (ad.add (i.toNat * 6))=some (.int .i64 (Qb xs i).f0)∧w.cell? ⟨(ad.add (i.toNat * 6)).block,(ad.add (i.toNat * 6)).off+1,none⟩=some (.int .i64 (Qb xs i).f1)∧w.cell? ⟨(ad.add (i.toNat * 6)).block,(ad.add (i.toNat * 6)).off+2,none⟩=some (.bool (Qb xs i).f2)∧w.cell? ⟨(ad.add (i.toNat * 6)).block,(ad.add (i.toNat * 6)).off+3,none⟩=some (.slice A3 (Qb xs i).f3.length c3)∧w.cell? ⟨(ad.add (i.toNat * 6)).block,(ad.add (i.toNat * 6)).off+4,none⟩=some (.bool (Qb xs i).f4)∧w.cell? ⟨(ad.add (i.toNat * 6)).block,(ad.add (i.toNat * 6)).off+5,none⟩=some (.slice A5 (Qb xs i).f5.length c5)∧(Qb xs i).f3.length≤c3∧(Kd.int .i64).C w A3 (Qb xs i).f3.length (Qb xs i).f3∧(Qb xs i).f5.length≤c5∧(Kd.int .i64).C w A5 (Qb xs i).f5.length (Qb xs i).f5:=by
 obtain ⟨ad,c,e,_,hK,hc0⟩:=Kd.C_get h z42 i h0 h1;have hc:∀ j u,c[j]? = some u→w.cell? (ad.add (i.toNat * 6+j))=some u:=hc0;obtain ⟨A3,c3,A5,c5,rfl,l3,g3,l5,g5⟩:=k42_open hK;exact ⟨ad,A3,c3,A5,c5,e,hc 0 _ rfl,by rw [← add_field _ _ 1 (by omega)];exact hc 1 _ rfl,by rw [← add_field _ _ 2 (by omega)];exact hc 2 _ rfl,by rw [← add_field _ _ 3 (by omega)];exact hc 3 _ rfl,by rw [← add_field _ _ 4 (by omega)];exact hc 4 _ rfl,by rw [← add_field _ _ 5 (by omega)];exact hc 5 _ rfl,l3,g3,l5,g5⟩
structure S39 where
 f0:Bool
 f1:Bool
 f2:Int
 f3:Int
 f4:Int
 f5:(List S42)
def z39:S39:=⟨false,false,(0:Int),(0:Int),(0:Int),([]:List S42)⟩
def k39:Kd S39:=Kd.iso (Kd.pair Kd.bool (Kd.pair Kd.bool (Kd.pair (Kd.int .i64) (Kd.pair (Kd.int .i64) (Kd.pair (Kd.int .i64) (Kd.slice 42 k42)))))) (fun x:S39=>(x.f0,x.f1,x.f2,x.f3,x.f4,x.f5))
theorem k39_open {w:World} {x:S39} {cs:List Value} (h:k39.K w x cs):∃ A5 c5,cs = [.bool x.f0,.bool x.f1,.int .i64 x.f2,.int .i64 x.f3,.int .i64 x.f4,.slice A5 x.f5.length c5]∧x.f5.length≤c5∧k42.C w A5 x.f5.length x.f5:=by
 obtain ⟨_,_,rfl,rfl,⟨_,_,rfl,rfl,⟨_,_,rfl,rfl,⟨_,_,rfl,rfl,⟨_,_,rfl,rfl,⟨A5,c5,rfl,l5,g5⟩⟩⟩⟩⟩⟩:=h;exact ⟨A5,c5,rfl,l5,g5⟩
theorem k39_openM {w:World} {base:Nat} {ok:Nat→Prop} {x:S39} {cs:List Value} (h:k39.M w base ok x cs):∃ v5,cs = [.bool x.f0,.bool x.f1,.int .i64 x.f2,.int .i64 x.f3,.int .i64 x.f4,v5]∧k42.R 42 w base ok v5 x.f5:=by
 obtain ⟨_,_,rfl,rfl,⟨_,_,rfl,rfl,⟨_,_,rfl,rfl,⟨_,_,rfl,rfl,⟨_,_,rfl,rfl,⟨v5,rfl,g5⟩⟩⟩⟩⟩⟩:=h;exact ⟨v5,rfl,g5⟩
theorem k39_mkM (w:World) (base:Nat) (ok:Nat→Prop) (x:S39) {v5:Value} (g5:k42.R 42 w base ok v5 x.f5):k39.M w base ok x [.bool x.f0,.bool x.f1,.int .i64 x.f2,.int .i64 x.f3,.int .i64 x.f4,v5]:=⟨[.bool x.f0],[.bool x.f1,.int .i64 x.f2,.int .i64 x.f3,.int .i64 x.f4,v5],rfl,rfl,⟨[.bool x.f1],[.int .i64 x.f2,.int .i64 x.f3,.int .i64 x.f4,v5],rfl,rfl,⟨[.int .i64 x.f2],[.int .i64 x.f3,.int .i64 x.f4,v5],rfl,rfl,⟨[.int .i64 x.f3],[.int .i64 x.f4,v5],rfl,rfl,⟨[.int .i64 x.f4],[v5],rfl,rfl,⟨v5,rfl,g5⟩⟩⟩⟩⟩⟩
def Qa (xs:List S39) (i:Int):S39:=xs.getD i.toNat z39
theorem Q6 {w:World} {A:Option Addr} {n:Nat} {xs:List S39} (h:Kd.C k39 w A n xs) (i:Int) (h0 : 0≤i) (h1:i < n):∃ ad A5 c5,A=some ad∧w.cell? (ad.add (i.toNat * 6))=some (.bool (Qa xs i).f0)∧w.cell? ⟨(ad.add (i.toNat * 6)).block,(ad.add (i.toNat * 6)).off+1,none⟩=some (.bool (Qa xs i).f1)∧w.cell? ⟨(ad.add (i.toNat * 6)).block,(ad.add (i.toNat * 6)).off+2,none⟩=some (.int .i64 (Qa xs i).f2)∧w.cell? ⟨(ad.add (i.toNat * 6)).block,(ad.add (i.toNat * 6)).off+3,none⟩=some (.int .i64 (Qa xs i).f3)∧w.cell? ⟨(ad.add (i.toNat * 6)).block,(ad.add (i.toNat * 6)).off+4,none⟩=some (.int .i64 (Qa xs i).f4)∧w.cell? ⟨(ad.add (i.toNat * 6)).block,(ad.add (i.toNat * 6)).off+5,none⟩=some (.slice A5 (Qa xs i).f5.length c5)∧(Qa xs i).f5.length≤c5∧k42.C w A5 (Qa xs i).f5.length (Qa xs i).f5:=by
 obtain ⟨ad,c,e,_,hK,hc0⟩:=Kd.C_get h z39 i h0 h1;have hc:∀ j u,c[j]? = some u→w.cell? (ad.add (i.toNat * 6+j))=some u:=hc0;obtain ⟨A5,c5,rfl,l5,g5⟩:=k39_open hK;exact ⟨ad,A5,c5,e,hc 0 _ rfl,by rw [← add_field _ _ 1 (by omega)];exact hc 1 _ rfl,by rw [← add_field _ _ 2 (by omega)];exact hc 2 _ rfl,by rw [← add_field _ _ 3 (by omega)];exact hc 3 _ rfl,by rw [← add_field _ _ 4 (by omega)];exact hc 4 _ rfl,by rw [← add_field _ _ 5 (by omega)];exact hc 5 _ rfl,l5,g5⟩
end Go.Proofs.Ytmloblepcbimkaa.T
namespace Go.Proofs.Ytmloblepcbimkaa.T
open Go.RowKit Go.Proofs.YtmloblepcbimkaaW.PrintWords Go.Proofs.YtmloblepcbimkaaW.PrintLast Go.Proofs.YtmloblepcbimkaaW.PrintMore

set_option linter.unusedVariables false
set_option linter.unusedSimpArgs false
def Rd.f (l0:List Int) (a1:Int):Option (Int):=if (wrap64 (a1 - (l0.length:Int))) < 0 then (some (-1)) else (some (wrap64 (a1 - (l0.length:Int))))
set_option maxHeartbeats 8000000 in
theorem Rd.calls (A0:Option Addr) (c0:Nat) (l0:List Int) (a1:Int) (r:Int) (w:World) (a0:Kd.C (Kd.int .i64) w A0 l0.length l0) (a2:l0.length≤c0) (h:Rd.f l0 a1=some r) :
  Calls Try.prog 56 #[.slice A0 l0.length c0,.int .i64 a1] w fun e w'=>e = .returned (.int .i64 r)∧Drawn0 w w':=by
 have a4:=zzm a0;have a5:=zzm a2;clear a0 a2;have H:(if (wrap64 (a1 - (l0.length:Int))) < 0 then (some (-1)) else (some (wrap64 (a1 - (l0.length:Int)))))=some r:=h;clear h;by_cases c3:(wrap64 (a1 - (l0.length:Int))) < 0
 ·
  rw [if_pos c3] at H;have a3:decide ((wrap64 (a1 - (l0.length:Int))) < 0)=true:=decide_eq_true c3;clear c3;obtain rfl:=Option.some.inj H;go_enter Try.func56,Try.ntmps56;go_wp2;go_ret;exact ⟨by first|rfl|(simp;done)|(simp [*];done),by repeat (first|exact Drawn0.refl _|apply Drawn0.step)⟩
 ·
  rw [if_neg c3] at H;have a3:decide ((wrap64 (a1 - (l0.length:Int))) < 0)=false:=decide_eq_false c3;clear c3;obtain rfl:=Option.some.inj H;go_enter Try.func56,Try.ntmps56;go_wp2;go_ret;exact ⟨by first|rfl|(simp;done)|(simp [*];done),by repeat (first|exact Drawn0.refl _|apply Drawn0.step)⟩
def Rn.f (a0_0:Int) (a0_1:Int) (a0_2:Bool) (l0_3:List Int) (a0_4:Bool) (l0_5:List Int) (a1:Int):Option (Int):=(Rd.f l0_3 a1).bind fun t102=>(if t102 < 0 then (some (-1)) else ((Rd.f l0_5 t102).bind fun t103=>(if t103 < 0 then (some (-1)) else (some t103))))
set_option maxHeartbeats 8000000 in
theorem Rn.calls (b5:Int) (b6:Int) (b7:Bool) (a5:Option Addr) (a6:Nat) (a0:List Int) (b8:Bool) (a8:Option Addr) (a9:Nat) (a2:List Int) (a1:Int) (r:Int) (w:World) (c1:Kd.C (Kd.int .i64) w a5 a0.length a0) (c2:a0.length≤a6) (c3:Kd.C (Kd.int .i64) w a8 a2.length a2) (c5:a2.length≤a9) (h:Rn.f b5 b6 b7 a0 b8 a2 a1=some r) :
  Calls Try.prog 43 #[.agg #[.int .i64 b5,.int .i64 b6,.bool b7,.slice a5 a0.length a6,.bool b8,.slice a8 a2.length a9],.int .i64 a1] w fun e w'=>e = .returned (.int .i64 r)∧Below w.heap.size w w':=by
 have hu72:=Try.underlying72;have b9:=zzm c1;have c0:=zzm c2;clear c1 c2;have c6:=zzm c3;have c7:=zzm c5;clear c3 c5;have HB:=zzm (Below.refl w.heap.size w);have H:((Rd.f a0 a1).bind fun a3=>(if a3 < 0 then (some (-1)) else ((Rd.f a2 a3).bind fun a7=>(if a7 < 0 then (some (-1)) else (some a7)))))=some r:=h;clear h;obtain ⟨a3,A3,H⟩:=zzG H;by_cases c4:a3 < 0
 ·
  rw [if_pos c4] at H;have d1:decide (a3 < 0)=true:=decide_eq_true c4;clear c4;obtain rfl:=Option.some.inj H;go_enter Try.func43,Try.ntmps43;go_wp2_with (first|((with_reducible refine gate_dst (N:=2) rfl ?_);refine box_event ?hg (N:=2) ?hd (cs:=#[.int .i64 b5,.int .i64 b6,.bool b7,.slice a5 a0.length a6,.bool b8,.slice a8 a2.length a9]) (t:=72) ?hr ?_;(case hd=>rfl);(case hg=>rfl);(case hr=>first|(go_simp;done)|(go_simp;rfl));intro a4 hg w5 hbox hb;have b1:=zzm (zzp zzh1 hb);have b2:=zzm (hbox);have b3:=zzm ((by rw [hg];exact (zzo zzh1):w.heap.size≤a4));have b4:=zzm ((by rw [hg];exact (zzo zzh1):w.heap.size≤a4));clear HB;have HB:=b1;have b0:=b2;have c9:=b3;have d0:=b4;clear b1 b2 b3 b4 hb hbox hg;obtain ⟨g7,g8,g9,h0,h1,h2,h3,h4,h5,h6,h7,h8⟩:=zzc6 b0.out)|((with_reducible refine gate_callee (f:=56) rfl ?_);refine goesL_ (some 8) rfl rfl Try.func56 (by kernel_rfl) rfl #[.slice a5 a0.length a6,.int .i64 a1] rfl zzM2 ?_;(with_reducible refine (Rd.calls _ _ a0 a1 a3 _ ?side1 ?side2 A3.out).mono ?_);(case side1=>exact zzcb b9 HB);(case side2=>exact c0.out);rintro e w' ⟨rfl,⟨nd,rfl⟩⟩;refine ⟨_,rfl,?_⟩));go_ret;exact ⟨zzR,zzh3⟩
 ·
  rw [if_neg c4] at H;have d1:decide (a3 < 0)=false:=decide_eq_false c4;clear c4;obtain ⟨a7,A7,H⟩:=zzG H;by_cases c8:a7 < 0
  ·
   rw [if_pos c8] at H;have d2:decide (a7 < 0)=true:=decide_eq_true c8;clear c8;obtain rfl:=Option.some.inj H;go_enter Try.func43,Try.ntmps43;go_wp2_with (first|((with_reducible refine gate_dst (N:=2) rfl ?_);refine box_event ?hg (N:=2) ?hd (cs:=#[.int .i64 b5,.int .i64 b6,.bool b7,.slice a5 a0.length a6,.bool b8,.slice a8 a2.length a9]) (t:=72) ?hr ?_;(case hd=>rfl);(case hg=>rfl);(case hr=>first|(go_simp;done)|(go_simp;rfl));intro a4 hg w9 hbox hb;have b1:=zzm (zzp zzh1 hb);have b2:=zzm (hbox);have b3:=zzm ((by rw [hg];exact (zzo zzh1):w.heap.size≤a4));have b4:=zzm ((by rw [hg];exact (zzo zzh1):w.heap.size≤a4));clear HB;have HB:=b1;have b0:=b2;have c9:=b3;have d0:=b4;clear b1 b2 b3 b4 hb hbox hg;obtain ⟨d3,d4,d5,d6,d7,d8,d9,e0,e1,e2,e3,e4⟩:=zzc6 b0.out)|((with_reducible refine gate_callee (f:=56) rfl ?_);refine goesL_ (some 8) rfl rfl Try.func56 (by kernel_rfl) rfl #[.slice a5 a0.length a6,.int .i64 a1] rfl zzM2 ?_;(with_reducible refine (Rd.calls _ _ a0 a1 a3 _ ?side1 ?side2 A3.out).mono ?_);(case side1=>exact zzcb b9 HB);(case side2=>exact c0.out);rintro e w' ⟨rfl,⟨nd,rfl⟩⟩;refine ⟨_,rfl,?_⟩)|((with_reducible refine gate_callee (f:=56) rfl ?_);refine goesL_ (some 14) rfl rfl Try.func56 (by kernel_rfl) rfl #[.slice a8 a2.length a9,.int .i64 a3] rfl zzM2 ?_;(with_reducible refine (Rd.calls _ _ a2 a3 a7 _ ?side1 ?side2 A7.out).mono ?_);(case side1=>repeat (first|exact (Kd.C_below c6.out zzh2)|(with_reducible refine Kd.C_alloc ?_ _)|(with_reducible refine Kd.C_drewN ?_ _)|(with_reducible refine Kd.C_drew ?_)));(case side2=>exact c7.out);rintro e w' ⟨rfl,⟨nd,rfl⟩⟩;refine ⟨_,rfl,?_⟩));go_ret;exact ⟨zzR,zzh3⟩
  ·
   rw [if_neg c8] at H;have d2:decide (a7 < 0)=false:=decide_eq_false c8;clear c8;obtain rfl:=Option.some.inj H;go_enter Try.func43,Try.ntmps43;go_wp2_with (first|((with_reducible refine gate_dst (N:=2) rfl ?_);refine box_event ?hg (N:=2) ?hd (cs:=#[.int .i64 b5,.int .i64 b6,.bool b7,.slice a5 a0.length a6,.bool b8,.slice a8 a2.length a9]) (t:=72) ?hr ?_;(case hd=>rfl);(case hg=>rfl);(case hr=>first|(go_simp;done)|(go_simp;rfl));intro a4 hg h9 hbox hb;have b1:=zzm (zzp zzh1 hb);have b2:=zzm (hbox);have b3:=zzm ((by rw [hg];exact (zzo zzh1):w.heap.size≤a4));have b4:=zzm ((by rw [hg];exact (zzo zzh1):w.heap.size≤a4));clear HB;have HB:=b1;have b0:=b2;have c9:=b3;have d0:=b4;clear b1 b2 b3 b4 hb hbox hg;obtain ⟨e5,e6,e7,e8,e9,g0,g1,g2,g3,g4,g5,g6⟩:=zzc6 b0.out)|((with_reducible refine gate_callee (f:=56) rfl ?_);refine goesL_ (some 8) rfl rfl Try.func56 (by kernel_rfl) rfl #[.slice a5 a0.length a6,.int .i64 a1] rfl zzM2 ?_;(with_reducible refine (Rd.calls _ _ a0 a1 a3 _ ?side1 ?side2 A3.out).mono ?_);(case side1=>exact zzcb b9 HB);(case side2=>exact c0.out);rintro e w' ⟨rfl,⟨nd,rfl⟩⟩;refine ⟨_,rfl,?_⟩)|((with_reducible refine gate_callee (f:=56) rfl ?_);refine goesL_ (some 14) rfl rfl Try.func56 (by kernel_rfl) rfl #[.slice a8 a2.length a9,.int .i64 a3] rfl zzM2 ?_;(with_reducible refine (Rd.calls _ _ a2 a3 a7 _ ?side1 ?side2 A7.out).mono ?_);(case side1=>repeat (first|exact (Kd.C_below c6.out zzh2)|(with_reducible refine Kd.C_alloc ?_ _)|(with_reducible refine Kd.C_drewN ?_ _)|(with_reducible refine Kd.C_drew ?_)));(case side2=>exact c7.out);rintro e w' ⟨rfl,⟨nd,rfl⟩⟩;refine ⟨_,rfl,?_⟩));go_ret;exact ⟨zzR,zzh3⟩

set_option linter.unusedVariables false
set_option linter.unusedSimpArgs false
def Qx.l0:Nat→List (S72)→Int→Int→Option (Int)
 | 0,_,_,_=>none
 | k+1,x0,x1,x5=>if x5 < (x0.length:Int) then (if 0≤x5 then ((Rn.f ((Qp x0 x5).f0) ((Qp x0 x5).f1) ((Qp x0 x5).f2) ((Qp x0 x5).f3) ((Qp x0 x5).f4) ((Qp x0 x5).f5) x1).bind fun t105=>(if t105 < 0 then (some (-1)) else (Qx.l0 k x0 t105 (wrap64 (x5+1))))) else (none)) else (some x1)
def Qx.f (k:Nat) (l0:List (S72)) (a1:Int):Option (Int):=if (wrap64 (a1 - (l0.length:Int))) < 0 then (some (-1)) else (Qx.l0 k l0 (wrap64 (a1 - (l0.length:Int))) 0)
set_option maxHeartbeats 8000000 in
theorem Qx.calls (k:Nat) (A0:Option Addr) (c0:Nat) (l0:List (S72)) (a1:Int) (r:Int) (w:World) (d4:Kd.C k72 w A0 l0.length l0) (d5:l0.length≤c0) (h:Qx.f k l0 a1=some r) :
  Calls Try.prog 28 #[.slice A0 l0.length c0,.int .i64 a1] w fun e w'=>e = .returned (.int .i64 r)∧Below w.heap.size w w':=by
 have hu72:=Try.underlying72;have d6:=zzm d4;have e0:=zzm d5;clear d4 d5;have HB:=zzm (Below.refl w.heap.size w);have H:(if (wrap64 (a1 - (l0.length:Int))) < 0 then (some (-1)) else (Qx.l0 k l0 (wrap64 (a1 - (l0.length:Int))) 0))=some r:=h;clear h;by_cases c3:(wrap64 (a1 - (l0.length:Int))) < 0
 ·
  rw [if_pos c3] at H;have d2:decide ((wrap64 (a1 - (l0.length:Int))) < 0)=true:=decide_eq_true c3;clear c3;obtain rfl:=Option.some.inj H;go_enter Try.func28,Try.ntmps28;go_wp2;go_ret;exact ⟨zzR,zzh1⟩
 ·
  rw [if_neg c3] at H;have d2:decide ((wrap64 (a1 - (l0.length:Int))) < 0)=false:=decide_eq_false c3;clear c3;have H':=zzm H;clear H;go_enter Try.func28,Try.ntmps28;go_wp2;go_loopg [1,5] k (fun kq v1 v5 w'=>∃ (b2:Int) (a0:Int),v1 = .int .i64 b2∧v5 = .int .i64 a0∧Aside0 (Qx.l0 kq l0 b2 a0=some r)∧Aside0 (kq≤k)∧Aside0 (Below w.heap.size w w'))
  case atStart=>exact ⟨(wrap64 (a1 - (l0.length:Int))),(0),(by first|rfl|(simp;done)|(simp [*];done)),(by first|rfl|(simp;done)|(simp [*];done)),H',⟨Nat.le_refl _⟩,⟨zzh1⟩⟩
  case round=>
   clear H';try clear c2
   try clear p2
   try clear c3
   try clear d2
   obtain ⟨b2,a0,rfl,rfl,HA,HK1,HB⟩:=hrel;cases gk with
   | zero=>exact absurd HA.out (by simp [Qx.l0])
   | succ k1=>
    have H:=HA.out;clear HA;simp only [Qx.l0] at H;by_cases c4:a0 < (l0.length:Int)
    ·
     rw [if_pos c4] at H;have d7:decide (a0 < (l0.length:Int))=true:=decide_eq_true c4;clear c4;by_cases c5 : 0≤a0
     ·
      rw [if_pos c5] at H;have d9:decide (0≤a0)=true:=decide_eq_true c5;clear c5;obtain ⟨b5,A6,H⟩:=zzG H;by_cases c7:b5 < 0
      ·
       rw [if_pos c7] at H;have d8:decide (b5 < 0)=true:=decide_eq_true c7;clear c7;obtain rfl:=Option.some.inj H;have b3 : 0≤(a0:Int):=zzt;have b4:a0 < (l0.length:Int):=zzt;obtain ⟨d3,c1,c6,c8,c9,d1,a2,a3,a4,a5,a6,a7,a8,a9,b0,b1⟩:=at_T72 d6.out a0 b3 b4;cases d1;replace a2:=zzx HB.out a2;replace a3:=zzx HB.out a3;replace a4:=zzx HB.out a4;replace a5:=zzx HB.out a5;replace a6:=zzx HB.out a6;replace a7:=zzx HB.out a7;have b6:=zzm a9;have b7:=zzm a8;clear a9 a8;have b8:=zzm b1;have b9:=zzm b0;clear b1 b0;replace b3:=eq_true b3;replace b4:=eq_true b4;go_wp2_with (first|((with_reducible refine gate_callee (f:=43) rfl ?_);refine goesL_ (some 23) rfl rfl Try.func43 (by kernel_rfl) rfl #[.agg #[.int .i64 ((Qp l0 a0).f0),.int .i64 ((Qp l0 a0).f1),.bool ((Qp l0 a0).f2),.slice c1 ((Qp l0 a0).f3).length c6,.bool ((Qp l0 a0).f4),.slice c8 ((Qp l0 a0).f5).length c9],.int .i64 b2] rfl zzM2 ?_;(with_reducible refine (Rn.calls ((Qp l0 a0).f0) ((Qp l0 a0).f1) ((Qp l0 a0).f2) _ _ ((Qp l0 a0).f3) ((Qp l0 a0).f4) _ _ ((Qp l0 a0).f5) b2 b5 _ ?side1 ?side2 ?side3 ?side4 A6.out).mono ?_);(case side1=>exact zzcb b6 HB);(case side2=>exact b7.out);(case side3=>exact zzcb b8 HB);(case side4=>exact b9.out);rintro e w8 ⟨rfl,hb⟩;refine ⟨_,rfl,?_⟩;have d0:=zzm (zzp zzh1 hb);clear HB;have HB:=d0;clear d0;(try clear hb);(try clear hb2);(try clear hk);(try clear hi)));go_ret;exact ⟨zzR,zzh1⟩
      ·
       rw [if_neg c7] at H;have d8:decide (b5 < 0)=false:=decide_eq_false c7;clear c7;have H':=zzm H;clear H;have b3 : 0≤(a0:Int):=zzt;have b4:a0 < (l0.length:Int):=zzt;obtain ⟨d3,c1,c6,c8,c9,d1,a2,a3,a4,a5,a6,a7,a8,a9,b0,b1⟩:=at_T72 d6.out a0 b3 b4;cases d1;replace a2:=zzx HB.out a2;replace a3:=zzx HB.out a3;replace a4:=zzx HB.out a4;replace a5:=zzx HB.out a5;replace a6:=zzx HB.out a6;replace a7:=zzx HB.out a7;have b6:=zzm a9;have b7:=zzm a8;clear a9 a8;have b8:=zzm b1;have b9:=zzm b0;clear b1 b0;replace b3:=eq_true b3;replace b4:=eq_true b4;go_wp2_with (first|((with_reducible refine gate_callee (f:=43) rfl ?_);refine goesL_ (some 23) rfl rfl Try.func43 (by kernel_rfl) rfl #[.agg #[.int .i64 ((Qp l0 a0).f0),.int .i64 ((Qp l0 a0).f1),.bool ((Qp l0 a0).f2),.slice c1 ((Qp l0 a0).f3).length c6,.bool ((Qp l0 a0).f4),.slice c8 ((Qp l0 a0).f5).length c9],.int .i64 b2] rfl zzM2 ?_;(with_reducible refine (Rn.calls ((Qp l0 a0).f0) ((Qp l0 a0).f1) ((Qp l0 a0).f2) _ _ ((Qp l0 a0).f3) ((Qp l0 a0).f4) _ _ ((Qp l0 a0).f5) b2 b5 _ ?side1 ?side2 ?side3 ?side4 A6.out).mono ?_);(case side1=>exact zzcb b6 HB);(case side2=>exact b7.out);(case side3=>exact zzcb b8 HB);(case side4=>exact b9.out);rintro e w9 ⟨rfl,hb⟩;refine ⟨_,rfl,?_⟩;have d0:=zzm (zzp zzh1 hb);clear HB;have HB:=d0;clear d0;(try clear hb);(try clear hb2);(try clear hk);(try clear hi)));go_roundg k1
       case measure=>have:=HK1.out;omega
       case rel=>exact ⟨(b5),(wrap64 (a0+1)),(by first|rfl|(simp;done)|(simp [*];done)),(by first|rfl|(simp;done)|(simp [*];done)),H',⟨by have:=HK1.out;omega⟩,⟨zzh1⟩⟩
     ·
      rw [if_neg c5] at H;exact absurd H (by simp)
    ·
     rw [if_neg c4] at H;have d7:decide (a0 < (l0.length:Int))=false:=decide_eq_false c4;clear c4;obtain rfl:=Option.some.inj H;go_wp2;go_ret;exact ⟨zzR,zzh1⟩
def Rp.f (k:Nat) (a0_0:Bool) (a0_1:Bool) (a0_2:Int) (a0_3:Int) (a0_4:Int) (l0_5:List (S72)) (a1:Int):Option (Int):=(Qx.f k l0_5 a1).bind fun t107=>(if t107 < 0 then (some (-1)) else (some t107))
set_option maxHeartbeats 8000000 in
theorem Rp.calls (k:Nat) (a9:Bool) (b0:Bool) (b1:Int) (b2:Int) (b3:Int) (a4:Option Addr) (a5:Nat) (a0:List (S72)) (a1:Int) (r:Int) (w:World) (b6:Kd.C k72 w a4 a0.length a0) (b7:a0.length≤a5) (h:Rp.f k a9 b0 b1 b2 b3 a0 a1=some r) :
  Calls Try.prog 13 #[.agg #[.bool a9,.bool b0,.int .i64 b1,.int .i64 b2,.int .i64 b3,.slice a4 a0.length a5],.int .i64 a1] w fun e w'=>e = .returned (.int .i64 r)∧Below w.heap.size w w':=by
 have hu36:=Try.underlying36;have b8:=zzm b6;have b9:=zzm b7;clear b6 b7;have HB:=zzm (Below.refl w.heap.size w);have H:((Qx.f k a0 a1).bind fun a6=>(if a6 < 0 then (some (-1)) else (some a6)))=some r:=h;clear h;obtain ⟨a6,A3,H⟩:=zzG H;by_cases c4:a6 < 0
 ·
  rw [if_pos c4] at H;have c2:decide (a6 < 0)=true:=decide_eq_true c4;clear c4;obtain rfl:=Option.some.inj H;go_enter Try.func13,Try.ntmps13;go_wp2_with (first|((with_reducible refine gate_dst (N:=2) rfl ?_);refine box_event ?hg (N:=2) ?hd (cs:=#[.bool a9,.bool b0,.int .i64 b1,.int .i64 b2,.int .i64 b3,.slice a4 a0.length a5]) (t:=36) ?hr ?_;(case hd=>rfl);(case hg=>rfl);(case hr=>first|(go_simp;done)|(go_simp;rfl));intro a3 hg w5 hbox hb;have a7:=zzm (zzp zzh1 hb);have a8:=zzm (hbox);have b4:=zzm ((by rw [hg];exact (zzo zzh1):w.heap.size≤a3));have b5:=zzm ((by rw [hg];exact (zzo zzh1):w.heap.size≤a3));clear HB;have HB:=a7;have a2:=a8;have c0:=b4;have c1:=b5;clear a7 a8 b4 b5 hb hbox hg;obtain ⟨c3,c5,c6,c7,c8,c9,d0,d1,d2,d3,d4,d5⟩:=zzc6 a2.out)|((with_reducible refine gate_callee (f:=28) rfl ?_);refine goesL_ (some 8) rfl rfl Try.func28 (by kernel_rfl) rfl #[.slice a4 a0.length a5,.int .i64 a1] rfl zzM2 ?_;(with_reducible refine (Qx.calls k _ _ a0 a1 a6 _ ?side1 ?side2 A3.out).mono ?_);(case side1=>exact zzcb b8 HB);(case side2=>exact b9.out);rintro e w7 ⟨rfl,hb⟩;refine ⟨_,rfl,?_⟩;have a7:=zzm (zzh (g:=a3) (o:=.cells #[.bool a9,.bool b0,.int .i64 b1,.int .i64 b2,.int .i64 b3,.slice a4 a0.length a5] 36 (0,0)) (zzE a2.out) hb);have a8:=zzm (zzp zzh2 hb);clear a2 HB;have a2:=a7;have HB:=a8;clear a7 a8;(try clear hb);(try clear hb2);(try clear hk);(try clear hi)));go_ret;exact ⟨zzR,zzh3⟩
 ·
  rw [if_neg c4] at H;have c2:decide (a6 < 0)=false:=decide_eq_false c4;clear c4;obtain rfl:=Option.some.inj H;go_enter Try.func13,Try.ntmps13;go_wp2_with (first|((with_reducible refine gate_dst (N:=2) rfl ?_);refine box_event ?hg (N:=2) ?hd (cs:=#[.bool a9,.bool b0,.int .i64 b1,.int .i64 b2,.int .i64 b3,.slice a4 a0.length a5]) (t:=36) ?hr ?_;(case hd=>rfl);(case hg=>rfl);(case hr=>first|(go_simp;done)|(go_simp;rfl));intro a3 hg w8 hbox hb;have a7:=zzm (zzp zzh1 hb);have a8:=zzm (hbox);have b4:=zzm ((by rw [hg];exact (zzo zzh1):w.heap.size≤a3));have b5:=zzm ((by rw [hg];exact (zzo zzh1):w.heap.size≤a3));clear HB;have HB:=a7;have a2:=a8;have c0:=b4;have c1:=b5;clear a7 a8 b4 b5 hb hbox hg;obtain ⟨d6,d7,d8,d9,e0,e1,e2,e3,e4,e5,e6,e7⟩:=zzc6 a2.out)|((with_reducible refine gate_callee (f:=28) rfl ?_);refine goesL_ (some 8) rfl rfl Try.func28 (by kernel_rfl) rfl #[.slice a4 a0.length a5,.int .i64 a1] rfl zzM2 ?_;(with_reducible refine (Qx.calls k _ _ a0 a1 a6 _ ?side1 ?side2 A3.out).mono ?_);(case side1=>exact zzcb b8 HB);(case side2=>exact b9.out);rintro e e8 ⟨rfl,hb⟩;refine ⟨_,rfl,?_⟩;have a7:=zzm (zzh (g:=a3) (o:=.cells #[.bool a9,.bool b0,.int .i64 b1,.int .i64 b2,.int .i64 b3,.slice a4 a0.length a5] 36 (0,0)) (zzE a2.out) hb);have a8:=zzm (zzp zzh2 hb);clear a2 HB;have a2:=a7;have HB:=a8;clear a7 a8;(try clear hb);(try clear hb2);(try clear hk);(try clear hi)));go_ret;exact ⟨zzR,zzh3⟩

set_option linter.unusedVariables false
set_option linter.unusedSimpArgs false
def Qv.l0:Nat→List (S36)→Int→Int→Option (Int)
 | 0,_,_,_=>none
 | k+1,x0,x1,x5=>if x5 < (x0.length:Int) then (if 0≤x5 then ((Rp.f k ((Qs x0 x5).f0) ((Qs x0 x5).f1) ((Qs x0 x5).f2) ((Qs x0 x5).f3) ((Qs x0 x5).f4) ((Qs x0 x5).f5) x1).bind fun t109=>(if t109 < 0 then (some (-1)) else (Qv.l0 k x0 t109 (wrap64 (x5+1))))) else (none)) else (some x1)
def Qv.f (k:Nat) (l0:List (S36)) (a1:Int):Option (Int):=if (wrap64 (a1 - (l0.length:Int))) < 0 then (some (-1)) else (Qv.l0 k l0 (wrap64 (a1 - (l0.length:Int))) 0)
set_option maxHeartbeats 8000000 in
theorem Qv.calls (k:Nat) (A0:Option Addr) (c0:Nat) (l0:List (S36)) (a1:Int) (r:Int) (w:World) (c6:Kd.C k36 w A0 l0.length l0) (c8:l0.length≤c0) (h:Qv.f k l0 a1=some r) :
  Calls Try.prog 4 #[.slice A0 l0.length c0,.int .i64 a1] w fun e w'=>e = .returned (.int .i64 r)∧Below w.heap.size w w':=by
 have hu36:=Try.underlying36;have c9:=zzm c6;have d3:=zzm c8;clear c6 c8;have HB:=zzm (Below.refl w.heap.size w);have H:(if (wrap64 (a1 - (l0.length:Int))) < 0 then (some (-1)) else (Qv.l0 k l0 (wrap64 (a1 - (l0.length:Int))) 0))=some r:=h;clear h;by_cases c3:(wrap64 (a1 - (l0.length:Int))) < 0
 ·
  rw [if_pos c3] at H;have c1:decide ((wrap64 (a1 - (l0.length:Int))) < 0)=true:=decide_eq_true c3;clear c3;obtain rfl:=Option.some.inj H;go_enter Try.func4,Try.ntmps4;go_wp2;go_ret;exact ⟨zzR,zzh1⟩
 ·
  rw [if_neg c3] at H;have c1:decide ((wrap64 (a1 - (l0.length:Int))) < 0)=false:=decide_eq_false c3;clear c3;have H':=zzm H;clear H;go_enter Try.func4,Try.ntmps4;go_wp2;go_loopg [1,5] k (fun kq v1 v5 w'=>∃ (b0:Int) (a0:Int),v1 = .int .i64 b0∧v5 = .int .i64 a0∧Aside0 (Qv.l0 kq l0 b0 a0=some r)∧Aside0 (kq≤k)∧Aside0 (Below w.heap.size w w'))
  case atStart=>exact ⟨(wrap64 (a1 - (l0.length:Int))),(0),(by first|rfl|(simp;done)|(simp [*];done)),(by first|rfl|(simp;done)|(simp [*];done)),H',⟨Nat.le_refl _⟩,⟨zzh1⟩⟩
  case round=>
   clear H';try clear p2
   try clear c3
   try clear c1
   obtain ⟨b0,a0,rfl,rfl,HA,HK1,HB⟩:=hrel;cases gk with
   | zero=>exact absurd HA.out (by simp [Qv.l0])
   | succ k1=>
    have H:=HA.out;clear HA;simp only [Qv.l0] at H;by_cases c4:a0 < (l0.length:Int)
    ·
     rw [if_pos c4] at H;have d0:decide (a0 < (l0.length:Int))=true:=decide_eq_true c4;clear c4;by_cases c5 : 0≤a0
     ·
      rw [if_pos c5] at H;have d2:decide (0≤a0)=true:=decide_eq_true c5;clear c5;obtain ⟨b3,A6,H⟩:=zzG H;by_cases c7:b3 < 0
      ·
       rw [if_pos c7] at H;have d1:decide (b3 < 0)=true:=decide_eq_true c7;clear c7;obtain rfl:=Option.some.inj H;have b1 : 0≤(a0:Int):=zzt;have b2:a0 < (l0.length:Int):=zzt;obtain ⟨c2,b6,b7,b9,a2,a3,a4,a5,a6,a7,a8,a9⟩:=at_T36 c9.out a0 b1 b2;cases b9;replace a2:=zzx HB.out a2;replace a3:=zzx HB.out a3;replace a4:=zzx HB.out a4;replace a5:=zzx HB.out a5;replace a6:=zzx HB.out a6;replace a7:=zzx HB.out a7;have b4:=zzm a9;have b5:=zzm a8;clear a9 a8;replace b1:=eq_true b1;replace b2:=eq_true b2;go_wp2_with (first|((with_reducible refine gate_callee (f:=13) rfl ?_);refine goesL_ (some 23) rfl rfl Try.func13 (by kernel_rfl) rfl #[.agg #[.bool ((Qs l0 a0).f0),.bool ((Qs l0 a0).f1),.int .i64 ((Qs l0 a0).f2),.int .i64 ((Qs l0 a0).f3),.int .i64 ((Qs l0 a0).f4),.slice b6 ((Qs l0 a0).f5).length b7],.int .i64 b0] rfl zzM2 ?_;(with_reducible refine (Rp.calls k1 ((Qs l0 a0).f0) ((Qs l0 a0).f1) ((Qs l0 a0).f2) ((Qs l0 a0).f3) ((Qs l0 a0).f4) _ _ ((Qs l0 a0).f5) b0 b3 _ ?side1 ?side2 A6.out).mono ?_);(case side1=>exact zzcb b4 HB);(case side2=>exact b5.out);rintro e w8 ⟨rfl,hb⟩;refine ⟨_,rfl,?_⟩;have b8:=zzm (zzp zzh1 hb);clear HB;have HB:=b8;clear b8;(try clear hb);(try clear hb2);(try clear hk);(try clear hi)));go_ret;exact ⟨zzR,zzh1⟩
      ·
       rw [if_neg c7] at H;have d1:decide (b3 < 0)=false:=decide_eq_false c7;clear c7;have H':=zzm H;clear H;have b1 : 0≤(a0:Int):=zzt;have b2:a0 < (l0.length:Int):=zzt;obtain ⟨c2,b6,b7,b9,a2,a3,a4,a5,a6,a7,a8,a9⟩:=at_T36 c9.out a0 b1 b2;cases b9;replace a2:=zzx HB.out a2;replace a3:=zzx HB.out a3;replace a4:=zzx HB.out a4;replace a5:=zzx HB.out a5;replace a6:=zzx HB.out a6;replace a7:=zzx HB.out a7;have b4:=zzm a9;have b5:=zzm a8;clear a9 a8;replace b1:=eq_true b1;replace b2:=eq_true b2;go_wp2_with (first|((with_reducible refine gate_callee (f:=13) rfl ?_);refine goesL_ (some 23) rfl rfl Try.func13 (by kernel_rfl) rfl #[.agg #[.bool ((Qs l0 a0).f0),.bool ((Qs l0 a0).f1),.int .i64 ((Qs l0 a0).f2),.int .i64 ((Qs l0 a0).f3),.int .i64 ((Qs l0 a0).f4),.slice b6 ((Qs l0 a0).f5).length b7],.int .i64 b0] rfl zzM2 ?_;(with_reducible refine (Rp.calls k1 ((Qs l0 a0).f0) ((Qs l0 a0).f1) ((Qs l0 a0).f2) ((Qs l0 a0).f3) ((Qs l0 a0).f4) _ _ ((Qs l0 a0).f5) b0 b3 _ ?side1 ?side2 A6.out).mono ?_);(case side1=>exact zzcb b4 HB);(case side2=>exact b5.out);rintro e w9 ⟨rfl,hb⟩;refine ⟨_,rfl,?_⟩;have b8:=zzm (zzp zzh1 hb);clear HB;have HB:=b8;clear b8;(try clear hb);(try clear hb2);(try clear hk);(try clear hi)));go_roundg k1
       case measure=>have:=HK1.out;omega
       case rel=>exact ⟨(b3),(wrap64 (a0+1)),(by first|rfl|(simp;done)|(simp [*];done)),(by first|rfl|(simp;done)|(simp [*];done)),H',⟨by have:=HK1.out;omega⟩,⟨zzh1⟩⟩
     ·
      rw [if_neg c5] at H;exact absurd H (by simp)
    ·
     rw [if_neg c4] at H;have d0:decide (a0 < (l0.length:Int))=false:=decide_eq_false c4;clear c4;obtain rfl:=Option.some.inj H;go_wp2;go_ret;exact ⟨zzR,zzh1⟩
def Qw.f (a0:Int) (a1:Int) (a2:Int):Option (Bool):=if a0 ≥ a1 then (some (decide (a0≤a2))) else (some false)
set_option maxHeartbeats 8000000 in
theorem Qw.calls (a0:Int) (a1:Int) (a2:Int) (r:Bool) (w:World) (h:Qw.f a0 a1 a2=some r) :
  Calls Try.prog 45 #[.int .i64 a0,.int .i64 a1,.int .i64 a2] w fun e w'=>e = .returned (.bool r)∧Drawn0 w w':=by
 have H:(if a0 ≥ a1 then (some (decide (a0≤a2))) else (some false))=some r:=h;clear h;by_cases c4:a0 ≥ a1
 ·
  rw [if_pos c4] at H;have c4b0:decide (a1≤a0)=true:=decide_eq_true c4;clear c4;obtain rfl:=Option.some.inj H;go_enter Try.func45,Try.ntmps45;go_wp2;go_ret;exact ⟨by first|rfl|(simp;done)|(simp [*];done),by repeat (first|exact Drawn0.refl _|apply Drawn0.step)⟩
 ·
  rw [if_neg c4] at H;have c4b0:decide (a1≤a0)=false:=decide_eq_false c4;clear c4;obtain rfl:=Option.some.inj H;go_enter Try.func45,Try.ntmps45;go_wp2;go_ret;exact ⟨by first|rfl|(simp;done)|(simp [*];done),by repeat (first|exact Drawn0.refl _|apply Drawn0.step)⟩

set_option linter.unusedVariables false
set_option linter.unusedSimpArgs false
def Q7.l0:Nat→List Int→Int→Option (Bool)
 | 0,_,_=>none
 | k+1,x0,x3=>if x3 < (x0.length:Int) then (if 0≤x3 then ((Qw.f (rd x0 x3) 0 255).bind fun t111=>(if t111=true then (Q7.l0 k x0 (wrap64 (x3+1))) else (some false))) else (none)) else (some true)
def Q7.f (k:Nat) (l0:List Int):Option (Bool):=Q7.l0 k l0 0
set_option maxHeartbeats 8000000 in
theorem Q7.calls (k:Nat) (A0:Option Addr) (c0:Nat) (l0:List Int) (r:Bool) (w:World) (a6:Kd.C (Kd.int .i64) w A0 l0.length l0) (a7:l0.length≤c0) (h:Q7.f k l0=some r) :
  Calls Try.prog 64 #[.slice A0 l0.length c0] w fun e w'=>e = .returned (.bool r)∧Drawn0 w w':=by
 have a8:=zzm a6;have b2:=zzm a7;clear a6 a7;have H:(Q7.l0 k l0 0)=some r:=h;clear h;have H':=zzm H;clear H;go_enter Try.func64,Try.ntmps64;go_wp2;go_loopg [3] k (fun kq v3 w'=>∃ (a0:Int),v3 = .int .i64 a0∧Aside0 (Q7.l0 kq l0 a0=some r)∧Aside0 (kq≤k)∧Drawn0 w w')
 case atStart=>exact ⟨(0),(by first|rfl|(simp;done)|(simp [*];done)),H',⟨Nat.le_refl _⟩,by repeat (first|exact Drawn0.refl _|apply Drawn0.step)⟩
 case round=>
  clear H';obtain ⟨a0,rfl,HA,HK1,⟨m1,rfl⟩⟩:=hrel;cases gk with
  | zero=>exact absurd HA.out (by simp [Q7.l0])
  | succ k1=>
   have H:=HA.out;clear HA;simp only [Q7.l0] at H;by_cases c2:a0 < (l0.length:Int)
   ·
    rw [if_pos c2] at H;have a9:decide (a0 < (l0.length:Int))=true:=decide_eq_true c2;clear c2;by_cases c3 : 0≤a0
    ·
     rw [if_pos c3] at H;have b1:decide (0≤a0)=true:=decide_eq_true c3;clear c3;obtain ⟨b0,A4,H⟩:=zzG H;by_cases c5:b0=true
     ·
      subst c5;replace H:=zzIt H;have H':=zzm H;clear H;have a1 : 0≤(a0:Int):=zzt;have a2:a0 < (l0.length:Int):=zzt;obtain ⟨a5,a3,a4⟩:=Kd.at_int a8.out a0 a1 a2;cases a3;replace a1:=eq_true a1;replace a2:=eq_true a2;go_wp2_with (first|((with_reducible refine gate_callee (f:=45) rfl ?_);refine goesL_ (some 14) rfl rfl Try.func45 (by kernel_rfl) rfl #[.int .i64 (rd l0 a0),.int .i64 0,.int .i64 255] rfl zzM2 ?_;(with_reducible refine (Qw.calls (rd l0 a0) 0 255 true _ A4.out).mono ?_);rintro e w' ⟨rfl,⟨nd,rfl⟩⟩;refine ⟨_,rfl,?_⟩));go_roundg k1
      case measure=>have:=HK1.out;omega
      case rel=>exact ⟨(wrap64 (a0+1)),(by first|rfl|(simp;done)|(simp [*];done)),H',⟨by have:=HK1.out;omega⟩,by repeat (first|exact Drawn0.refl _|apply Drawn0.step)⟩
     ·
      replace c5:=Bool.eq_false_iff.mpr c5;subst c5;replace H:=zzIf H;obtain rfl:=Option.some.inj H;have a1 : 0≤(a0:Int):=zzt;have a2:a0 < (l0.length:Int):=zzt;obtain ⟨a5,a3,a4⟩:=Kd.at_int a8.out a0 a1 a2;cases a3;replace a1:=eq_true a1;replace a2:=eq_true a2;go_wp2_with (first|((with_reducible refine gate_callee (f:=45) rfl ?_);refine goesL_ (some 14) rfl rfl Try.func45 (by kernel_rfl) rfl #[.int .i64 (rd l0 a0),.int .i64 0,.int .i64 255] rfl zzM2 ?_;(with_reducible refine (Qw.calls (rd l0 a0) 0 255 false _ A4.out).mono ?_);rintro e w' ⟨rfl,⟨nd,rfl⟩⟩;refine ⟨_,rfl,?_⟩));go_ret;exact ⟨by first|rfl|(simp;done)|(simp [*];done),by repeat (first|exact Drawn0.refl _|apply Drawn0.step)⟩
    ·
     rw [if_neg c3] at H;exact absurd H (by simp)
   ·
    rw [if_neg c2] at H;have a9:decide (a0 < (l0.length:Int))=false:=decide_eq_false c2;clear c2;obtain rfl:=Option.some.inj H;go_wp2;go_ret;exact ⟨by first|rfl|(simp;done)|(simp [*];done),by repeat (first|exact Drawn0.refl _|apply Drawn0.step)⟩

set_option linter.unusedVariables false
set_option linter.unusedSimpArgs false
def Rm.f (k:Nat) (a0:Bool) (l1:List Int):Option (Bool):=if a0=true then ((Q7.f k l1).bind fun t112=>(if t112=true then (some (decide ((l1.length:Int)≤12))) else (some false))) else (if (l1.length:Int)=0 then ((Q7.f k l1).bind fun t113=>(if t113=true then (some (decide ((l1.length:Int)≤12))) else (some false))) else (some false))
set_option maxHeartbeats 8000000 in
theorem Rm.calls (k:Nat) (a0:Bool) (A1:Option Addr) (c1:Nat) (l1:List Int) (r:Bool) (w:World) (a5:Kd.C (Kd.int .i64) w A1 l1.length l1) (a6:l1.length≤c1) (h:Rm.f k a0 l1=some r) :
  Calls Try.prog 62 #[.bool a0,.slice A1 l1.length c1] w fun e w'=>e = .returned (.bool r)∧Drawn0 w w':=by
 have a3:=zzm a5;have a4:=zzm a6;clear a5 a6;have H:(if a0=true then ((Q7.f k l1).bind fun a1=>(if a1=true then (some (decide ((l1.length:Int)≤12))) else (some false))) else (if (l1.length:Int)=0 then ((Q7.f k l1).bind fun a2=>(if a2=true then (some (decide ((l1.length:Int)≤12))) else (some false))) else (some false)))=some r:=h;clear h;by_cases c3:a0=true
 ·
  subst c3;replace H:=zzIt H;obtain ⟨a1,A4,H⟩:=zzG H;by_cases c5:a1=true
  ·
   subst c5;replace H:=zzIt H;obtain rfl:=Option.some.inj H;go_enter Try.func62,Try.ntmps62;go_wp2_with (first|(go_at_call 64;(with_reducible refine (Q7.calls k _ _ l1 true _ ?side1 ?side2 A4.out).mono ?_);(case side1=>repeat (first|exact a3.out|(with_reducible refine Kd.C_alloc ?_ _)|(with_reducible refine Kd.C_drewN ?_ _)|(with_reducible refine Kd.C_drew ?_)));(case side2=>exact a4.out);rintro e w' ⟨rfl,⟨nd,rfl⟩⟩));go_ret;exact ⟨by first|rfl|(simp;done)|(simp [*];done),by repeat (first|exact Drawn0.refl _|apply Drawn0.step)⟩
  ·
   replace c5:=Bool.eq_false_iff.mpr c5;subst c5;replace H:=zzIf H;obtain rfl:=Option.some.inj H;go_enter Try.func62,Try.ntmps62;go_wp2_with (first|(go_at_call 64;(with_reducible refine (Q7.calls k _ _ l1 false _ ?side1 ?side2 A4.out).mono ?_);(case side1=>repeat (first|exact a3.out|(with_reducible refine Kd.C_alloc ?_ _)|(with_reducible refine Kd.C_drewN ?_ _)|(with_reducible refine Kd.C_drew ?_)));(case side2=>exact a4.out);rintro e w' ⟨rfl,⟨nd,rfl⟩⟩));go_ret;exact ⟨by first|rfl|(simp;done)|(simp [*];done),by repeat (first|exact Drawn0.refl _|apply Drawn0.step)⟩
 ·
  replace c3:=Bool.eq_false_iff.mpr c3;subst c3;replace H:=zzIf H;by_cases c6:(l1.length:Int)=0
  ·
   rw [if_pos c6] at H;obtain ⟨a7,a8⟩:=zzQ c6;clear c6;obtain ⟨a2,A7,H⟩:=zzG H;by_cases c8:a2=true
   ·
    subst c8;replace H:=zzIt H;obtain rfl:=Option.some.inj H;go_enter Try.func62,Try.ntmps62;go_wp2_with (first|(go_at_call 64;(with_reducible refine (Q7.calls k _ _ l1 true _ ?side1 ?side2 A7.out).mono ?_);(case side1=>repeat (first|exact a3.out|(with_reducible refine Kd.C_alloc ?_ _)|(with_reducible refine Kd.C_drewN ?_ _)|(with_reducible refine Kd.C_drew ?_)));(case side2=>exact a4.out);rintro e w' ⟨rfl,⟨nd,rfl⟩⟩));go_ret;exact ⟨by first|rfl|(simp;done)|(simp [*];done),by repeat (first|exact Drawn0.refl _|apply Drawn0.step)⟩
   ·
    replace c8:=Bool.eq_false_iff.mpr c8;subst c8;replace H:=zzIf H;obtain rfl:=Option.some.inj H;go_enter Try.func62,Try.ntmps62;go_wp2_with (first|(go_at_call 64;(with_reducible refine (Q7.calls k _ _ l1 false _ ?side1 ?side2 A7.out).mono ?_);(case side1=>repeat (first|exact a3.out|(with_reducible refine Kd.C_alloc ?_ _)|(with_reducible refine Kd.C_drewN ?_ _)|(with_reducible refine Kd.C_drew ?_)));(case side2=>exact a4.out);rintro e w' ⟨rfl,⟨nd,rfl⟩⟩));go_ret;exact ⟨by first|rfl|(simp;done)|(simp [*];done),by repeat (first|exact Drawn0.refl _|apply Drawn0.step)⟩
  ·
   rw [if_neg c6] at H;obtain ⟨a7,a8⟩:=zzY c6;have a9:¬ (l1 = []):=fun h_=>c6 (by rw [h_];rfl);obtain rfl:=Option.some.inj H;go_enter Try.func62,Try.ntmps62;go_wp2;go_ret;exact ⟨by first|rfl|(simp;done)|(simp [*];done),by repeat (first|exact Drawn0.refl _|apply Drawn0.step)⟩

set_option linter.unusedVariables false
set_option linter.unusedSimpArgs false
def Q9.f (k:Nat) (a0_0:Int) (a0_1:Int) (a0_2:Bool) (l0_3:List Int) (a0_4:Bool) (l0_5:List Int):Option (Bool):=(Qw.f a0_0 0 99999).bind fun t115=>(if t115=true then ((Qw.f a0_1 0 99999).bind fun t116=>(if t116=true then ((Rm.f k a0_2 l0_3).bind fun t117=>(if t117=true then ((Rm.f k a0_4 l0_5).bind fun t118=>(some t118)) else (some false))) else (some false))) else (some false))
set_option maxHeartbeats 8000000 in
theorem Q9.calls (k:Nat) (a0:Int) (a4:Int) (a5:Bool) (b2:Option Addr) (b3:Nat) (a2:List Int) (a7:Bool) (b4:Option Addr) (b5:Nat) (a3:List Int) (r:Bool) (w:World) (c2:Kd.C (Kd.int .i64) w b2 a2.length a2) (c4:a2.length≤b3) (c6:Kd.C (Kd.int .i64) w b4 a3.length a3) (c8:a3.length≤b5) (h:Q9.f k a0 a4 a5 a2 a7 a3=some r) :
  Calls Try.prog 57 #[.agg #[.int .i64 a0,.int .i64 a4,.bool a5,.slice b2 a2.length b3,.bool a7,.slice b4 a3.length b5]] w fun e w'=>e = .returned (.bool r)∧Below w.heap.size w w':=by
 have hu42:=Try.underlying42;have c9:=zzm c2;have d0:=zzm c4;clear c2 c4;have d1:=zzm c6;have d2:=zzm c8;clear c6 c8;have HB:=zzm (Below.refl w.heap.size w);have H:((Qw.f a0 0 99999).bind fun b8=>(if b8=true then ((Qw.f a4 0 99999).bind fun b9=>(if b9=true then ((Rm.f k a5 a2).bind fun c0=>(if c0=true then ((Rm.f k a7 a3).bind fun c1=>(some c1)) else (some false))) else (some false))) else (some false)))=some r:=h;clear h;obtain ⟨b8,A2,H⟩:=zzG H;by_cases c3:b8=true
 ·
  subst c3;replace H:=zzIt H;obtain ⟨b9,A4,H⟩:=zzG H;by_cases c5:b9=true
  ·
   subst c5;replace H:=zzIt H;obtain ⟨c0,A6,H⟩:=zzG H;by_cases c7:c0=true
   ·
    subst c7;replace H:=zzIt H;obtain ⟨c1,A8,H⟩:=zzG H;obtain rfl:=Option.some.inj H;go_enter Try.func57,Try.ntmps57;go_wp2_with (first|((with_reducible refine gate_dst (N:=1) rfl ?_);refine box_event ?hg (N:=1) ?hd (cs:=#[.int .i64 a0,.int .i64 a4,.bool a5,.slice b2 a2.length b3,.bool a7,.slice b4 a3.length b5]) (t:=42) ?hr ?_;(case hd=>rfl);(case hg=>rfl);(case hr=>first|(go_simp;done)|(go_simp;rfl));intro a1 hg w9 hbox hb;have a8:=zzm (zzp zzh1 hb);have a9:=zzm (hbox);have b0:=zzm ((by rw [hg];exact (zzo zzh1):w.heap.size≤a1));have b1:=zzm ((by rw [hg];exact (zzo zzh1):w.heap.size≤a1));clear HB;have HB:=a8;have a6:=a9;have b6:=b0;have b7:=b1;clear a8 a9 b0 b1 hb hbox hg;obtain ⟨d3,d4,d5,d6,d7,d8,d9,e0,e1,e2,e3,e4⟩:=zzc6 a6.out)|((with_reducible refine gate_callee (f:=45) rfl ?_);refine goesL_ (some 5) rfl rfl Try.func45 (by kernel_rfl) rfl #[.int .i64 a0,.int .i64 0,.int .i64 99999] rfl zzM2 ?_;(with_reducible refine (Qw.calls a0 0 99999 true _ A2.out).mono ?_);rintro e w' ⟨rfl,⟨nd,rfl⟩⟩;refine ⟨_,rfl,?_⟩)|(go_at_call 45;(with_reducible refine (Qw.calls a4 0 99999 true _ A4.out).mono ?_);rintro e w' ⟨rfl,⟨nd,rfl⟩⟩)|(go_at_call 62;(with_reducible refine (Rm.calls k a5 _ _ a2 true _ ?side1 ?side2 A6.out).mono ?_);(case side1=>repeat (first|exact (Kd.C_below c9.out zzh2)|(with_reducible refine Kd.C_alloc ?_ _)|(with_reducible refine Kd.C_drewN ?_ _)|(with_reducible refine Kd.C_drew ?_)));(case side2=>exact d0.out);rintro e w' ⟨rfl,⟨nd,rfl⟩⟩)|(go_at_call 62;(with_reducible refine (Rm.calls k a7 _ _ a3 c1 _ ?side1 ?side2 A8.out).mono ?_);(case side1=>repeat (first|exact (Kd.C_below d1.out zzh2)|(with_reducible refine Kd.C_alloc ?_ _)|(with_reducible refine Kd.C_drewN ?_ _)|(with_reducible refine Kd.C_drew ?_)));(case side2=>exact d2.out);rintro e w' ⟨rfl,⟨nd,rfl⟩⟩));go_ret;exact ⟨zzR,zzh3⟩
   ·
    replace c7:=Bool.eq_false_iff.mpr c7;subst c7;replace H:=zzIf H;obtain rfl:=Option.some.inj H;go_enter Try.func57,Try.ntmps57;go_wp2_with (first|((with_reducible refine gate_dst (N:=1) rfl ?_);refine box_event ?hg (N:=1) ?hd (cs:=#[.int .i64 a0,.int .i64 a4,.bool a5,.slice b2 a2.length b3,.bool a7,.slice b4 a3.length b5]) (t:=42) ?hr ?_;(case hd=>rfl);(case hg=>rfl);(case hr=>first|(go_simp;done)|(go_simp;rfl));intro a1 hg k5 hbox hb;have a8:=zzm (zzp zzh1 hb);have a9:=zzm (hbox);have b0:=zzm ((by rw [hg];exact (zzo zzh1):w.heap.size≤a1));have b1:=zzm ((by rw [hg];exact (zzo zzh1):w.heap.size≤a1));clear HB;have HB:=a8;have a6:=a9;have b6:=b0;have b7:=b1;clear a8 a9 b0 b1 hb hbox hg;obtain ⟨e5,e6,e7,e8,e9,g0,g1,g2,g3,g4,g5,g6⟩:=zzc6 a6.out)|((with_reducible refine gate_callee (f:=45) rfl ?_);refine goesL_ (some 5) rfl rfl Try.func45 (by kernel_rfl) rfl #[.int .i64 a0,.int .i64 0,.int .i64 99999] rfl zzM2 ?_;(with_reducible refine (Qw.calls a0 0 99999 true _ A2.out).mono ?_);rintro e w' ⟨rfl,⟨nd,rfl⟩⟩;refine ⟨_,rfl,?_⟩)|(go_at_call 45;(with_reducible refine (Qw.calls a4 0 99999 true _ A4.out).mono ?_);rintro e w' ⟨rfl,⟨nd,rfl⟩⟩)|(go_at_call 62;(with_reducible refine (Rm.calls k a5 _ _ a2 false _ ?side1 ?side2 A6.out).mono ?_);(case side1=>repeat (first|exact (Kd.C_below c9.out zzh2)|(with_reducible refine Kd.C_alloc ?_ _)|(with_reducible refine Kd.C_drewN ?_ _)|(with_reducible refine Kd.C_drew ?_)));(case side2=>exact d0.out);rintro e w' ⟨rfl,⟨nd,rfl⟩⟩));go_ret;exact ⟨zzR,zzh3⟩
  ·
   replace c5:=Bool.eq_false_iff.mpr c5;subst c5;replace H:=zzIf H;obtain rfl:=Option.some.inj H;go_enter Try.func57,Try.ntmps57;go_wp2_with (first|((with_reducible refine gate_dst (N:=1) rfl ?_);refine box_event ?hg (N:=1) ?hd (cs:=#[.int .i64 a0,.int .i64 a4,.bool a5,.slice b2 a2.length b3,.bool a7,.slice b4 a3.length b5]) (t:=42) ?hr ?_;(case hd=>rfl);(case hg=>rfl);(case hr=>first|(go_simp;done)|(go_simp;rfl));intro a1 hg k6 hbox hb;have a8:=zzm (zzp zzh1 hb);have a9:=zzm (hbox);have b0:=zzm ((by rw [hg];exact (zzo zzh1):w.heap.size≤a1));have b1:=zzm ((by rw [hg];exact (zzo zzh1):w.heap.size≤a1));clear HB;have HB:=a8;have a6:=a9;have b6:=b0;have b7:=b1;clear a8 a9 b0 b1 hb hbox hg;obtain ⟨g7,g8,g9,h0,h1,h2,h3,h4,h5,h6,h7,h8⟩:=zzc6 a6.out)|((with_reducible refine gate_callee (f:=45) rfl ?_);refine goesL_ (some 5) rfl rfl Try.func45 (by kernel_rfl) rfl #[.int .i64 a0,.int .i64 0,.int .i64 99999] rfl zzM2 ?_;(with_reducible refine (Qw.calls a0 0 99999 true _ A2.out).mono ?_);rintro e w' ⟨rfl,⟨nd,rfl⟩⟩;refine ⟨_,rfl,?_⟩)|(go_at_call 45;(with_reducible refine (Qw.calls a4 0 99999 false _ A4.out).mono ?_);rintro e w' ⟨rfl,⟨nd,rfl⟩⟩));go_ret;exact ⟨zzR,zzh3⟩
 ·
  replace c3:=Bool.eq_false_iff.mpr c3;subst c3;replace H:=zzIf H;obtain rfl:=Option.some.inj H;go_enter Try.func57,Try.ntmps57;go_wp2_with (first|((with_reducible refine gate_dst (N:=1) rfl ?_);refine box_event ?hg (N:=1) ?hd (cs:=#[.int .i64 a0,.int .i64 a4,.bool a5,.slice b2 a2.length b3,.bool a7,.slice b4 a3.length b5]) (t:=42) ?hr ?_;(case hd=>rfl);(case hg=>rfl);(case hr=>first|(go_simp;done)|(go_simp;rfl));intro a1 hg k7 hbox hb;have a8:=zzm (zzp zzh1 hb);have a9:=zzm (hbox);have b0:=zzm ((by rw [hg];exact (zzo zzh1):w.heap.size≤a1));have b1:=zzm ((by rw [hg];exact (zzo zzh1):w.heap.size≤a1));clear HB;have HB:=a8;have a6:=a9;have b6:=b0;have b7:=b1;clear a8 a9 b0 b1 hb hbox hg;obtain ⟨h9,j4,j5,j6,j7,j8,j9,k0,k1,k2,k3,k4⟩:=zzc6 a6.out)|((with_reducible refine gate_callee (f:=45) rfl ?_);refine goesL_ (some 5) rfl rfl Try.func45 (by kernel_rfl) rfl #[.int .i64 a0,.int .i64 0,.int .i64 99999] rfl zzM2 ?_;(with_reducible refine (Qw.calls a0 0 99999 false _ A2.out).mono ?_);rintro e w' ⟨rfl,⟨nd,rfl⟩⟩;refine ⟨_,rfl,?_⟩));go_ret;exact ⟨zzR,zzh3⟩

set_option linter.unusedVariables false
set_option linter.unusedSimpArgs false
def Qg.l0:Nat→List (S42)→Int→Option (Bool)
 | 0,_,_=>none
 | k+1,x0,x3=>if x3 < (x0.length:Int) then (if 0≤x3 then ((Q9.f k ((Qb x0 x3).f0) ((Qb x0 x3).f1) ((Qb x0 x3).f2) ((Qb x0 x3).f3) ((Qb x0 x3).f4) ((Qb x0 x3).f5)).bind fun t120=>(if t120=true then (if x3 > 0 then (if 0≤(wrap64 (x3 - 1)) then (if (wrap64 (x3 - 1)) < (x0.length:Int) then (if ((Qb x0 (wrap64 (x3 - 1))).f0) ≥ ((Qb x0 x3).f0) then (some false) else (Qg.l0 k x0 (wrap64 (x3+1)))) else (none)) else (none)) else (Qg.l0 k x0 (wrap64 (x3+1)))) else (some false))) else (none)) else ((Qw.f (x0.length:Int) 1 6).bind fun t123=>(some t123))
def Qg.f (k:Nat) (l0:List (S42)):Option (Bool):=Qg.l0 k l0 0
def Qg.T4:Bool×List (List Nat×List Nat):=(true,[([],[]),([],[]),([0,1],[0,1]),([2],[2]),([3],[3]),([4],[4]),([5,4],[5]),([6],[6]),([7,6],[6,7]),([8,6,6],[6,8]),([9],[9]),([9],[9]),([11,9],[9,11]),([10,12,9],[9,10,12]),([13,9],[9,13]),([14,9],[9,14]),([9],[9]),([9],[9]),([16,17,9],[9,16,17]),([18,9],[9,18]),([19,9],[9,19]),([15,20,9],[9,15,20]),([9,21,6],[6,9,21]),([6,22],[6,22])])
def Qg.B4:List Nat:=[0,0,3,7,15,31,63,127,255,511,1023,1023,3071,8191,16383,32767,1023,1023,197631,459775,984063,2097151,4194303,8388607]
theorem Qg.tab4:rtab .any (opsOf Try.f44 4)=Qg.T4:=by kernel_rfl
theorem Qg.bits4:waitsOk Qg.T4.2 Qg.B4=true:=by kernel_rfl
set_option maxHeartbeats 8000000 in
theorem Qg.calls (k:Nat) (A0:Option Addr) (c0:Nat) (l0:List (S42)) (r:Bool) (w:World) (m7:Kd.C k42 w A0 l0.length l0) (m8:l0.length≤c0) (h:Qg.f k l0=some r) :
  Calls Try.prog 44 #[.slice A0 l0.length c0] w fun e w'=>e = .returned (.bool r)∧Below w.heap.size w w':=by
 have hu42:=Try.underlying42;have k6:=zzm m7;have n7:=zzm m8;clear m7 m8;have HB:=zzm (Below.refl w.heap.size w);have H:(Qg.l0 k l0 0)=some r:=h;clear h;have H':=zzm H;clear H;go_enter Try.func44,Try.ntmps44;go_wp2;go_loopg [3] k (fun kq v3 w'=>∃ (a0:Int),v3 = .int .i64 a0∧Aside0 (Qg.l0 kq l0 a0=some r)∧Aside0 (kq≤k)∧Aside0 (Below w.heap.size w w'))
 case atStart=>exact ⟨(0),(by first|rfl|(simp;done)|(simp [*];done)),H',⟨Nat.le_refl _⟩,⟨zzh1⟩⟩
 case round=>
  clear H';obtain ⟨a0,rfl,HA,HK1,HB⟩:=hrel;cases gk with
  | zero=>exact absurd HA.out (by simp [Qg.l0])
  | succ k1=>
   have H:=HA.out;clear HA;simp only [Qg.l0] at H;by_cases c2:a0 < (l0.length:Int)
   ·
    rw [if_pos c2] at H;have m9:decide (a0 < (l0.length:Int))=true:=decide_eq_true c2;clear c2;by_cases c3 : 0≤a0
    ·
     rw [if_pos c3] at H;have n4:decide (0≤a0)=true:=decide_eq_true c3;clear c3;obtain ⟨n0,A4,H⟩:=zzG H;by_cases c5:n0=true
     ·
      subst c5;replace H:=zzIt H;by_cases c6:a0 > 0
      ·
       rw [if_pos c6] at H;have n1:decide (0 < a0)=true:=decide_eq_true c6;clear c6;obtain ⟨a3,hji7⟩:∃ j_:Int,(wrap64 (a0 - 1))=j_:=⟨_,rfl⟩;replace H:(if 0≤(a3) then (if (a3) < (l0.length:Int) then (if ((Qb l0 (a3)).f0) ≥ ((Qb l0 a0).f0) then (some false) else (Qg.l0 k1 l0 (wrap64 (a0+1)))) else (none)) else (none))=some r:=by first|(rw [hji7] at H;exact H)|(simp only [hji7] at H ⊢;exact H)
       (try rw [hji7] at A4);have hji7w:(IntKind.i64.wrap (a0 - 1))=a3:=(i64_w _).trans hji7;by_cases c8 : 0≤(a3)
       ·
        rw [if_pos c8] at H;have n5:decide (0≤(a3))=true:=decide_eq_true c8;clear c8;by_cases c9:(a3) < (l0.length:Int)
        ·
         rw [if_pos c9] at H;have n6:decide ((a3) < (l0.length:Int))=true:=decide_eq_true c9;clear c9;by_cases l7:((Qb l0 (a3)).f0) ≥ ((Qb l0 a0).f0)
         ·
          rw [if_pos l7] at H;have m6:decide (((Qb l0 a0).f0)≤((Qb l0 (a3)).f0))=true:=decide_eq_true l7;clear l7;obtain rfl:=Option.some.inj H;try go_wp2
          have d0:=zzm (zzc HB.out);clear HB;have HB:=d0;clear d0;have e7 : 0≤(a0:Int):=zzt;have e8:a0 < (l0.length:Int):=zzt;obtain ⟨a1,d1,d2,d3,d4,j6,a4,a5,a6,a7,a8,a9,b1,b2,b3,b4⟩:=Qt k6.out a0 e7 e8;have b5:=a9;have b6:=a8;have b7:=a7;have b8:=a6;have b9:=a5;have c1:=a4;cases j6;replace a4:=zzx HB.out a4;replace a5:=zzx HB.out a5;replace a6:=zzx HB.out a6;replace a7:=zzx HB.out a7;replace a8:=zzx HB.out a8;replace a9:=zzx HB.out a9;have c4:=zzm b2;have e9:=zzm b1;clear b2 b1;have c7:=zzm b4;have g0:=zzm b3;clear b4 b3;replace e7:=eq_true e7;replace e8:=eq_true e8;have j7 : 0≤((a3):Int):=zzt;have j8:(a3) < (l0.length:Int):=zzt;obtain ⟨l8,k7,k8,k9,l2,m0,d5,d6,d7,d8,d9,e0,g1,g2,g3,g4⟩:=Qt k6.out (a3) j7 j8;have g5:=e0;have g6:=d9;have g7:=d8;have g8:=d7;have g9:=d6;have h0:=d5;obtain rfl:a1=l8:=(by injection m0);replace d5:=zzx HB.out d5;replace d6:=zzx HB.out d6;replace d7:=zzx HB.out d7;replace d8:=zzx HB.out d8;replace d9:=zzx HB.out d9;replace e0:=zzx HB.out e0;have k2:=zzm g2;have m2:=zzm g1;clear g2 g1;have k3:=zzm g4;have m3:=zzm g3;clear g4 g3;replace j7:=eq_true j7;replace j8:=eq_true j8;have j9 : 0≤(a0:Int):=zzt;have k0:a0 < (l0.length:Int):=zzt;obtain ⟨l9,l3,l4,l5,l6,m1,e1,e2,e3,e4,e5,e6,h1,h2,h3,h4⟩:=Qt k6.out a0 j9 k0;have h5:=e6;have h6:=e5;have h7:=e4;have h8:=e3;have h9:=e2;have j4:=e1;obtain rfl:a1=l9:=(by injection m1);replace e1:=zzx HB.out e1;replace e2:=zzx HB.out e2;replace e3:=zzx HB.out e3;replace e4:=zzx HB.out e4;replace e5:=zzx HB.out e5;replace e6:=zzx HB.out e6;have k4:=zzm h2;have m4:=zzm h1;clear h2 h1;have k5:=zzm h4;have m5:=zzm h3;clear h4 h3;replace j9:=eq_true j9;replace k0:=eq_true k0;refine start_ (n:=24) (S:=fun w'=>w'.cell? (a1.add ((a0).toNat * 6))=some (.int .i64 ((Qb l0 a0).f0))∧w'.cell? ⟨(a1.add ((a0).toNat * 6)).block,(a1.add ((a0).toNat * 6)).off+1,none⟩=some (.int .i64 ((Qb l0 a0).f1))∧w'.cell? ⟨(a1.add ((a0).toNat * 6)).block,(a1.add ((a0).toNat * 6)).off+2,none⟩=some (.bool ((Qb l0 a0).f2))∧w'.cell? ⟨(a1.add ((a0).toNat * 6)).block,(a1.add ((a0).toNat * 6)).off+3,none⟩=some (.slice d1 ((Qb l0 a0).f3).length d2)∧w'.cell? ⟨(a1.add ((a0).toNat * 6)).block,(a1.add ((a0).toNat * 6)).off+4,none⟩=some (.bool ((Qb l0 a0).f4))∧w'.cell? ⟨(a1.add ((a0).toNat * 6)).block,(a1.add ((a0).toNat * 6)).off+5,none⟩=some (.slice d3 ((Qb l0 a0).f5).length d4)∧w'.cell? (a1.add (((a3)).toNat * 6))=some (.int .i64 ((Qb l0 (a3)).f0))∧w'.cell? ⟨(a1.add (((a3)).toNat * 6)).block,(a1.add (((a3)).toNat * 6)).off+1,none⟩=some (.int .i64 ((Qb l0 (a3)).f1))∧w'.cell? ⟨(a1.add (((a3)).toNat * 6)).block,(a1.add (((a3)).toNat * 6)).off+2,none⟩=some (.bool ((Qb l0 (a3)).f2))∧w'.cell? ⟨(a1.add (((a3)).toNat * 6)).block,(a1.add (((a3)).toNat * 6)).off+3,none⟩=some (.slice k7 ((Qb l0 (a3)).f3).length k8)∧w'.cell? ⟨(a1.add (((a3)).toNat * 6)).block,(a1.add (((a3)).toNat * 6)).off+4,none⟩=some (.bool ((Qb l0 (a3)).f4))∧w'.cell? ⟨(a1.add (((a3)).toNat * 6)).block,(a1.add (((a3)).toNat * 6)).off+5,none⟩=some (.slice k9 ((Qb l0 (a3)).f5).length l2)∧w'.cell? (a1.add ((a0).toNat * 6))=some (.int .i64 ((Qb l0 a0).f0))∧w'.cell? ⟨(a1.add ((a0).toNat * 6)).block,(a1.add ((a0).toNat * 6)).off+1,none⟩=some (.int .i64 ((Qb l0 a0).f1))∧w'.cell? ⟨(a1.add ((a0).toNat * 6)).block,(a1.add ((a0).toNat * 6)).off+2,none⟩=some (.bool ((Qb l0 a0).f2))∧w'.cell? ⟨(a1.add ((a0).toNat * 6)).block,(a1.add ((a0).toNat * 6)).off+3,none⟩=some (.slice l3 ((Qb l0 a0).f3).length l4)∧w'.cell? ⟨(a1.add ((a0).toNat * 6)).block,(a1.add ((a0).toNat * 6)).off+4,none⟩=some (.bool ((Qb l0 a0).f4))∧w'.cell? ⟨(a1.add ((a0).toNat * 6)).block,(a1.add ((a0).toNat * 6)).off+5,none⟩=some (.slice l5 ((Qb l0 a0).f5).length l6)) (ds:=[]) (zzB 24 0) (by kernel_rfl) rfl rfl ⟨(zzx HB.out c1 :),(zzx HB.out b9 :),(zzx HB.out b8 :),(zzx HB.out b7 :),(zzx HB.out b6 :),(zzx HB.out b5 :),(zzx HB.out h0 :),(zzx HB.out g9 :),(zzx HB.out g8 :),(zzx HB.out g7 :),(zzx HB.out g6 :),(zzx HB.out g5 :),(zzx HB.out j4 :),(zzx HB.out h9 :),(zzx HB.out h8 :),(zzx HB.out h7 :),(zzx HB.out h6 :),(zzx HB.out h5 :)⟩ (fun b0=>?_);refine with_tabW Qg.tab4 Qg.bits4 (fun a2 j5=>?_);generalize wr.drew=n8 at HB c4 c7 k2 k3 k4 k5 a4 a5 a6 a7 a8 a9 d5 d6 d7 d8 d9 e0 e1 e2 e3 e4 e5 e6 b0 ⊢;refine zzP 0 10 24 1 a2 ?_
          refine zzP 1 11 24 3 a2 ?_
          refine zzP 2 12 24 7 a2 ?_
          refine zzT 3 13 24 15 a2 j5 b0 ?_
          refine one_ (i:=4) (N:=some 14) (zzB 24 31) rfl rfl (one_of a2.out (by kernel_rfl)) (by decide) (fun K hK=>?_);refine goes_ Try.func57 (by kernel_rfl) rfl #[.agg #[.int .i64 ((Qb l0 a0).f0),.int .i64 ((Qb l0 a0).f1),.bool ((Qb l0 a0).f2),.slice d1 ((Qb l0 a0).f3).length d2,.bool ((Qb l0 a0).f4),.slice d3 ((Qb l0 a0).f5).length d4]] (by rfl) rfl rfl zzM2 ?_;with_reducible refine (Q9.calls k1 ((Qb l0 a0).f0) ((Qb l0 a0).f1) ((Qb l0 a0).f2) _ _ ((Qb l0 a0).f3) ((Qb l0 a0).f4) _ _ ((Qb l0 a0).f5) true _ ?side1 ?side2 ?side3 ?side4 A4.out).mono ?_
          (case side1=>exact zzcb c4 HB)
          (case side2=>exact e9.out)
          (case side3=>exact zzcb c7 HB)
          (case side4=>exact g0.out);rintro e n9 ⟨rfl,hb⟩;refine ⟨_,rfl,?_⟩;have d0:=zzm (zzp zzh1 hb);clear HB;have HB:=d0;clear d0
          (try clear hb)
          (try clear hb2)
          (try clear hk)
          (try clear hi);refine hK.out _ _ ⟨(zzx HB.out c1 :),(zzx HB.out b9 :),(zzx HB.out b8 :),(zzx HB.out b7 :),(zzx HB.out b6 :),(zzx HB.out b5 :),(zzx HB.out h0 :),(zzx HB.out g9 :),(zzx HB.out g8 :),(zzx HB.out g7 :),(zzx HB.out g6 :),(zzx HB.out g5 :),(zzx HB.out j4 :),(zzx HB.out h9 :),(zzx HB.out h8 :),(zzx HB.out h7 :),(zzx HB.out h6 :),(zzx HB.out h5 :)⟩ (fun b0=>?_);clear hK K;refine zzO 14 ?_
          refine zzP 5 15 24 63 a2 ?_
          refine zzP 6 16 24 127 a2 ?_
          refine zzP 7 17 24 255 a2 ?_
          refine zzP 8 18 24 511 a2 ?_
          refine zzP 9 19 24 1023 a2 ?_
          refine zzP 10 20 24 2047 a2 ?_
          refine zzP 11 21 24 4095 a2 ?_
          refine zzP 12 22 24 8191 a2 ?_
          refine zzP 13 23 24 16383 a2 ?_
          refine zzP 14 24 24 32767 a2 ?_
          refine zzP 16 26 24 98303 a2 ?_
          refine zzP 17 27 24 229375 a2 ?_
          refine zzP 18 28 24 491519 a2 ?_
          refine zzP 19 29 24 1015807 a2 ?_
          refine zzT 15 25 24 1048575 a2 j5 b0 ?_
          refine zzT 20 30 24 2097151 a2 j5 b0 ?_
          refine zzP 21 31 24 4194303 a2 ?_
          refine zzP 22 32 24 8388607 a2 ?_
          refine zzP 23 33 24 16777215 a2 ?_
          refine done_ (done_of a2.out (by kernel_rfl)) ?_;try go_wp2
          go_ret;exact ⟨by first|rfl|(simp [errW_none,errW_some] <;> rfl)|(simp only [← hji7];first|rfl|(simp [errW_none,errW_some] <;> rfl))|(simp [*,errW_none,errW_some] <;> rfl),zzh1⟩
         ·
          rw [if_neg l7] at H;have m6:decide (((Qb l0 a0).f0)≤((Qb l0 (a3)).f0))=false:=decide_eq_false l7;clear l7;have H':=zzm H;clear H;try go_wp2
          have d0:=zzm (zzc HB.out);clear HB;have HB:=d0;clear d0;have e7 : 0≤(a0:Int):=zzt;have e8:a0 < (l0.length:Int):=zzt;obtain ⟨a1,d1,d2,d3,d4,j6,a4,a5,a6,a7,a8,a9,b1,b2,b3,b4⟩:=Qt k6.out a0 e7 e8;have b5:=a9;have b6:=a8;have b7:=a7;have b8:=a6;have b9:=a5;have c1:=a4;cases j6;replace a4:=zzx HB.out a4;replace a5:=zzx HB.out a5;replace a6:=zzx HB.out a6;replace a7:=zzx HB.out a7;replace a8:=zzx HB.out a8;replace a9:=zzx HB.out a9;have c4:=zzm b2;have e9:=zzm b1;clear b2 b1;have c7:=zzm b4;have g0:=zzm b3;clear b4 b3;replace e7:=eq_true e7;replace e8:=eq_true e8;have j7 : 0≤((a3):Int):=zzt;have j8:(a3) < (l0.length:Int):=zzt;obtain ⟨l8,k7,k8,k9,l2,m0,d5,d6,d7,d8,d9,e0,g1,g2,g3,g4⟩:=Qt k6.out (a3) j7 j8;have g5:=e0;have g6:=d9;have g7:=d8;have g8:=d7;have g9:=d6;have h0:=d5;obtain rfl:a1=l8:=(by injection m0);replace d5:=zzx HB.out d5;replace d6:=zzx HB.out d6;replace d7:=zzx HB.out d7;replace d8:=zzx HB.out d8;replace d9:=zzx HB.out d9;replace e0:=zzx HB.out e0;have k2:=zzm g2;have m2:=zzm g1;clear g2 g1;have k3:=zzm g4;have m3:=zzm g3;clear g4 g3;replace j7:=eq_true j7;replace j8:=eq_true j8;have j9 : 0≤(a0:Int):=zzt;have k0:a0 < (l0.length:Int):=zzt;obtain ⟨l9,l3,l4,l5,l6,m1,e1,e2,e3,e4,e5,e6,h1,h2,h3,h4⟩:=Qt k6.out a0 j9 k0;have h5:=e6;have h6:=e5;have h7:=e4;have h8:=e3;have h9:=e2;have j4:=e1;obtain rfl:a1=l9:=(by injection m1);replace e1:=zzx HB.out e1;replace e2:=zzx HB.out e2;replace e3:=zzx HB.out e3;replace e4:=zzx HB.out e4;replace e5:=zzx HB.out e5;replace e6:=zzx HB.out e6;have k4:=zzm h2;have m4:=zzm h1;clear h2 h1;have k5:=zzm h4;have m5:=zzm h3;clear h4 h3;replace j9:=eq_true j9;replace k0:=eq_true k0;refine start_ (n:=24) (S:=fun w'=>w'.cell? (a1.add ((a0).toNat * 6))=some (.int .i64 ((Qb l0 a0).f0))∧w'.cell? ⟨(a1.add ((a0).toNat * 6)).block,(a1.add ((a0).toNat * 6)).off+1,none⟩=some (.int .i64 ((Qb l0 a0).f1))∧w'.cell? ⟨(a1.add ((a0).toNat * 6)).block,(a1.add ((a0).toNat * 6)).off+2,none⟩=some (.bool ((Qb l0 a0).f2))∧w'.cell? ⟨(a1.add ((a0).toNat * 6)).block,(a1.add ((a0).toNat * 6)).off+3,none⟩=some (.slice d1 ((Qb l0 a0).f3).length d2)∧w'.cell? ⟨(a1.add ((a0).toNat * 6)).block,(a1.add ((a0).toNat * 6)).off+4,none⟩=some (.bool ((Qb l0 a0).f4))∧w'.cell? ⟨(a1.add ((a0).toNat * 6)).block,(a1.add ((a0).toNat * 6)).off+5,none⟩=some (.slice d3 ((Qb l0 a0).f5).length d4)∧w'.cell? (a1.add (((a3)).toNat * 6))=some (.int .i64 ((Qb l0 (a3)).f0))∧w'.cell? ⟨(a1.add (((a3)).toNat * 6)).block,(a1.add (((a3)).toNat * 6)).off+1,none⟩=some (.int .i64 ((Qb l0 (a3)).f1))∧w'.cell? ⟨(a1.add (((a3)).toNat * 6)).block,(a1.add (((a3)).toNat * 6)).off+2,none⟩=some (.bool ((Qb l0 (a3)).f2))∧w'.cell? ⟨(a1.add (((a3)).toNat * 6)).block,(a1.add (((a3)).toNat * 6)).off+3,none⟩=some (.slice k7 ((Qb l0 (a3)).f3).length k8)∧w'.cell? ⟨(a1.add (((a3)).toNat * 6)).block,(a1.add (((a3)).toNat * 6)).off+4,none⟩=some (.bool ((Qb l0 (a3)).f4))∧w'.cell? ⟨(a1.add (((a3)).toNat * 6)).block,(a1.add (((a3)).toNat * 6)).off+5,none⟩=some (.slice k9 ((Qb l0 (a3)).f5).length l2)∧w'.cell? (a1.add ((a0).toNat * 6))=some (.int .i64 ((Qb l0 a0).f0))∧w'.cell? ⟨(a1.add ((a0).toNat * 6)).block,(a1.add ((a0).toNat * 6)).off+1,none⟩=some (.int .i64 ((Qb l0 a0).f1))∧w'.cell? ⟨(a1.add ((a0).toNat * 6)).block,(a1.add ((a0).toNat * 6)).off+2,none⟩=some (.bool ((Qb l0 a0).f2))∧w'.cell? ⟨(a1.add ((a0).toNat * 6)).block,(a1.add ((a0).toNat * 6)).off+3,none⟩=some (.slice l3 ((Qb l0 a0).f3).length l4)∧w'.cell? ⟨(a1.add ((a0).toNat * 6)).block,(a1.add ((a0).toNat * 6)).off+4,none⟩=some (.bool ((Qb l0 a0).f4))∧w'.cell? ⟨(a1.add ((a0).toNat * 6)).block,(a1.add ((a0).toNat * 6)).off+5,none⟩=some (.slice l5 ((Qb l0 a0).f5).length l6)) (ds:=[]) (zzB 24 0) (by kernel_rfl) rfl rfl ⟨(zzx HB.out c1 :),(zzx HB.out b9 :),(zzx HB.out b8 :),(zzx HB.out b7 :),(zzx HB.out b6 :),(zzx HB.out b5 :),(zzx HB.out h0 :),(zzx HB.out g9 :),(zzx HB.out g8 :),(zzx HB.out g7 :),(zzx HB.out g6 :),(zzx HB.out g5 :),(zzx HB.out j4 :),(zzx HB.out h9 :),(zzx HB.out h8 :),(zzx HB.out h7 :),(zzx HB.out h6 :),(zzx HB.out h5 :)⟩ (fun b0=>?_);refine with_tabW Qg.tab4 Qg.bits4 (fun a2 j5=>?_);generalize wr.drew=o0 at HB c4 c7 k2 k3 k4 k5 a4 a5 a6 a7 a8 a9 d5 d6 d7 d8 d9 e0 e1 e2 e3 e4 e5 e6 b0 ⊢;refine zzP 0 10 24 1 a2 ?_
          refine zzP 1 11 24 3 a2 ?_
          refine zzP 2 12 24 7 a2 ?_
          refine zzT 3 13 24 15 a2 j5 b0 ?_
          refine one_ (i:=4) (N:=some 14) (zzB 24 31) rfl rfl (one_of a2.out (by kernel_rfl)) (by decide) (fun K hK=>?_);refine goes_ Try.func57 (by kernel_rfl) rfl #[.agg #[.int .i64 ((Qb l0 a0).f0),.int .i64 ((Qb l0 a0).f1),.bool ((Qb l0 a0).f2),.slice d1 ((Qb l0 a0).f3).length d2,.bool ((Qb l0 a0).f4),.slice d3 ((Qb l0 a0).f5).length d4]] (by rfl) rfl rfl zzM2 ?_;with_reducible refine (Q9.calls k1 ((Qb l0 a0).f0) ((Qb l0 a0).f1) ((Qb l0 a0).f2) _ _ ((Qb l0 a0).f3) ((Qb l0 a0).f4) _ _ ((Qb l0 a0).f5) true _ ?side1 ?side2 ?side3 ?side4 A4.out).mono ?_
          (case side1=>exact zzcb c4 HB)
          (case side2=>exact e9.out)
          (case side3=>exact zzcb c7 HB)
          (case side4=>exact g0.out);rintro e o1 ⟨rfl,hb⟩;refine ⟨_,rfl,?_⟩;have d0:=zzm (zzp zzh1 hb);clear HB;have HB:=d0;clear d0
          (try clear hb)
          (try clear hb2)
          (try clear hk)
          (try clear hi);refine hK.out _ _ ⟨(zzx HB.out c1 :),(zzx HB.out b9 :),(zzx HB.out b8 :),(zzx HB.out b7 :),(zzx HB.out b6 :),(zzx HB.out b5 :),(zzx HB.out h0 :),(zzx HB.out g9 :),(zzx HB.out g8 :),(zzx HB.out g7 :),(zzx HB.out g6 :),(zzx HB.out g5 :),(zzx HB.out j4 :),(zzx HB.out h9 :),(zzx HB.out h8 :),(zzx HB.out h7 :),(zzx HB.out h6 :),(zzx HB.out h5 :)⟩ (fun b0=>?_);clear hK K;refine zzO 14 ?_
          refine zzP 5 15 24 63 a2 ?_
          refine zzP 6 16 24 127 a2 ?_
          refine zzP 7 17 24 255 a2 ?_
          refine zzP 8 18 24 511 a2 ?_
          refine zzP 9 19 24 1023 a2 ?_
          refine zzP 10 20 24 2047 a2 ?_
          refine zzP 11 21 24 4095 a2 ?_
          refine zzP 12 22 24 8191 a2 ?_
          refine zzP 13 23 24 16383 a2 ?_
          refine zzP 14 24 24 32767 a2 ?_
          refine zzP 16 26 24 98303 a2 ?_
          refine zzP 17 27 24 229375 a2 ?_
          refine zzP 18 28 24 491519 a2 ?_
          refine zzP 19 29 24 1015807 a2 ?_
          refine zzT 15 25 24 1048575 a2 j5 b0 ?_
          refine zzT 20 30 24 2097151 a2 j5 b0 ?_
          refine zzP 21 31 24 4194303 a2 ?_
          refine zzP 22 32 24 8388607 a2 ?_
          refine zzP 23 33 24 16777215 a2 ?_
          refine done_ (done_of a2.out (by kernel_rfl)) ?_;try go_wp2
          go_roundg k1
          case measure=>have:=HK1.out;omega
          case rel=>exact ⟨(wrap64 (a0+1)),(by first|rfl|(simp;done)|(simp [*];done)),H',⟨by have:=HK1.out;omega⟩,⟨zzh1⟩⟩
        ·
         rw [if_neg c9] at H;exact absurd H (by simp)
       ·
        rw [if_neg c8] at H;exact absurd H (by simp)
      ·
       rw [if_neg c6] at H;have n1:decide (0 < a0)=false:=decide_eq_false c6;clear c6;have H':=zzm H;clear H;try go_wp2
       have d0:=zzm (zzc HB.out);clear HB;have HB:=d0;clear d0;have e7 : 0≤(a0:Int):=zzt;have e8:a0 < (l0.length:Int):=zzt;obtain ⟨a1,d1,d2,d3,d4,j6,a4,a5,a6,a7,a8,a9,b1,b2,b3,b4⟩:=Qt k6.out a0 e7 e8;have b5:=a9;have b6:=a8;have b7:=a7;have b8:=a6;have b9:=a5;have c1:=a4;cases j6;replace a4:=zzx HB.out a4;replace a5:=zzx HB.out a5;replace a6:=zzx HB.out a6;replace a7:=zzx HB.out a7;replace a8:=zzx HB.out a8;replace a9:=zzx HB.out a9;have c4:=zzm b2;have e9:=zzm b1;clear b2 b1;have c7:=zzm b4;have g0:=zzm b3;clear b4 b3;replace e7:=eq_true e7;replace e8:=eq_true e8;refine start_ (n:=24) (S:=fun w'=>w'.cell? (a1.add ((a0).toNat * 6))=some (.int .i64 ((Qb l0 a0).f0))∧w'.cell? ⟨(a1.add ((a0).toNat * 6)).block,(a1.add ((a0).toNat * 6)).off+1,none⟩=some (.int .i64 ((Qb l0 a0).f1))∧w'.cell? ⟨(a1.add ((a0).toNat * 6)).block,(a1.add ((a0).toNat * 6)).off+2,none⟩=some (.bool ((Qb l0 a0).f2))∧w'.cell? ⟨(a1.add ((a0).toNat * 6)).block,(a1.add ((a0).toNat * 6)).off+3,none⟩=some (.slice d1 ((Qb l0 a0).f3).length d2)∧w'.cell? ⟨(a1.add ((a0).toNat * 6)).block,(a1.add ((a0).toNat * 6)).off+4,none⟩=some (.bool ((Qb l0 a0).f4))∧w'.cell? ⟨(a1.add ((a0).toNat * 6)).block,(a1.add ((a0).toNat * 6)).off+5,none⟩=some (.slice d3 ((Qb l0 a0).f5).length d4)) (ds:=[]) (zzB 24 0) (by kernel_rfl) rfl rfl ⟨(zzx HB.out c1 :),(zzx HB.out b9 :),(zzx HB.out b8 :),(zzx HB.out b7 :),(zzx HB.out b6 :),(zzx HB.out b5 :)⟩ (fun b0=>?_);refine with_tabW Qg.tab4 Qg.bits4 (fun a2 j5=>?_);generalize wr.drew=o2 at HB c4 c7 a4 a5 a6 a7 a8 a9 b0 ⊢;refine zzP 0 10 24 1 a2 ?_
       refine zzP 1 11 24 3 a2 ?_
       refine zzP 2 12 24 7 a2 ?_
       refine zzT 3 13 24 15 a2 j5 b0 ?_
       refine one_ (i:=4) (N:=some 14) (zzB 24 31) rfl rfl (one_of a2.out (by kernel_rfl)) (by decide) (fun K hK=>?_);refine goes_ Try.func57 (by kernel_rfl) rfl #[.agg #[.int .i64 ((Qb l0 a0).f0),.int .i64 ((Qb l0 a0).f1),.bool ((Qb l0 a0).f2),.slice d1 ((Qb l0 a0).f3).length d2,.bool ((Qb l0 a0).f4),.slice d3 ((Qb l0 a0).f5).length d4]] (by rfl) rfl rfl zzM2 ?_;with_reducible refine (Q9.calls k1 ((Qb l0 a0).f0) ((Qb l0 a0).f1) ((Qb l0 a0).f2) _ _ ((Qb l0 a0).f3) ((Qb l0 a0).f4) _ _ ((Qb l0 a0).f5) true _ ?side1 ?side2 ?side3 ?side4 A4.out).mono ?_
       (case side1=>exact zzcb c4 HB)
       (case side2=>exact e9.out)
       (case side3=>exact zzcb c7 HB)
       (case side4=>exact g0.out);rintro e o3 ⟨rfl,hb⟩;refine ⟨_,rfl,?_⟩;have d0:=zzm (zzp zzh1 hb);clear HB;have HB:=d0;clear d0
       (try clear hb)
       (try clear hb2)
       (try clear hk)
       (try clear hi);refine hK.out _ _ ⟨(zzx HB.out c1 :),(zzx HB.out b9 :),(zzx HB.out b8 :),(zzx HB.out b7 :),(zzx HB.out b6 :),(zzx HB.out b5 :)⟩ (fun b0=>?_);clear hK K;refine zzO 14 ?_
       refine zzP 5 15 24 63 a2 ?_
       refine zzP 6 16 24 127 a2 ?_
       refine zzP 7 17 24 255 a2 ?_
       refine zzP 8 18 24 511 a2 ?_
       refine zzP 9 19 24 1023 a2 ?_
       refine zzU 10 20 24 2047 a2 ?_
       refine zzU 11 21 24 4095 a2 ?_
       refine zzU 12 22 24 8191 a2 ?_
       refine zzU 13 23 24 16383 a2 ?_
       refine zzU 14 24 24 32767 a2 ?_
       refine zzU 15 25 24 65535 a2 ?_
       refine zzU 16 26 24 131071 a2 ?_
       refine zzU 17 27 24 262143 a2 ?_
       refine zzU 18 28 24 524287 a2 ?_
       refine zzU 19 29 24 1048575 a2 ?_
       refine zzU 20 30 24 2097151 a2 ?_
       refine zzU 21 31 24 4194303 a2 ?_
       refine zzP 22 32 24 8388607 a2 ?_
       refine zzP 23 33 24 16777215 a2 ?_
       refine done_ (done_of a2.out (by kernel_rfl)) ?_;try go_wp2
       go_roundg k1
       case measure=>have:=HK1.out;omega
       case rel=>exact ⟨(wrap64 (a0+1)),(by first|rfl|(simp;done)|(simp [*];done)),H',⟨by have:=HK1.out;omega⟩,⟨zzh1⟩⟩
     ·
      replace c5:=Bool.eq_false_iff.mpr c5;subst c5;replace H:=zzIf H;obtain rfl:=Option.some.inj H;try go_wp2
      have d0:=zzm (zzc HB.out);clear HB;have HB:=d0;clear d0;have e7 : 0≤(a0:Int):=zzt;have e8:a0 < (l0.length:Int):=zzt;obtain ⟨a1,d1,d2,d3,d4,j6,a4,a5,a6,a7,a8,a9,b1,b2,b3,b4⟩:=Qt k6.out a0 e7 e8;have b5:=a9;have b6:=a8;have b7:=a7;have b8:=a6;have b9:=a5;have c1:=a4;cases j6;replace a4:=zzx HB.out a4;replace a5:=zzx HB.out a5;replace a6:=zzx HB.out a6;replace a7:=zzx HB.out a7;replace a8:=zzx HB.out a8;replace a9:=zzx HB.out a9;have c4:=zzm b2;have e9:=zzm b1;clear b2 b1;have c7:=zzm b4;have g0:=zzm b3;clear b4 b3;replace e7:=eq_true e7;replace e8:=eq_true e8;refine start_ (n:=24) (S:=fun w'=>w'.cell? (a1.add ((a0).toNat * 6))=some (.int .i64 ((Qb l0 a0).f0))∧w'.cell? ⟨(a1.add ((a0).toNat * 6)).block,(a1.add ((a0).toNat * 6)).off+1,none⟩=some (.int .i64 ((Qb l0 a0).f1))∧w'.cell? ⟨(a1.add ((a0).toNat * 6)).block,(a1.add ((a0).toNat * 6)).off+2,none⟩=some (.bool ((Qb l0 a0).f2))∧w'.cell? ⟨(a1.add ((a0).toNat * 6)).block,(a1.add ((a0).toNat * 6)).off+3,none⟩=some (.slice d1 ((Qb l0 a0).f3).length d2)∧w'.cell? ⟨(a1.add ((a0).toNat * 6)).block,(a1.add ((a0).toNat * 6)).off+4,none⟩=some (.bool ((Qb l0 a0).f4))∧w'.cell? ⟨(a1.add ((a0).toNat * 6)).block,(a1.add ((a0).toNat * 6)).off+5,none⟩=some (.slice d3 ((Qb l0 a0).f5).length d4)) (ds:=[]) (zzB 24 0) (by kernel_rfl) rfl rfl ⟨(zzx HB.out c1 :),(zzx HB.out b9 :),(zzx HB.out b8 :),(zzx HB.out b7 :),(zzx HB.out b6 :),(zzx HB.out b5 :)⟩ (fun b0=>?_);refine with_tabW Qg.tab4 Qg.bits4 (fun a2 j5=>?_);generalize wr.drew=o4 at HB c4 c7 a4 a5 a6 a7 a8 a9 b0 ⊢;refine zzP 0 10 24 1 a2 ?_
      refine zzP 1 11 24 3 a2 ?_
      refine zzP 2 12 24 7 a2 ?_
      refine zzT 3 13 24 15 a2 j5 b0 ?_
      refine one_ (i:=4) (N:=some 14) (zzB 24 31) rfl rfl (one_of a2.out (by kernel_rfl)) (by decide) (fun K hK=>?_);refine goes_ Try.func57 (by kernel_rfl) rfl #[.agg #[.int .i64 ((Qb l0 a0).f0),.int .i64 ((Qb l0 a0).f1),.bool ((Qb l0 a0).f2),.slice d1 ((Qb l0 a0).f3).length d2,.bool ((Qb l0 a0).f4),.slice d3 ((Qb l0 a0).f5).length d4]] (by rfl) rfl rfl zzM2 ?_;with_reducible refine (Q9.calls k1 ((Qb l0 a0).f0) ((Qb l0 a0).f1) ((Qb l0 a0).f2) _ _ ((Qb l0 a0).f3) ((Qb l0 a0).f4) _ _ ((Qb l0 a0).f5) false _ ?side1 ?side2 ?side3 ?side4 A4.out).mono ?_
      (case side1=>exact zzcb c4 HB)
      (case side2=>exact e9.out)
      (case side3=>exact zzcb c7 HB)
      (case side4=>exact g0.out);rintro e o5 ⟨rfl,hb⟩;refine ⟨_,rfl,?_⟩;have d0:=zzm (zzp zzh1 hb);clear HB;have HB:=d0;clear d0
      (try clear hb)
      (try clear hb2)
      (try clear hk)
      (try clear hi);refine hK.out _ _ ⟨(zzx HB.out c1 :),(zzx HB.out b9 :),(zzx HB.out b8 :),(zzx HB.out b7 :),(zzx HB.out b6 :),(zzx HB.out b5 :)⟩ (fun b0=>?_);clear hK K;refine zzO 14 ?_
      refine zzP 5 15 24 63 a2 ?_
      refine zzP 6 16 24 127 a2 ?_
      refine zzU 7 17 24 255 a2 ?_
      refine zzU 8 18 24 511 a2 ?_
      refine zzU 9 19 24 1023 a2 ?_
      refine zzU 10 20 24 2047 a2 ?_
      refine zzU 11 21 24 4095 a2 ?_
      refine zzU 12 22 24 8191 a2 ?_
      refine zzU 13 23 24 16383 a2 ?_
      refine zzU 14 24 24 32767 a2 ?_
      refine zzU 15 25 24 65535 a2 ?_
      refine zzU 16 26 24 131071 a2 ?_
      refine zzU 17 27 24 262143 a2 ?_
      refine zzU 18 28 24 524287 a2 ?_
      refine zzU 19 29 24 1048575 a2 ?_
      refine zzU 20 30 24 2097151 a2 ?_
      refine zzU 21 31 24 4194303 a2 ?_
      refine zzU 22 32 24 8388607 a2 ?_
      refine zzP 23 33 24 16777215 a2 ?_
      refine done_ (done_of a2.out (by kernel_rfl)) ?_;try go_wp2
      go_ret;exact ⟨zzR,zzh1⟩
    ·
     rw [if_neg c3] at H;exact absurd H (by simp)
   ·
    rw [if_neg c2] at H;have m9:decide (a0 < (l0.length:Int))=false:=decide_eq_false c2;clear c2;obtain ⟨n2,n3,H⟩:=zzG H;obtain rfl:=Option.some.inj H;go_wp2_with (first|((with_reducible refine gate_callee (f:=45) rfl ?_);refine goesL_ (some 36) rfl rfl Try.func45 (by kernel_rfl) rfl #[.int .i64 (l0.length:Int),.int .i64 1,.int .i64 6] rfl zzM2 ?_;(with_reducible refine (Qw.calls (l0.length:Int) 1 6 n2 _ n3.out).mono ?_);rintro e w' ⟨rfl,⟨nd,rfl⟩⟩;refine ⟨_,rfl,?_⟩));go_ret;exact ⟨zzR,zzh1⟩

set_option linter.unusedVariables false
set_option linter.unusedSimpArgs false
def Ql.j0:Nat→Bool→Bool→Bool→Int→Int→Int→List (S42)→Option (Bool)
 | 0,_,_,_,_,_,_,_=>none
 | k+1,x24,x125000,x125001,x125002,x125003,x125004,x125005=>if x24=true then (some false) else (if x125002=255 then (if x125003=0 then (if x125004=0 then (some (!x125001)) else (some false)) else (some false)) else (if x125001=true then (some ((x125005.length:Int)==1)) else (some true)))
def Ql.f (k:Nat) (a0_0:Bool) (a0_1:Bool) (a0_2:Int) (a0_3:Int) (a0_4:Int) (l0_5:List (S42)):Option (Bool):=(Qg.f k l0_5).bind fun t125=>(if t125=true then ((Qw.f a0_2 0 255).bind fun t126=>(if t126=true then ((Qw.f a0_3 0 99).bind fun t127=>(if t127=true then ((Qw.f a0_4 0 9999).bind fun t128=>(Ql.j0 k (!t128) a0_0 a0_1 a0_2 a0_3 a0_4 l0_5)) else (Ql.j0 k true a0_0 a0_1 a0_2 a0_3 a0_4 l0_5))) else (Ql.j0 k true a0_0 a0_1 a0_2 a0_3 a0_4 l0_5))) else (Ql.j0 k true a0_0 a0_1 a0_2 a0_3 a0_4 l0_5))
set_option maxHeartbeats 8000000 in
theorem Ql.calls (k:Nat) (a6:Bool) (a5:Bool) (a2:Int) (a3:Int) (a4:Int) (a7:Option Addr) (a8:Nat) (a1:List (S42)) (r:Bool) (w:World) (c3:Kd.C k42 w a7 a1.length a1) (c6:a1.length≤a8) (h:Ql.f k a6 a5 a2 a3 a4 a1=some r) :
  Calls Try.prog 29 #[.agg #[.bool a6,.bool a5,.int .i64 a2,.int .i64 a3,.int .i64 a4,.slice a7 a1.length a8]] w fun e w'=>e = .returned (.bool r)∧Below w.heap.size w w':=by
 have hu39:=Try.underlying39;have b2:=zzm c3;have b3:=zzm c6;clear c3 c6;have HB:=zzm (Below.refl w.heap.size w);have H:((Qg.f k a1).bind fun b9=>(if b9=true then ((Qw.f a2 0 255).bind fun c0=>(if c0=true then ((Qw.f a3 0 99).bind fun c1=>(if c1=true then ((Qw.f a4 0 9999).bind fun b5=>(Ql.j0 k (!b5) a6 a5 a2 a3 a4 a1)) else (Ql.j0 k true a6 a5 a2 a3 a4 a1))) else (Ql.j0 k true a6 a5 a2 a3 a4 a1))) else (Ql.j0 k true a6 a5 a2 a3 a4 a1)))=some r:=h;clear h;have o1:=zzm H;clear H;go_enter Try.func29,Try.ntmps29;go_upto_region 1 with (first|((with_reducible refine gate_dst (N:=1) rfl ?_);(try (refine gate_guard (by rfl) ?_;dsimp only));refine box_event ?hg (N:=1) ?hd (cs:=#[.bool a6,.bool a5,.int .i64 a2,.int .i64 a3,.int .i64 a4,.slice a7 a1.length a8]) (t:=39) ?hr ?_;(case hd=>rfl);(case hg=>rfl);(case hr=>first|(go_simp;done)|(go_simp;rfl));intro b1 hg w3 hbox hb;have a9:=zzm (zzp zzh1 hb);have b0:=zzm (hbox);have o8:=zzm ((by rw [hg];exact (zzo zzh1):w.heap.size≤b1));have o9:=zzm ((by rw [hg];exact (zzo zzh1):w.heap.size≤b1));clear HB;have HB:=a9;have a0:=b0;have w4:=o8;have w5:=o9;clear a9 b0 o8 o9 hb hbox hg))
 (try simp only [Act.put,zzq,zzr,zzs]);go_cut [24] (fun w1 wc=>∃ (kq:Nat) (b4:Bool),w1 = .bool b4∧Aside0 (Ql.j0 kq b4 a6 a5 a2 a3 a4 a1=some r)∧Aside0 (kq≤k)∧Aside0 (wc.heap[b1]? = some (.cells #[.bool a6,.bool a5,.int .i64 a2,.int .i64 a3,.int .i64 a4,(.slice a7 a1.length a8)] 39 (0,0)))∧Aside0 (Below w.heap.size w wc))
 case first=>
  have H:=o1.out;clear o1;obtain ⟨b9,A4,H⟩:=zzG H;by_cases c5:b9=true
  ·
   subst c5;replace H:=zzIt H;obtain ⟨c0,A6,H⟩:=zzG H;by_cases c7:c0=true
   ·
    subst c7;replace H:=zzIt H;obtain ⟨c1,A8,H⟩:=zzG H;by_cases c9:c1=true
    ·
     subst c9;replace H:=zzIt H;obtain ⟨b5,w2,H⟩:=zzG H;have H':=zzm H;clear H;obtain ⟨d1,d2,d3,d4,d5,d6,d7,d8,d9,e0,e1,e2⟩:=zzc6 a0.out;go_wp2_with (first|((with_reducible refine gate_callee (f:=44) rfl ?_);refine goesL_ (some 5) rfl rfl Try.func44 (by kernel_rfl) rfl #[.slice a7 a1.length a8] rfl zzM2 ?_;(with_reducible refine (Qg.calls k _ _ a1 true _ ?side1 ?side2 A4.out).mono ?_);(case side1=>exact zzcb b2 HB);(case side2=>exact b3.out);rintro e w6 ⟨rfl,hb⟩;refine ⟨_,rfl,?_⟩;have a9:=zzm (zzh (g:=b1) (o:=.cells #[.bool a6,.bool a5,.int .i64 a2,.int .i64 a3,.int .i64 a4,.slice a7 a1.length a8] 39 (0,0)) (zzE a0.out) hb);have b0:=zzm (zzp zzh2 hb);clear a0 HB;have a0:=a9;have HB:=b0;clear a9 b0;(try clear hb);(try clear hb2);(try clear hk);(try clear hi);obtain ⟨e3,e4,e5,e6,e7,e8,e9,g0,g1,g2,g3,g4⟩:=zzc6 a0.out)|(go_at_call 45;(with_reducible refine (Qw.calls a2 0 255 true _ A6.out).mono ?_);rintro e w' ⟨rfl,⟨nd,rfl⟩⟩)|(go_at_call 45;(with_reducible refine (Qw.calls a3 0 99 true _ A8.out).mono ?_);rintro e w' ⟨rfl,⟨nd,rfl⟩⟩)|(go_at_call 45;(with_reducible refine (Qw.calls a4 0 9999 b5 _ w2.out).mono ?_);rintro e w' ⟨rfl,⟨nd,rfl⟩⟩));go_meet
     case rel=>exact ⟨_,(!b5),(by first|rfl|(simp;done)|(simp [*];done)),H',⟨by first|omega|exact Nat.le_refl _⟩,⟨zzE a0.out⟩,⟨zzh3⟩⟩
    ·
     replace c9:=Bool.eq_false_iff.mpr c9;subst c9;replace H:=zzIf H;have H':=zzm H;clear H;obtain ⟨g5,g6,g7,g8,g9,h0,h1,h2,h3,h4,h5,h6⟩:=zzc6 a0.out;go_wp2_with (first|((with_reducible refine gate_callee (f:=44) rfl ?_);refine goesL_ (some 5) rfl rfl Try.func44 (by kernel_rfl) rfl #[.slice a7 a1.length a8] rfl zzM2 ?_;(with_reducible refine (Qg.calls k _ _ a1 true _ ?side1 ?side2 A4.out).mono ?_);(case side1=>exact zzcb b2 HB);(case side2=>exact b3.out);rintro e w7 ⟨rfl,hb⟩;refine ⟨_,rfl,?_⟩;have a9:=zzm (zzh (g:=b1) (o:=.cells #[.bool a6,.bool a5,.int .i64 a2,.int .i64 a3,.int .i64 a4,.slice a7 a1.length a8] 39 (0,0)) (zzE a0.out) hb);have b0:=zzm (zzp zzh2 hb);clear a0 HB;have a0:=a9;have HB:=b0;clear a9 b0;(try clear hb);(try clear hb2);(try clear hk);(try clear hi);obtain ⟨h7,h8,h9,j4,j5,j6,j7,j8,j9,k0,k1,k2⟩:=zzc6 a0.out)|(go_at_call 45;(with_reducible refine (Qw.calls a2 0 255 true _ A6.out).mono ?_);rintro e w' ⟨rfl,⟨nd,rfl⟩⟩)|(go_at_call 45;(with_reducible refine (Qw.calls a3 0 99 false _ A8.out).mono ?_);rintro e w' ⟨rfl,⟨nd,rfl⟩⟩));go_meet
     case rel=>exact ⟨_,(true),(by first|rfl|(simp;done)|(simp [*];done)),H',⟨by first|omega|exact Nat.le_refl _⟩,⟨zzE a0.out⟩,⟨zzh3⟩⟩
   ·
    replace c7:=Bool.eq_false_iff.mpr c7;subst c7;replace H:=zzIf H;have H':=zzm H;clear H;obtain ⟨k3,k4,k5,k6,k7,k8,k9,l2,l3,l4,l5,l6⟩:=zzc6 a0.out;go_wp2_with (first|((with_reducible refine gate_callee (f:=44) rfl ?_);refine goesL_ (some 5) rfl rfl Try.func44 (by kernel_rfl) rfl #[.slice a7 a1.length a8] rfl zzM2 ?_;(with_reducible refine (Qg.calls k _ _ a1 true _ ?side1 ?side2 A4.out).mono ?_);(case side1=>exact zzcb b2 HB);(case side2=>exact b3.out);rintro e w8 ⟨rfl,hb⟩;refine ⟨_,rfl,?_⟩;have a9:=zzm (zzh (g:=b1) (o:=.cells #[.bool a6,.bool a5,.int .i64 a2,.int .i64 a3,.int .i64 a4,.slice a7 a1.length a8] 39 (0,0)) (zzE a0.out) hb);have b0:=zzm (zzp zzh2 hb);clear a0 HB;have a0:=a9;have HB:=b0;clear a9 b0;(try clear hb);(try clear hb2);(try clear hk);(try clear hi);obtain ⟨l7,l8,l9,m0,m1,m2,m3,m4,m5,m6,m7,m8⟩:=zzc6 a0.out)|(go_at_call 45;(with_reducible refine (Qw.calls a2 0 255 false _ A6.out).mono ?_);rintro e w' ⟨rfl,⟨nd,rfl⟩⟩));go_meet
    case rel=>exact ⟨_,(true),(by first|rfl|(simp;done)|(simp [*];done)),H',⟨by first|omega|exact Nat.le_refl _⟩,⟨zzE a0.out⟩,⟨zzh3⟩⟩
  ·
   replace c5:=Bool.eq_false_iff.mpr c5;subst c5;replace H:=zzIf H;have H':=zzm H;clear H;obtain ⟨m9,n0,n1,n2,n3,n4,n5,n6,n7,n8,n9,o0⟩:=zzc6 a0.out;go_wp2_with (first|((with_reducible refine gate_callee (f:=44) rfl ?_);refine goesL_ (some 5) rfl rfl Try.func44 (by kernel_rfl) rfl #[.slice a7 a1.length a8] rfl zzM2 ?_;(with_reducible refine (Qg.calls k _ _ a1 false _ ?side1 ?side2 A4.out).mono ?_);(case side1=>exact zzcb b2 HB);(case side2=>exact b3.out);rintro e w9 ⟨rfl,hb⟩;refine ⟨_,rfl,?_⟩;have a9:=zzm (zzh (g:=b1) (o:=.cells #[.bool a6,.bool a5,.int .i64 a2,.int .i64 a3,.int .i64 a4,.slice a7 a1.length a8] 39 (0,0)) (zzE a0.out) hb);have b0:=zzm (zzp zzh2 hb);clear a0 HB;have a0:=a9;have HB:=b0;clear a9 b0;(try clear hb);(try clear hb2);(try clear hk);(try clear hi)));go_meet
   case rel=>exact ⟨_,(true),(by first|rfl|(simp;done)|(simp [*];done)),H',⟨by first|omega|exact Nat.le_refl _⟩,⟨zzE a0.out⟩,⟨zzh3⟩⟩
 case rest=>
  clear o1;try clear c2
  try clear p2
  try clear c4
  try clear c5
  try clear c7
  try clear c9
  try clear d1
  try clear d2
  try clear d3
  try clear d4
  try clear d5
  try clear d6
  try clear e3
  try clear e4
  try clear e5
  try clear e6
  try clear e7
  try clear e8
  try clear g5
  try clear g6
  try clear g7
  try clear g8
  try clear g9
  try clear h0
  try clear h7
  try clear h8
  try clear h9
  try clear j4
  try clear j5
  try clear j6
  try clear k3
  try clear k4
  try clear k5
  try clear k6
  try clear k7
  try clear k8
  try clear l7
  try clear l8
  try clear l9
  try clear m0
  try clear m1
  try clear m2
  try clear m9
  try clear n0
  try clear n1
  try clear n2
  try clear n3
  try clear n4
  try clear d7
  try clear d8
  try clear d9
  try clear e0
  try clear e1
  try clear e2
  try clear e9
  try clear g0
  try clear g1
  try clear g2
  try clear g3
  try clear g4
  try clear h1
  try clear h2
  try clear h3
  try clear h4
  try clear h5
  try clear h6
  try clear j7
  try clear j8
  try clear j9
  try clear k0
  try clear k1
  try clear k2
  try clear k9
  try clear l2
  try clear l3
  try clear l4
  try clear l5
  try clear l6
  try clear m3
  try clear m4
  try clear m5
  try clear m6
  try clear m7
  try clear m8
  try clear n5
  try clear n6
  try clear n7
  try clear n8
  try clear n9
  try clear o0
  obtain ⟨kq,b4,rfl,HA,HJ1,a0,HB⟩:=hcut;cases kq with
  | zero=>exact absurd HA.out (by simp [Ql.j0])
  | succ x0=>
   have H:=HA.out;clear HA;simp only [Ql.j0] at H;by_cases c8:b4=true
   ·
    subst c8;replace H:=zzIt H;obtain rfl:=Option.some.inj H;go_wp2;go_ret;exact ⟨zzR,zzh3⟩
   ·
    replace c8:=Bool.eq_false_iff.mpr c8;subst c8;replace H:=zzIf H;by_cases b6:a2=255
    ·
     rw [if_pos b6] at H;obtain ⟨o2,o3⟩:=zzQ b6;clear b6;by_cases b7:a3=0
     ·
      rw [if_pos b7] at H;obtain ⟨o4,o5⟩:=zzQ b7;clear b7;by_cases b8:a4=0
      ·
       rw [if_pos b8] at H;obtain ⟨o6,o7⟩:=zzQ b8;clear b8;obtain rfl:=Option.some.inj H;obtain ⟨p0,p1,p3,p4,p5,p6,p7,p8,p9,q0,q1,q2⟩:=zzc6 a0.out;go_wp2;go_ret;exact ⟨zzR,zzh3⟩
      ·
       rw [if_neg b8] at H;obtain ⟨o6,o7⟩:=zzY b8;obtain rfl:=Option.some.inj H;obtain ⟨q3,q4,q5,q6,q7,q8,q9,r0,r1,r2,r3,r4⟩:=zzc6 a0.out;go_wp2;go_ret;exact ⟨zzR,zzh3⟩
     ·
      rw [if_neg b7] at H;obtain ⟨o4,o5⟩:=zzY b7;obtain rfl:=Option.some.inj H;obtain ⟨r5,r6,r7,r8,r9,s0,s1,s2,s3,s4,s5,s6⟩:=zzc6 a0.out;go_wp2;go_ret;exact ⟨zzR,zzh3⟩
    ·
     rw [if_neg b6] at H;obtain ⟨o2,o3⟩:=zzY b6;by_cases d0:a5=true
     ·
      subst d0;replace H:=zzIt H;obtain rfl:=Option.some.inj H;obtain ⟨s7,s8,s9,t0,t1,t2,t3,t4,t5,t6,t7,t8⟩:=zzc6 a0.out;go_wp2;go_ret;exact ⟨zzR,zzh3⟩
     ·
      replace d0:=Bool.eq_false_iff.mpr d0;subst d0;replace H:=zzIf H;obtain rfl:=Option.some.inj H;obtain ⟨t9,v0,v1,v2,v3,v4,v5,v6,v7,v8,v9,w0⟩:=zzc6 a0.out;go_wp2;go_ret;exact ⟨zzR,zzh3⟩

set_option linter.unusedVariables false
set_option linter.unusedSimpArgs false
def Rf.f (a0_0:Bool) (a0_1:Bool) (a0_2:Int) (a0_3:Int) (a0_4:Int) (l0_5:List (S42)):Option (Int):=if 0≤(wrap64 ((l0_5.length:Int) - 1)) then (if (wrap64 ((l0_5.length:Int) - 1)) < (l0_5.length:Int) then (some ((Qb l0_5 (wrap64 ((l0_5.length:Int) - 1))).f0)) else (none)) else (none)
set_option maxHeartbeats 8000000 in
theorem Rf.calls (b2:Bool) (b3:Bool) (b4:Int) (b5:Int) (b6:Int) (b7:Option Addr) (b8:Nat) (a0:List (S42)) (r:Int) (w:World) (c1:Kd.C k42 w b7 a0.length a0) (c2:a0.length≤b8) (h:Rf.f b2 b3 b4 b5 b6 a0=some r) :
  Calls Try.prog 30 #[.agg #[.bool b2,.bool b3,.int .i64 b4,.int .i64 b5,.int .i64 b6,.slice b7 a0.length b8]] w fun e w'=>e = .returned (.int .i64 r)∧Below w.heap.size w w':=by
 have hu39:=Try.underlying39;have c6:=zzm c1;have g3:=zzm c2;clear c1 c2;have HB:=zzm (Below.refl w.heap.size w);have H:(if 0≤(wrap64 ((a0.length:Int) - 1)) then (if (wrap64 ((a0.length:Int) - 1)) < (a0.length:Int) then (some ((Qb a0 (wrap64 ((a0.length:Int) - 1))).f0)) else (none)) else (none))=some r:=h;clear h;obtain ⟨a1,hji2⟩:∃ j_:Int,(wrap64 ((a0.length:Int) - 1))=j_:=⟨_,rfl⟩;replace H:(if 0≤(a1) then (if (a1) < (a0.length:Int) then (some ((Qb a0 (a1)).f0)) else (none)) else (none))=some r:=by first|(rw [hji2] at H;exact H)|(simp only [hji2] at H ⊢;exact H)
 have hji2w:(IntKind.i64.wrap ((a0.length:Int) - 1))=a1:=(i64_w _).trans hji2;by_cases c3 : 0≤(a1)
 ·
  rw [if_pos c3] at H;have g7:decide (0≤(a1))=true:=decide_eq_true c3;clear c3;by_cases c4:(a1) < (a0.length:Int)
  ·
   rw [if_pos c4] at H;have g8:decide ((a1) < (a0.length:Int))=true:=decide_eq_true c4;clear c4;obtain rfl:=Option.some.inj H;go_enter Try.func30,Try.ntmps30;go_wp2_with (first|((with_reducible refine gate_dst (N:=1) rfl ?_);refine box_event ?hg (N:=1) ?hd (cs:=#[.bool b2,.bool b3,.int .i64 b4,.int .i64 b5,.int .i64 b6,.slice b7 a0.length b8]) (t:=39) ?hr ?_;(case hd=>rfl);(case hg=>rfl);(case hr=>first|(go_simp;done)|(go_simp;rfl));intro c5 hg w5 hbox hb;have c8:=zzm (zzp zzh1 hb);have c9:=zzm (hbox);have d0:=zzm ((by rw [hg];exact (zzo zzh1):w.heap.size≤c5));have d1:=zzm ((by rw [hg];exact (zzo zzh1):w.heap.size≤c5));clear HB;have HB:=c8;have c7:=c9;have g4:=d0;have g5:=d1;clear c8 c9 d0 d1 hb hbox hg;obtain ⟨d7,d8,d9,e0,e1,e2,e3,e4,e5,e6,e7,e8⟩:=zzc6 c7.out;have b9 : 0≤((a1):Int):=zzt;have c0:(a1) < (a0.length:Int):=zzt;obtain ⟨g6,e9,g0,g1,g2,d2,a2,a3,a4,a5,a6,a7,a8,a9,b0,b1⟩:=Qt c6.out (a1) b9 c0;cases d2;replace a2:=zzx HB.out a2;replace a3:=zzx HB.out a3;replace a4:=zzx HB.out a4;replace a5:=zzx HB.out a5;replace a6:=zzx HB.out a6;replace a7:=zzx HB.out a7;have d3:=zzm a9;have d4:=zzm a8;clear a9 a8;have d5:=zzm b1;have d6:=zzm b0;clear b1 b0;replace b9:=eq_true b9;replace c0:=eq_true c0));go_ret;exact ⟨by first|rfl|(simp [errW_none,errW_some] <;> rfl)|(simp only [← hji2];first|rfl|(simp [errW_none,errW_some] <;> rfl))|(simp [*,errW_none,errW_some] <;> rfl),zzh3⟩
  ·
   rw [if_neg c4] at H;exact absurd H (by simp)
 ·
  rw [if_neg c3] at H;exact absurd H (by simp)

set_option linter.unusedVariables false
set_option linter.unusedSimpArgs false
def Qk.l0:Nat→List (S39)→Int→Option (Bool)
 | 0,_,_=>none
 | k+1,x0,x3=>if x3 < (x0.length:Int) then (if 0≤x3 then ((Ql.f k ((Qa x0 x3).f0) ((Qa x0 x3).f1) ((Qa x0 x3).f2) ((Qa x0 x3).f3) ((Qa x0 x3).f4) ((Qa x0 x3).f5)).bind fun t132=>(if t132=true then (if x3 > 0 then (if 0≤(wrap64 (x3 - 1)) then (if (wrap64 (x3 - 1)) < (x0.length:Int) then ((Rf.f ((Qa x0 (wrap64 (x3 - 1))).f0) ((Qa x0 (wrap64 (x3 - 1))).f1) ((Qa x0 (wrap64 (x3 - 1))).f2) ((Qa x0 (wrap64 (x3 - 1))).f3) ((Qa x0 (wrap64 (x3 - 1))).f4) ((Qa x0 (wrap64 (x3 - 1))).f5)).bind fun t134=>(if 0 < (((Qa x0 x3).f5).length:Int) then (if t134 ≥ ((Qb ((Qa x0 x3).f5) 0).f0) then (some false) else (Qk.l0 k x0 (wrap64 (x3+1)))) else (none))) else (none)) else (none)) else (Qk.l0 k x0 (wrap64 (x3+1)))) else (some false))) else (none)) else (some (decide ((x0.length:Int)≤8)))
def Qk.f (k:Nat) (l0:List (S39)):Option (Bool):=Qk.l0 k l0 0
def Qk.T4:Bool×List (List Nat×List Nat):=(true,[([],[]),([],[]),([0,1],[0,1]),([2],[2]),([3],[3]),([4],[4]),([5,4],[5]),([6],[6]),([7,6],[6,7]),([8,6,6],[6,8]),([9],[9]),([9],[9]),([11,9],[9,11]),([10,12,9],[9,10,12]),([13,9],[9,13]),([14,9,9],[9,14]),([9],[9]),([9],[9]),([16,17,9],[9,16,17]),([18,9],[9,18]),([19,9],[9,19]),([20,9],[9,20]),([21,9],[9,21]),([22,9],[9,22]),([15,23,9],[9,15,23]),([9,24,6],[6,9,24]),([6,25],[6,25])])
def Qk.B4:List Nat:=[0,0,3,7,15,31,63,127,255,511,1023,1023,3071,8191,16383,32767,1023,1023,197631,459775,984063,2032639,4129791,8324095,16777215,33554431,67108863]
theorem Qk.tab4:rtab .any (opsOf Try.f14 4)=Qk.T4:=by kernel_rfl
theorem Qk.bits4:waitsOk Qk.T4.2 Qk.B4=true:=by kernel_rfl
set_option maxHeartbeats 8000000 in
theorem Qk.calls (k:Nat) (A0:Option Addr) (c0:Nat) (l0:List (S39)) (r:Bool) (w:World) (o3:Kd.C k39 w A0 l0.length l0) (o4:l0.length≤c0) (h:Qk.f k l0=some r) :
  Calls Try.prog 14 #[.slice A0 l0.length c0] w fun e w'=>e = .returned (.bool r)∧Below w.heap.size w w':=by
 have hu39:=Try.underlying39;have m4:=zzm o3;have p4:=zzm o4;clear o3 o4;have HB:=zzm (Below.refl w.heap.size w);have H:(Qk.l0 k l0 0)=some r:=h;clear h;have H':=zzm H;clear H;go_enter Try.func14,Try.ntmps14;go_wp2;go_loopg [3] k (fun kq v3 w'=>∃ (a0:Int),v3 = .int .i64 a0∧Aside0 (Qk.l0 kq l0 a0=some r)∧Aside0 (kq≤k)∧Aside0 (Below w.heap.size w w'))
 case atStart=>exact ⟨(0),(by first|rfl|(simp;done)|(simp [*];done)),H',⟨Nat.le_refl _⟩,⟨zzh1⟩⟩
 case round=>
  clear H';try clear c1
  obtain ⟨a0,rfl,HA,HK1,HB⟩:=hrel;cases gk with
  | zero=>exact absurd HA.out (by simp [Qk.l0])
  | succ k1=>
   have H:=HA.out;clear HA;simp only [Qk.l0] at H;by_cases c2:a0 < (l0.length:Int)
   ·
    rw [if_pos c2] at H;have o6:decide (a0 < (l0.length:Int))=true:=decide_eq_true c2;clear c2;by_cases c3 : 0≤a0
    ·
     rw [if_pos c3] at H;have p1:decide (0≤a0)=true:=decide_eq_true c3;clear c3;obtain ⟨o7,A4,H⟩:=zzG H;by_cases c5:o7=true
     ·
      subst c5;replace H:=zzIt H;by_cases c6:a0 > 0
      ·
       rw [if_pos c6] at H;have o8:decide (0 < a0)=true:=decide_eq_true c6;clear c6;obtain ⟨a3,hji7⟩:∃ j_:Int,(wrap64 (a0 - 1))=j_:=⟨_,rfl⟩;replace H:(if 0≤(a3) then (if (a3) < (l0.length:Int) then ((Rf.f ((Qa l0 (a3)).f0) ((Qa l0 (a3)).f1) ((Qa l0 (a3)).f2) ((Qa l0 (a3)).f3) ((Qa l0 (a3)).f4) ((Qa l0 (a3)).f5)).bind fun l3=>(if 0 < (((Qa l0 a0).f5).length:Int) then (if l3 ≥ ((Qb ((Qa l0 a0).f5) 0).f0) then (some false) else (Qk.l0 k1 l0 (wrap64 (a0+1)))) else (none))) else (none)) else (none))=some r:=by first|(rw [hji7] at H;exact H)|(simp only [hji7] at H ⊢;exact H)
       (try rw [hji7] at A4);have hji7w:(IntKind.i64.wrap (a0 - 1))=a3:=(i64_w _).trans hji7;by_cases c8 : 0≤(a3)
       ·
        rw [if_pos c8] at H;have p2:decide (0≤(a3))=true:=decide_eq_true c8;clear c8;by_cases c9:(a3) < (l0.length:Int)
        ·
         rw [if_pos c9] at H;have p3:decide ((a3) < (l0.length:Int))=true:=decide_eq_true c9;clear c9;obtain ⟨l3,o5,H⟩:=zzG H;by_cases n7 : 0 < (((Qa l0 a0).f5).length:Int)
         ·
          rw [if_pos n7] at H;have o9:decide (0 < (((Qa l0 a0).f5).length:Int))=true:=decide_eq_true n7;have p0:decide (0 < ((Qa l0 a0).f5).length)=true:=decide_eq_true (by omega);clear n7;by_cases m9:l3 ≥ ((Qb ((Qa l0 a0).f5) 0).f0)
          ·
           rw [if_pos m9] at H;have o1:decide (((Qb ((Qa l0 a0).f5) 0).f0)≤l3)=true:=decide_eq_true m9;clear m9;obtain rfl:=Option.some.inj H;try go_wp2
           have d9:=zzm (zzc HB.out);clear HB;have HB:=d9;clear d9;have g6 : 0≤(a0:Int):=zzt;have g7:a0 < (l0.length:Int):=zzt;obtain ⟨a1,g8,d8,l4,a5,a6,a7,a8,a9,b0,e0,e1⟩:=Q6 m4.out a0 g6 g7;have b1:=b0;have b9:=a9;have c4:=a8;have c7:=a7;have d0:=a6;have d1:=a5;cases l4;replace a5:=zzx HB.out a5;replace a6:=zzx HB.out a6;replace a7:=zzx HB.out a7;replace a8:=zzx HB.out a8;replace a9:=zzx HB.out a9;replace b0:=zzx HB.out b0;have e2:=zzm e1;have g9:=zzm e0;clear e1 e0;replace g6:=eq_true g6;replace g7:=eq_true g7;have l5 : 0≤((a3):Int):=zzt;have l6:(a3) < (l0.length:Int):=zzt;obtain ⟨n0,k7,k8,n4,e4,e5,e6,e7,e8,e9,j5,j6⟩:=Q6 m4.out (a3) l5 l6;have h0:=e9;have h1:=e8;have h2:=e7;have h3:=e6;have h4:=e5;have h5:=e4;obtain rfl:a1=n0:=(by injection n4);replace e4:=zzx HB.out e4;replace e5:=zzx HB.out e5;replace e6:=zzx HB.out e6;replace e7:=zzx HB.out e7;replace e8:=zzx HB.out e8;replace e9:=zzx HB.out e9;have j7:=zzm j6;have m1:=zzm j5;clear j6 j5;replace l5:=eq_true l5;replace l6:=eq_true l6;have l7 : 0≤(a0:Int):=zzt;have l8:a0 < (l0.length:Int):=zzt;obtain ⟨n1,k9,l2,n5,g0,g1,g2,g3,g4,g5,j8,j9⟩:=Q6 m4.out a0 l7 l8;have e3:=g5;have h6:=g4;have h7:=g3;have h8:=g2;have h9:=g1;have j4:=g0;obtain rfl:a1=n1:=(by injection n5);replace g0:=zzx HB.out g0;replace g1:=zzx HB.out g1;replace g2:=zzx HB.out g2;replace g3:=zzx HB.out g3;replace g4:=zzx HB.out g4;replace g5:=zzx HB.out g5;have k0:=zzm j9;have n8:=zzm j8;clear j9 j8;replace l7:=eq_true l7;replace l8:=eq_true l8;have l9 : 0≤(0:Int):=(by omega);have m0 : 0 < (((Qa l0 a0).f5).length:Int):=zzt;have eA_:k9=g8:=by have e_:=Option.some.inj (b1.symm.trans e3);injection e_ with n2 _ n3;exact n2.symm
           have eC_:l2=d8:=by have e_:=Option.some.inj (b1.symm.trans e3);injection e_ with n2 _ n3;exact n3.symm
           subst k9;subst l2;obtain ⟨a4,m5,m6,m7,m8,n6,b3,b4,b5,b6,b7,b8,k2,k3,k4,k5⟩:=Qt k0.out 0 l9 m0;have d2:=b8
           (try rw [show ((0:Int)).toNat=0 from rfl] at d2)
           (try rw [show 0 * 6=0 from rfl] at d2)
           (try rw [Addr.add_zero'] at d2);have d3:=b7
           (try rw [show ((0:Int)).toNat=0 from rfl] at d3)
           (try rw [show 0 * 6=0 from rfl] at d3)
           (try rw [Addr.add_zero'] at d3);have d4:=b6
           (try rw [show ((0:Int)).toNat=0 from rfl] at d4)
           (try rw [show 0 * 6=0 from rfl] at d4)
           (try rw [Addr.add_zero'] at d4);have d5:=b5
           (try rw [show ((0:Int)).toNat=0 from rfl] at d5)
           (try rw [show 0 * 6=0 from rfl] at d5)
           (try rw [Addr.add_zero'] at d5);have d6:=b4
           (try rw [show ((0:Int)).toNat=0 from rfl] at d6)
           (try rw [show 0 * 6=0 from rfl] at d6)
           (try rw [Addr.add_zero'] at d6);have d7:=b3
           (try rw [show ((0:Int)).toNat=0 from rfl] at d7)
           (try rw [show 0 * 6=0 from rfl] at d7)
           (try rw [Addr.add_zero'] at d7);cases n6;have o2:(0 < ((Qa l0 a0).f5).length)=True:=eq_true (by omega)
           (try rw [show ((0:Int)).toNat=0 from rfl] at b3)
           (try rw [show 0 * 6=0 from rfl] at b3)
           (try rw [Addr.add_zero'] at b3)
           (try rw [show ((0:Int)).toNat=0 from rfl] at b4)
           (try rw [show 0 * 6=0 from rfl] at b4)
           (try rw [Addr.add_zero'] at b4)
           (try rw [show ((0:Int)).toNat=0 from rfl] at b5)
           (try rw [show 0 * 6=0 from rfl] at b5)
           (try rw [Addr.add_zero'] at b5)
           (try rw [show ((0:Int)).toNat=0 from rfl] at b6)
           (try rw [show 0 * 6=0 from rfl] at b6)
           (try rw [Addr.add_zero'] at b6)
           (try rw [show ((0:Int)).toNat=0 from rfl] at b7)
           (try rw [show 0 * 6=0 from rfl] at b7)
           (try rw [Addr.add_zero'] at b7)
           (try rw [show ((0:Int)).toNat=0 from rfl] at b8)
           (try rw [show 0 * 6=0 from rfl] at b8)
           (try rw [Addr.add_zero'] at b8);replace b3:=zzx HB.out b3;replace b4:=zzx HB.out b4;replace b5:=zzx HB.out b5;replace b6:=zzx HB.out b6;replace b7:=zzx HB.out b7;replace b8:=zzx HB.out b8;have m2:=zzm k3;have n9:=zzm k2;clear k3 k2;have m3:=zzm k5;have o0:=zzm k4;clear k5 k4;replace l9:=eq_true l9;replace m0:=eq_true m0;refine start_ (n:=27) (S:=fun w'=>w'.cell? (a1.add ((a0).toNat * 6))=some (.bool ((Qa l0 a0).f0))∧w'.cell? ⟨(a1.add ((a0).toNat * 6)).block,(a1.add ((a0).toNat * 6)).off+1,none⟩=some (.bool ((Qa l0 a0).f1))∧w'.cell? ⟨(a1.add ((a0).toNat * 6)).block,(a1.add ((a0).toNat * 6)).off+2,none⟩=some (.int .i64 ((Qa l0 a0).f2))∧w'.cell? ⟨(a1.add ((a0).toNat * 6)).block,(a1.add ((a0).toNat * 6)).off+3,none⟩=some (.int .i64 ((Qa l0 a0).f3))∧w'.cell? ⟨(a1.add ((a0).toNat * 6)).block,(a1.add ((a0).toNat * 6)).off+4,none⟩=some (.int .i64 ((Qa l0 a0).f4))∧w'.cell? ⟨(a1.add ((a0).toNat * 6)).block,(a1.add ((a0).toNat * 6)).off+5,none⟩=some (.slice (some a4) ((Qa l0 a0).f5).length d8)∧w'.cell? (a1.add (((a3)).toNat * 6))=some (.bool ((Qa l0 (a3)).f0))∧w'.cell? ⟨(a1.add (((a3)).toNat * 6)).block,(a1.add (((a3)).toNat * 6)).off+1,none⟩=some (.bool ((Qa l0 (a3)).f1))∧w'.cell? ⟨(a1.add (((a3)).toNat * 6)).block,(a1.add (((a3)).toNat * 6)).off+2,none⟩=some (.int .i64 ((Qa l0 (a3)).f2))∧w'.cell? ⟨(a1.add (((a3)).toNat * 6)).block,(a1.add (((a3)).toNat * 6)).off+3,none⟩=some (.int .i64 ((Qa l0 (a3)).f3))∧w'.cell? ⟨(a1.add (((a3)).toNat * 6)).block,(a1.add (((a3)).toNat * 6)).off+4,none⟩=some (.int .i64 ((Qa l0 (a3)).f4))∧w'.cell? ⟨(a1.add (((a3)).toNat * 6)).block,(a1.add (((a3)).toNat * 6)).off+5,none⟩=some (.slice k7 ((Qa l0 (a3)).f5).length k8)∧w'.cell? (a1.add ((a0).toNat * 6))=some (.bool ((Qa l0 a0).f0))∧w'.cell? ⟨(a1.add ((a0).toNat * 6)).block,(a1.add ((a0).toNat * 6)).off+1,none⟩=some (.bool ((Qa l0 a0).f1))∧w'.cell? ⟨(a1.add ((a0).toNat * 6)).block,(a1.add ((a0).toNat * 6)).off+2,none⟩=some (.int .i64 ((Qa l0 a0).f2))∧w'.cell? ⟨(a1.add ((a0).toNat * 6)).block,(a1.add ((a0).toNat * 6)).off+3,none⟩=some (.int .i64 ((Qa l0 a0).f3))∧w'.cell? ⟨(a1.add ((a0).toNat * 6)).block,(a1.add ((a0).toNat * 6)).off+4,none⟩=some (.int .i64 ((Qa l0 a0).f4))∧w'.cell? ⟨(a1.add ((a0).toNat * 6)).block,(a1.add ((a0).toNat * 6)).off+5,none⟩=some (.slice (some a4) ((Qa l0 a0).f5).length d8)∧w'.cell? a4=some (.int .i64 ((Qb ((Qa l0 a0).f5) 0).f0))∧w'.cell? ⟨a4.block,a4.off+1,none⟩=some (.int .i64 ((Qb ((Qa l0 a0).f5) 0).f1))∧w'.cell? ⟨a4.block,a4.off+2,none⟩=some (.bool ((Qb ((Qa l0 a0).f5) 0).f2))∧w'.cell? ⟨a4.block,a4.off+3,none⟩=some (.slice m5 ((Qb ((Qa l0 a0).f5) 0).f3).length m6)∧w'.cell? ⟨a4.block,a4.off+4,none⟩=some (.bool ((Qb ((Qa l0 a0).f5) 0).f4))∧w'.cell? ⟨a4.block,a4.off+5,none⟩=some (.slice m7 ((Qb ((Qa l0 a0).f5) 0).f5).length m8)) (ds:=[]) (zzB 27 0) (by kernel_rfl) rfl rfl ⟨(zzx HB.out d1 :),(zzx HB.out d0 :),(zzx HB.out c7 :),(zzx HB.out c4 :),(zzx HB.out b9 :),(zzx HB.out b1 :),(zzx HB.out h5 :),(zzx HB.out h4 :),(zzx HB.out h3 :),(zzx HB.out h2 :),(zzx HB.out h1 :),(zzx HB.out h0 :),(zzx HB.out j4 :),(zzx HB.out h9 :),(zzx HB.out h8 :),(zzx HB.out h7 :),(zzx HB.out h6 :),(zzx HB.out e3 :),(zzx HB.out d7 :),(zzx HB.out d6 :),(zzx HB.out d5 :),(zzx HB.out d4 :),(zzx HB.out d3 :),(zzx HB.out d2 :)⟩ (fun b2=>?_);refine with_tabW Qk.tab4 Qk.bits4 (fun a2 k6=>?_);generalize wr.drew=p5 at HB e2 j7 k0 m2 m3 a5 a6 a7 a8 a9 b0 e4 e5 e6 e7 e8 e9 g0 g1 g2 g3 g4 g5 b3 b4 b5 b6 b7 b8 b2 ⊢;refine zzP 0 10 27 1 a2 ?_
           refine zzP 1 11 27 3 a2 ?_
           refine zzP 2 12 27 7 a2 ?_
           refine zzT 3 13 27 15 a2 k6 b2 ?_
           refine one_ (i:=4) (N:=some 14) (zzB 27 31) rfl rfl (one_of a2.out (by kernel_rfl)) (by decide) (fun K hK=>?_);refine goes_ Try.func29 (by kernel_rfl) rfl #[.agg #[.bool ((Qa l0 a0).f0),.bool ((Qa l0 a0).f1),.int .i64 ((Qa l0 a0).f2),.int .i64 ((Qa l0 a0).f3),.int .i64 ((Qa l0 a0).f4),.slice (some a4) ((Qa l0 a0).f5).length d8]] (by rfl) rfl rfl zzM2 ?_;with_reducible refine (Ql.calls k1 ((Qa l0 a0).f0) ((Qa l0 a0).f1) ((Qa l0 a0).f2) ((Qa l0 a0).f3) ((Qa l0 a0).f4) _ _ ((Qa l0 a0).f5) true _ ?side1 ?side2 A4.out).mono ?_
           (case side1=>exact zzcb e2 HB)
           (case side2=>exact g9.out);rintro e p6 ⟨rfl,hb⟩;refine ⟨_,rfl,?_⟩;have d9:=zzm (zzp zzh1 hb);clear HB;have HB:=d9;clear d9
           (try clear hb)
           (try clear hb2)
           (try clear hk)
           (try clear hi);refine hK.out _ _ ⟨(zzx HB.out d1 :),(zzx HB.out d0 :),(zzx HB.out c7 :),(zzx HB.out c4 :),(zzx HB.out b9 :),(zzx HB.out b1 :),(zzx HB.out h5 :),(zzx HB.out h4 :),(zzx HB.out h3 :),(zzx HB.out h2 :),(zzx HB.out h1 :),(zzx HB.out h0 :),(zzx HB.out j4 :),(zzx HB.out h9 :),(zzx HB.out h8 :),(zzx HB.out h7 :),(zzx HB.out h6 :),(zzx HB.out e3 :),(zzx HB.out d7 :),(zzx HB.out d6 :),(zzx HB.out d5 :),(zzx HB.out d4 :),(zzx HB.out d3 :),(zzx HB.out d2 :)⟩ (fun b2=>?_);clear hK K;refine zzO 14 ?_
           refine zzP 5 15 27 63 a2 ?_
           refine zzP 6 16 27 127 a2 ?_
           refine zzP 7 17 27 255 a2 ?_
           refine zzP 8 18 27 511 a2 ?_
           refine zzP 9 19 27 1023 a2 ?_
           refine zzP 10 20 27 2047 a2 ?_
           refine zzP 11 21 27 4095 a2 ?_
           refine zzP 12 22 27 8191 a2 ?_
           refine zzP 13 23 27 16383 a2 ?_
           refine zzP 16 26 27 81919 a2 ?_
           refine zzP 17 27 27 212991 a2 ?_
           refine zzP 18 28 27 475135 a2 ?_
           refine zzP 19 29 27 999423 a2 ?_
           refine zzT 14 24 27 1015807 a2 k6 b2 ?_
           refine zzT 20 30 27 2064383 a2 k6 b2 ?_
           refine zzP 21 31 27 4161535 a2 ?_
           refine zzP 22 32 27 8355839 a2 ?_
           refine zzT 23 33 27 16744447 a2 k6 b2 ?_
           refine one_ (i:=15) (N:=some 25) (zzB 27 16777215) rfl rfl (one_of a2.out (by kernel_rfl)) (by decide) (fun K hK=>?_);refine goes_ Try.func30 (by kernel_rfl) rfl #[.agg #[.bool ((Qa l0 (a3)).f0),.bool ((Qa l0 (a3)).f1),.int .i64 ((Qa l0 (a3)).f2),.int .i64 ((Qa l0 (a3)).f3),.int .i64 ((Qa l0 (a3)).f4),.slice k7 ((Qa l0 (a3)).f5).length k8]] (by rfl) rfl rfl (by (try simp only [map_toArray,map_cons,map_nil]);first|done|(simp only [hji7];rfl)|rfl|(simp only [length_drop,length_take];rfl)) ?_;with_reducible refine (Rf.calls ((Qa l0 (a3)).f0) ((Qa l0 (a3)).f1) ((Qa l0 (a3)).f2) ((Qa l0 (a3)).f3) ((Qa l0 (a3)).f4) _ _ ((Qa l0 (a3)).f5) l3 _ ?side1 ?side2 o5.out).mono ?_
           (case side1=>exact zzcb j7 HB)
           (case side2=>exact m1.out);rintro e p7 ⟨rfl,hb⟩;refine ⟨_,rfl,?_⟩;have d9:=zzm (zzp zzh1 hb);clear HB;have HB:=d9;clear d9
           (try clear hb)
           (try clear hb2)
           (try clear hk)
           (try clear hi);refine hK.out _ _ ⟨(zzx HB.out d1 :),(zzx HB.out d0 :),(zzx HB.out c7 :),(zzx HB.out c4 :),(zzx HB.out b9 :),(zzx HB.out b1 :),(zzx HB.out h5 :),(zzx HB.out h4 :),(zzx HB.out h3 :),(zzx HB.out h2 :),(zzx HB.out h1 :),(zzx HB.out h0 :),(zzx HB.out j4 :),(zzx HB.out h9 :),(zzx HB.out h8 :),(zzx HB.out h7 :),(zzx HB.out h6 :),(zzx HB.out e3 :),(zzx HB.out d7 :),(zzx HB.out d6 :),(zzx HB.out d5 :),(zzx HB.out d4 :),(zzx HB.out d3 :),(zzx HB.out d2 :)⟩ (fun b2=>?_);clear hK K;refine zzO 25 ?_
           refine zzP 24 34 27 33554431 a2 ?_
           refine zzP 25 35 27 67108863 a2 ?_
           refine zzP 26 36 27 134217727 a2 ?_
           refine done_ (done_of a2.out (by kernel_rfl)) ?_;try go_wp2
           go_ret;exact ⟨by first|rfl|(simp [errW_none,errW_some] <;> rfl)|(simp only [← hji7];first|rfl|(simp [errW_none,errW_some] <;> rfl))|(simp [*,errW_none,errW_some] <;> rfl),zzh1⟩
          ·
           rw [if_neg m9] at H;have o1:decide (((Qb ((Qa l0 a0).f5) 0).f0)≤l3)=false:=decide_eq_false m9;clear m9;have H':=zzm H;clear H;try go_wp2
           have d9:=zzm (zzc HB.out);clear HB;have HB:=d9;clear d9;have g6 : 0≤(a0:Int):=zzt;have g7:a0 < (l0.length:Int):=zzt;obtain ⟨a1,g8,d8,l4,a5,a6,a7,a8,a9,b0,e0,e1⟩:=Q6 m4.out a0 g6 g7;have b1:=b0;have b9:=a9;have c4:=a8;have c7:=a7;have d0:=a6;have d1:=a5;cases l4;replace a5:=zzx HB.out a5;replace a6:=zzx HB.out a6;replace a7:=zzx HB.out a7;replace a8:=zzx HB.out a8;replace a9:=zzx HB.out a9;replace b0:=zzx HB.out b0;have e2:=zzm e1;have g9:=zzm e0;clear e1 e0;replace g6:=eq_true g6;replace g7:=eq_true g7;have l5 : 0≤((a3):Int):=zzt;have l6:(a3) < (l0.length:Int):=zzt;obtain ⟨n0,k7,k8,n4,e4,e5,e6,e7,e8,e9,j5,j6⟩:=Q6 m4.out (a3) l5 l6;have h0:=e9;have h1:=e8;have h2:=e7;have h3:=e6;have h4:=e5;have h5:=e4;obtain rfl:a1=n0:=(by injection n4);replace e4:=zzx HB.out e4;replace e5:=zzx HB.out e5;replace e6:=zzx HB.out e6;replace e7:=zzx HB.out e7;replace e8:=zzx HB.out e8;replace e9:=zzx HB.out e9;have j7:=zzm j6;have m1:=zzm j5;clear j6 j5;replace l5:=eq_true l5;replace l6:=eq_true l6;have l7 : 0≤(a0:Int):=zzt;have l8:a0 < (l0.length:Int):=zzt;obtain ⟨n1,k9,l2,n5,g0,g1,g2,g3,g4,g5,j8,j9⟩:=Q6 m4.out a0 l7 l8;have e3:=g5;have h6:=g4;have h7:=g3;have h8:=g2;have h9:=g1;have j4:=g0;obtain rfl:a1=n1:=(by injection n5);replace g0:=zzx HB.out g0;replace g1:=zzx HB.out g1;replace g2:=zzx HB.out g2;replace g3:=zzx HB.out g3;replace g4:=zzx HB.out g4;replace g5:=zzx HB.out g5;have k0:=zzm j9;have n8:=zzm j8;clear j9 j8;replace l7:=eq_true l7;replace l8:=eq_true l8;have l9 : 0≤(0:Int):=(by omega);have m0 : 0 < (((Qa l0 a0).f5).length:Int):=zzt;have eA_:k9=g8:=by have e_:=Option.some.inj (b1.symm.trans e3);injection e_ with n2 _ n3;exact n2.symm
           have eC_:l2=d8:=by have e_:=Option.some.inj (b1.symm.trans e3);injection e_ with n2 _ n3;exact n3.symm
           subst k9;subst l2;obtain ⟨a4,m5,m6,m7,m8,n6,b3,b4,b5,b6,b7,b8,k2,k3,k4,k5⟩:=Qt k0.out 0 l9 m0;have d2:=b8
           (try rw [show ((0:Int)).toNat=0 from rfl] at d2)
           (try rw [show 0 * 6=0 from rfl] at d2)
           (try rw [Addr.add_zero'] at d2);have d3:=b7
           (try rw [show ((0:Int)).toNat=0 from rfl] at d3)
           (try rw [show 0 * 6=0 from rfl] at d3)
           (try rw [Addr.add_zero'] at d3);have d4:=b6
           (try rw [show ((0:Int)).toNat=0 from rfl] at d4)
           (try rw [show 0 * 6=0 from rfl] at d4)
           (try rw [Addr.add_zero'] at d4);have d5:=b5
           (try rw [show ((0:Int)).toNat=0 from rfl] at d5)
           (try rw [show 0 * 6=0 from rfl] at d5)
           (try rw [Addr.add_zero'] at d5);have d6:=b4
           (try rw [show ((0:Int)).toNat=0 from rfl] at d6)
           (try rw [show 0 * 6=0 from rfl] at d6)
           (try rw [Addr.add_zero'] at d6);have d7:=b3
           (try rw [show ((0:Int)).toNat=0 from rfl] at d7)
           (try rw [show 0 * 6=0 from rfl] at d7)
           (try rw [Addr.add_zero'] at d7);cases n6;have o2:(0 < ((Qa l0 a0).f5).length)=True:=eq_true (by omega)
           (try rw [show ((0:Int)).toNat=0 from rfl] at b3)
           (try rw [show 0 * 6=0 from rfl] at b3)
           (try rw [Addr.add_zero'] at b3)
           (try rw [show ((0:Int)).toNat=0 from rfl] at b4)
           (try rw [show 0 * 6=0 from rfl] at b4)
           (try rw [Addr.add_zero'] at b4)
           (try rw [show ((0:Int)).toNat=0 from rfl] at b5)
           (try rw [show 0 * 6=0 from rfl] at b5)
           (try rw [Addr.add_zero'] at b5)
           (try rw [show ((0:Int)).toNat=0 from rfl] at b6)
           (try rw [show 0 * 6=0 from rfl] at b6)
           (try rw [Addr.add_zero'] at b6)
           (try rw [show ((0:Int)).toNat=0 from rfl] at b7)
           (try rw [show 0 * 6=0 from rfl] at b7)
           (try rw [Addr.add_zero'] at b7)
           (try rw [show ((0:Int)).toNat=0 from rfl] at b8)
           (try rw [show 0 * 6=0 from rfl] at b8)
           (try rw [Addr.add_zero'] at b8);replace b3:=zzx HB.out b3;replace b4:=zzx HB.out b4;replace b5:=zzx HB.out b5;replace b6:=zzx HB.out b6;replace b7:=zzx HB.out b7;replace b8:=zzx HB.out b8;have m2:=zzm k3;have n9:=zzm k2;clear k3 k2;have m3:=zzm k5;have o0:=zzm k4;clear k5 k4;replace l9:=eq_true l9;replace m0:=eq_true m0;refine start_ (n:=27) (S:=fun w'=>w'.cell? (a1.add ((a0).toNat * 6))=some (.bool ((Qa l0 a0).f0))∧w'.cell? ⟨(a1.add ((a0).toNat * 6)).block,(a1.add ((a0).toNat * 6)).off+1,none⟩=some (.bool ((Qa l0 a0).f1))∧w'.cell? ⟨(a1.add ((a0).toNat * 6)).block,(a1.add ((a0).toNat * 6)).off+2,none⟩=some (.int .i64 ((Qa l0 a0).f2))∧w'.cell? ⟨(a1.add ((a0).toNat * 6)).block,(a1.add ((a0).toNat * 6)).off+3,none⟩=some (.int .i64 ((Qa l0 a0).f3))∧w'.cell? ⟨(a1.add ((a0).toNat * 6)).block,(a1.add ((a0).toNat * 6)).off+4,none⟩=some (.int .i64 ((Qa l0 a0).f4))∧w'.cell? ⟨(a1.add ((a0).toNat * 6)).block,(a1.add ((a0).toNat * 6)).off+5,none⟩=some (.slice (some a4) ((Qa l0 a0).f5).length d8)∧w'.cell? (a1.add (((a3)).toNat * 6))=some (.bool ((Qa l0 (a3)).f0))∧w'.cell? ⟨(a1.add (((a3)).toNat * 6)).block,(a1.add (((a3)).toNat * 6)).off+1,none⟩=some (.bool ((Qa l0 (a3)).f1))∧w'.cell? ⟨(a1.add (((a3)).toNat * 6)).block,(a1.add (((a3)).toNat * 6)).off+2,none⟩=some (.int .i64 ((Qa l0 (a3)).f2))∧w'.cell? ⟨(a1.add (((a3)).toNat * 6)).block,(a1.add (((a3)).toNat * 6)).off+3,none⟩=some (.int .i64 ((Qa l0 (a3)).f3))∧w'.cell? ⟨(a1.add (((a3)).toNat * 6)).block,(a1.add (((a3)).toNat * 6)).off+4,none⟩=some (.int .i64 ((Qa l0 (a3)).f4))∧w'.cell? ⟨(a1.add (((a3)).toNat * 6)).block,(a1.add (((a3)).toNat * 6)).off+5,none⟩=some (.slice k7 ((Qa l0 (a3)).f5).length k8)∧w'.cell? (a1.add ((a0).toNat * 6))=some (.bool ((Qa l0 a0).f0))∧w'.cell? ⟨(a1.add ((a0).toNat * 6)).block,(a1.add ((a0).toNat * 6)).off+1,none⟩=some (.bool ((Qa l0 a0).f1))∧w'.cell? ⟨(a1.add ((a0).toNat * 6)).block,(a1.add ((a0).toNat * 6)).off+2,none⟩=some (.int .i64 ((Qa l0 a0).f2))∧w'.cell? ⟨(a1.add ((a0).toNat * 6)).block,(a1.add ((a0).toNat * 6)).off+3,none⟩=some (.int .i64 ((Qa l0 a0).f3))∧w'.cell? ⟨(a1.add ((a0).toNat * 6)).block,(a1.add ((a0).toNat * 6)).off+4,none⟩=some (.int .i64 ((Qa l0 a0).f4))∧w'.cell? ⟨(a1.add ((a0).toNat * 6)).block,(a1.add ((a0).toNat * 6)).off+5,none⟩=some (.slice (some a4) ((Qa l0 a0).f5).length d8)∧w'.cell? a4=some (.int .i64 ((Qb ((Qa l0 a0).f5) 0).f0))∧w'.cell? ⟨a4.block,a4.off+1,none⟩=some (.int .i64 ((Qb ((Qa l0 a0).f5) 0).f1))∧w'.cell? ⟨a4.block,a4.off+2,none⟩=some (.bool ((Qb ((Qa l0 a0).f5) 0).f2))∧w'.cell? ⟨a4.block,a4.off+3,none⟩=some (.slice m5 ((Qb ((Qa l0 a0).f5) 0).f3).length m6)∧w'.cell? ⟨a4.block,a4.off+4,none⟩=some (.bool ((Qb ((Qa l0 a0).f5) 0).f4))∧w'.cell? ⟨a4.block,a4.off+5,none⟩=some (.slice m7 ((Qb ((Qa l0 a0).f5) 0).f5).length m8)) (ds:=[]) (zzB 27 0) (by kernel_rfl) rfl rfl ⟨(zzx HB.out d1 :),(zzx HB.out d0 :),(zzx HB.out c7 :),(zzx HB.out c4 :),(zzx HB.out b9 :),(zzx HB.out b1 :),(zzx HB.out h5 :),(zzx HB.out h4 :),(zzx HB.out h3 :),(zzx HB.out h2 :),(zzx HB.out h1 :),(zzx HB.out h0 :),(zzx HB.out j4 :),(zzx HB.out h9 :),(zzx HB.out h8 :),(zzx HB.out h7 :),(zzx HB.out h6 :),(zzx HB.out e3 :),(zzx HB.out d7 :),(zzx HB.out d6 :),(zzx HB.out d5 :),(zzx HB.out d4 :),(zzx HB.out d3 :),(zzx HB.out d2 :)⟩ (fun b2=>?_);refine with_tabW Qk.tab4 Qk.bits4 (fun a2 k6=>?_);generalize wr.drew=p8 at HB e2 j7 k0 m2 m3 a5 a6 a7 a8 a9 b0 e4 e5 e6 e7 e8 e9 g0 g1 g2 g3 g4 g5 b3 b4 b5 b6 b7 b8 b2 ⊢;refine zzP 0 10 27 1 a2 ?_
           refine zzP 1 11 27 3 a2 ?_
           refine zzP 2 12 27 7 a2 ?_
           refine zzT 3 13 27 15 a2 k6 b2 ?_
           refine one_ (i:=4) (N:=some 14) (zzB 27 31) rfl rfl (one_of a2.out (by kernel_rfl)) (by decide) (fun K hK=>?_);refine goes_ Try.func29 (by kernel_rfl) rfl #[.agg #[.bool ((Qa l0 a0).f0),.bool ((Qa l0 a0).f1),.int .i64 ((Qa l0 a0).f2),.int .i64 ((Qa l0 a0).f3),.int .i64 ((Qa l0 a0).f4),.slice (some a4) ((Qa l0 a0).f5).length d8]] (by rfl) rfl rfl zzM2 ?_;with_reducible refine (Ql.calls k1 ((Qa l0 a0).f0) ((Qa l0 a0).f1) ((Qa l0 a0).f2) ((Qa l0 a0).f3) ((Qa l0 a0).f4) _ _ ((Qa l0 a0).f5) true _ ?side1 ?side2 A4.out).mono ?_
           (case side1=>exact zzcb e2 HB)
           (case side2=>exact g9.out);rintro e p9 ⟨rfl,hb⟩;refine ⟨_,rfl,?_⟩;have d9:=zzm (zzp zzh1 hb);clear HB;have HB:=d9;clear d9
           (try clear hb)
           (try clear hb2)
           (try clear hk)
           (try clear hi);refine hK.out _ _ ⟨(zzx HB.out d1 :),(zzx HB.out d0 :),(zzx HB.out c7 :),(zzx HB.out c4 :),(zzx HB.out b9 :),(zzx HB.out b1 :),(zzx HB.out h5 :),(zzx HB.out h4 :),(zzx HB.out h3 :),(zzx HB.out h2 :),(zzx HB.out h1 :),(zzx HB.out h0 :),(zzx HB.out j4 :),(zzx HB.out h9 :),(zzx HB.out h8 :),(zzx HB.out h7 :),(zzx HB.out h6 :),(zzx HB.out e3 :),(zzx HB.out d7 :),(zzx HB.out d6 :),(zzx HB.out d5 :),(zzx HB.out d4 :),(zzx HB.out d3 :),(zzx HB.out d2 :)⟩ (fun b2=>?_);clear hK K;refine zzO 14 ?_
           refine zzP 5 15 27 63 a2 ?_
           refine zzP 6 16 27 127 a2 ?_
           refine zzP 7 17 27 255 a2 ?_
           refine zzP 8 18 27 511 a2 ?_
           refine zzP 9 19 27 1023 a2 ?_
           refine zzP 10 20 27 2047 a2 ?_
           refine zzP 11 21 27 4095 a2 ?_
           refine zzP 12 22 27 8191 a2 ?_
           refine zzP 13 23 27 16383 a2 ?_
           refine zzP 16 26 27 81919 a2 ?_
           refine zzP 17 27 27 212991 a2 ?_
           refine zzP 18 28 27 475135 a2 ?_
           refine zzP 19 29 27 999423 a2 ?_
           refine zzT 14 24 27 1015807 a2 k6 b2 ?_
           refine zzT 20 30 27 2064383 a2 k6 b2 ?_
           refine zzP 21 31 27 4161535 a2 ?_
           refine zzP 22 32 27 8355839 a2 ?_
           refine zzT 23 33 27 16744447 a2 k6 b2 ?_
           refine one_ (i:=15) (N:=some 25) (zzB 27 16777215) rfl rfl (one_of a2.out (by kernel_rfl)) (by decide) (fun K hK=>?_);refine goes_ Try.func30 (by kernel_rfl) rfl #[.agg #[.bool ((Qa l0 (a3)).f0),.bool ((Qa l0 (a3)).f1),.int .i64 ((Qa l0 (a3)).f2),.int .i64 ((Qa l0 (a3)).f3),.int .i64 ((Qa l0 (a3)).f4),.slice k7 ((Qa l0 (a3)).f5).length k8]] (by rfl) rfl rfl (by (try simp only [map_toArray,map_cons,map_nil]);first|done|(simp only [hji7];rfl)|rfl|(simp only [length_drop,length_take];rfl)) ?_;with_reducible refine (Rf.calls ((Qa l0 (a3)).f0) ((Qa l0 (a3)).f1) ((Qa l0 (a3)).f2) ((Qa l0 (a3)).f3) ((Qa l0 (a3)).f4) _ _ ((Qa l0 (a3)).f5) l3 _ ?side1 ?side2 o5.out).mono ?_
           (case side1=>exact zzcb j7 HB)
           (case side2=>exact m1.out);rintro e q0 ⟨rfl,hb⟩;refine ⟨_,rfl,?_⟩;have d9:=zzm (zzp zzh1 hb);clear HB;have HB:=d9;clear d9
           (try clear hb)
           (try clear hb2)
           (try clear hk)
           (try clear hi);refine hK.out _ _ ⟨(zzx HB.out d1 :),(zzx HB.out d0 :),(zzx HB.out c7 :),(zzx HB.out c4 :),(zzx HB.out b9 :),(zzx HB.out b1 :),(zzx HB.out h5 :),(zzx HB.out h4 :),(zzx HB.out h3 :),(zzx HB.out h2 :),(zzx HB.out h1 :),(zzx HB.out h0 :),(zzx HB.out j4 :),(zzx HB.out h9 :),(zzx HB.out h8 :),(zzx HB.out h7 :),(zzx HB.out h6 :),(zzx HB.out e3 :),(zzx HB.out d7 :),(zzx HB.out d6 :),(zzx HB.out d5 :),(zzx HB.out d4 :),(zzx HB.out d3 :),(zzx HB.out d2 :)⟩ (fun b2=>?_);clear hK K;refine zzO 25 ?_
           refine zzP 24 34 27 33554431 a2 ?_
           refine zzP 25 35 27 67108863 a2 ?_
           refine zzP 26 36 27 134217727 a2 ?_
           refine done_ (done_of a2.out (by kernel_rfl)) ?_;try go_wp2
           go_roundg k1
           case measure=>have:=HK1.out;omega
           case rel=>exact ⟨(wrap64 (a0+1)),(by first|rfl|(simp;done)|(simp [*];done)),H',⟨by have:=HK1.out;omega⟩,⟨zzh1⟩⟩
         ·
          rw [if_neg n7] at H;exact absurd H (by simp)
        ·
         rw [if_neg c9] at H;exact absurd H (by simp)
       ·
        rw [if_neg c8] at H;exact absurd H (by simp)
      ·
       rw [if_neg c6] at H;have o8:decide (0 < a0)=false:=decide_eq_false c6;clear c6;have H':=zzm H;clear H;try go_wp2
       have d9:=zzm (zzc HB.out);clear HB;have HB:=d9;clear d9;have g6 : 0≤(a0:Int):=zzt;have g7:a0 < (l0.length:Int):=zzt;obtain ⟨a1,g8,d8,l4,a5,a6,a7,a8,a9,b0,e0,e1⟩:=Q6 m4.out a0 g6 g7;have b1:=b0;have b9:=a9;have c4:=a8;have c7:=a7;have d0:=a6;have d1:=a5;cases l4;replace a5:=zzx HB.out a5;replace a6:=zzx HB.out a6;replace a7:=zzx HB.out a7;replace a8:=zzx HB.out a8;replace a9:=zzx HB.out a9;replace b0:=zzx HB.out b0;have e2:=zzm e1;have g9:=zzm e0;clear e1 e0;replace g6:=eq_true g6;replace g7:=eq_true g7;refine start_ (n:=27) (S:=fun w'=>w'.cell? (a1.add ((a0).toNat * 6))=some (.bool ((Qa l0 a0).f0))∧w'.cell? ⟨(a1.add ((a0).toNat * 6)).block,(a1.add ((a0).toNat * 6)).off+1,none⟩=some (.bool ((Qa l0 a0).f1))∧w'.cell? ⟨(a1.add ((a0).toNat * 6)).block,(a1.add ((a0).toNat * 6)).off+2,none⟩=some (.int .i64 ((Qa l0 a0).f2))∧w'.cell? ⟨(a1.add ((a0).toNat * 6)).block,(a1.add ((a0).toNat * 6)).off+3,none⟩=some (.int .i64 ((Qa l0 a0).f3))∧w'.cell? ⟨(a1.add ((a0).toNat * 6)).block,(a1.add ((a0).toNat * 6)).off+4,none⟩=some (.int .i64 ((Qa l0 a0).f4))∧w'.cell? ⟨(a1.add ((a0).toNat * 6)).block,(a1.add ((a0).toNat * 6)).off+5,none⟩=some (.slice g8 ((Qa l0 a0).f5).length d8)) (ds:=[]) (zzB 27 0) (by kernel_rfl) rfl rfl ⟨(zzx HB.out d1 :),(zzx HB.out d0 :),(zzx HB.out c7 :),(zzx HB.out c4 :),(zzx HB.out b9 :),(zzx HB.out b1 :)⟩ (fun b2=>?_);refine with_tabW Qk.tab4 Qk.bits4 (fun a2 k6=>?_);generalize wr.drew=q1 at HB e2 a5 a6 a7 a8 a9 b0 b2 ⊢;refine zzP 0 10 27 1 a2 ?_
       refine zzP 1 11 27 3 a2 ?_
       refine zzP 2 12 27 7 a2 ?_
       refine zzT 3 13 27 15 a2 k6 b2 ?_
       refine one_ (i:=4) (N:=some 14) (zzB 27 31) rfl rfl (one_of a2.out (by kernel_rfl)) (by decide) (fun K hK=>?_);refine goes_ Try.func29 (by kernel_rfl) rfl #[.agg #[.bool ((Qa l0 a0).f0),.bool ((Qa l0 a0).f1),.int .i64 ((Qa l0 a0).f2),.int .i64 ((Qa l0 a0).f3),.int .i64 ((Qa l0 a0).f4),.slice g8 ((Qa l0 a0).f5).length d8]] (by rfl) rfl rfl zzM2 ?_;with_reducible refine (Ql.calls k1 ((Qa l0 a0).f0) ((Qa l0 a0).f1) ((Qa l0 a0).f2) ((Qa l0 a0).f3) ((Qa l0 a0).f4) _ _ ((Qa l0 a0).f5) true _ ?side1 ?side2 A4.out).mono ?_
       (case side1=>exact zzcb e2 HB)
       (case side2=>exact g9.out);rintro e q2 ⟨rfl,hb⟩;refine ⟨_,rfl,?_⟩;have d9:=zzm (zzp zzh1 hb);clear HB;have HB:=d9;clear d9
       (try clear hb)
       (try clear hb2)
       (try clear hk)
       (try clear hi);refine hK.out _ _ ⟨(zzx HB.out d1 :),(zzx HB.out d0 :),(zzx HB.out c7 :),(zzx HB.out c4 :),(zzx HB.out b9 :),(zzx HB.out b1 :)⟩ (fun b2=>?_);clear hK K;refine zzO 14 ?_
       refine zzP 5 15 27 63 a2 ?_
       refine zzP 6 16 27 127 a2 ?_
       refine zzP 7 17 27 255 a2 ?_
       refine zzP 8 18 27 511 a2 ?_
       refine zzP 9 19 27 1023 a2 ?_
       refine zzU 10 20 27 2047 a2 ?_
       refine zzU 11 21 27 4095 a2 ?_
       refine zzU 12 22 27 8191 a2 ?_
       refine zzU 13 23 27 16383 a2 ?_
       refine zzU 14 24 27 32767 a2 ?_
       refine zzU 15 25 27 65535 a2 ?_
       refine zzU 16 26 27 131071 a2 ?_
       refine zzU 17 27 27 262143 a2 ?_
       refine zzU 18 28 27 524287 a2 ?_
       refine zzU 19 29 27 1048575 a2 ?_
       refine zzU 20 30 27 2097151 a2 ?_
       refine zzU 21 31 27 4194303 a2 ?_
       refine zzU 22 32 27 8388607 a2 ?_
       refine zzU 23 33 27 16777215 a2 ?_
       refine zzU 24 34 27 33554431 a2 ?_
       refine zzP 25 35 27 67108863 a2 ?_
       refine zzP 26 36 27 134217727 a2 ?_
       refine done_ (done_of a2.out (by kernel_rfl)) ?_;try go_wp2
       go_roundg k1
       case measure=>have:=HK1.out;omega
       case rel=>exact ⟨(wrap64 (a0+1)),(by first|rfl|(simp;done)|(simp [*];done)),H',⟨by have:=HK1.out;omega⟩,⟨zzh1⟩⟩
     ·
      replace c5:=Bool.eq_false_iff.mpr c5;subst c5;replace H:=zzIf H;obtain rfl:=Option.some.inj H;try go_wp2
      have d9:=zzm (zzc HB.out);clear HB;have HB:=d9;clear d9;have g6 : 0≤(a0:Int):=zzt;have g7:a0 < (l0.length:Int):=zzt;obtain ⟨a1,g8,d8,l4,a5,a6,a7,a8,a9,b0,e0,e1⟩:=Q6 m4.out a0 g6 g7;have b1:=b0;have b9:=a9;have c4:=a8;have c7:=a7;have d0:=a6;have d1:=a5;cases l4;replace a5:=zzx HB.out a5;replace a6:=zzx HB.out a6;replace a7:=zzx HB.out a7;replace a8:=zzx HB.out a8;replace a9:=zzx HB.out a9;replace b0:=zzx HB.out b0;have e2:=zzm e1;have g9:=zzm e0;clear e1 e0;replace g6:=eq_true g6;replace g7:=eq_true g7;refine start_ (n:=27) (S:=fun w'=>w'.cell? (a1.add ((a0).toNat * 6))=some (.bool ((Qa l0 a0).f0))∧w'.cell? ⟨(a1.add ((a0).toNat * 6)).block,(a1.add ((a0).toNat * 6)).off+1,none⟩=some (.bool ((Qa l0 a0).f1))∧w'.cell? ⟨(a1.add ((a0).toNat * 6)).block,(a1.add ((a0).toNat * 6)).off+2,none⟩=some (.int .i64 ((Qa l0 a0).f2))∧w'.cell? ⟨(a1.add ((a0).toNat * 6)).block,(a1.add ((a0).toNat * 6)).off+3,none⟩=some (.int .i64 ((Qa l0 a0).f3))∧w'.cell? ⟨(a1.add ((a0).toNat * 6)).block,(a1.add ((a0).toNat * 6)).off+4,none⟩=some (.int .i64 ((Qa l0 a0).f4))∧w'.cell? ⟨(a1.add ((a0).toNat * 6)).block,(a1.add ((a0).toNat * 6)).off+5,none⟩=some (.slice g8 ((Qa l0 a0).f5).length d8)) (ds:=[]) (zzB 27 0) (by kernel_rfl) rfl rfl ⟨(zzx HB.out d1 :),(zzx HB.out d0 :),(zzx HB.out c7 :),(zzx HB.out c4 :),(zzx HB.out b9 :),(zzx HB.out b1 :)⟩ (fun b2=>?_);refine with_tabW Qk.tab4 Qk.bits4 (fun a2 k6=>?_);generalize wr.drew=q3 at HB e2 a5 a6 a7 a8 a9 b0 b2 ⊢;refine zzP 0 10 27 1 a2 ?_
      refine zzP 1 11 27 3 a2 ?_
      refine zzP 2 12 27 7 a2 ?_
      refine zzT 3 13 27 15 a2 k6 b2 ?_
      refine one_ (i:=4) (N:=some 14) (zzB 27 31) rfl rfl (one_of a2.out (by kernel_rfl)) (by decide) (fun K hK=>?_);refine goes_ Try.func29 (by kernel_rfl) rfl #[.agg #[.bool ((Qa l0 a0).f0),.bool ((Qa l0 a0).f1),.int .i64 ((Qa l0 a0).f2),.int .i64 ((Qa l0 a0).f3),.int .i64 ((Qa l0 a0).f4),.slice g8 ((Qa l0 a0).f5).length d8]] (by rfl) rfl rfl zzM2 ?_;with_reducible refine (Ql.calls k1 ((Qa l0 a0).f0) ((Qa l0 a0).f1) ((Qa l0 a0).f2) ((Qa l0 a0).f3) ((Qa l0 a0).f4) _ _ ((Qa l0 a0).f5) false _ ?side1 ?side2 A4.out).mono ?_
      (case side1=>exact zzcb e2 HB)
      (case side2=>exact g9.out);rintro e q4 ⟨rfl,hb⟩;refine ⟨_,rfl,?_⟩;have d9:=zzm (zzp zzh1 hb);clear HB;have HB:=d9;clear d9
      (try clear hb)
      (try clear hb2)
      (try clear hk)
      (try clear hi);refine hK.out _ _ ⟨(zzx HB.out d1 :),(zzx HB.out d0 :),(zzx HB.out c7 :),(zzx HB.out c4 :),(zzx HB.out b9 :),(zzx HB.out b1 :)⟩ (fun b2=>?_);clear hK K;refine zzO 14 ?_
      refine zzP 5 15 27 63 a2 ?_
      refine zzP 6 16 27 127 a2 ?_
      refine zzU 7 17 27 255 a2 ?_
      refine zzU 8 18 27 511 a2 ?_
      refine zzU 9 19 27 1023 a2 ?_
      refine zzU 10 20 27 2047 a2 ?_
      refine zzU 11 21 27 4095 a2 ?_
      refine zzU 12 22 27 8191 a2 ?_
      refine zzU 13 23 27 16383 a2 ?_
      refine zzU 14 24 27 32767 a2 ?_
      refine zzU 15 25 27 65535 a2 ?_
      refine zzU 16 26 27 131071 a2 ?_
      refine zzU 17 27 27 262143 a2 ?_
      refine zzU 18 28 27 524287 a2 ?_
      refine zzU 19 29 27 1048575 a2 ?_
      refine zzU 20 30 27 2097151 a2 ?_
      refine zzU 21 31 27 4194303 a2 ?_
      refine zzU 22 32 27 8388607 a2 ?_
      refine zzU 23 33 27 16777215 a2 ?_
      refine zzU 24 34 27 33554431 a2 ?_
      refine zzU 25 35 27 67108863 a2 ?_
      refine zzP 26 36 27 134217727 a2 ?_
      refine done_ (done_of a2.out (by kernel_rfl)) ?_;try go_wp2
      go_ret;exact ⟨zzR,zzh1⟩
    ·
     rw [if_neg c3] at H;exact absurd H (by simp)
   ·
    rw [if_neg c2] at H;have o6:decide (a0 < (l0.length:Int))=false:=decide_eq_false c2;clear c2;obtain rfl:=Option.some.inj H;go_wp2;go_ret;exact ⟨zzR,zzh1⟩

set_option linter.unusedVariables false
set_option linter.unusedSimpArgs false
def Rb.f (a0_0:Bool) (a0_1:Bool) (a0_2:Int) (a0_3:Int) (a0_4:Int) (l0_5:List (S42)):Option (Bool):=if a0_2=255 then (some false) else (some (!a0_1))
set_option maxHeartbeats 8000000 in
theorem Rb.calls (a4:Bool) (a3:Bool) (a2:Int) (a5:Int) (a6:Int) (a7:Option Addr) (a8:Nat) (a0:List (S42)) (r:Bool) (w:World) (b4:Kd.C k42 w a7 a0.length a0) (b5:a0.length≤a8) (h:Rb.f a4 a3 a2 a5 a6 a0=some r) :
  Calls Try.prog 16 #[.agg #[.bool a4,.bool a3,.int .i64 a2,.int .i64 a5,.int .i64 a6,.slice a7 a0.length a8]] w fun e w'=>e = .returned (.bool r)∧Below w.heap.size w w':=by
 have hu39:=Try.underlying39;have e5:=zzm b4;have e6:=zzm b5;clear b4 b5;have HB:=zzm (Below.refl w.heap.size w);have H:(if a2=255 then (some false) else (some (!a3)))=some r:=h;clear h;by_cases c2:a2=255
 ·
  rw [if_pos c2] at H;obtain ⟨b8,b9⟩:=zzQ c2;clear c2;obtain rfl:=Option.some.inj H;go_enter Try.func16,Try.ntmps16;go_wp2_with (first|((with_reducible refine gate_dst (N:=1) rfl ?_);refine box_event ?hg (N:=1) ?hd (cs:=#[.bool a4,.bool a3,.int .i64 a2,.int .i64 a5,.int .i64 a6,.slice a7 a0.length a8]) (t:=39) ?hr ?_;(case hd=>rfl);(case hg=>rfl);(case hr=>first|(go_simp;done)|(go_simp;rfl));intro a1 hg w3 hbox hb;have b0:=zzm (zzp zzh1 hb);have b1:=zzm (hbox);have b2:=zzm ((by rw [hg];exact (zzo zzh1):w.heap.size≤a1));have b3:=zzm ((by rw [hg];exact (zzo zzh1):w.heap.size≤a1));clear HB;have HB:=b0;have a9:=b1;have b6:=b2;have b7:=b3;clear b0 b1 b2 b3 hb hbox hg;obtain ⟨c0,c1,c3,c4,c5,c6,c7,c8,c9,d0,d1,d2⟩:=zzc6 a9.out));go_ret;exact ⟨zzR,zzh3⟩
 ·
  rw [if_neg c2] at H;obtain ⟨b8,b9⟩:=zzY c2;obtain rfl:=Option.some.inj H;go_enter Try.func16,Try.ntmps16;go_wp2_with (first|((with_reducible refine gate_dst (N:=1) rfl ?_);refine box_event ?hg (N:=1) ?hd (cs:=#[.bool a4,.bool a3,.int .i64 a2,.int .i64 a5,.int .i64 a6,.slice a7 a0.length a8]) (t:=39) ?hr ?_;(case hd=>rfl);(case hg=>rfl);(case hr=>first|(go_simp;done)|(go_simp;rfl));intro a1 hg w5 hbox hb;have b0:=zzm (zzp zzh1 hb);have b1:=zzm (hbox);have b2:=zzm ((by rw [hg];exact (zzo zzh1):w.heap.size≤a1));have b3:=zzm ((by rw [hg];exact (zzo zzh1):w.heap.size≤a1));clear HB;have HB:=b0;have a9:=b1;have b6:=b2;have b7:=b3;clear b0 b1 b2 b3 hb hbox hg;obtain ⟨d3,d4,d5,d6,d7,d8,d9,e0,e1,e2,e3,e4⟩:=zzc6 a9.out));go_ret;exact ⟨zzR,zzh3⟩

set_option linter.unusedVariables false
set_option linter.unusedSimpArgs false
def Qu.l0:Nat→List (S39)→Int→Int→Option (Int)
 | 0,_,_,_=>none
 | k+1,x0,x1,x5=>if x5 < (x0.length:Int) then (if 0≤x5 then (if (Qa x0 x5).f1=true then (if 0≤x1 then (if x1 < (x0.length:Int) then (if ((Qa x0 x5).f2)=((Qa x0 x1).f2) then (some x5) else (Qu.l0 k x0 x1 (wrap64 (x5+1)))) else (none)) else (none)) else (Qu.l0 k x0 x1 (wrap64 (x5+1)))) else (none)) else (some (-1))
def Qu.f (k:Nat) (l0:List (S39)) (a1:Int):Option (Int):=Qu.l0 k l0 a1 (wrap64 (a1+1))
set_option maxHeartbeats 8000000 in
theorem Qu.calls (k:Nat) (A0:Option Addr) (c0:Nat) (l0:List (S39)) (a1:Int) (r:Int) (w:World) (h0:Kd.C k39 w A0 l0.length l0) (h1:l0.length≤c0) (h:Qu.f k l0 a1=some r) :
  Calls Try.prog 18 #[.slice A0 l0.length c0,.int .i64 a1] w fun e w'=>e = .returned (.int .i64 r)∧Drawn0 w w':=by
 have d2:=zzm h0;have h8:=zzm h1;clear h0 h1;have H:(Qu.l0 k l0 a1 (wrap64 (a1+1)))=some r:=h;clear h;have H':=zzm H;clear H;go_enter Try.func18,Try.ntmps18;go_wp2;repeat (go_quiet (fail);try go_wp2)
 go_loopg [5] k (fun kq v5 w'=>∃ (a0:Int),v5 = .int .i64 a0∧Aside0 (Qu.l0 kq l0 a1 a0=some r)∧Aside0 (kq≤k)∧Drawn0 w w')
 case atStart=>exact ⟨(wrap64 (a1+1)),(by first|rfl|(simp;done)|(simp [*];done)),H',⟨Nat.le_refl _⟩,by repeat (first|exact Drawn0.refl _|apply Drawn0.step)⟩
 case round=>
  clear H';try clear c1
  try clear p2
  obtain ⟨a0,rfl,HA,HK1,⟨m1,rfl⟩⟩:=hrel;cases gk with
  | zero=>exact absurd HA.out (by simp [Qu.l0])
  | succ k1=>
   have H:=HA.out;clear HA;simp only [Qu.l0] at H;by_cases c3:a0 < (l0.length:Int)
   ·
    rw [if_pos c3] at H;have h2:decide (a0 < (l0.length:Int))=true:=decide_eq_true c3;clear c3;by_cases c4 : 0≤a0
    ·
     rw [if_pos c4] at H;have h5:decide (0≤a0)=true:=decide_eq_true c4;clear c4;obtain ⟨bq5,hbq5⟩:∃ b_:Bool,b_=((Qa l0 a0).f1):=⟨_,rfl⟩;replace H:(if bq5=true then (if 0≤a1 then (if a1 < (l0.length:Int) then (if ((Qa l0 a0).f2)=((Qa l0 a1).f2) then (some a0) else (Qu.l0 k1 l0 a1 (wrap64 (a0+1)))) else (none)) else (none)) else (Qu.l0 k1 l0 a1 (wrap64 (a0+1))))=some r:=by rw [← hbq5] at H;exact H
     have a4:=zzm hbq5;clear hbq5;by_cases c6:bq5=true
     ·
      subst c6;replace H:=zzIt H;by_cases c7 : 0≤a1
      ·
       rw [if_pos c7] at H;have h6:decide (0≤a1)=true:=decide_eq_true c7;clear c7;by_cases c8:a1 < (l0.length:Int)
       ·
        rw [if_pos c8] at H;have h7:decide (a1 < (l0.length:Int))=true:=decide_eq_true c8;clear c8;by_cases c9:((Qa l0 a0).f2)=((Qa l0 a1).f2)
        ·
         rw [if_pos c9] at H;obtain ⟨h3,h4⟩:=zzQ c9;clear c9;obtain rfl:=Option.some.inj H;have a5 : 0≤(a0:Int):=zzt;have a6:a0 < (l0.length:Int):=zzt;obtain ⟨b3,e1,e2,d3,a7,a8,d4,d5,d6,b4,a2,a3⟩:=Q6 d2.out a0 a5 a6
         (try rw [← a4.out] at a7)
         (try rw [← a4.out] at a8);cases d3;have d7:=zzm a3;have d8:=zzm a2;clear a3 a2;replace a5:=eq_true a5;replace a6:=eq_true a6;have b5 : 0≤(a0:Int):=zzt;have b6:a0 < (l0.length:Int):=zzt;obtain ⟨d9,g6,g7,e3,b9,c2,e5,e6,e7,c5,a9,b0⟩:=Q6 d2.out a0 b5 b6
         (try rw [← a4.out] at b9)
         (try rw [← a4.out] at c2);obtain rfl:b3=d9:=(by injection e3);have e8:=zzm b0;have e9:=zzm a9;clear b0 a9;replace b5:=eq_true b5;replace b6:=eq_true b6;have ea_:=Option.some.inj (b4.symm.trans c5);injection ea_ with ea_ en_ ec_;subst ea_;subst ec_;clear en_;have b7 : 0≤(a1:Int):=zzt;have b8:a1 < (l0.length:Int):=zzt;obtain ⟨e0,g8,g9,e4,d0,d1,g0,g1,g2,g3,b1,b2⟩:=Q6 d2.out a1 b7 b8
         (try rw [← a4.out] at d0)
         (try rw [← a4.out] at d1);obtain rfl:b3=e0:=(by injection e4);have g4:=zzm b2;have g5:=zzm b1;clear b2 b1;replace b7:=eq_true b7;replace b8:=eq_true b8;go_wp2;repeat (go_quiet (fail);try go_wp2)
         go_ret;exact ⟨by first|rfl|(simp;done)|(simp [*];done),by repeat (first|exact Drawn0.refl _|apply Drawn0.step)⟩
        ·
         rw [if_neg c9] at H;obtain ⟨h3,h4⟩:=zzY c9;have H':=zzm H;clear H;have a5 : 0≤(a0:Int):=zzt;have a6:a0 < (l0.length:Int):=zzt;obtain ⟨b3,e1,e2,d3,a7,a8,d4,d5,d6,b4,a2,a3⟩:=Q6 d2.out a0 a5 a6
         (try rw [← a4.out] at a7)
         (try rw [← a4.out] at a8);cases d3;have d7:=zzm a3;have d8:=zzm a2;clear a3 a2;replace a5:=eq_true a5;replace a6:=eq_true a6;have b5 : 0≤(a0:Int):=zzt;have b6:a0 < (l0.length:Int):=zzt;obtain ⟨d9,g6,g7,e3,b9,c2,e5,e6,e7,c5,a9,b0⟩:=Q6 d2.out a0 b5 b6
         (try rw [← a4.out] at b9)
         (try rw [← a4.out] at c2);obtain rfl:b3=d9:=(by injection e3);have e8:=zzm b0;have e9:=zzm a9;clear b0 a9;replace b5:=eq_true b5;replace b6:=eq_true b6;have ea_:=Option.some.inj (b4.symm.trans c5);injection ea_ with ea_ en_ ec_;subst ea_;subst ec_;clear en_;have b7 : 0≤(a1:Int):=zzt;have b8:a1 < (l0.length:Int):=zzt;obtain ⟨e0,g8,g9,e4,d0,d1,g0,g1,g2,g3,b1,b2⟩:=Q6 d2.out a1 b7 b8
         (try rw [← a4.out] at d0)
         (try rw [← a4.out] at d1);obtain rfl:b3=e0:=(by injection e4);have g4:=zzm b2;have g5:=zzm b1;clear b2 b1;replace b7:=eq_true b7;replace b8:=eq_true b8;go_wp2;repeat (go_quiet (fail);try go_wp2)
         go_roundg k1
         case measure=>have:=HK1.out;omega
         case rel=>exact ⟨(wrap64 (a0+1)),(by first|rfl|(simp;done)|(simp [*];done)),H',⟨by have:=HK1.out;omega⟩,by repeat (first|exact Drawn0.refl _|apply Drawn0.step)⟩
       ·
        rw [if_neg c8] at H;exact absurd H (by simp)
      ·
       rw [if_neg c7] at H;exact absurd H (by simp)
     ·
      replace c6:=Bool.eq_false_iff.mpr c6;subst c6;replace H:=zzIf H;have H':=zzm H;clear H;have a5 : 0≤(a0:Int):=zzt;have a6:a0 < (l0.length:Int):=zzt;obtain ⟨b3,e1,e2,d3,a7,a8,d4,d5,d6,b4,a2,a3⟩:=Q6 d2.out a0 a5 a6
      (try rw [← a4.out] at a7)
      (try rw [← a4.out] at a8);cases d3;have d7:=zzm a3;have d8:=zzm a2;clear a3 a2;replace a5:=eq_true a5;replace a6:=eq_true a6;go_wp2;repeat (go_quiet (fail);try go_wp2)
      go_roundg k1
      case measure=>have:=HK1.out;omega
      case rel=>exact ⟨(wrap64 (a0+1)),(by first|rfl|(simp;done)|(simp [*];done)),H',⟨by have:=HK1.out;omega⟩,by repeat (first|exact Drawn0.refl _|apply Drawn0.step)⟩
    ·
     rw [if_neg c4] at H;exact absurd H (by simp)
   ·
    rw [if_neg c3] at H;have h2:decide (a0 < (l0.length:Int))=false:=decide_eq_false c3;clear c3;obtain rfl:=Option.some.inj H;go_wp2;repeat (go_quiet (fail);try go_wp2)
    go_ret;exact ⟨by first|rfl|(simp;done)|(simp [*];done),by repeat (first|exact Drawn0.refl _|apply Drawn0.step)⟩

set_option linter.unusedVariables false
set_option linter.unusedSimpArgs false
def Q3.l0:Nat→List (S39)→Int→Option (Int)
 | 0,_,_=>none
 | k+1,x0,x3=>if x3 < (x0.length:Int) then (if 0≤x3 then ((Rb.f ((Qa x0 x3).f0) ((Qa x0 x3).f1) ((Qa x0 x3).f2) ((Qa x0 x3).f3) ((Qa x0 x3).f4) ((Qa x0 x3).f5)).bind fun t144=>(if t144=true then ((Qu.f k x0 x3).bind fun t145=>(if t145 < 0 then (if 0 < (((Qa x0 x3).f5).length:Int) then (some ((Qb ((Qa x0 x3).f5) 0).f0)) else (none)) else (Q3.l0 k x0 (wrap64 (x3+1))))) else (Q3.l0 k x0 (wrap64 (x3+1))))) else (none)) else (if (x0.length:Int)=0 then (some 0) else (if 0≤(wrap64 ((x0.length:Int) - 1)) then (if (wrap64 ((x0.length:Int) - 1)) < (x0.length:Int) then ((Rf.f ((Qa x0 (wrap64 ((x0.length:Int) - 1))).f0) ((Qa x0 (wrap64 ((x0.length:Int) - 1))).f1) ((Qa x0 (wrap64 ((x0.length:Int) - 1))).f2) ((Qa x0 (wrap64 ((x0.length:Int) - 1))).f3) ((Qa x0 (wrap64 ((x0.length:Int) - 1))).f4) ((Qa x0 (wrap64 ((x0.length:Int) - 1))).f5)).bind fun t142=>(some (wrap64 (t142+1)))) else (none)) else (none)))
def Q3.f (k:Nat) (l0:List (S39)):Option (Int):=Q3.l0 k l0 0
set_option maxHeartbeats 8000000 in
theorem Q3.calls (k:Nat) (A0:Option Addr) (c0:Nat) (l0:List (S39)) (r:Int) (w:World) (j6:Kd.C k39 w A0 l0.length l0) (j7:l0.length≤c0) (h:Q3.f k l0=some r) :
  Calls Try.prog 15 #[.slice A0 l0.length c0] w fun e w'=>e = .returned (.int .i64 r)∧Below w.heap.size w w':=by
 have hu39:=Try.underlying39;have d0:=zzm j6;have j8:=zzm j7;clear j6 j7;have HB:=zzm (Below.refl w.heap.size w);have H:(Q3.l0 k l0 0)=some r:=h;clear h;have H':=zzm H;clear H;go_enter Try.func15,Try.ntmps15;go_wp2;go_loopg [3] k (fun kq v3 w'=>∃ (a0:Int),v3 = .int .i64 a0∧Aside0 (Q3.l0 kq l0 a0=some r)∧Aside0 (kq≤k)∧Aside0 (Below w.heap.size w w'))
 case atStart=>exact ⟨(0),(by first|rfl|(simp;done)|(simp [*];done)),H',⟨Nat.le_refl _⟩,⟨zzh1⟩⟩
 case round=>
  clear H';try clear c1
  obtain ⟨a0,rfl,HA,HK1,HB⟩:=hrel;cases gk with
  | zero=>exact absurd HA.out (by simp [Q3.l0])
  | succ k1=>
   have H:=HA.out;clear HA;simp only [Q3.l0] at H;by_cases c2:a0 < (l0.length:Int)
   ·
    rw [if_pos c2] at H;have j9:decide (a0 < (l0.length:Int))=true:=decide_eq_true c2;clear c2;by_cases c3 : 0≤a0
    ·
     rw [if_pos c3] at H;have m6:decide (0≤a0)=true:=decide_eq_true c3;clear c3;obtain ⟨k0,A4,H⟩:=zzG H;by_cases c5:k0=true
     ·
      subst c5;replace H:=zzIt H;obtain ⟨d1,A6,H⟩:=zzG H;by_cases c7:d1 < 0
      ·
       rw [if_pos c7] at H;have k2:decide (d1 < 0)=true:=decide_eq_true c7;clear c7;by_cases c8 : 0 < (((Qa l0 a0).f5).length:Int)
       ·
        rw [if_pos c8] at H;have m7:decide (0 < (((Qa l0 a0).f5).length:Int))=true:=decide_eq_true c8;have m8:decide (0 < ((Qa l0 a0).f5).length)=true:=decide_eq_true (by omega);clear c8;obtain rfl:=Option.some.inj H;have b0 : 0≤(a0:Int):=zzt;have b1:a0 < (l0.length:Int):=zzt;obtain ⟨g4,c4,c6,d2,a2,a3,a4,a5,a6,a7,a8,a9⟩:=Q6 d0.out a0 b0 b1;cases d2;replace a2:=zzx HB.out a2;replace a3:=zzx HB.out a3;replace a4:=zzx HB.out a4;replace a5:=zzx HB.out a5;replace a6:=zzx HB.out a6;replace a7:=zzx HB.out a7;have b2:=zzm a9;have b3:=zzm a8;clear a9 a8;replace b0:=eq_true b0;replace b1:=eq_true b1;go_wp2_with (first|((with_reducible refine gate_callee (f:=16) rfl ?_);refine goesL_ (some 14) rfl rfl Try.func16 (by kernel_rfl) rfl #[.agg #[.bool ((Qa l0 a0).f0),.bool ((Qa l0 a0).f1),.int .i64 ((Qa l0 a0).f2),.int .i64 ((Qa l0 a0).f3),.int .i64 ((Qa l0 a0).f4),.slice c4 ((Qa l0 a0).f5).length c6]] rfl zzM2 ?_;(with_reducible refine (Rb.calls ((Qa l0 a0).f0) ((Qa l0 a0).f1) ((Qa l0 a0).f2) ((Qa l0 a0).f3) ((Qa l0 a0).f4) _ _ ((Qa l0 a0).f5) true _ ?side1 ?side2 A4.out).mono ?_);(case side1=>exact zzcb b2 HB);(case side2=>exact b3.out);rintro e w9 ⟨rfl,hb⟩;refine ⟨_,rfl,?_⟩;have c9:=zzm (zzp zzh1 hb);clear HB;have HB:=c9;clear c9;(try clear hb);(try clear hb2);(try clear hk);(try clear hi))|(go_at_call 18;(with_reducible refine (Qu.calls k1 _ _ l0 a0 d1 _ ?side1 ?side2 A6.out).mono ?_);(case side1=>exact zzcb d0 HB);(case side2=>exact j8.out);rintro e w' ⟨rfl,⟨nd,rfl⟩⟩;have g5 : 0≤(a0:Int):=zzt;have g6:a0 < (l0.length:Int):=zzt;obtain ⟨h9,l3,l4,k3,d3,d4,d5,d6,d7,d8,d9,e0⟩:=Q6 d0.out a0 g5 g6;obtain rfl:g4=h9:=(by injection k3);replace d3:=zzx HB.out d3;replace d4:=zzx HB.out d4;replace d5:=zzx HB.out d5;replace d6:=zzx HB.out d6;replace d7:=zzx HB.out d7;replace d8:=zzx HB.out d8;have h4:=zzm e0;have k6:=zzm d9;clear e0 d9;replace g5:=eq_true g5;replace g6:=eq_true g6;have g7 : 0≤(0:Int):=(by omega);have g8 : 0 < (((Qa l0 a0).f5).length:Int):=zzt;obtain ⟨m0,l5,l6,l7,l8,k4,b4,b5,b6,b7,b8,b9,e1,e2,e3,e4⟩:=Qt h4.out 0 g7 g8;cases k4;have m1:(0 < ((Qa l0 a0).f5).length)=True:=eq_true (by omega);(try rw [show ((0:Int)).toNat=0 from rfl] at b4);(try rw [show 0 * 6=0 from rfl] at b4);(try rw [Addr.add_zero'] at b4);(try rw [show ((0:Int)).toNat=0 from rfl] at b5);(try rw [show 0 * 6=0 from rfl] at b5);(try rw [Addr.add_zero'] at b5);(try rw [show ((0:Int)).toNat=0 from rfl] at b6);(try rw [show 0 * 6=0 from rfl] at b6);(try rw [Addr.add_zero'] at b6);(try rw [show ((0:Int)).toNat=0 from rfl] at b7);(try rw [show 0 * 6=0 from rfl] at b7);(try rw [Addr.add_zero'] at b7);(try rw [show ((0:Int)).toNat=0 from rfl] at b8);(try rw [show 0 * 6=0 from rfl] at b8);(try rw [Addr.add_zero'] at b8);(try rw [show ((0:Int)).toNat=0 from rfl] at b9);(try rw [show 0 * 6=0 from rfl] at b9);(try rw [Addr.add_zero'] at b9);replace b4:=zzx HB.out b4;replace b5:=zzx HB.out b5;replace b6:=zzx HB.out b6;replace b7:=zzx HB.out b7;replace b8:=zzx HB.out b8;replace b9:=zzx HB.out b9;have k7:=zzm e2;have k8:=zzm e1;clear e2 e1;have k9:=zzm e4;have l2:=zzm e3;clear e4 e3;replace g7:=eq_true g7;replace g8:=eq_true g8));go_ret;exact ⟨zzR,zzh1⟩
       ·
        rw [if_neg c8] at H;exact absurd H (by simp)
      ·
       rw [if_neg c7] at H;have k2:decide (d1 < 0)=false:=decide_eq_false c7;clear c7;have H':=zzm H;clear H;have b0 : 0≤(a0:Int):=zzt;have b1:a0 < (l0.length:Int):=zzt;obtain ⟨g4,c4,c6,d2,a2,a3,a4,a5,a6,a7,a8,a9⟩:=Q6 d0.out a0 b0 b1;cases d2;replace a2:=zzx HB.out a2;replace a3:=zzx HB.out a3;replace a4:=zzx HB.out a4;replace a5:=zzx HB.out a5;replace a6:=zzx HB.out a6;replace a7:=zzx HB.out a7;have b2:=zzm a9;have b3:=zzm a8;clear a9 a8;replace b0:=eq_true b0;replace b1:=eq_true b1;go_wp2_with (first|((with_reducible refine gate_callee (f:=16) rfl ?_);refine goesL_ (some 14) rfl rfl Try.func16 (by kernel_rfl) rfl #[.agg #[.bool ((Qa l0 a0).f0),.bool ((Qa l0 a0).f1),.int .i64 ((Qa l0 a0).f2),.int .i64 ((Qa l0 a0).f3),.int .i64 ((Qa l0 a0).f4),.slice c4 ((Qa l0 a0).f5).length c6]] rfl zzM2 ?_;(with_reducible refine (Rb.calls ((Qa l0 a0).f0) ((Qa l0 a0).f1) ((Qa l0 a0).f2) ((Qa l0 a0).f3) ((Qa l0 a0).f4) _ _ ((Qa l0 a0).f5) true _ ?side1 ?side2 A4.out).mono ?_);(case side1=>exact zzcb b2 HB);(case side2=>exact b3.out);rintro e m9 ⟨rfl,hb⟩;refine ⟨_,rfl,?_⟩;have c9:=zzm (zzp zzh1 hb);clear HB;have HB:=c9;clear c9;(try clear hb);(try clear hb2);(try clear hk);(try clear hi))|(go_at_call 18;(with_reducible refine (Qu.calls k1 _ _ l0 a0 d1 _ ?side1 ?side2 A6.out).mono ?_);(case side1=>exact zzcb d0 HB);(case side2=>exact j8.out);rintro e w' ⟨rfl,⟨nd,rfl⟩⟩));go_roundg k1
       case measure=>have:=HK1.out;omega
       case rel=>exact ⟨(wrap64 (a0+1)),(by first|rfl|(simp;done)|(simp [*];done)),H',⟨by have:=HK1.out;omega⟩,⟨zzh1⟩⟩
     ·
      replace c5:=Bool.eq_false_iff.mpr c5;subst c5;replace H:=zzIf H;have H':=zzm H;clear H;have b0 : 0≤(a0:Int):=zzt;have b1:a0 < (l0.length:Int):=zzt;obtain ⟨g4,c4,c6,d2,a2,a3,a4,a5,a6,a7,a8,a9⟩:=Q6 d0.out a0 b0 b1;cases d2;replace a2:=zzx HB.out a2;replace a3:=zzx HB.out a3;replace a4:=zzx HB.out a4;replace a5:=zzx HB.out a5;replace a6:=zzx HB.out a6;replace a7:=zzx HB.out a7;have b2:=zzm a9;have b3:=zzm a8;clear a9 a8;replace b0:=eq_true b0;replace b1:=eq_true b1;go_wp2_with (first|((with_reducible refine gate_callee (f:=16) rfl ?_);refine goesL_ (some 14) rfl rfl Try.func16 (by kernel_rfl) rfl #[.agg #[.bool ((Qa l0 a0).f0),.bool ((Qa l0 a0).f1),.int .i64 ((Qa l0 a0).f2),.int .i64 ((Qa l0 a0).f3),.int .i64 ((Qa l0 a0).f4),.slice c4 ((Qa l0 a0).f5).length c6]] rfl zzM2 ?_;(with_reducible refine (Rb.calls ((Qa l0 a0).f0) ((Qa l0 a0).f1) ((Qa l0 a0).f2) ((Qa l0 a0).f3) ((Qa l0 a0).f4) _ _ ((Qa l0 a0).f5) false _ ?side1 ?side2 A4.out).mono ?_);(case side1=>exact zzcb b2 HB);(case side2=>exact b3.out);rintro e n0 ⟨rfl,hb⟩;refine ⟨_,rfl,?_⟩;have c9:=zzm (zzp zzh1 hb);clear HB;have HB:=c9;clear c9;(try clear hb);(try clear hb2);(try clear hk);(try clear hi)));go_roundg k1
      case measure=>have:=HK1.out;omega
      case rel=>exact ⟨(wrap64 (a0+1)),(by first|rfl|(simp;done)|(simp [*];done)),H',⟨by have:=HK1.out;omega⟩,⟨zzh1⟩⟩
    ·
     rw [if_neg c3] at H;exact absurd H (by simp)
   ·
    rw [if_neg c2] at H;have j9:decide (a0 < (l0.length:Int))=false:=decide_eq_false c2;clear c2;by_cases e5:(l0.length:Int)=0
    ·
     rw [if_pos e5] at H;obtain ⟨j4,j5⟩:=zzQ e5;clear e5;obtain rfl:=Option.some.inj H;go_wp2;go_ret;exact ⟨zzR,zzh1⟩
    ·
     rw [if_neg e5] at H;obtain ⟨j4,j5⟩:=zzY e5;have m2:¬ (l0 = []):=fun h_=>e5 (by rw [h_];rfl);obtain ⟨a1,hji13⟩:∃ j_:Int,(wrap64 ((l0.length:Int) - 1))=j_:=⟨_,rfl⟩;replace H:(if 0≤(a1) then (if (a1) < (l0.length:Int) then ((Rf.f ((Qa l0 (a1)).f0) ((Qa l0 (a1)).f1) ((Qa l0 (a1)).f2) ((Qa l0 (a1)).f3) ((Qa l0 (a1)).f4) ((Qa l0 (a1)).f5)).bind fun g9=>(some (wrap64 (g9+1)))) else (none)) else (none))=some r:=by first|(rw [hji13] at H;exact H)|(simp only [hji13] at H ⊢;exact H)
     have hji13w:(IntKind.i64.wrap ((l0.length:Int) - 1))=a1:=(i64_w _).trans hji13;by_cases h2 : 0≤(a1)
     ·
      rw [if_pos h2] at H;have m3:decide (0≤(a1))=true:=decide_eq_true h2;clear h2;by_cases h3:(a1) < (l0.length:Int)
      ·
       rw [if_pos h3] at H;have m4:decide ((a1) < (l0.length:Int))=true:=decide_eq_true h3;clear h3;obtain ⟨g9,l9,H⟩:=zzG H;obtain rfl:=Option.some.inj H;have h0 : 0≤((a1):Int):=zzt;have h1:(a1) < (l0.length:Int):=zzt;obtain ⟨m5,h7,h8,k5,e6,e7,e8,e9,g0,g1,g2,g3⟩:=Q6 d0.out (a1) h0 h1;cases k5;replace e6:=zzx HB.out e6;replace e7:=zzx HB.out e7;replace e8:=zzx HB.out e8;replace e9:=zzx HB.out e9;replace g0:=zzx HB.out g0;replace g1:=zzx HB.out g1;have h5:=zzm g3;have h6:=zzm g2;clear g3 g2;replace h0:=eq_true h0;replace h1:=eq_true h1;go_wp2_with (first|((with_reducible refine gate_callee (f:=30) rfl ?_);refine goesL_ (some 38) rfl rfl Try.func30 (by kernel_rfl) rfl #[.agg #[.bool ((Qa l0 (a1)).f0),.bool ((Qa l0 (a1)).f1),.int .i64 ((Qa l0 (a1)).f2),.int .i64 ((Qa l0 (a1)).f3),.int .i64 ((Qa l0 (a1)).f4),.slice h7 ((Qa l0 (a1)).f5).length h8]] rfl (by (try simp only [map_toArray,map_cons,map_nil]);first|done|(simp only [hji13];rfl)|rfl|(simp only [length_drop,length_take];rfl)) ?_;(with_reducible refine (Rf.calls ((Qa l0 (a1)).f0) ((Qa l0 (a1)).f1) ((Qa l0 (a1)).f2) ((Qa l0 (a1)).f3) ((Qa l0 (a1)).f4) _ _ ((Qa l0 (a1)).f5) g9 _ ?side1 ?side2 l9.out).mono ?_);(case side1=>exact zzcb h5 HB);(case side2=>exact h6.out);rintro e n1 ⟨rfl,hb⟩;refine ⟨_,rfl,?_⟩;have c9:=zzm (zzp zzh1 hb);clear HB;have HB:=c9;clear c9;(try clear hb);(try clear hb2);(try clear hk);(try clear hi)));go_ret;exact ⟨by first|rfl|(simp [errW_none,errW_some] <;> rfl)|(simp only [← hji13];first|rfl|(simp [errW_none,errW_some] <;> rfl))|(simp [*,errW_none,errW_some] <;> rfl),zzh1⟩
      ·
       rw [if_neg h3] at H;exact absurd H (by simp)
     ·
      rw [if_neg h2] at H;exact absurd H (by simp)

set_option linter.unusedVariables false
set_option linter.unusedSimpArgs false
def Rq.f (a0_0:Bool) (a0_1:Bool) (a0_2:Int) (a0_3:Int) (a0_4:Int) (l0_5:List (S42)):Option (Bool):=if 0 < (l0_5.length:Int) then (if (((Qb l0_5 0).f5).length:Int)=1 then (if 0 < (((Qb l0_5 0).f5).length:Int) then (some ((rd ((Qb l0_5 0).f5) 0)==1)) else (none)) else (some false)) else (none)
set_option maxHeartbeats 8000000 in
theorem Rq.calls (c8:Bool) (c9:Bool) (d0:Int) (d1:Int) (d2:Int) (d3:Option Addr) (d4:Nat) (a0:List (S42)) (r:Bool) (w:World) (e6:Kd.C k42 w d3 a0.length a0) (e7:a0.length≤d4) (h:Rq.f c8 c9 d0 d1 d2 a0=some r) :
  Calls Try.prog 17 #[.agg #[.bool c8,.bool c9,.int .i64 d0,.int .i64 d1,.int .i64 d2,.slice d3 a0.length d4]] w fun e w'=>e = .returned (.bool r)∧Below w.heap.size w w':=by
 have hu39:=Try.underlying39;have d5:=zzm e6;have m3:=zzm e7;clear e6 e7;have HB:=zzm (Below.refl w.heap.size w);have H:(if 0 < (a0.length:Int) then (if (((Qb a0 0).f5).length:Int)=1 then (if 0 < (((Qb a0 0).f5).length:Int) then (some ((rd ((Qb a0 0).f5) 0)==1)) else (none)) else (some false)) else (none))=some r:=h;clear h;by_cases c2 : 0 < (a0.length:Int)
 ·
  rw [if_pos c2] at H;have m7:decide (0 < (a0.length:Int))=true:=decide_eq_true c2;have m8:decide (0 < a0.length)=true:=decide_eq_true (by omega);clear c2;by_cases c3:(((Qb a0 0).f5).length:Int)=1
  ·
   rw [if_pos c3] at H;obtain ⟨h2,h3⟩:=zzQ c3;clear c3;by_cases c4 : 0 < (((Qb a0 0).f5).length:Int)
   ·
    rw [if_pos c4] at H;have m9:decide (0 < (((Qb a0 0).f5).length:Int))=true:=decide_eq_true c4;have n0:decide (0 < ((Qb a0 0).f5).length)=true:=decide_eq_true (by omega);clear c4;obtain rfl:=Option.some.inj H;go_enter Try.func17,Try.ntmps17;go_wp2_with (first|((with_reducible refine gate_dst (N:=1) rfl ?_);refine box_event ?hg (N:=1) ?hd (cs:=#[.bool c8,.bool c9,.int .i64 d0,.int .i64 d1,.int .i64 d2,.slice d3 a0.length d4]) (t:=39) ?hr ?_;(case hd=>rfl);(case hg=>rfl);(case hr=>first|(go_simp;done)|(go_simp;rfl));intro c0 hg w5 hbox hb;have d7:=zzm (zzp zzh1 hb);have d8:=zzm (hbox);have d9:=zzm ((by rw [hg];exact (zzo zzh1):w.heap.size≤c0));have e0:=zzm ((by rw [hg];exact (zzo zzh1):w.heap.size≤c0));clear HB;have HB:=d7;have d6:=d8;have g8:=d9;have g9:=e0;clear d7 d8 d9 e0 hb hbox hg;obtain ⟨h9,j4,j5,j6,j7,j8,j9,k0,k1,k2,k3,k4⟩:=zzc6 d6.out;have b8 : 0≤(0:Int):=(by omega);have b9 : 0 < (a0.length:Int):=zzt;obtain ⟨e8,g4,g5,g6,g7,e1,a3,a4,a5,a1,a6,a2,a9,b0,b1,b2⟩:=Qt d5.out 0 b8 b9;cases e1;have h0:(0 < a0.length)=True:=eq_true (by omega);(try rw [show ((0:Int)).toNat=0 from rfl] at a3);(try rw [show 0 * 6=0 from rfl] at a3);(try rw [Addr.add_zero'] at a3);(try rw [show ((0:Int)).toNat=0 from rfl] at a4);(try rw [show 0 * 6=0 from rfl] at a4);(try rw [Addr.add_zero'] at a4);(try rw [show ((0:Int)).toNat=0 from rfl] at a5);(try rw [show 0 * 6=0 from rfl] at a5);(try rw [Addr.add_zero'] at a5);(try rw [show ((0:Int)).toNat=0 from rfl] at a1);(try rw [show 0 * 6=0 from rfl] at a1);(try rw [Addr.add_zero'] at a1);(try rw [show ((0:Int)).toNat=0 from rfl] at a6);(try rw [show 0 * 6=0 from rfl] at a6);(try rw [Addr.add_zero'] at a6);(try rw [show ((0:Int)).toNat=0 from rfl] at a2);(try rw [show 0 * 6=0 from rfl] at a2);(try rw [Addr.add_zero'] at a2);replace a3:=zzx HB.out a3;replace a4:=zzx HB.out a4;replace a5:=zzx HB.out a5;replace a1:=zzx HB.out a1;replace a6:=zzx HB.out a6;replace a2:=zzx HB.out a2;have e9:=zzm b0;have g0:=zzm a9;clear b0 a9;have g1:=zzm b2;have g2:=zzm b1;clear b2 b1;replace b8:=eq_true b8;replace b9:=eq_true b9;have e2 : 0≤(0:Int):=(by omega);have e3 : 0 < (a0.length:Int):=zzt;obtain ⟨h1,k5,k6,k7,k8,h4,b3,b4,b5,a7,b6,a8,c1,c5,c6,c7⟩:=Qt d5.out 0 e2 e3;obtain rfl:e8=h1:=(by injection h4);have m4:(0 < a0.length)=True:=eq_true (by omega);(try rw [show ((0:Int)).toNat=0 from rfl] at b3);(try rw [show 0 * 6=0 from rfl] at b3);(try rw [Addr.add_zero'] at b3);(try rw [show ((0:Int)).toNat=0 from rfl] at b4);(try rw [show 0 * 6=0 from rfl] at b4);(try rw [Addr.add_zero'] at b4);(try rw [show ((0:Int)).toNat=0 from rfl] at b5);(try rw [show 0 * 6=0 from rfl] at b5);(try rw [Addr.add_zero'] at b5);(try rw [show ((0:Int)).toNat=0 from rfl] at a7);(try rw [show 0 * 6=0 from rfl] at a7);(try rw [Addr.add_zero'] at a7);(try rw [show ((0:Int)).toNat=0 from rfl] at b6);(try rw [show 0 * 6=0 from rfl] at b6);(try rw [Addr.add_zero'] at b6);(try rw [show ((0:Int)).toNat=0 from rfl] at a8);(try rw [show 0 * 6=0 from rfl] at a8);(try rw [Addr.add_zero'] at a8);replace b3:=zzx HB.out b3;replace b4:=zzx HB.out b4;replace b5:=zzx HB.out b5;replace a7:=zzx HB.out a7;replace b6:=zzx HB.out b6;replace a8:=zzx HB.out a8;have h6:=zzm c5;have h7:=zzm c1;clear c5 c1;have g3:=zzm c7;have h8:=zzm c6;clear c7 c6;replace e2:=eq_true e2;replace e3:=eq_true e3;have ea_:=Option.some.inj (a1.symm.trans a7);injection ea_ with ea_ en_ ec_;subst ea_;subst ec_;clear en_;have ea_:=Option.some.inj (a2.symm.trans a8);injection ea_ with ea_ en_ ec_;subst ea_;subst ec_;clear en_;have e4 : 0≤(0:Int):=(by omega);have e5 : 0 < (((Qb a0 0).f5).length:Int):=zzt;obtain ⟨m5,h5,b7⟩:=Kd.at_int g3.out 0 e4 e5;cases h5;have m6:(0 < ((Qb a0 0).f5).length)=True:=eq_true (by omega);(try rw [show ((0:Int)).toNat=0 from rfl] at b7);(try rw [Addr.add_zero'] at b7);replace b7:=zzx HB.out b7;replace e4:=eq_true e4;replace e5:=eq_true e5));go_ret;exact ⟨zzR,zzh3⟩
   ·
    rw [if_neg c4] at H;exact absurd H (by simp)
  ·
   rw [if_neg c3] at H;obtain ⟨h2,h3⟩:=zzY c3;obtain rfl:=Option.some.inj H;go_enter Try.func17,Try.ntmps17;go_wp2_with (first|((with_reducible refine gate_dst (N:=1) rfl ?_);refine box_event ?hg (N:=1) ?hd (cs:=#[.bool c8,.bool c9,.int .i64 d0,.int .i64 d1,.int .i64 d2,.slice d3 a0.length d4]) (t:=39) ?hr ?_;(case hd=>rfl);(case hg=>rfl);(case hr=>first|(go_simp;done)|(go_simp;rfl));intro c0 hg w7 hbox hb;have d7:=zzm (zzp zzh1 hb);have d8:=zzm (hbox);have d9:=zzm ((by rw [hg];exact (zzo zzh1):w.heap.size≤c0));have e0:=zzm ((by rw [hg];exact (zzo zzh1):w.heap.size≤c0));clear HB;have HB:=d7;have d6:=d8;have g8:=d9;have g9:=e0;clear d7 d8 d9 e0 hb hbox hg;obtain ⟨k9,l2,l3,l4,l5,l6,l7,l8,l9,m0,m1,m2⟩:=zzc6 d6.out;have b8 : 0≤(0:Int):=(by omega);have b9 : 0 < (a0.length:Int):=zzt;obtain ⟨e8,g4,g5,g6,g7,e1,a3,a4,a5,a1,a6,a2,a9,b0,b1,b2⟩:=Qt d5.out 0 b8 b9;cases e1;have h0:(0 < a0.length)=True:=eq_true (by omega);(try rw [show ((0:Int)).toNat=0 from rfl] at a3);(try rw [show 0 * 6=0 from rfl] at a3);(try rw [Addr.add_zero'] at a3);(try rw [show ((0:Int)).toNat=0 from rfl] at a4);(try rw [show 0 * 6=0 from rfl] at a4);(try rw [Addr.add_zero'] at a4);(try rw [show ((0:Int)).toNat=0 from rfl] at a5);(try rw [show 0 * 6=0 from rfl] at a5);(try rw [Addr.add_zero'] at a5);(try rw [show ((0:Int)).toNat=0 from rfl] at a1);(try rw [show 0 * 6=0 from rfl] at a1);(try rw [Addr.add_zero'] at a1);(try rw [show ((0:Int)).toNat=0 from rfl] at a6);(try rw [show 0 * 6=0 from rfl] at a6);(try rw [Addr.add_zero'] at a6);(try rw [show ((0:Int)).toNat=0 from rfl] at a2);(try rw [show 0 * 6=0 from rfl] at a2);(try rw [Addr.add_zero'] at a2);replace a3:=zzx HB.out a3;replace a4:=zzx HB.out a4;replace a5:=zzx HB.out a5;replace a1:=zzx HB.out a1;replace a6:=zzx HB.out a6;replace a2:=zzx HB.out a2;have e9:=zzm b0;have g0:=zzm a9;clear b0 a9;have g1:=zzm b2;have g2:=zzm b1;clear b2 b1;replace b8:=eq_true b8;replace b9:=eq_true b9));go_ret;exact ⟨zzR,zzh3⟩
 ·
  rw [if_neg c2] at H;exact absurd H (by simp)
def Rw.f (a0_0:Int) (a0_1:Int) (a0_2:Bool) (l0_3:List Int) (a0_4:Bool) (l0_5:List Int):Option (Int×Int×Bool×List Int×Bool×List Int):=(some (([]:List Int):List Int)).bind fun y154=>(if y154.length+l0_3.length < 17592186044416 then ((some (([]:List Int):List Int)).bind fun y160=>(if y160.length+l0_5.length < 17592186044416 then (some (a0_0,a0_1,a0_2,(y154++l0_3),a0_4,(y160++l0_5))) else (none))) else (none))
set_option maxHeartbeats 8000000 in
theorem Rw.calls (a3:Int) (a4:Int) (a6:Bool) (b9:Option Addr) (c0:Nat) (a8:List Int) (a7:Bool) (b5:Option Addr) (b6:Nat) (a2:List Int) (r1:Int) (r2:Int) (r3:Bool) (r4:List Int) (r5:Bool) (r6:List Int) (w:World) (d0:Kd.C (Kd.int .i64) w b9 a8.length a8) (d1:a8.length≤c0) (d2:Kd.C (Kd.int .i64) w b5 a2.length a2) (d3:a2.length≤b6) (h:Rw.f a3 a4 a6 a8 a7 a2=some (r1,r2,r3,r4,r5,r6)) :
  Calls Try.prog 19 #[.agg #[.int .i64 a3,.int .i64 a4,.bool a6,.slice b9 a8.length c0,.bool a7,.slice b5 a2.length b6]] w fun e w'=>∃ d5 d6:Value,e = .returned (.agg #[.int .i64 r1,.int .i64 r2,.bool r3,d5,.bool r5,d6])∧Kd.R (Kd.int .i64) 3 w' w.heap.size (fun k_=>some k_≠(d6:Value).ownBlock) d5 r4∧Kd.R (Kd.int .i64) 3 w' w.heap.size (fun k_=>some k_≠(d5:Value).ownBlock) d6 r6∧Below w.heap.size w w':=by
 have hu42:=Try.underlying42;have d7:=zzm d0;have m9:=zzm d1;clear d0 d1;have d8:=zzm d2;have n0:=zzm d3;clear d2 d3;have HB:=zzm (Below.refl w.heap.size w);have H:((some (([]:List Int):List Int)).bind fun y154=>(if y154.length+a8.length < 17592186044416 then ((some (([]:List Int):List Int)).bind fun y160=>(if y160.length+a2.length < 17592186044416 then (some (a3,a4,a6,(y154++a8),a7,(y160++a2))) else (none))) else (none)))=some (r1,r2,r3,r4,r5,r6):=h;clear h;obtain ⟨y154,hy154⟩:∃ y_:List Int,y_=(([]:List Int)):=⟨_,rfl⟩;replace H:(if y154.length+a8.length < 17592186044416 then ((some (([]:List Int):List Int)).bind fun y160=>(if y160.length+a2.length < 17592186044416 then (some (a3,a4,a6,(y154++a8),a7,(y160++a2))) else (none))) else (none))=some (r1,r2,r3,r4,r5,r6):=by first|(rw [hy154];with_reducible exact H)|(have H2_:=(Option.bind_some _ _).symm.trans H;rw [hy154];with_reducible exact H2_)|(have H2_:=(Option.bind_some _ _).symm.trans H;with_reducible exact H2_)|with_reducible exact H|(rw [hy154];exact H)|exact H
 have Ny154:=zzm hy154;clear hy154;by_cases c2:y154.length+a8.length < 17592186044416
 ·
  rw [if_pos c2] at H;have LMc2:=zzm c2;clear c2;obtain ⟨y157,hy157⟩:∃ y_:List Int,y_=(y154++a8):=⟨_,rfl⟩;replace H:((some (([]:List Int):List Int)).bind fun y160=>(if y160.length+a2.length < 17592186044416 then (some (a3,a4,a6,y157,a7,(y160++a2))) else (none)))=some (r1,r2,r3,r4,r5,r6):=by first|(rw [hy157];with_reducible exact H)|(have H2_:=(Option.bind_some _ _).symm.trans H;rw [hy157];with_reducible exact H2_)|(have H2_:=(Option.bind_some _ _).symm.trans H;with_reducible exact H2_)|with_reducible exact H|(rw [hy157];exact H)|exact H
  have Ny157:=zzm hy157;clear hy157;obtain ⟨y160,hy160⟩:∃ y_:List Int,y_=(([]:List Int)):=⟨_,rfl⟩;replace H:(if y160.length+a2.length < 17592186044416 then (some (a3,a4,a6,y157,a7,(y160++a2))) else (none))=some (r1,r2,r3,r4,r5,r6):=by first|(rw [hy160];with_reducible exact H)|(have H2_:=(Option.bind_some _ _).symm.trans H;rw [hy160];with_reducible exact H2_)|(have H2_:=(Option.bind_some _ _).symm.trans H;with_reducible exact H2_)|with_reducible exact H|(rw [hy160];exact H)|exact H
  have Ny160:=zzm hy160;clear hy160;by_cases c3:y160.length+a2.length < 17592186044416
  ·
   rw [if_pos c3] at H;have LMc3:=zzm c3;clear c3;obtain ⟨y163,hy163⟩:∃ y_:List Int,y_=(y160++a2):=⟨_,rfl⟩;replace H:(some (a3,a4,a6,y157,a7,y163))=some (r1,r2,r3,r4,r5,r6):=by first|(rw [hy163];with_reducible exact H)|(have H2_:=(Option.bind_some _ _).symm.trans H;rw [hy163];with_reducible exact H2_)|(have H2_:=(Option.bind_some _ _).symm.trans H;with_reducible exact H2_)|with_reducible exact H|(rw [hy163];exact H)|exact H
   have Ny163:=zzm hy163;clear hy163;simp only [Option.some.injEq,Prod.mk.injEq] at H;obtain ⟨rfl,rfl,rfl,rfl,rfl,rfl⟩:=H;go_enter Try.func19,Try.ntmps19;go_wp2_with (first|((with_reducible refine gate_dst (N:=1) rfl ?_);refine box_event ?hg (N:=1) ?hd (cs:=#[.int .i64 a3,.int .i64 a4,.bool a6,.slice b9 a8.length c0,.bool a7,.slice b5 a2.length b6]) (t:=42) ?hr ?_;(case hd=>rfl);(case hg=>rfl);(case hr=>first|(go_simp;done)|(go_simp;rfl));intro a9 hg w4 hbox hb;have b1:=zzm (zzp zzh1 hb);have b2:=zzm (hbox);have b3:=zzm ((by rw [hg];exact (zzo zzh1):w.heap.size≤a9));have b4:=zzm ((by rw [hg];exact (zzo zzh1):w.heap.size≤a9));clear HB;have HB:=b1;have a0:=b2;have n1:=b3;have n2:=b4;clear b1 b2 b3 b4 hb hbox hg)|((with_reducible refine gate_dst (N:=2) rfl ?_);refine box_event ?hg (N:=2) ?hd (cs:=#[.int .i64 0,.int .i64 0,.bool false,.slice none 0 0,.bool false,.slice none 0 0]) (t:=42) ?hr ?_;(case hd=>rfl);(case hg=>rfl);(case hr=>first|(go_simp;done)|(go_simp;rfl));intro a1 hg w5 hbox hb;have b1:=zzm (zzh (g:=a9) (o:=.cells #[.int .i64 a3,.int .i64 a4,.bool a6,.slice b9 a8.length c0,.bool a7,.slice b5 a2.length b6] 42 (0,0)) (zzE a0.out) hb);have b2:=zzm (zzp zzh2 hb);have b3:=zzm (hbox);have b4:=zzm ((by rw [hg];exact (zzo zzh2):w.heap.size≤a1));have c4:=zzm ((by rw [hg];exact (zzo zzh2):w.heap.size≤a1));have d9:=zzm ((by rw [hg];exact Nat.ne_of_lt (blk_lt (g:=a9) (o:=.cells #[.int .i64 a3,.int .i64 a4,.bool a6,.slice b9 a8.length c0,.bool a7,.slice b5 a2.length b6] 42 (0,0)) (zzE a0.out)):a9≠a1));have e0:=zzm ((by rw [hg];exact Nat.ne_of_gt (blk_lt (g:=a9) (o:=.cells #[.int .i64 a3,.int .i64 a4,.bool a6,.slice b9 a8.length c0,.bool a7,.slice b5 a2.length b6] 42 (0,0)) (zzE a0.out)):a1≠a9));clear a0 HB;have a0:=b1;have HB:=b2;have a5:=b3;have n3:=b4;have n4:=c4;have c9:=d9;have c1:=e0;clear b1 b2 b3 b4 c4 d9 e0 hb hbox hg)|((with_reducible refine gate_dst (N:=3) rfl ?_);refine Kd.R_lit (Kd.int .i64) _ 3 ?hg (N:=3) ?hd (xs:=([]:List Int)) (inner:=[]) (ok:=fun _=>True) (okp:=fun _=>True) ?hr ?hp (fun _ hk=>hk) trivial (Below.refl _ _) (Nat.le_refl _) (by simp) ?_;(case hd=>rfl);(case hg=>rfl);(case hr=>first|(go_simp;done)|(go_simp;rfl));(case hp=>exact (Reps.none _ _));intro e1 w6 ho7 hb hg_ hnew_;clear hg_ hnew_;(first|rw [← Ny154.out] at ho7|(simp only [Int.reduceToNat] at ho7;rw [← Ny154.out] at ho7));have b1:=zzm (Kd.R_lower ho7 (zzo zzh2));have b2:=zzm (zzh (g:=a9) (o:=.cells #[.int .i64 a3,.int .i64 a4,.bool a6,.slice b9 a8.length c0,.bool a7,.slice b5 a2.length b6] 42 (0,0)) (zzE a0.out) hb);have b3:=zzm (zzh (g:=a1) (o:=.cells #[.int .i64 0,.int .i64 0,.bool false,.slice none 0 0,.bool false,.slice none 0 0] 42 (0,0)) (zzE a5.out) hb);have b4:=zzm (zzp zzh2 hb);clear a0 a5 HB;have c5:=b1;have a0:=b2;have a5:=b3;have HB:=b4;clear b1 b2 b3 b4 hb ho7;have n5:=c9.out;have n6:=c1.out;obtain ⟨l7,l8,l9,m0,m1,m2,m3,m4,m5,m6,m7,m8⟩:=zzc6 a0.out)|((with_reducible refine gate_builtin (b:=.append) (xs:=#[.tmp 3,.tmp 5]) rfl ?_);at_builtin;refine Kd.R_append_rows (Kd.int .i64) (w0:=w) w.heap.size rfl (.tmp 3) (.tmp 5) 40 3 (.int .i64 0) 8 rfl Try.underlying40 info3 rfl (by decide) (by omega) e1 y154 a8 _ _ _ (fun _=>True) (fun _=>False) rfl rfl ?aO ?aR (fun _ _ h=>h) (fun _ h=>h.elim) ?aF ?aB ?aS ?aL ?_;(case aR=>exact zzcb d7 HB);(case aB=>exact zzh2);(case aF=>exact (fun _ _=>trivial));(case aO=>exact (by (with_reducible repeat (first|apply Kd.R_alloc|apply Kd.R_drewN|apply Kd.R_drew));exact c5.out));(case aS=>exact (zzo zzh2));(case aL=>have:=LMc2.out;omega);intro n7 n9 ho hb hg hat;rw [← Ny157.out] at ho;have b1:=zzm (blk_grown (g:=a9) (o:=.cells #[.int .i64 a3,.int .i64 a4,.bool a6,.slice b9 a8.length c0,.bool a7,.slice b5 a2.length b6] 42 (0,0)) (zzE a0.out) hg (Kd.R_ne c5.out a0.out (by decide)));have b2:=zzm (blk_grown (g:=a1) (o:=.cells #[.int .i64 0,.int .i64 0,.bool false,.slice none 0 0,.bool false,.slice none 0 0] 42 (0,0)) (zzE a5.out) hg (Kd.R_ne c5.out a5.out (by decide)));have b3:=zzm (hb);have b4:=zzm (ho);clear a0 a5 HB c5;have a0:=b1;have a5:=b2;have HB:=b3;have b0:=b4;clear b1 b2 b3 b4 ho hb hg hat;obtain ⟨b7,b8,eo11⟩:=Kd.R_slice b0.out;subst eo11;obtain ⟨e3,e4,e5,e6,e7,e8,e9,g0,g1,g2,g3,g4⟩:=zzc6 a0.out)|((with_reducible refine gate_dst (N:=8) rfl ?_);refine Kd.R_lit (Kd.int .i64) _ 3 ?hg (N:=8) ?hd (xs:=([]:List Int)) (inner:=[]) (ok:=fun _=>True) (okp:=fun _=>True) ?hr ?hp (fun _ hk=>hk) trivial (Below.refl _ _) (Nat.le_refl _) (by simp) ?_;(case hd=>rfl);(case hg=>rfl);(case hr=>first|(go_simp;done)|(go_simp;rfl));(case hp=>exact (Reps.none _ _));intro e2 o0 ho14 hb hg_ hnew_;clear hg_ hnew_;(first|rw [← Ny160.out] at ho14|(simp only [Int.reduceToNat] at ho14;rw [← Ny160.out] at ho14));have b1:=zzm (Kd.R_elder' (by (with_reducible repeat (first|apply Kd.R_alloc|apply Kd.R_drewN|apply Kd.R_drew));exact (Kd.R_mono (Kd.R_far (p:=⟨a9,3,none⟩) (Kd.R_types b0.out a0.out (by decide)) (fun _ hk=>hk.2) (.slice b7 y157.length b8)) (fun _ h_=>h_.1))) (Kd.R_base ho14) hb);have b2:=zzm (Kd.R_lower (Kd.R_new' ho14 (Kd.R_lt (by (with_reducible repeat (first|apply Kd.R_alloc|apply Kd.R_drewN|apply Kd.R_drew));exact (Kd.R_mono (Kd.R_far (p:=⟨a9,3,none⟩) (Kd.R_types b0.out a0.out (by decide)) (fun _ hk=>hk.2) (.slice b7 y157.length b8)) (fun _ h_=>h_.1))))) (zzo zzh2));have b3:=zzm (zzh (g:=a9) (o:=.cells #[.int .i64 a3,.int .i64 a4,.bool a6,.slice b7 y157.length b8,.bool a7,.slice b5 a2.length b6] 42 (0,0)) (by (with_reducible repeat (first|apply zzf|apply zzg|apply zze));refine zzi (cs:=#[.int .i64 a3,.int .i64 a4,.bool a6,.slice b9 a8.length c0,.bool a7,.slice b5 a2.length b6]) ?_ 3 _ rfl;(with_reducible repeat (first|apply zzf|apply zzg|apply zze));exact a0.out) hb);have b4:=zzm (zzh (g:=a1) (o:=.cells #[.int .i64 0,.int .i64 0,.bool false,.slice none 0 0,.bool false,.slice none 0 0] 42 (0,0)) (by (with_reducible repeat (first|apply zzf|apply zzg|apply zze));refine zzj ?_ c1.out _;(with_reducible repeat (first|apply zzf|apply zzg|apply zze));exact a5.out) hb);have c4:=zzm (zzp zzh2 hb);clear b0 a0 a5 HB;have b0:=b1;have c6:=b2;have a0:=b3;have a5:=b4;have HB:=c4;clear b1 b2 b3 b4 c4 hb ho14;obtain ⟨g5,g6,g7,g8,g9,h0,h1,h2,h3,h4,h5,h6⟩:=zzc6 a0.out)|((with_reducible refine gate_builtin (b:=.append) (xs:=#[.tmp 8,.tmp 10]) rfl ?_);at_builtin;refine Kd.R_append_rows (Kd.int .i64) (w0:=w) w.heap.size rfl (.tmp 8) (.tmp 10) 40 3 (.int .i64 0) 8 rfl Try.underlying40 info3 rfl (by decide) (by omega) e2 y160 a2 _ _ _ (fun k_=>some k_≠(.slice b7 y157.length b8:Value).ownBlock) (fun _=>False) rfl rfl ?aO ?aR (fun _ _ h=>h) (fun _ h=>h.elim) ?aF ?aB ?aS ?aL ?_;(case aR=>exact zzcb d8 HB);(case aB=>exact zzh2);(case aF=>exact (fun k_ hk=>Kd.fresh' (Kd.R_lt (by (with_reducible repeat (first|apply Kd.R_alloc|apply Kd.R_drewN|apply Kd.R_drew));exact b0.out)) k_ hk));(case aO=>exact (by (with_reducible repeat (first|apply Kd.R_alloc|apply Kd.R_drewN|apply Kd.R_drew));exact Kd.R_mono c6.out (fun _ hk=>hk.2)));(case aS=>exact (zzo zzh2));(case aL=>have:=LMc3.out;omega);intro n8 o1 ho hb hg hat;rw [← Ny163.out] at ho;have b1:=zzm (blk_grown (g:=a9) (o:=.cells #[.int .i64 a3,.int .i64 a4,.bool a6,.slice b7 y157.length b8,.bool a7,.slice b5 a2.length b6] 42 (0,0)) (zzE a0.out) hg (Kd.R_ne c6.out a0.out (by decide)));have b2:=zzm (blk_grown (g:=a1) (o:=.cells #[.int .i64 0,.int .i64 0,.bool false,.slice none 0 0,.bool false,.slice none 0 0] 42 (0,0)) (zzE a5.out) hg (Kd.R_ne c6.out a5.out (by decide)));have b3:=zzm (Kd.R_after (ok:=(fun _=>True)) (by (with_reducible repeat (first|apply Kd.R_alloc|apply Kd.R_drewN|apply Kd.R_drew));exact b0.out) hg hat);have b4:=zzm (hb);have c4:=zzm (ho);clear a0 a5 b0 HB c6;have a0:=b1;have a5:=b2;have b0:=b3;have HB:=b4;have d4:=c4;clear b1 b2 b3 b4 c4 ho hb hg hat;obtain ⟨c7,c8,eo17⟩:=Kd.R_slice d4.out;subst eo17;obtain ⟨h7,h8,h9,j4,j5,j6,j7,j8,j9,k0,k1,k2⟩:=zzc6 a0.out;obtain ⟨k3,k4,k5,k6,k7,k8,k9,l2,l3,l4,l5,l6⟩:=zzc6 a5.out));refine bodyPost_ret (results_cell_row rfl _ _ a1 42 #[.int .i64 a3,.int .i64 a4,.bool a6,.slice b7 y157.length b8,.bool a7,.slice c7 y163.length c8] (0,0) _ rfl (by (with_reducible repeat (first|apply zzf|apply zzg|apply zze));refine zzi (cs:=#[.int .i64 a3,.int .i64 a4,.bool a6,.slice b7 y157.length b8,.bool a7,.slice none 0 0]) ?_ 5 _ rfl;refine zzi (cs:=#[.int .i64 a3,.int .i64 a4,.bool a6,.slice b7 y157.length b8,.bool false,.slice none 0 0]) ?_ 4 _ rfl;refine zzi (cs:=#[.int .i64 a3,.int .i64 a4,.bool a6,.slice none 0 0,.bool false,.slice none 0 0]) ?_ 3 _ rfl;refine zzi (cs:=#[.int .i64 a3,.int .i64 a4,.bool false,.slice none 0 0,.bool false,.slice none 0 0]) ?_ 2 _ rfl;refine zzi (cs:=#[.int .i64 a3,.int .i64 0,.bool false,.slice none 0 0,.bool false,.slice none 0 0]) ?_ 1 _ rfl;refine zzi (cs:=#[.int .i64 0,.int .i64 0,.bool false,.slice none 0 0,.bool false,.slice none 0 0]) ?_ 0 _ rfl;(with_reducible repeat (first|apply zzf|apply zzg|apply zze));refine zzj ?_ c1.out _;(with_reducible repeat (first|apply zzf|apply zzg|apply zze));exact a5.out) Try.underlying42 rfl (by kernel_rfl)) rfl ?_;exact ⟨_,_,zzR,by (with_reducible repeat (first|apply Kd.R_alloc|apply Kd.R_drewN|apply Kd.R_drew));exact Kd.R_mono (Kd.R_far (p:=⟨a1,5,none⟩) (Kd.R_far (p:=⟨a1,4,none⟩) (Kd.R_far (p:=⟨a1,3,none⟩) (Kd.R_far (p:=⟨a1,2,none⟩) (Kd.R_far (p:=⟨a1,1,none⟩) (Kd.R_far (p:=⟨a1,0,none⟩) (Kd.R_far (p:=⟨a9,5,none⟩) (Kd.R_types (Kd.R_types b0.out a0.out (by decide)) a5.out (by decide)) (fun _ hk=>hk.1.2) (.slice c7 y163.length c8)) (fun _ hk=>hk.2) (.int .i64 a3)) (fun _ hk=>hk.2) (.int .i64 a4)) (fun _ hk=>hk.2) (.bool a6)) (fun _ hk=>hk.2) (.slice b7 y157.length b8)) (fun _ hk=>hk.2) (.bool a7)) (fun _ hk=>hk.2) (.slice c7 y163.length c8)) (fun _ hk=>hk.1.1.2),by (with_reducible repeat (first|apply Kd.R_alloc|apply Kd.R_drewN|apply Kd.R_drew));exact Kd.R_mono (Kd.R_far (p:=⟨a1,5,none⟩) (Kd.R_far (p:=⟨a1,4,none⟩) (Kd.R_far (p:=⟨a1,3,none⟩) (Kd.R_far (p:=⟨a1,2,none⟩) (Kd.R_far (p:=⟨a1,1,none⟩) (Kd.R_far (p:=⟨a1,0,none⟩) (Kd.R_far (p:=⟨a9,5,none⟩) (Kd.R_types (Kd.R_types d4.out a0.out (by decide)) a5.out (by decide)) (fun _ hk=>hk.1.2) (.slice c7 y163.length c8)) (fun _ hk=>hk.2) (.int .i64 a3)) (fun _ hk=>hk.2) (.int .i64 a4)) (fun _ hk=>hk.2) (.bool a6)) (fun _ hk=>hk.2) (.slice b7 y157.length b8)) (fun _ hk=>hk.2) (.bool a7)) (fun _ hk=>hk.2) (.slice c7 y163.length c8)) (fun _ hk=>hk.1.1),zzh3⟩
  ·
   rw [if_neg c3] at H;exact absurd H (by simp)
 ·
  rw [if_neg c2] at H;exact absurd H (by simp)
end Go.Proofs.Ytmloblepcbimkaa.T
