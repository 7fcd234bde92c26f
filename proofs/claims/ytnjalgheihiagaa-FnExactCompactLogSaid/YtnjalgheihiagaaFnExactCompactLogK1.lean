/- The law FnExactCompactLog holds (part 2 of 6; merged by pack2.py). -/
import Derived.Test.YtnjalgheihiagaaRows
import Derived.JoinedOf
import Derived.Test.YtnjalgheihiagaaProg
import Derived.Test.YtnjalgheihiagaaFnExactCompactLogK0
set_option maxRecDepth 1000000
open List (setIfInBounds_toArray set_cons_zero set_cons_succ map_toArray map_cons map_nil length_drop length_take)
namespace Go.Proofs.YtnjalgheihiagaaW.PrintWords
open Go.RowKit Go.Proofs.YtnjalgheihiagaaW.PrintLast
inductive Grew (W : World) : World → Prop
  | refl : Grew W W
  | alloc {V : World} (h : Grew W V) (o : Obj) : Grew W (V.alloc o)
  | drewN {V : World} (h : Grew W V) (n : Nat) : Grew W (V.drewN n)
  | drew {V : World} (h : Grew W V) : Grew W V.drew
theorem zzS {α : Type} {d : Kd α} {e base : Nat} {W W' : World} {ok : Nat → Prop} {v : Value} {xs : List α} (h : Kd.S d e W base ok v xs) (g : Grew W W' := by with_reducible repeat (first | exact Grew.refl | refine Grew.alloc ?_ _ | refine Grew.drewN ?_ _ | refine Grew.drew ?_)) : Kd.S d e W' base ok v xs := by
  induction g with
  | refl => exact h
  | alloc _ _ ih => exact Kd.S_alloc ih _
  | drewN _ _ ih => exact Kd.S_drewN ih _
  | drew _ ih => exact Kd.S_drew ih
theorem zzE {W W' : World} {b : Nat} {o : Obj} (h : W.heap[b]? = some o) (g : Grew W W' := by with_reducible repeat (first | exact Grew.refl | refine Grew.alloc ?_ _ | refine Grew.drewN ?_ _ | refine Grew.drew ?_)) : W'.heap[b]? = some o := by
  induction g with
  | refl => exact h
  | alloc _ _ ih => exact blk_alloc ih _
  | drewN _ _ ih => exact blk_drewN ih _
  | drew _ ih => exact blk_drew ih
theorem zzh2 {w W : World} (h : Below w.heap.size w W := by repeat (first | (with_reducible first | exact HB.out | apply zza | apply zzb | apply zzc | refine zzd ?_ (Aside0.out (by with_reducible assumption))) | exact HB.out)) : Below w.heap.size w W := h
theorem zzJ : (∀ {α : Type} {l : List α} {i : Nat} {a : α}, l.toArray.setIfInBounds i a = (l.set i a).toArray) ∧ (∀ {α : Type} {xs : List α} {a b : α}, (a :: xs).set 0 b = b :: xs) ∧ (∀ {α : Type} {xs : List α} {i : Nat} {a b : α}, (a :: xs).set (i + 1) b = a :: xs.set i b) ∧ (∀ n : Int, IntKind.i64.wrap n = Go.RowKit.wrap64 n) ∧ (∀ n : Int, IntKind.i32.wrap n = Go.RowKit.wrap32 n) ∧ (∀ (a : Act) (d : Tmp) (v : Value), a.put (some d) v = { a with tmps := a.tmps.setIfInBounds d v }) ∧ ∀ (a : Act) (v : Value), a.put none v = a := ⟨zzq, zzr, zzs, i64_w, i32_w, fun _ _ _ => rfl, fun _ _ => rfl⟩
theorem zzH {α β : Type} {o : Option α} {f : α → Option β} {b : β} (h : o.bind f = some b) : ∃ a, o = some a ∧ f a = some b := Option.bind_eq_some_iff.mp h
theorem zzR {α : Sort _} {x y : α} (h : x = y := by first | rfl | (simp [errW_none, errW_some] <;> rfl) | (simp [*, errW_none, errW_some] <;> rfl)) : x = y := h
theorem zzM2 {α : Type} {x y : α} (h : x = y := by (try simp only [List.map_toArray, List.map_cons, List.map_nil]); first | done | rfl | (simp only [List.length_drop, List.length_take]; rfl)) : x = y := h
theorem zzA2 {md : Region.Mode} {ops : Array Oper} {T : Bool × List (List Nat × List Nat)} {l l' : Array Bool} {i : Nat} (hT : rtab md ops = T) (h : anyT T l.toList l'.toList i = true := by kernel_rfl) : anyB md ops l l' i = true := any_of hT h
end Go.Proofs.YtnjalgheihiagaaW.PrintWords
namespace Go.Proofs.YtnjalgheihiagaaW.PrintWords
open Go.RowKit Go.Proofs.YtnjalgheihiagaaW.PrintLast
theorem zzC {α : Type} {d : Kd α} {W W' : World} {A : Option Addr} {n : Nat} {xs : List α} (h : Kd.C d W A n xs) (g : Grew W W' := by with_reducible repeat (first | exact Grew.refl | refine Grew.alloc ?_ _ | refine Grew.drewN ?_ _ | refine Grew.drew ?_)) : Kd.C d W' A n xs := by
  induction g with
  | refl => exact h
  | alloc _ _ ih => exact Kd.C_alloc ih _
  | drewN _ _ ih => exact Kd.C_drewN ih _
  | drew _ ih => exact Kd.C_drew ih
end Go.Proofs.YtnjalgheihiagaaW.PrintWords
namespace Go.Proofs.YtnjalgheihiagaaW.PrintWords
open Go.RowKit Go.Proofs.YtnjalgheihiagaaW.PrintLast
section
variable {P:Program} {md:Region.Mode} {ops:Array Oper} {ds:List Nat} {T:Bool×List (List Nat×List Nat)} {B:List Nat} {Q:Exit→Act→World→Prop} {S:World→Prop} {oi:Oper} {v:Value} {fuel:Nat} {l:Array Bool} {a a':Act} {w:World}
theorem zzP (i N c m:Nat) (HT:Aside0 (rtab md ops=T)) (h:wpAnyLast P md ops Q S ds fuel (zzB c m) a' w) (hi:ops[i]?=some oi:=by exact rfl) (hN:oi.dst=some N:=by exact rfl) (hc:anyT T l.toList (zzB c m).toList i=true:=by kernel_rfl) (hw:Region.wanted oi (yielded ops a.tmps)=true:=by rfl) (hy:∀ w,(execOp a.eval oi).run P w=.ok (.value v) w:=by intro w';go_simp;with_reducible rfl) (ha:a.put (some N) v=a':=by simp only [zzJ];rfl) (hQ:∀ c a w,Q (.panic c) (a.put oi.dst v) w→Q (.panic c) a w:=by exact fun _ _ _ h=>h):wpAnyLast P md ops Q S ds (fuel+1) l a w:=pure_ (zzB c m) hi hN (any_of HT.out hc) hQ (Or.inl ⟨hw,hy⟩) ha h
theorem zzU (i N c m:Nat) (HT:Aside0 (rtab md ops=T)) (h:wpAnyLast P md ops Q S ds fuel (zzB c m) a' w) (hi:ops[i]?=some oi:=by exact rfl) (hN:oi.dst=some N:=by exact rfl) (hc:anyT T l.toList (zzB c m).toList i=true:=by kernel_rfl) (hw:Region.wanted oi (yielded ops a.tmps)=false:=by rfl) (ha:a.put (some N) undef=a':=by simp only [zzJ];rfl) (hQ:∀ c a w,Q (.panic c) (a.put oi.dst undef) w→Q (.panic c) a w:=by exact fun _ _ _ h=>h):wpAnyLast P md ops Q S ds (fuel+1) l a w:=pure_ (zzB c m) hi hN (any_of HT.out hc) hQ (Or.inr ⟨hw,rfl⟩) ha h
theorem zzT (i N c m:Nat) (HT:Aside0 (rtab md ops=T)) (HW:Aside0 (waitsOk T.2 B=true)) (hS:S w) (h:wpAnyLast P md ops Q S ds fuel (zzB c m) a' w) (hi:ops[i]?=some oi:=by exact rfl) (hN:oi.dst=some N:=by exact rfl) (hc:takeW T B ds l.toList (zzB c m).toList i=true:=by kernel_rfl) (hw:Region.wanted oi (yielded ops a.tmps)=true:=by rfl) (hy:∀ w,S w→(execOp a.eval oi).run P w=.ok (.value v) w:=by intro w';(try simp only [and_imp]);intros;go_simp;with_reducible rfl) (ha:a.put (some N) v=a':=by simp only [zzJ];rfl) (hQ:∀ c a w,Q (.panic c) (a.put oi.dst v) w→Q (.panic c) a w:=by exact fun _ _ _ h=>h):wpAnyLast P md ops Q S ds (fuel+1) l a w:=take_ (zzB c m) hi hN (take_ofW HT.out HW.out hc) hQ (Or.inl ⟨hw,hy⟩) hS ha h
theorem zzO (N:Nat) {a0:Act} (h:wpAnyLast P md ops Q S ds fuel l a' w) (e:a=a0.put (some N) v:=by exact rfl) (ha:a0.put (some N) v=a':=by simp only [zzJ];rfl):wpAnyLast P md ops Q S ds fuel l a w:=norm_ (e.trans ha) h
end
theorem zzIt {α:Type} {a b c:α} {i:Decidable (true=true)} (h:(@ite α (true=true) i a b)=c):a=c:=by rw [if_pos rfl] at h;exact h
theorem zzIf {α:Type} {a b c:α} {i:Decidable (false=true)} (h:(@ite α (false=true) i a b)=c):b=c:=by rw [if_neg (fun e=>Bool.noConfusion e)] at h;exact h
theorem zzG {α β:Type} {o:Option α} {f:α→Option β} {b:β} (h:o.bind f=some b):∃ a,Aside0 (o=some a)∧f a=some b:=let ⟨a,x,y⟩:=Option.bind_eq_some_iff.mp h;⟨a,⟨x⟩,y⟩
theorem zzQ {α:Type} [BEq α] [LawfulBEq α] {a b:α} (h:a=b):(a==b)=true∧(a != b)=false:=⟨beq_iff_eq.mpr h,bne_eq_false_iff_eq.mpr h⟩
theorem zzY {α:Type} [BEq α] [LawfulBEq α] {a b:α} (h:¬ a=b):(a==b)=false∧(a != b)=true:=⟨beq_eq_false_iff_ne.mpr h,bne_iff_ne.mpr h⟩
theorem zzh3 {w W:World} (h:Below w.heap.size w W:=by repeat (first|(with_reducible first|exact HB.out|apply zza|apply zzb|apply zzc|refine zzd ?_ (Aside0.out (by with_reducible assumption)))|exact HB.out)):Below w.heap.size w W:=h
theorem zzcb {α:Type} {d:Kd α} {W V W':World} {A:Option Addr} {n:Nat} {xs:List α} (h:Aside0 (Kd.C d W A n xs)) (HB:Aside0 (Below W.heap.size W V)) (g:Grew V W':=by with_reducible repeat (first|exact Grew.refl|refine Grew.alloc ?_ _|refine Grew.drewN ?_ _|refine Grew.drew ?_)):Kd.C d W' A n xs:=zzC (Kd.C_below h.out HB.out) g
theorem zzaf {a:Addr} {n g:Nat} (h:a.block≠g):(a.add n).block≠g:=by rw [add_block];exact h
end Go.Proofs.YtnjalgheihiagaaW.PrintWords
namespace Go.Proofs.Ytnjalgheihiagaa.Head
open Go
theorem make_of (P : Program) (w : List Char) (R : List (List Char)) (h : behindMainWord (wordsSigns P.initOrder.toList) = w :: R) (h1 : (w == "gc".toList || w == "spec".toList) = false) (h2 : (w == "cut".toList) = true) : P.make = some .cut := by
 unfold Program.make
 rw [h]
 simp only [h1,h2,Bool.true_or,if_true,Bool.false_eq_true,if_false]
theorem enter_of (P : Program) (w : List Char) (R : List (List Char)) (h : behindMainWord (wordsSigns P.initOrder.toList) = w :: R) (h2 : stripLifts liftWords (w :: R) = ([], w :: R)) (h3 : ((w :: R).head? == some "cut".toList) = true)
  (h4:P.laysLater=false) (h5:P.bearsReflect=false) (h6:P.doorFits []=true):P.mayEnter=true:=by
 unfold Program.mayEnter
 rw [h]
 simp only [h2,h3,h4,h5,h6,List.contains_nil,Bool.not_false,Bool.and_self,Bool.or_true]
theorem lifts_of (P : Program) (w : List Char) (R : List (List Char)) (h : behindMainWord (wordsSigns P.initOrder.toList) = w :: R) (h2 : stripLifts liftWords (w :: R) = ([], w :: R)) (h3 : ((w :: R).head? == some "carried".toList) = false) : P.liftsFinal = false := by
 unfold Program.liftsFinal Program.headLifts
 rw [h]
 simp only [h2,h3,Bool.false_and,Bool.false_or,List.contains_nil,ite_self]
def chs (l:List Nat):List Char:=l.map Char.ofNat
theorem wordsSigns_word:∀ (w r:List Char),(∀ c∈w,c≠Char.ofNat 32)→wordsSigns (w++Char.ofNat 32::r)=w::wordsSigns r
 | [],r,_=>rfl
 | c::w,r,h=>by
  have ih:=wordsSigns_word w r (fun x hx=>h x (List.mem_cons_of_mem _ hx))
  have hc:c≠Char.ofNat 32:=h c List.mem_cons_self
  rw [List.cons_append,wordsSigns,ih]
  exact hc
def word1:List Nat:=[104,97,114,110,101,115,115]
def word2:List Nat:=[52,57,99,100,49,57,100,101,98,50,55,49,50,101,54,101,48,57,56,51,54,48,48,55,54,97,98,51,55,55,99,100,101,102,102,97,49,51,49,100,54,55,54,51,55,101,98,53,56,53,52,53,99,98,53,97,57,97,56,100,102,50,48,53]
def word3:List Nat:=[99,117,116]
def signs:List Nat:=[97,116,32,108,111,111,112,46,101,120,97,109,112,108,101,47,114,101,99,111,114,100,98,97,116,99,104,101,115,47,108,97,119,115,46,70,110,69,120,97,99,116,67,111,109,112,97,99,116,76,111,103]
theorem init_is:Try.prog.initOrder=String.ofList (chs word1++Char.ofNat 32::(chs word2++Char.ofNat 32::(chs word3++Char.ofNat 32::chs signs))):=by kernel_rfl
theorem init_words:wordsSigns Try.prog.initOrder.toList=chs word1::chs word2::chs word3::wordsSigns (chs signs):=by
 rw [init_is,String.toList_ofList,wordsSigns_word _ _ (by decide +kernel),wordsSigns_word _ _ (by decide +kernel),wordsSigns_word _ _ (by decide +kernel)]
theorem behind_is:∃ R,behindMainWord (wordsSigns Try.prog.initOrder.toList)=chs word3::R:=by
 rw [init_words]
 generalize wordsSigns (chs signs)=R
 exact ⟨R,by kernel_rfl⟩
theorem strip_is (R:List (List Char)):stripLifts liftWords (chs word3::R)=([],chs word3::R):=by kernel_rfl
theorem make_is:Try.prog.make=some .cut:=by
 obtain ⟨R,h⟩:=behind_is
 exact make_of _ _ R h (by kernel_rfl) (by kernel_rfl)
theorem lays_later:Try.prog.laysLater=false:=by kernel_rfl
theorem bears_reflect:Try.prog.bearsReflect=false:=by kernel_rfl
theorem door_fits:Try.prog.doorFits []=true:=by kernel_rfl
theorem may_enter:Try.prog.mayEnter=true:=by
 obtain ⟨R,h⟩:=behind_is
 exact enter_of _ _ R h (strip_is R) (by kernel_rfl) lays_later bears_reflect door_fits
theorem lifts_final:Try.prog.liftsFinal=false:=by
 obtain ⟨R,h⟩:=behind_is
 exact lifts_of _ _ R h (strip_is R) (by kernel_rfl)
theorem and2 {a b:Bool} (h:a=true) (h2:b=true):(a&&b)=true:=by rw [h,h2];rfl
theorem closed_of (P:Program) (f:FuncId) (fn:Func) (s:ChangeSpec) (c:OpenClaim) (k0:(c.wf (OpenSpec.ofChange s))=true) (k1:(laidOutB P)=true) (k2:(mapsRowed P)=true) (k3:(fn.params.all (P.readableRec ·))=true) (k4:(namedTie P c.named s.vars)=true) (k5:((c.stops == []))=true) (k6:((P.stops == []))=true) (k7:((c.knobs == []))=true) (k8:((P.stopKnobs == []))=true) (k9:((c.inPlace==P.inPlace f))=true) (k10:((c.unfollowed==P.unfollowed f))=true) (k11:((c.recurses==P.recurses f))=true) (k12:((c.named==P.varsNamed f))=true) (k13:((c.maps==(fn.params.toList++s.plain.varTypes P).any (P.mapsRec ·)))=true) (k14:((c.ifaces==(fn.params.toList++s.plain.varTypes P).any (P.ifacesRec ·)))=true) (k15:((c.mapsOut==P.mapsAmong fn.resultTypes.toList))=true) (k16:((c.loops==(fn.params.toList++s.plain.varTypes P).any (P.loopsFrom ·)))=true) (k17:((c.wideKeys==(fn.params.toList++s.plain.varTypes P++fn.resultTypes.toList).any (P.wideKeysFrom ·)))=true) (k18:(s.vars.all (P.varReadable ·))=true) (k19:(fn.resultTypes.all (fun t=>P.readableRec t&&decide (t < P.types.size)))=true) (k20:((c.ifacesOut==fn.resultTypes.toList.any (P.ifacesRec ·)))=true) (k21:((c.loopsOut==fn.resultTypes.toList.any (P.loopsFrom ·)))=true) (k22:((c.plainKeys==P.plainKeys))=true) (k23:(c.shortTexts.isNone)=true) (k24:(P.stopsHeard)=true) (k25:(P.mayEnter)=true) (k26:((c.lifted==P.liftsFinal))=true) (k27:((P.make==some c.make))=true) (k28:((c.kinds==(if c.domain.isEmpty then [] else fn.params.toList.map fun t=>match P.underlying t with|some (.int k)=>some k|_=>none)))=true) (k29:((c.pinned==c.pinnedBy))=true) (k30:((c.veiled==(fn.params.toList++s.plain.varTypes P++fn.resultTypes.toList).any (P.veiledRec ·)))=true) (k31:(c.veiledFits P fn.params.toList (fn.params.toList++s.plain.varTypes P++fn.resultTypes.toList))=true):joinedFacts P f fn s c=true:=by
 unfold joinedFacts
 exact (and2 (and2 (and2 (and2 (and2 (and2 (and2 (and2 (and2 (and2 (and2 (and2 (and2 (and2 (and2 (and2 (and2 (and2 (and2 (and2 (and2 (and2 (and2 (and2 (and2 (and2 (and2 (and2 (and2 (and2 (and2 k0 k1) k2) k3) k4) k5) k6) k7) k8) k9) k10) k11) k12) k13) k14) k15) k16) k17) k18) k19) k20) k21) k22) k23) k24) k25) k26) k27) k28) k29) k30) k31)
end Go.Proofs.Ytnjalgheihiagaa.Head
namespace Go.Proofs.Ytnjalgheihiagaa.T
open Go.RowKit Go.Proofs.YtnjalgheihiagaaW.PrintWords Go.Proofs.YtnjalgheihiagaaW.PrintLast Go.Proofs.YtnjalgheihiagaaW.PrintMore

set_option linter.unusedVariables false
set_option linter.unusedSimpArgs false
def errW:Option Int→Value
 | none=>.nilIface
 | some c=>.iface 0 (.int .i64 c)
theorem errW_none:errW none = .nilIface:=rfl
theorem errW_some (c:Int):errW (some c) = .iface 0 (.int .i64 c):=rfl
theorem info3:(Try.prog.info? 3).map (fun i=>(i.zero,i.size,i.bytes))=some (some (.int .i64 0),1,8):=by kernel_rfl
theorem info39:(Try.prog.info? 39).map (fun i=>(i.zero,i.size,i.bytes))=some (some (.agg #[(.bool false),(.bool false),(.int .i64 0),(.int .i64 0),(.int .i64 0),(.slice none 0 0)]),6,56):=by kernel_rfl
theorem info47:(Try.prog.info? 47).map (fun i=>(i.zero,i.size,i.bytes))=some (some (.agg #[(.int .i64 0),(.int .i64 0),(.bool false),(.slice none 0 0),(.bool false),(.slice none 0 0)]),6,80):=by kernel_rfl
structure S70 where
 f0:Int
 f1:Int
 f2:Bool
 f3:(List Int)
 f4:Bool
 f5:(List Int)
def z70:S70:=⟨(0:Int),(0:Int),false,([]:List Int),false,([]:List Int)⟩
def k70:Kd S70:=Kd.iso (Kd.pair (Kd.int .i64) (Kd.pair (Kd.int .i64) (Kd.pair Kd.bool (Kd.pair (Kd.slice 3 (Kd.int .i64)) (Kd.pair Kd.bool (Kd.slice 3 (Kd.int .i64))))))) (fun x:S70=>(x.f0,x.f1,x.f2,x.f3,x.f4,x.f5))
theorem k70_open {w:World} {x:S70} {cs:List Value} (h:k70.K w x cs):∃ A3 c3 A5 c5,cs = [.int .i64 x.f0,.int .i64 x.f1,.bool x.f2,.slice A3 x.f3.length c3,.bool x.f4,.slice A5 x.f5.length c5]∧x.f3.length≤c3∧(Kd.int .i64).C w A3 x.f3.length x.f3∧x.f5.length≤c5∧(Kd.int .i64).C w A5 x.f5.length x.f5:=by
 obtain ⟨_,_,rfl,rfl,⟨_,_,rfl,rfl,⟨_,_,rfl,rfl,⟨_,_,rfl,⟨A3,c3,rfl,l3,g3⟩,⟨_,_,rfl,rfl,⟨A5,c5,rfl,l5,g5⟩⟩⟩⟩⟩⟩:=h;exact ⟨A3,c3,A5,c5,rfl,l3,g3,l5,g5⟩
def Qu (xs:List S70) (i:Int):S70:=xs.getD i.toNat z70
theorem at_T70 {w:World} {A:Option Addr} {n:Nat} {xs:List S70} (h:Kd.C k70 w A n xs) (i:Int) (h0 : 0≤i) (h1:i < n):∃ ad A3 c3 A5 c5,A=some ad∧w.cell? (ad.add (i.toNat * 6))=some (.int .i64 (Qu xs i).f0)∧w.cell? ⟨(ad.add (i.toNat * 6)).block,(ad.add (i.toNat * 6)).off+1,none⟩=some (.int .i64 (Qu xs i).f1)∧w.cell? ⟨(ad.add (i.toNat * 6)).block,(ad.add (i.toNat * 6)).off+2,none⟩=some (.bool (Qu xs i).f2)∧w.cell? ⟨(ad.add (i.toNat * 6)).block,(ad.add (i.toNat * 6)).off+3,none⟩=some (.slice A3 (Qu xs i).f3.length c3)∧w.cell? ⟨(ad.add (i.toNat * 6)).block,(ad.add (i.toNat * 6)).off+4,none⟩=some (.bool (Qu xs i).f4)∧w.cell? ⟨(ad.add (i.toNat * 6)).block,(ad.add (i.toNat * 6)).off+5,none⟩=some (.slice A5 (Qu xs i).f5.length c5)∧(Qu xs i).f3.length≤c3∧(Kd.int .i64).C w A3 (Qu xs i).f3.length (Qu xs i).f3∧(Qu xs i).f5.length≤c5∧(Kd.int .i64).C w A5 (Qu xs i).f5.length (Qu xs i).f5:=by
 obtain ⟨ad,c,e,_,hK,hc0⟩:=Kd.C_get h z70 i h0 h1;have hc:∀ j u,c[j]? = some u→w.cell? (ad.add (i.toNat * 6+j))=some u:=hc0;obtain ⟨A3,c3,A5,c5,rfl,l3,g3,l5,g5⟩:=k70_open hK;exact ⟨ad,A3,c3,A5,c5,e,hc 0 _ rfl,by rw [← add_field _ _ 1 (by omega)];exact hc 1 _ rfl,by rw [← add_field _ _ 2 (by omega)];exact hc 2 _ rfl,by rw [← add_field _ _ 3 (by omega)];exact hc 3 _ rfl,by rw [← add_field _ _ 4 (by omega)];exact hc 4 _ rfl,by rw [← add_field _ _ 5 (by omega)];exact hc 5 _ rfl,l3,g3,l5,g5⟩
structure S34 where
 f0:Bool
 f1:Bool
 f2:Int
 f3:Int
 f4:Int
 f5:(List S70)
def z34:S34:=⟨false,false,(0:Int),(0:Int),(0:Int),([]:List S70)⟩
def k34:Kd S34:=Kd.iso (Kd.pair Kd.bool (Kd.pair Kd.bool (Kd.pair (Kd.int .i64) (Kd.pair (Kd.int .i64) (Kd.pair (Kd.int .i64) (Kd.slice 70 k70)))))) (fun x:S34=>(x.f0,x.f1,x.f2,x.f3,x.f4,x.f5))
theorem k34_open {w:World} {x:S34} {cs:List Value} (h:k34.K w x cs):∃ A5 c5,cs = [.bool x.f0,.bool x.f1,.int .i64 x.f2,.int .i64 x.f3,.int .i64 x.f4,.slice A5 x.f5.length c5]∧x.f5.length≤c5∧k70.C w A5 x.f5.length x.f5:=by
 obtain ⟨_,_,rfl,rfl,⟨_,_,rfl,rfl,⟨_,_,rfl,rfl,⟨_,_,rfl,rfl,⟨_,_,rfl,rfl,⟨A5,c5,rfl,l5,g5⟩⟩⟩⟩⟩⟩:=h;exact ⟨A5,c5,rfl,l5,g5⟩
def Qw (xs:List S34) (i:Int):S34:=xs.getD i.toNat z34
theorem at_T34 {w:World} {A:Option Addr} {n:Nat} {xs:List S34} (h:Kd.C k34 w A n xs) (i:Int) (h0 : 0≤i) (h1:i < n):∃ ad A5 c5,A=some ad∧w.cell? (ad.add (i.toNat * 6))=some (.bool (Qw xs i).f0)∧w.cell? ⟨(ad.add (i.toNat * 6)).block,(ad.add (i.toNat * 6)).off+1,none⟩=some (.bool (Qw xs i).f1)∧w.cell? ⟨(ad.add (i.toNat * 6)).block,(ad.add (i.toNat * 6)).off+2,none⟩=some (.int .i64 (Qw xs i).f2)∧w.cell? ⟨(ad.add (i.toNat * 6)).block,(ad.add (i.toNat * 6)).off+3,none⟩=some (.int .i64 (Qw xs i).f3)∧w.cell? ⟨(ad.add (i.toNat * 6)).block,(ad.add (i.toNat * 6)).off+4,none⟩=some (.int .i64 (Qw xs i).f4)∧w.cell? ⟨(ad.add (i.toNat * 6)).block,(ad.add (i.toNat * 6)).off+5,none⟩=some (.slice A5 (Qw xs i).f5.length c5)∧(Qw xs i).f5.length≤c5∧k70.C w A5 (Qw xs i).f5.length (Qw xs i).f5:=by
 obtain ⟨ad,c,e,_,hK,hc0⟩:=Kd.C_get h z34 i h0 h1;have hc:∀ j u,c[j]? = some u→w.cell? (ad.add (i.toNat * 6+j))=some u:=hc0;obtain ⟨A5,c5,rfl,l5,g5⟩:=k34_open hK;exact ⟨ad,A5,c5,e,hc 0 _ rfl,by rw [← add_field _ _ 1 (by omega)];exact hc 1 _ rfl,by rw [← add_field _ _ 2 (by omega)];exact hc 2 _ rfl,by rw [← add_field _ _ 3 (by omega)];exact hc 3 _ rfl,by rw [← add_field _ _ 4 (by omega)];exact hc 4 _ rfl,by rw [← add_field _ _ 5 (by omega)];exact hc 5 _ rfl,l5,g5⟩
structure S47 where
 f0:Int
 f1:Int
 f2:Bool
 f3:(List Int)
 f4:Bool
 f5:(List Int)
def z47:S47:=⟨(0:Int),(0:Int),false,([]:List Int),false,([]:List Int)⟩
def k47:Kd S47:=Kd.iso (Kd.pair (Kd.int .i64) (Kd.pair (Kd.int .i64) (Kd.pair Kd.bool (Kd.pair (Kd.slice 3 (Kd.int .i64)) (Kd.pair Kd.bool (Kd.slice 3 (Kd.int .i64))))))) (fun x:S47=>(x.f0,x.f1,x.f2,x.f3,x.f4,x.f5))
theorem k47_open {w:World} {x:S47} {cs:List Value} (h:k47.K w x cs):∃ A3 c3 A5 c5,cs = [.int .i64 x.f0,.int .i64 x.f1,.bool x.f2,.slice A3 x.f3.length c3,.bool x.f4,.slice A5 x.f5.length c5]∧x.f3.length≤c3∧(Kd.int .i64).C w A3 x.f3.length x.f3∧x.f5.length≤c5∧(Kd.int .i64).C w A5 x.f5.length x.f5:=by
 obtain ⟨_,_,rfl,rfl,⟨_,_,rfl,rfl,⟨_,_,rfl,rfl,⟨_,_,rfl,⟨A3,c3,rfl,l3,g3⟩,⟨_,_,rfl,rfl,⟨A5,c5,rfl,l5,g5⟩⟩⟩⟩⟩⟩:=h;exact ⟨A3,c3,A5,c5,rfl,l3,g3,l5,g5⟩
theorem k47_openM {w:World} {base:Nat} {ok:Nat→Prop} {x:S47} {cs:List Value} (h:k47.M w base ok x cs):∃ v3 v5,cs = [.int .i64 x.f0,.int .i64 x.f1,.bool x.f2,v3,.bool x.f4,v5]∧(Kd.int .i64).R 3 w base ok v3 x.f3∧(Kd.int .i64).R 3 w base ok v5 x.f5:=by
 obtain ⟨_,_,rfl,rfl,⟨_,_,rfl,rfl,⟨_,_,rfl,rfl,⟨_,_,rfl,⟨v3,rfl,g3⟩,⟨_,_,rfl,rfl,⟨v5,rfl,g5⟩⟩⟩⟩⟩⟩:=h;exact ⟨v3,v5,rfl,g3,g5⟩
theorem k47_mk (w:World) (x:S47) {A3:Option Addr} {c3:Nat} (l3:x.f3.length≤c3) (g3:(Kd.int .i64).C w A3 x.f3.length x.f3) {A5:Option Addr} {c5:Nat} (l5:x.f5.length≤c5) (g5:(Kd.int .i64).C w A5 x.f5.length x.f5):k47.K w x [.int .i64 x.f0,.int .i64 x.f1,.bool x.f2,.slice A3 x.f3.length c3,.bool x.f4,.slice A5 x.f5.length c5]:=⟨[.int .i64 x.f0],[.int .i64 x.f1,.bool x.f2,.slice A3 x.f3.length c3,.bool x.f4,.slice A5 x.f5.length c5],rfl,rfl,⟨[.int .i64 x.f1],[.bool x.f2,.slice A3 x.f3.length c3,.bool x.f4,.slice A5 x.f5.length c5],rfl,rfl,⟨[.bool x.f2],[.slice A3 x.f3.length c3,.bool x.f4,.slice A5 x.f5.length c5],rfl,rfl,⟨[.slice A3 x.f3.length c3],[.bool x.f4,.slice A5 x.f5.length c5],rfl,⟨A3,c3,rfl,l3,g3⟩,⟨[.bool x.f4],[.slice A5 x.f5.length c5],rfl,rfl,⟨A5,c5,rfl,l5,g5⟩⟩⟩⟩⟩⟩
theorem k47_mkM (w:World) (base:Nat) (ok:Nat→Prop) (x:S47) {v3:Value} (g3:(Kd.int .i64).R 3 w base ok v3 x.f3) {v5:Value} (g5:(Kd.int .i64).R 3 w base ok v5 x.f5):k47.M w base ok x [.int .i64 x.f0,.int .i64 x.f1,.bool x.f2,v3,.bool x.f4,v5]:=⟨[.int .i64 x.f0],[.int .i64 x.f1,.bool x.f2,v3,.bool x.f4,v5],rfl,rfl,⟨[.int .i64 x.f1],[.bool x.f2,v3,.bool x.f4,v5],rfl,rfl,⟨[.bool x.f2],[v3,.bool x.f4,v5],rfl,rfl,⟨[v3],[.bool x.f4,v5],rfl,⟨v3,rfl,g3⟩,⟨[.bool x.f4],[v5],rfl,rfl,⟨v5,rfl,g5⟩⟩⟩⟩⟩⟩
def Qb (xs:List S47) (i:Int):S47:=xs.getD i.toNat z47
theorem Qs {w:World} {A:Option Addr} {n:Nat} {xs:List S47} (h:Kd.C k47 w A n xs) (i:Int) (h0 : 0≤i) (h1:i < n):∃ ad A3 c3 A5 c5,A=some ad∧w.cell? (ad.add (i.toNat * 6))=some (.int .i64 (Qb xs i).f0)∧w.cell? ⟨(ad.add (i.toNat * 6)).block,(ad.add (i.toNat * 6)).off+1,none⟩=some (.int .i64 (Qb xs i).f1)∧w.cell? ⟨(ad.add (i.toNat * 6)).block,(ad.add (i.toNat * 6)).off+2,none⟩=some (.bool (Qb xs i).f2)∧w.cell? ⟨(ad.add (i.toNat * 6)).block,(ad.add (i.toNat * 6)).off+3,none⟩=some (.slice A3 (Qb xs i).f3.length c3)∧w.cell? ⟨(ad.add (i.toNat * 6)).block,(ad.add (i.toNat * 6)).off+4,none⟩=some (.bool (Qb xs i).f4)∧w.cell? ⟨(ad.add (i.toNat * 6)).block,(ad.add (i.toNat * 6)).off+5,none⟩=some (.slice A5 (Qb xs i).f5.length c5)∧(Qb xs i).f3.length≤c3∧(Kd.int .i64).C w A3 (Qb xs i).f3.length (Qb xs i).f3∧(Qb xs i).f5.length≤c5∧(Kd.int .i64).C w A5 (Qb xs i).f5.length (Qb xs i).f5:=by
 obtain ⟨ad,c,e,_,hK,hc0⟩:=Kd.C_get h z47 i h0 h1;have hc:∀ j u,c[j]? = some u→w.cell? (ad.add (i.toNat * 6+j))=some u:=hc0;obtain ⟨A3,c3,A5,c5,rfl,l3,g3,l5,g5⟩:=k47_open hK;exact ⟨ad,A3,c3,A5,c5,e,hc 0 _ rfl,by rw [← add_field _ _ 1 (by omega)];exact hc 1 _ rfl,by rw [← add_field _ _ 2 (by omega)];exact hc 2 _ rfl,by rw [← add_field _ _ 3 (by omega)];exact hc 3 _ rfl,by rw [← add_field _ _ 4 (by omega)];exact hc 4 _ rfl,by rw [← add_field _ _ 5 (by omega)];exact hc 5 _ rfl,l3,g3,l5,g5⟩
structure S39 where
 f0:Bool
 f1:Bool
 f2:Int
 f3:Int
 f4:Int
 f5:(List S47)
def z39:S39:=⟨false,false,(0:Int),(0:Int),(0:Int),([]:List S47)⟩
def k39:Kd S39:=Kd.iso (Kd.pair Kd.bool (Kd.pair Kd.bool (Kd.pair (Kd.int .i64) (Kd.pair (Kd.int .i64) (Kd.pair (Kd.int .i64) (Kd.slice 47 k47)))))) (fun x:S39=>(x.f0,x.f1,x.f2,x.f3,x.f4,x.f5))
theorem k39_open {w:World} {x:S39} {cs:List Value} (h:k39.K w x cs):∃ A5 c5,cs = [.bool x.f0,.bool x.f1,.int .i64 x.f2,.int .i64 x.f3,.int .i64 x.f4,.slice A5 x.f5.length c5]∧x.f5.length≤c5∧k47.C w A5 x.f5.length x.f5:=by
 obtain ⟨_,_,rfl,rfl,⟨_,_,rfl,rfl,⟨_,_,rfl,rfl,⟨_,_,rfl,rfl,⟨_,_,rfl,rfl,⟨A5,c5,rfl,l5,g5⟩⟩⟩⟩⟩⟩:=h;exact ⟨A5,c5,rfl,l5,g5⟩
theorem k39_openM {w:World} {base:Nat} {ok:Nat→Prop} {x:S39} {cs:List Value} (h:k39.M w base ok x cs):∃ v5,cs = [.bool x.f0,.bool x.f1,.int .i64 x.f2,.int .i64 x.f3,.int .i64 x.f4,v5]∧k47.R 47 w base ok v5 x.f5:=by
 obtain ⟨_,_,rfl,rfl,⟨_,_,rfl,rfl,⟨_,_,rfl,rfl,⟨_,_,rfl,rfl,⟨_,_,rfl,rfl,⟨v5,rfl,g5⟩⟩⟩⟩⟩⟩:=h;exact ⟨v5,rfl,g5⟩
theorem k39_mk (w:World) (x:S39) {A5:Option Addr} {c5:Nat} (l5:x.f5.length≤c5) (g5:k47.C w A5 x.f5.length x.f5):k39.K w x [.bool x.f0,.bool x.f1,.int .i64 x.f2,.int .i64 x.f3,.int .i64 x.f4,.slice A5 x.f5.length c5]:=⟨[.bool x.f0],[.bool x.f1,.int .i64 x.f2,.int .i64 x.f3,.int .i64 x.f4,.slice A5 x.f5.length c5],rfl,rfl,⟨[.bool x.f1],[.int .i64 x.f2,.int .i64 x.f3,.int .i64 x.f4,.slice A5 x.f5.length c5],rfl,rfl,⟨[.int .i64 x.f2],[.int .i64 x.f3,.int .i64 x.f4,.slice A5 x.f5.length c5],rfl,rfl,⟨[.int .i64 x.f3],[.int .i64 x.f4,.slice A5 x.f5.length c5],rfl,rfl,⟨[.int .i64 x.f4],[.slice A5 x.f5.length c5],rfl,rfl,⟨A5,c5,rfl,l5,g5⟩⟩⟩⟩⟩⟩
theorem k39_mkM (w:World) (base:Nat) (ok:Nat→Prop) (x:S39) {v5:Value} (g5:k47.R 47 w base ok v5 x.f5):k39.M w base ok x [.bool x.f0,.bool x.f1,.int .i64 x.f2,.int .i64 x.f3,.int .i64 x.f4,v5]:=⟨[.bool x.f0],[.bool x.f1,.int .i64 x.f2,.int .i64 x.f3,.int .i64 x.f4,v5],rfl,rfl,⟨[.bool x.f1],[.int .i64 x.f2,.int .i64 x.f3,.int .i64 x.f4,v5],rfl,rfl,⟨[.int .i64 x.f2],[.int .i64 x.f3,.int .i64 x.f4,v5],rfl,rfl,⟨[.int .i64 x.f3],[.int .i64 x.f4,v5],rfl,rfl,⟨[.int .i64 x.f4],[v5],rfl,rfl,⟨v5,rfl,g5⟩⟩⟩⟩⟩⟩
def Qa (xs:List S39) (i:Int):S39:=xs.getD i.toNat z39
theorem Qp {w:World} {A:Option Addr} {n:Nat} {xs:List S39} (h:Kd.C k39 w A n xs) (i:Int) (h0 : 0≤i) (h1:i < n):∃ ad A5 c5,A=some ad∧w.cell? (ad.add (i.toNat * 6))=some (.bool (Qa xs i).f0)∧w.cell? ⟨(ad.add (i.toNat * 6)).block,(ad.add (i.toNat * 6)).off+1,none⟩=some (.bool (Qa xs i).f1)∧w.cell? ⟨(ad.add (i.toNat * 6)).block,(ad.add (i.toNat * 6)).off+2,none⟩=some (.int .i64 (Qa xs i).f2)∧w.cell? ⟨(ad.add (i.toNat * 6)).block,(ad.add (i.toNat * 6)).off+3,none⟩=some (.int .i64 (Qa xs i).f3)∧w.cell? ⟨(ad.add (i.toNat * 6)).block,(ad.add (i.toNat * 6)).off+4,none⟩=some (.int .i64 (Qa xs i).f4)∧w.cell? ⟨(ad.add (i.toNat * 6)).block,(ad.add (i.toNat * 6)).off+5,none⟩=some (.slice A5 (Qa xs i).f5.length c5)∧(Qa xs i).f5.length≤c5∧k47.C w A5 (Qa xs i).f5.length (Qa xs i).f5:=by
 obtain ⟨ad,c,e,_,hK,hc0⟩:=Kd.C_get h z39 i h0 h1;have hc:∀ j u,c[j]? = some u→w.cell? (ad.add (i.toNat * 6+j))=some u:=hc0;obtain ⟨A5,c5,rfl,l5,g5⟩:=k39_open hK;exact ⟨ad,A5,c5,e,hc 0 _ rfl,by rw [← add_field _ _ 1 (by omega)];exact hc 1 _ rfl,by rw [← add_field _ _ 2 (by omega)];exact hc 2 _ rfl,by rw [← add_field _ _ 3 (by omega)];exact hc 3 _ rfl,by rw [← add_field _ _ 4 (by omega)];exact hc 4 _ rfl,by rw [← add_field _ _ 5 (by omega)];exact hc 5 _ rfl,l5,g5⟩
end Go.Proofs.Ytnjalgheihiagaa.T
namespace Go.Proofs.Ytnjalgheihiagaa.T
open Go.RowKit Go.Proofs.YtnjalgheihiagaaW.PrintWords Go.Proofs.YtnjalgheihiagaaW.PrintLast Go.Proofs.YtnjalgheihiagaaW.PrintMore

set_option linter.unusedVariables false
set_option linter.unusedSimpArgs false
def Rf.f (l0:List Int) (a1:Int):Option (Int):=if (wrap64 (a1 - (l0.length:Int))) < 0 then (some (-1)) else (some (wrap64 (a1 - (l0.length:Int))))
set_option maxHeartbeats 8000000 in
theorem Rf.calls (A0:Option Addr) (c0:Nat) (l0:List Int) (a1:Int) (r:Int) (w:World) (a0:Kd.C (Kd.int .i64) w A0 l0.length l0) (a2:l0.length≤c0) (h:Rf.f l0 a1=some r) :
  Calls Try.prog 57 #[.slice A0 l0.length c0,.int .i64 a1] w fun e w'=>e = .returned (.int .i64 r)∧Drawn0 w w':=by
 have a4:=zzm a0;have a5:=zzm a2;clear a0 a2;have H:(if (wrap64 (a1 - (l0.length:Int))) < 0 then (some (-1)) else (some (wrap64 (a1 - (l0.length:Int)))))=some r:=h;clear h;by_cases c3:(wrap64 (a1 - (l0.length:Int))) < 0
 ·
  rw [if_pos c3] at H;have a3:decide ((wrap64 (a1 - (l0.length:Int))) < 0)=true:=decide_eq_true c3;clear c3;obtain rfl:=Option.some.inj H;go_enter Try.func57,Try.ntmps57;go_wp2;go_ret;exact ⟨by first|rfl|(simp;done)|(simp [*];done),by repeat (first|exact Drawn0.refl _|apply Drawn0.step)⟩
 ·
  rw [if_neg c3] at H;have a3:decide ((wrap64 (a1 - (l0.length:Int))) < 0)=false:=decide_eq_false c3;clear c3;obtain rfl:=Option.some.inj H;go_enter Try.func57,Try.ntmps57;go_wp2;go_ret;exact ⟨by first|rfl|(simp;done)|(simp [*];done),by repeat (first|exact Drawn0.refl _|apply Drawn0.step)⟩
def Rs.f (a0_0:Int) (a0_1:Int) (a0_2:Bool) (l0_3:List Int) (a0_4:Bool) (l0_5:List Int) (a1:Int):Option (Int):=(Rf.f l0_3 a1).bind fun t102=>(if t102 < 0 then (some (-1)) else ((Rf.f l0_5 t102).bind fun t103=>(if t103 < 0 then (some (-1)) else (some t103))))
set_option maxHeartbeats 8000000 in
theorem Rs.calls (b5:Int) (b6:Int) (b7:Bool) (a5:Option Addr) (a6:Nat) (a0:List Int) (b8:Bool) (a8:Option Addr) (a9:Nat) (a2:List Int) (a1:Int) (r:Int) (w:World) (c1:Kd.C (Kd.int .i64) w a5 a0.length a0) (c2:a0.length≤a6) (c3:Kd.C (Kd.int .i64) w a8 a2.length a2) (c5:a2.length≤a9) (h:Rs.f b5 b6 b7 a0 b8 a2 a1=some r) :
  Calls Try.prog 43 #[.agg #[.int .i64 b5,.int .i64 b6,.bool b7,.slice a5 a0.length a6,.bool b8,.slice a8 a2.length a9],.int .i64 a1] w fun e w'=>e = .returned (.int .i64 r)∧Below w.heap.size w w':=by
 have hu70:=Try.underlying70;have b9:=zzm c1;have c0:=zzm c2;clear c1 c2;have c6:=zzm c3;have c7:=zzm c5;clear c3 c5;have HB:=zzm (Below.refl w.heap.size w);have H:((Rf.f a0 a1).bind fun a3=>(if a3 < 0 then (some (-1)) else ((Rf.f a2 a3).bind fun a7=>(if a7 < 0 then (some (-1)) else (some a7)))))=some r:=h;clear h;obtain ⟨a3,A3,H⟩:=zzG H;by_cases c4:a3 < 0
 ·
  rw [if_pos c4] at H;have d1:decide (a3 < 0)=true:=decide_eq_true c4;clear c4;obtain rfl:=Option.some.inj H;go_enter Try.func43,Try.ntmps43;go_wp2_with (first|((with_reducible refine gate_dst (N:=2) rfl ?_);refine box_event ?hg (N:=2) ?hd (cs:=#[.int .i64 b5,.int .i64 b6,.bool b7,.slice a5 a0.length a6,.bool b8,.slice a8 a2.length a9]) (t:=70) ?hr ?_;(case hd=>rfl);(case hg=>rfl);(case hr=>first|(go_simp;done)|(go_simp;rfl));intro a4 hg w5 hbox hb;have b1:=zzm (zzp zzh1 hb);have b2:=zzm (hbox);have b3:=zzm ((by rw [hg];exact (zzo zzh1):w.heap.size≤a4));have b4:=zzm ((by rw [hg];exact (zzo zzh1):w.heap.size≤a4));clear HB;have HB:=b1;have b0:=b2;have c9:=b3;have d0:=b4;clear b1 b2 b3 b4 hb hbox hg;obtain ⟨g7,g8,g9,h0,h1,h2,h3,h4,h5,h6,h7,h8⟩:=zzc6 b0.out)|((with_reducible refine gate_callee (f:=57) rfl ?_);refine goesL_ (some 8) rfl rfl Try.func57 (by kernel_rfl) rfl #[.slice a5 a0.length a6,.int .i64 a1] rfl zzM2 ?_;(with_reducible refine (Rf.calls _ _ a0 a1 a3 _ ?side1 ?side2 A3.out).mono ?_);(case side1=>exact zzcb b9 HB);(case side2=>exact c0.out);rintro e w' ⟨rfl,⟨nd,rfl⟩⟩;refine ⟨_,rfl,?_⟩));go_ret;exact ⟨zzR,zzh3⟩
 ·
  rw [if_neg c4] at H;have d1:decide (a3 < 0)=false:=decide_eq_false c4;clear c4;obtain ⟨a7,A7,H⟩:=zzG H;by_cases c8:a7 < 0
  ·
   rw [if_pos c8] at H;have d2:decide (a7 < 0)=true:=decide_eq_true c8;clear c8;obtain rfl:=Option.some.inj H;go_enter Try.func43,Try.ntmps43;go_wp2_with (first|((with_reducible refine gate_dst (N:=2) rfl ?_);refine box_event ?hg (N:=2) ?hd (cs:=#[.int .i64 b5,.int .i64 b6,.bool b7,.slice a5 a0.length a6,.bool b8,.slice a8 a2.length a9]) (t:=70) ?hr ?_;(case hd=>rfl);(case hg=>rfl);(case hr=>first|(go_simp;done)|(go_simp;rfl));intro a4 hg w9 hbox hb;have b1:=zzm (zzp zzh1 hb);have b2:=zzm (hbox);have b3:=zzm ((by rw [hg];exact (zzo zzh1):w.heap.size≤a4));have b4:=zzm ((by rw [hg];exact (zzo zzh1):w.heap.size≤a4));clear HB;have HB:=b1;have b0:=b2;have c9:=b3;have d0:=b4;clear b1 b2 b3 b4 hb hbox hg;obtain ⟨d3,d4,d5,d6,d7,d8,d9,e0,e1,e2,e3,e4⟩:=zzc6 b0.out)|((with_reducible refine gate_callee (f:=57) rfl ?_);refine goesL_ (some 8) rfl rfl Try.func57 (by kernel_rfl) rfl #[.slice a5 a0.length a6,.int .i64 a1] rfl zzM2 ?_;(with_reducible refine (Rf.calls _ _ a0 a1 a3 _ ?side1 ?side2 A3.out).mono ?_);(case side1=>exact zzcb b9 HB);(case side2=>exact c0.out);rintro e w' ⟨rfl,⟨nd,rfl⟩⟩;refine ⟨_,rfl,?_⟩)|((with_reducible refine gate_callee (f:=57) rfl ?_);refine goesL_ (some 14) rfl rfl Try.func57 (by kernel_rfl) rfl #[.slice a8 a2.length a9,.int .i64 a3] rfl zzM2 ?_;(with_reducible refine (Rf.calls _ _ a2 a3 a7 _ ?side1 ?side2 A7.out).mono ?_);(case side1=>repeat (first|exact (Kd.C_below c6.out zzh2)|(with_reducible refine Kd.C_alloc ?_ _)|(with_reducible refine Kd.C_drewN ?_ _)|(with_reducible refine Kd.C_drew ?_)));(case side2=>exact c7.out);rintro e w' ⟨rfl,⟨nd,rfl⟩⟩;refine ⟨_,rfl,?_⟩));go_ret;exact ⟨zzR,zzh3⟩
  ·
   rw [if_neg c8] at H;have d2:decide (a7 < 0)=false:=decide_eq_false c8;clear c8;obtain rfl:=Option.some.inj H;go_enter Try.func43,Try.ntmps43;go_wp2_with (first|((with_reducible refine gate_dst (N:=2) rfl ?_);refine box_event ?hg (N:=2) ?hd (cs:=#[.int .i64 b5,.int .i64 b6,.bool b7,.slice a5 a0.length a6,.bool b8,.slice a8 a2.length a9]) (t:=70) ?hr ?_;(case hd=>rfl);(case hg=>rfl);(case hr=>first|(go_simp;done)|(go_simp;rfl));intro a4 hg h9 hbox hb;have b1:=zzm (zzp zzh1 hb);have b2:=zzm (hbox);have b3:=zzm ((by rw [hg];exact (zzo zzh1):w.heap.size≤a4));have b4:=zzm ((by rw [hg];exact (zzo zzh1):w.heap.size≤a4));clear HB;have HB:=b1;have b0:=b2;have c9:=b3;have d0:=b4;clear b1 b2 b3 b4 hb hbox hg;obtain ⟨e5,e6,e7,e8,e9,g0,g1,g2,g3,g4,g5,g6⟩:=zzc6 b0.out)|((with_reducible refine gate_callee (f:=57) rfl ?_);refine goesL_ (some 8) rfl rfl Try.func57 (by kernel_rfl) rfl #[.slice a5 a0.length a6,.int .i64 a1] rfl zzM2 ?_;(with_reducible refine (Rf.calls _ _ a0 a1 a3 _ ?side1 ?side2 A3.out).mono ?_);(case side1=>exact zzcb b9 HB);(case side2=>exact c0.out);rintro e w' ⟨rfl,⟨nd,rfl⟩⟩;refine ⟨_,rfl,?_⟩)|((with_reducible refine gate_callee (f:=57) rfl ?_);refine goesL_ (some 14) rfl rfl Try.func57 (by kernel_rfl) rfl #[.slice a8 a2.length a9,.int .i64 a3] rfl zzM2 ?_;(with_reducible refine (Rf.calls _ _ a2 a3 a7 _ ?side1 ?side2 A7.out).mono ?_);(case side1=>repeat (first|exact (Kd.C_below c6.out zzh2)|(with_reducible refine Kd.C_alloc ?_ _)|(with_reducible refine Kd.C_drewN ?_ _)|(with_reducible refine Kd.C_drew ?_)));(case side2=>exact c7.out);rintro e w' ⟨rfl,⟨nd,rfl⟩⟩;refine ⟨_,rfl,?_⟩));go_ret;exact ⟨zzR,zzh3⟩

set_option linter.unusedVariables false
set_option linter.unusedSimpArgs false
def Qy.l0:Nat→List (S70)→Int→Int→Option (Int)
 | 0,_,_,_=>none
 | k+1,x0,x1,x5=>if x5 < (x0.length:Int) then (if 0≤x5 then ((Rs.f ((Qu x0 x5).f0) ((Qu x0 x5).f1) ((Qu x0 x5).f2) ((Qu x0 x5).f3) ((Qu x0 x5).f4) ((Qu x0 x5).f5) x1).bind fun t105=>(if t105 < 0 then (some (-1)) else (Qy.l0 k x0 t105 (wrap64 (x5+1))))) else (none)) else (some x1)
def Qy.f (k:Nat) (l0:List (S70)) (a1:Int):Option (Int):=if (wrap64 (a1 - (l0.length:Int))) < 0 then (some (-1)) else (Qy.l0 k l0 (wrap64 (a1 - (l0.length:Int))) 0)
set_option maxHeartbeats 8000000 in
theorem Qy.calls (k:Nat) (A0:Option Addr) (c0:Nat) (l0:List (S70)) (a1:Int) (r:Int) (w:World) (d4:Kd.C k70 w A0 l0.length l0) (d5:l0.length≤c0) (h:Qy.f k l0 a1=some r) :
  Calls Try.prog 25 #[.slice A0 l0.length c0,.int .i64 a1] w fun e w'=>e = .returned (.int .i64 r)∧Below w.heap.size w w':=by
 have hu70:=Try.underlying70;have d6:=zzm d4;have e0:=zzm d5;clear d4 d5;have HB:=zzm (Below.refl w.heap.size w);have H:(if (wrap64 (a1 - (l0.length:Int))) < 0 then (some (-1)) else (Qy.l0 k l0 (wrap64 (a1 - (l0.length:Int))) 0))=some r:=h;clear h;by_cases c3:(wrap64 (a1 - (l0.length:Int))) < 0
 ·
  rw [if_pos c3] at H;have d2:decide ((wrap64 (a1 - (l0.length:Int))) < 0)=true:=decide_eq_true c3;clear c3;obtain rfl:=Option.some.inj H;go_enter Try.func25,Try.ntmps25;go_wp2;go_ret;exact ⟨zzR,zzh1⟩
 ·
  rw [if_neg c3] at H;have d2:decide ((wrap64 (a1 - (l0.length:Int))) < 0)=false:=decide_eq_false c3;clear c3;have H':=zzm H;clear H;go_enter Try.func25,Try.ntmps25;go_wp2;go_loopg [1,5] k (fun kq v1 v5 w'=>∃ (b2:Int) (a0:Int),v1 = .int .i64 b2∧v5 = .int .i64 a0∧Aside0 (Qy.l0 kq l0 b2 a0=some r)∧Aside0 (kq≤k)∧Aside0 (Below w.heap.size w w'))
  case atStart=>exact ⟨(wrap64 (a1 - (l0.length:Int))),(0),(by first|rfl|(simp;done)|(simp [*];done)),(by first|rfl|(simp;done)|(simp [*];done)),H',⟨Nat.le_refl _⟩,⟨zzh1⟩⟩
  case round=>
   clear H';try clear c2
   try clear p2
   try clear c3
   try clear d2
   obtain ⟨b2,a0,rfl,rfl,HA,HK1,HB⟩:=hrel;cases gk with
   | zero=>exact absurd HA.out (by simp [Qy.l0])
   | succ k1=>
    have H:=HA.out;clear HA;simp only [Qy.l0] at H;by_cases c4:a0 < (l0.length:Int)
    ·
     rw [if_pos c4] at H;have d7:decide (a0 < (l0.length:Int))=true:=decide_eq_true c4;clear c4;by_cases c5 : 0≤a0
     ·
      rw [if_pos c5] at H;have d9:decide (0≤a0)=true:=decide_eq_true c5;clear c5;obtain ⟨b5,A6,H⟩:=zzG H;by_cases c7:b5 < 0
      ·
       rw [if_pos c7] at H;have d8:decide (b5 < 0)=true:=decide_eq_true c7;clear c7;obtain rfl:=Option.some.inj H;have b3 : 0≤(a0:Int):=zzt;have b4:a0 < (l0.length:Int):=zzt;obtain ⟨d3,c1,c6,c8,c9,d1,a2,a3,a4,a5,a6,a7,a8,a9,b0,b1⟩:=at_T70 d6.out a0 b3 b4;cases d1;replace a2:=zzx HB.out a2;replace a3:=zzx HB.out a3;replace a4:=zzx HB.out a4;replace a5:=zzx HB.out a5;replace a6:=zzx HB.out a6;replace a7:=zzx HB.out a7;have b6:=zzm a9;have b7:=zzm a8;clear a9 a8;have b8:=zzm b1;have b9:=zzm b0;clear b1 b0;replace b3:=eq_true b3;replace b4:=eq_true b4;go_wp2_with (first|((with_reducible refine gate_callee (f:=43) rfl ?_);refine goesL_ (some 23) rfl rfl Try.func43 (by kernel_rfl) rfl #[.agg #[.int .i64 ((Qu l0 a0).f0),.int .i64 ((Qu l0 a0).f1),.bool ((Qu l0 a0).f2),.slice c1 ((Qu l0 a0).f3).length c6,.bool ((Qu l0 a0).f4),.slice c8 ((Qu l0 a0).f5).length c9],.int .i64 b2] rfl zzM2 ?_;(with_reducible refine (Rs.calls ((Qu l0 a0).f0) ((Qu l0 a0).f1) ((Qu l0 a0).f2) _ _ ((Qu l0 a0).f3) ((Qu l0 a0).f4) _ _ ((Qu l0 a0).f5) b2 b5 _ ?side1 ?side2 ?side3 ?side4 A6.out).mono ?_);(case side1=>exact zzcb b6 HB);(case side2=>exact b7.out);(case side3=>exact zzcb b8 HB);(case side4=>exact b9.out);rintro e w8 ⟨rfl,hb⟩;refine ⟨_,rfl,?_⟩;have d0:=zzm (zzp zzh1 hb);clear HB;have HB:=d0;clear d0;(try clear hb);(try clear hb2);(try clear hk);(try clear hi)));go_ret;exact ⟨zzR,zzh1⟩
      ·
       rw [if_neg c7] at H;have d8:decide (b5 < 0)=false:=decide_eq_false c7;clear c7;have H':=zzm H;clear H;have b3 : 0≤(a0:Int):=zzt;have b4:a0 < (l0.length:Int):=zzt;obtain ⟨d3,c1,c6,c8,c9,d1,a2,a3,a4,a5,a6,a7,a8,a9,b0,b1⟩:=at_T70 d6.out a0 b3 b4;cases d1;replace a2:=zzx HB.out a2;replace a3:=zzx HB.out a3;replace a4:=zzx HB.out a4;replace a5:=zzx HB.out a5;replace a6:=zzx HB.out a6;replace a7:=zzx HB.out a7;have b6:=zzm a9;have b7:=zzm a8;clear a9 a8;have b8:=zzm b1;have b9:=zzm b0;clear b1 b0;replace b3:=eq_true b3;replace b4:=eq_true b4;go_wp2_with (first|((with_reducible refine gate_callee (f:=43) rfl ?_);refine goesL_ (some 23) rfl rfl Try.func43 (by kernel_rfl) rfl #[.agg #[.int .i64 ((Qu l0 a0).f0),.int .i64 ((Qu l0 a0).f1),.bool ((Qu l0 a0).f2),.slice c1 ((Qu l0 a0).f3).length c6,.bool ((Qu l0 a0).f4),.slice c8 ((Qu l0 a0).f5).length c9],.int .i64 b2] rfl zzM2 ?_;(with_reducible refine (Rs.calls ((Qu l0 a0).f0) ((Qu l0 a0).f1) ((Qu l0 a0).f2) _ _ ((Qu l0 a0).f3) ((Qu l0 a0).f4) _ _ ((Qu l0 a0).f5) b2 b5 _ ?side1 ?side2 ?side3 ?side4 A6.out).mono ?_);(case side1=>exact zzcb b6 HB);(case side2=>exact b7.out);(case side3=>exact zzcb b8 HB);(case side4=>exact b9.out);rintro e w9 ⟨rfl,hb⟩;refine ⟨_,rfl,?_⟩;have d0:=zzm (zzp zzh1 hb);clear HB;have HB:=d0;clear d0;(try clear hb);(try clear hb2);(try clear hk);(try clear hi)));go_roundg k1
       case measure=>have:=HK1.out;omega
       case rel=>exact ⟨(b5),(wrap64 (a0+1)),(by first|rfl|(simp;done)|(simp [*];done)),(by first|rfl|(simp;done)|(simp [*];done)),H',⟨by have:=HK1.out;omega⟩,⟨zzh1⟩⟩
     ·
      rw [if_neg c5] at H;exact absurd H (by simp)
    ·
     rw [if_neg c4] at H;have d7:decide (a0 < (l0.length:Int))=false:=decide_eq_false c4;clear c4;obtain rfl:=Option.some.inj H;go_wp2;go_ret;exact ⟨zzR,zzh1⟩
def Rv.f (k:Nat) (a0_0:Bool) (a0_1:Bool) (a0_2:Int) (a0_3:Int) (a0_4:Int) (l0_5:List (S70)) (a1:Int):Option (Int):=(Qy.f k l0_5 a1).bind fun t107=>(if t107 < 0 then (some (-1)) else (some t107))
set_option maxHeartbeats 8000000 in
theorem Rv.calls (k:Nat) (a9:Bool) (b0:Bool) (b1:Int) (b2:Int) (b3:Int) (a4:Option Addr) (a5:Nat) (a0:List (S70)) (a1:Int) (r:Int) (w:World) (b6:Kd.C k70 w a4 a0.length a0) (b7:a0.length≤a5) (h:Rv.f k a9 b0 b1 b2 b3 a0 a1=some r) :
  Calls Try.prog 11 #[.agg #[.bool a9,.bool b0,.int .i64 b1,.int .i64 b2,.int .i64 b3,.slice a4 a0.length a5],.int .i64 a1] w fun e w'=>e = .returned (.int .i64 r)∧Below w.heap.size w w':=by
 have hu34:=Try.underlying34;have b8:=zzm b6;have b9:=zzm b7;clear b6 b7;have HB:=zzm (Below.refl w.heap.size w);have H:((Qy.f k a0 a1).bind fun a6=>(if a6 < 0 then (some (-1)) else (some a6)))=some r:=h;clear h;obtain ⟨a6,A3,H⟩:=zzG H;by_cases c4:a6 < 0
 ·
  rw [if_pos c4] at H;have c2:decide (a6 < 0)=true:=decide_eq_true c4;clear c4;obtain rfl:=Option.some.inj H;go_enter Try.func11,Try.ntmps11;go_wp2_with (first|((with_reducible refine gate_dst (N:=2) rfl ?_);refine box_event ?hg (N:=2) ?hd (cs:=#[.bool a9,.bool b0,.int .i64 b1,.int .i64 b2,.int .i64 b3,.slice a4 a0.length a5]) (t:=34) ?hr ?_;(case hd=>rfl);(case hg=>rfl);(case hr=>first|(go_simp;done)|(go_simp;rfl));intro a3 hg w5 hbox hb;have a7:=zzm (zzp zzh1 hb);have a8:=zzm (hbox);have b4:=zzm ((by rw [hg];exact (zzo zzh1):w.heap.size≤a3));have b5:=zzm ((by rw [hg];exact (zzo zzh1):w.heap.size≤a3));clear HB;have HB:=a7;have a2:=a8;have c0:=b4;have c1:=b5;clear a7 a8 b4 b5 hb hbox hg;obtain ⟨c3,c5,c6,c7,c8,c9,d0,d1,d2,d3,d4,d5⟩:=zzc6 a2.out)|((with_reducible refine gate_callee (f:=25) rfl ?_);refine goesL_ (some 8) rfl rfl Try.func25 (by kernel_rfl) rfl #[.slice a4 a0.length a5,.int .i64 a1] rfl zzM2 ?_;(with_reducible refine (Qy.calls k _ _ a0 a1 a6 _ ?side1 ?side2 A3.out).mono ?_);(case side1=>exact zzcb b8 HB);(case side2=>exact b9.out);rintro e w7 ⟨rfl,hb⟩;refine ⟨_,rfl,?_⟩;have a7:=zzm (zzh (g:=a3) (o:=.cells #[.bool a9,.bool b0,.int .i64 b1,.int .i64 b2,.int .i64 b3,.slice a4 a0.length a5] 34 (0,0)) (zzE a2.out) hb);have a8:=zzm (zzp zzh2 hb);clear a2 HB;have a2:=a7;have HB:=a8;clear a7 a8;(try clear hb);(try clear hb2);(try clear hk);(try clear hi)));go_ret;exact ⟨zzR,zzh3⟩
 ·
  rw [if_neg c4] at H;have c2:decide (a6 < 0)=false:=decide_eq_false c4;clear c4;obtain rfl:=Option.some.inj H;go_enter Try.func11,Try.ntmps11;go_wp2_with (first|((with_reducible refine gate_dst (N:=2) rfl ?_);refine box_event ?hg (N:=2) ?hd (cs:=#[.bool a9,.bool b0,.int .i64 b1,.int .i64 b2,.int .i64 b3,.slice a4 a0.length a5]) (t:=34) ?hr ?_;(case hd=>rfl);(case hg=>rfl);(case hr=>first|(go_simp;done)|(go_simp;rfl));intro a3 hg w8 hbox hb;have a7:=zzm (zzp zzh1 hb);have a8:=zzm (hbox);have b4:=zzm ((by rw [hg];exact (zzo zzh1):w.heap.size≤a3));have b5:=zzm ((by rw [hg];exact (zzo zzh1):w.heap.size≤a3));clear HB;have HB:=a7;have a2:=a8;have c0:=b4;have c1:=b5;clear a7 a8 b4 b5 hb hbox hg;obtain ⟨d6,d7,d8,d9,e0,e1,e2,e3,e4,e5,e6,e7⟩:=zzc6 a2.out)|((with_reducible refine gate_callee (f:=25) rfl ?_);refine goesL_ (some 8) rfl rfl Try.func25 (by kernel_rfl) rfl #[.slice a4 a0.length a5,.int .i64 a1] rfl zzM2 ?_;(with_reducible refine (Qy.calls k _ _ a0 a1 a6 _ ?side1 ?side2 A3.out).mono ?_);(case side1=>exact zzcb b8 HB);(case side2=>exact b9.out);rintro e e8 ⟨rfl,hb⟩;refine ⟨_,rfl,?_⟩;have a7:=zzm (zzh (g:=a3) (o:=.cells #[.bool a9,.bool b0,.int .i64 b1,.int .i64 b2,.int .i64 b3,.slice a4 a0.length a5] 34 (0,0)) (zzE a2.out) hb);have a8:=zzm (zzp zzh2 hb);clear a2 HB;have a2:=a7;have HB:=a8;clear a7 a8;(try clear hb);(try clear hb2);(try clear hk);(try clear hi)));go_ret;exact ⟨zzR,zzh3⟩

set_option linter.unusedVariables false
set_option linter.unusedSimpArgs false
def Q0.l0:Nat→List (S34)→Int→Int→Option (Int)
 | 0,_,_,_=>none
 | k+1,x0,x1,x5=>if x5 < (x0.length:Int) then (if 0≤x5 then ((Rv.f k ((Qw x0 x5).f0) ((Qw x0 x5).f1) ((Qw x0 x5).f2) ((Qw x0 x5).f3) ((Qw x0 x5).f4) ((Qw x0 x5).f5) x1).bind fun t109=>(if t109 < 0 then (some (-1)) else (Q0.l0 k x0 t109 (wrap64 (x5+1))))) else (none)) else (some x1)
def Q0.f (k:Nat) (l0:List (S34)) (a1:Int):Option (Int):=if (wrap64 (a1 - (l0.length:Int))) < 0 then (some (-1)) else (Q0.l0 k l0 (wrap64 (a1 - (l0.length:Int))) 0)
set_option maxHeartbeats 8000000 in
theorem Q0.calls (k:Nat) (A0:Option Addr) (c0:Nat) (l0:List (S34)) (a1:Int) (r:Int) (w:World) (c6:Kd.C k34 w A0 l0.length l0) (c8:l0.length≤c0) (h:Q0.f k l0 a1=some r) :
  Calls Try.prog 4 #[.slice A0 l0.length c0,.int .i64 a1] w fun e w'=>e = .returned (.int .i64 r)∧Below w.heap.size w w':=by
 have hu34:=Try.underlying34;have c9:=zzm c6;have d3:=zzm c8;clear c6 c8;have HB:=zzm (Below.refl w.heap.size w);have H:(if (wrap64 (a1 - (l0.length:Int))) < 0 then (some (-1)) else (Q0.l0 k l0 (wrap64 (a1 - (l0.length:Int))) 0))=some r:=h;clear h;by_cases c3:(wrap64 (a1 - (l0.length:Int))) < 0
 ·
  rw [if_pos c3] at H;have c1:decide ((wrap64 (a1 - (l0.length:Int))) < 0)=true:=decide_eq_true c3;clear c3;obtain rfl:=Option.some.inj H;go_enter Try.func4,Try.ntmps4;go_wp2;go_ret;exact ⟨zzR,zzh1⟩
 ·
  rw [if_neg c3] at H;have c1:decide ((wrap64 (a1 - (l0.length:Int))) < 0)=false:=decide_eq_false c3;clear c3;have H':=zzm H;clear H;go_enter Try.func4,Try.ntmps4;go_wp2;go_loopg [1,5] k (fun kq v1 v5 w'=>∃ (b0:Int) (a0:Int),v1 = .int .i64 b0∧v5 = .int .i64 a0∧Aside0 (Q0.l0 kq l0 b0 a0=some r)∧Aside0 (kq≤k)∧Aside0 (Below w.heap.size w w'))
  case atStart=>exact ⟨(wrap64 (a1 - (l0.length:Int))),(0),(by first|rfl|(simp;done)|(simp [*];done)),(by first|rfl|(simp;done)|(simp [*];done)),H',⟨Nat.le_refl _⟩,⟨zzh1⟩⟩
  case round=>
   clear H';try clear p2
   try clear c3
   try clear c1
   obtain ⟨b0,a0,rfl,rfl,HA,HK1,HB⟩:=hrel;cases gk with
   | zero=>exact absurd HA.out (by simp [Q0.l0])
   | succ k1=>
    have H:=HA.out;clear HA;simp only [Q0.l0] at H;by_cases c4:a0 < (l0.length:Int)
    ·
     rw [if_pos c4] at H;have d0:decide (a0 < (l0.length:Int))=true:=decide_eq_true c4;clear c4;by_cases c5 : 0≤a0
     ·
      rw [if_pos c5] at H;have d2:decide (0≤a0)=true:=decide_eq_true c5;clear c5;obtain ⟨b3,A6,H⟩:=zzG H;by_cases c7:b3 < 0
      ·
       rw [if_pos c7] at H;have d1:decide (b3 < 0)=true:=decide_eq_true c7;clear c7;obtain rfl:=Option.some.inj H;have b1 : 0≤(a0:Int):=zzt;have b2:a0 < (l0.length:Int):=zzt;obtain ⟨c2,b6,b7,b9,a2,a3,a4,a5,a6,a7,a8,a9⟩:=at_T34 c9.out a0 b1 b2;cases b9;replace a2:=zzx HB.out a2;replace a3:=zzx HB.out a3;replace a4:=zzx HB.out a4;replace a5:=zzx HB.out a5;replace a6:=zzx HB.out a6;replace a7:=zzx HB.out a7;have b4:=zzm a9;have b5:=zzm a8;clear a9 a8;replace b1:=eq_true b1;replace b2:=eq_true b2;go_wp2_with (first|((with_reducible refine gate_callee (f:=11) rfl ?_);refine goesL_ (some 23) rfl rfl Try.func11 (by kernel_rfl) rfl #[.agg #[.bool ((Qw l0 a0).f0),.bool ((Qw l0 a0).f1),.int .i64 ((Qw l0 a0).f2),.int .i64 ((Qw l0 a0).f3),.int .i64 ((Qw l0 a0).f4),.slice b6 ((Qw l0 a0).f5).length b7],.int .i64 b0] rfl zzM2 ?_;(with_reducible refine (Rv.calls k1 ((Qw l0 a0).f0) ((Qw l0 a0).f1) ((Qw l0 a0).f2) ((Qw l0 a0).f3) ((Qw l0 a0).f4) _ _ ((Qw l0 a0).f5) b0 b3 _ ?side1 ?side2 A6.out).mono ?_);(case side1=>exact zzcb b4 HB);(case side2=>exact b5.out);rintro e w8 ⟨rfl,hb⟩;refine ⟨_,rfl,?_⟩;have b8:=zzm (zzp zzh1 hb);clear HB;have HB:=b8;clear b8;(try clear hb);(try clear hb2);(try clear hk);(try clear hi)));go_ret;exact ⟨zzR,zzh1⟩
      ·
       rw [if_neg c7] at H;have d1:decide (b3 < 0)=false:=decide_eq_false c7;clear c7;have H':=zzm H;clear H;have b1 : 0≤(a0:Int):=zzt;have b2:a0 < (l0.length:Int):=zzt;obtain ⟨c2,b6,b7,b9,a2,a3,a4,a5,a6,a7,a8,a9⟩:=at_T34 c9.out a0 b1 b2;cases b9;replace a2:=zzx HB.out a2;replace a3:=zzx HB.out a3;replace a4:=zzx HB.out a4;replace a5:=zzx HB.out a5;replace a6:=zzx HB.out a6;replace a7:=zzx HB.out a7;have b4:=zzm a9;have b5:=zzm a8;clear a9 a8;replace b1:=eq_true b1;replace b2:=eq_true b2;go_wp2_with (first|((with_reducible refine gate_callee (f:=11) rfl ?_);refine goesL_ (some 23) rfl rfl Try.func11 (by kernel_rfl) rfl #[.agg #[.bool ((Qw l0 a0).f0),.bool ((Qw l0 a0).f1),.int .i64 ((Qw l0 a0).f2),.int .i64 ((Qw l0 a0).f3),.int .i64 ((Qw l0 a0).f4),.slice b6 ((Qw l0 a0).f5).length b7],.int .i64 b0] rfl zzM2 ?_;(with_reducible refine (Rv.calls k1 ((Qw l0 a0).f0) ((Qw l0 a0).f1) ((Qw l0 a0).f2) ((Qw l0 a0).f3) ((Qw l0 a0).f4) _ _ ((Qw l0 a0).f5) b0 b3 _ ?side1 ?side2 A6.out).mono ?_);(case side1=>exact zzcb b4 HB);(case side2=>exact b5.out);rintro e w9 ⟨rfl,hb⟩;refine ⟨_,rfl,?_⟩;have b8:=zzm (zzp zzh1 hb);clear HB;have HB:=b8;clear b8;(try clear hb);(try clear hb2);(try clear hk);(try clear hi)));go_roundg k1
       case measure=>have:=HK1.out;omega
       case rel=>exact ⟨(b3),(wrap64 (a0+1)),(by first|rfl|(simp;done)|(simp [*];done)),(by first|rfl|(simp;done)|(simp [*];done)),H',⟨by have:=HK1.out;omega⟩,⟨zzh1⟩⟩
     ·
      rw [if_neg c5] at H;exact absurd H (by simp)
    ·
     rw [if_neg c4] at H;have d0:decide (a0 < (l0.length:Int))=false:=decide_eq_false c4;clear c4;obtain rfl:=Option.some.inj H;go_wp2;go_ret;exact ⟨zzR,zzh1⟩
def Qx.f (a0:Int) (a1:Int) (a2:Int):Option (Bool):=if a0 ≥ a1 then (some (decide (a0≤a2))) else (some false)
set_option maxHeartbeats 8000000 in
theorem Qx.calls (a0:Int) (a1:Int) (a2:Int) (r:Bool) (w:World) (h:Qx.f a0 a1 a2=some r) :
  Calls Try.prog 45 #[.int .i64 a0,.int .i64 a1,.int .i64 a2] w fun e w'=>e = .returned (.bool r)∧Drawn0 w w':=by
 have H:(if a0 ≥ a1 then (some (decide (a0≤a2))) else (some false))=some r:=h;clear h;by_cases c4:a0 ≥ a1
 ·
  rw [if_pos c4] at H;have c4b0:decide (a1≤a0)=true:=decide_eq_true c4;clear c4;obtain rfl:=Option.some.inj H;go_enter Try.func45,Try.ntmps45;go_wp2;go_ret;exact ⟨by first|rfl|(simp;done)|(simp [*];done),by repeat (first|exact Drawn0.refl _|apply Drawn0.step)⟩
 ·
  rw [if_neg c4] at H;have c4b0:decide (a1≤a0)=false:=decide_eq_false c4;clear c4;obtain rfl:=Option.some.inj H;go_enter Try.func45,Try.ntmps45;go_wp2;go_ret;exact ⟨by first|rfl|(simp;done)|(simp [*];done),by repeat (first|exact Drawn0.refl _|apply Drawn0.step)⟩

set_option linter.unusedVariables false
set_option linter.unusedSimpArgs false
def Q8.l0:Nat→List Int→Int→Option (Bool)
 | 0,_,_=>none
 | k+1,x0,x3=>if x3 < (x0.length:Int) then (if 0≤x3 then ((Qx.f (rd x0 x3) 0 255).bind fun t111=>(if t111=true then (Q8.l0 k x0 (wrap64 (x3+1))) else (some false))) else (none)) else (some true)
def Q8.f (k:Nat) (l0:List Int):Option (Bool):=Q8.l0 k l0 0
set_option maxHeartbeats 8000000 in
theorem Q8.calls (k:Nat) (A0:Option Addr) (c0:Nat) (l0:List Int) (r:Bool) (w:World) (a6:Kd.C (Kd.int .i64) w A0 l0.length l0) (a7:l0.length≤c0) (h:Q8.f k l0=some r) :
  Calls Try.prog 71 #[.slice A0 l0.length c0] w fun e w'=>e = .returned (.bool r)∧Drawn0 w w':=by
 have a8:=zzm a6;have b2:=zzm a7;clear a6 a7;have H:(Q8.l0 k l0 0)=some r:=h;clear h;have H':=zzm H;clear H;go_enter Try.func71,Try.ntmps71;go_wp2;go_loopg [3] k (fun kq v3 w'=>∃ (a0:Int),v3 = .int .i64 a0∧Aside0 (Q8.l0 kq l0 a0=some r)∧Aside0 (kq≤k)∧Drawn0 w w')
 case atStart=>exact ⟨(0),(by first|rfl|(simp;done)|(simp [*];done)),H',⟨Nat.le_refl _⟩,by repeat (first|exact Drawn0.refl _|apply Drawn0.step)⟩
 case round=>
  clear H';obtain ⟨a0,rfl,HA,HK1,⟨m1,rfl⟩⟩:=hrel;cases gk with
  | zero=>exact absurd HA.out (by simp [Q8.l0])
  | succ k1=>
   have H:=HA.out;clear HA;simp only [Q8.l0] at H;by_cases c2:a0 < (l0.length:Int)
   ·
    rw [if_pos c2] at H;have a9:decide (a0 < (l0.length:Int))=true:=decide_eq_true c2;clear c2;by_cases c3 : 0≤a0
    ·
     rw [if_pos c3] at H;have b1:decide (0≤a0)=true:=decide_eq_true c3;clear c3;obtain ⟨b0,A4,H⟩:=zzG H;by_cases c5:b0=true
     ·
      subst c5;replace H:=zzIt H;have H':=zzm H;clear H;have a1 : 0≤(a0:Int):=zzt;have a2:a0 < (l0.length:Int):=zzt;obtain ⟨a5,a3,a4⟩:=Kd.at_int a8.out a0 a1 a2;cases a3;replace a1:=eq_true a1;replace a2:=eq_true a2;go_wp2_with (first|((with_reducible refine gate_callee (f:=45) rfl ?_);refine goesL_ (some 14) rfl rfl Try.func45 (by kernel_rfl) rfl #[.int .i64 (rd l0 a0),.int .i64 0,.int .i64 255] rfl zzM2 ?_;(with_reducible refine (Qx.calls (rd l0 a0) 0 255 true _ A4.out).mono ?_);rintro e w' ⟨rfl,⟨nd,rfl⟩⟩;refine ⟨_,rfl,?_⟩));go_roundg k1
      case measure=>have:=HK1.out;omega
      case rel=>exact ⟨(wrap64 (a0+1)),(by first|rfl|(simp;done)|(simp [*];done)),H',⟨by have:=HK1.out;omega⟩,by repeat (first|exact Drawn0.refl _|apply Drawn0.step)⟩
     ·
      replace c5:=Bool.eq_false_iff.mpr c5;subst c5;replace H:=zzIf H;obtain rfl:=Option.some.inj H;have a1 : 0≤(a0:Int):=zzt;have a2:a0 < (l0.length:Int):=zzt;obtain ⟨a5,a3,a4⟩:=Kd.at_int a8.out a0 a1 a2;cases a3;replace a1:=eq_true a1;replace a2:=eq_true a2;go_wp2_with (first|((with_reducible refine gate_callee (f:=45) rfl ?_);refine goesL_ (some 14) rfl rfl Try.func45 (by kernel_rfl) rfl #[.int .i64 (rd l0 a0),.int .i64 0,.int .i64 255] rfl zzM2 ?_;(with_reducible refine (Qx.calls (rd l0 a0) 0 255 false _ A4.out).mono ?_);rintro e w' ⟨rfl,⟨nd,rfl⟩⟩;refine ⟨_,rfl,?_⟩));go_ret;exact ⟨by first|rfl|(simp;done)|(simp [*];done),by repeat (first|exact Drawn0.refl _|apply Drawn0.step)⟩
    ·
     rw [if_neg c3] at H;exact absurd H (by simp)
   ·
    rw [if_neg c2] at H;have a9:decide (a0 < (l0.length:Int))=false:=decide_eq_false c2;clear c2;obtain rfl:=Option.some.inj H;go_wp2;go_ret;exact ⟨by first|rfl|(simp;done)|(simp [*];done),by repeat (first|exact Drawn0.refl _|apply Drawn0.step)⟩

set_option linter.unusedVariables false
set_option linter.unusedSimpArgs false
def Rk.f (k:Nat) (a0:Bool) (l1:List Int):Option (Bool):=if a0=true then ((Q8.f k l1).bind fun t112=>(if t112=true then (some (decide ((l1.length:Int)≤12))) else (some false))) else (if (l1.length:Int)=0 then ((Q8.f k l1).bind fun t113=>(if t113=true then (some (decide ((l1.length:Int)≤12))) else (some false))) else (some false))
set_option maxHeartbeats 8000000 in
theorem Rk.calls (k:Nat) (a0:Bool) (A1:Option Addr) (c1:Nat) (l1:List Int) (r:Bool) (w:World) (a5:Kd.C (Kd.int .i64) w A1 l1.length l1) (a6:l1.length≤c1) (h:Rk.f k a0 l1=some r) :
  Calls Try.prog 67 #[.bool a0,.slice A1 l1.length c1] w fun e w'=>e = .returned (.bool r)∧Drawn0 w w':=by
 have a3:=zzm a5;have a4:=zzm a6;clear a5 a6;have H:(if a0=true then ((Q8.f k l1).bind fun a1=>(if a1=true then (some (decide ((l1.length:Int)≤12))) else (some false))) else (if (l1.length:Int)=0 then ((Q8.f k l1).bind fun a2=>(if a2=true then (some (decide ((l1.length:Int)≤12))) else (some false))) else (some false)))=some r:=h;clear h;by_cases c3:a0=true
 ·
  subst c3;replace H:=zzIt H;obtain ⟨a1,A4,H⟩:=zzG H;by_cases c5:a1=true
  ·
   subst c5;replace H:=zzIt H;obtain rfl:=Option.some.inj H;go_enter Try.func67,Try.ntmps67;go_wp2_with (first|(go_at_call 71;(with_reducible refine (Q8.calls k _ _ l1 true _ ?side1 ?side2 A4.out).mono ?_);(case side1=>repeat (first|exact a3.out|(with_reducible refine Kd.C_alloc ?_ _)|(with_reducible refine Kd.C_drewN ?_ _)|(with_reducible refine Kd.C_drew ?_)));(case side2=>exact a4.out);rintro e w' ⟨rfl,⟨nd,rfl⟩⟩));go_ret;exact ⟨by first|rfl|(simp;done)|(simp [*];done),by repeat (first|exact Drawn0.refl _|apply Drawn0.step)⟩
  ·
   replace c5:=Bool.eq_false_iff.mpr c5;subst c5;replace H:=zzIf H;obtain rfl:=Option.some.inj H;go_enter Try.func67,Try.ntmps67;go_wp2_with (first|(go_at_call 71;(with_reducible refine (Q8.calls k _ _ l1 false _ ?side1 ?side2 A4.out).mono ?_);(case side1=>repeat (first|exact a3.out|(with_reducible refine Kd.C_alloc ?_ _)|(with_reducible refine Kd.C_drewN ?_ _)|(with_reducible refine Kd.C_drew ?_)));(case side2=>exact a4.out);rintro e w' ⟨rfl,⟨nd,rfl⟩⟩));go_ret;exact ⟨by first|rfl|(simp;done)|(simp [*];done),by repeat (first|exact Drawn0.refl _|apply Drawn0.step)⟩
 ·
  replace c3:=Bool.eq_false_iff.mpr c3;subst c3;replace H:=zzIf H;by_cases c6:(l1.length:Int)=0
  ·
   rw [if_pos c6] at H;obtain ⟨a7,a8⟩:=zzQ c6;clear c6;obtain ⟨a2,A7,H⟩:=zzG H;by_cases c8:a2=true
   ·
    subst c8;replace H:=zzIt H;obtain rfl:=Option.some.inj H;go_enter Try.func67,Try.ntmps67;go_wp2_with (first|(go_at_call 71;(with_reducible refine (Q8.calls k _ _ l1 true _ ?side1 ?side2 A7.out).mono ?_);(case side1=>repeat (first|exact a3.out|(with_reducible refine Kd.C_alloc ?_ _)|(with_reducible refine Kd.C_drewN ?_ _)|(with_reducible refine Kd.C_drew ?_)));(case side2=>exact a4.out);rintro e w' ⟨rfl,⟨nd,rfl⟩⟩));go_ret;exact ⟨by first|rfl|(simp;done)|(simp [*];done),by repeat (first|exact Drawn0.refl _|apply Drawn0.step)⟩
   ·
    replace c8:=Bool.eq_false_iff.mpr c8;subst c8;replace H:=zzIf H;obtain rfl:=Option.some.inj H;go_enter Try.func67,Try.ntmps67;go_wp2_with (first|(go_at_call 71;(with_reducible refine (Q8.calls k _ _ l1 false _ ?side1 ?side2 A7.out).mono ?_);(case side1=>repeat (first|exact a3.out|(with_reducible refine Kd.C_alloc ?_ _)|(with_reducible refine Kd.C_drewN ?_ _)|(with_reducible refine Kd.C_drew ?_)));(case side2=>exact a4.out);rintro e w' ⟨rfl,⟨nd,rfl⟩⟩));go_ret;exact ⟨by first|rfl|(simp;done)|(simp [*];done),by repeat (first|exact Drawn0.refl _|apply Drawn0.step)⟩
  ·
   rw [if_neg c6] at H;obtain ⟨a7,a8⟩:=zzY c6;have a9:¬ (l1 = []):=fun h_=>c6 (by rw [h_];rfl);obtain rfl:=Option.some.inj H;go_enter Try.func67,Try.ntmps67;go_wp2;go_ret;exact ⟨by first|rfl|(simp;done)|(simp [*];done),by repeat (first|exact Drawn0.refl _|apply Drawn0.step)⟩

set_option linter.unusedVariables false
set_option linter.unusedSimpArgs false
def Rd.f (k:Nat) (a0_0:Int) (a0_1:Int) (a0_2:Bool) (l0_3:List Int) (a0_4:Bool) (l0_5:List Int):Option (Bool):=(Qx.f a0_0 0 99999).bind fun t115=>(if t115=true then ((Qx.f a0_1 0 99999).bind fun t116=>(if t116=true then ((Rk.f k a0_2 l0_3).bind fun t117=>(if t117=true then ((Rk.f k a0_4 l0_5).bind fun t118=>(some t118)) else (some false))) else (some false))) else (some false))
set_option maxHeartbeats 8000000 in
theorem Rd.calls (k:Nat) (a0:Int) (a4:Int) (a5:Bool) (b2:Option Addr) (b3:Nat) (a2:List Int) (a7:Bool) (b4:Option Addr) (b5:Nat) (a3:List Int) (r:Bool) (w:World) (c2:Kd.C (Kd.int .i64) w b2 a2.length a2) (c4:a2.length≤b3) (c6:Kd.C (Kd.int .i64) w b4 a3.length a3) (c8:a3.length≤b5) (h:Rd.f k a0 a4 a5 a2 a7 a3=some r) :
  Calls Try.prog 58 #[.agg #[.int .i64 a0,.int .i64 a4,.bool a5,.slice b2 a2.length b3,.bool a7,.slice b4 a3.length b5]] w fun e w'=>e = .returned (.bool r)∧Below w.heap.size w w':=by
 have hu47:=Try.underlying47;have c9:=zzm c2;have d0:=zzm c4;clear c2 c4;have d1:=zzm c6;have d2:=zzm c8;clear c6 c8;have HB:=zzm (Below.refl w.heap.size w);have H:((Qx.f a0 0 99999).bind fun b8=>(if b8=true then ((Qx.f a4 0 99999).bind fun b9=>(if b9=true then ((Rk.f k a5 a2).bind fun c0=>(if c0=true then ((Rk.f k a7 a3).bind fun c1=>(some c1)) else (some false))) else (some false))) else (some false)))=some r:=h;clear h;obtain ⟨b8,A2,H⟩:=zzG H;by_cases c3:b8=true
 ·
  subst c3;replace H:=zzIt H;obtain ⟨b9,A4,H⟩:=zzG H;by_cases c5:b9=true
  ·
   subst c5;replace H:=zzIt H;obtain ⟨c0,A6,H⟩:=zzG H;by_cases c7:c0=true
   ·
    subst c7;replace H:=zzIt H;obtain ⟨c1,A8,H⟩:=zzG H;obtain rfl:=Option.some.inj H;go_enter Try.func58,Try.ntmps58;go_wp2_with (first|((with_reducible refine gate_dst (N:=1) rfl ?_);refine box_event ?hg (N:=1) ?hd (cs:=#[.int .i64 a0,.int .i64 a4,.bool a5,.slice b2 a2.length b3,.bool a7,.slice b4 a3.length b5]) (t:=47) ?hr ?_;(case hd=>rfl);(case hg=>rfl);(case hr=>first|(go_simp;done)|(go_simp;rfl));intro a1 hg w9 hbox hb;have a8:=zzm (zzp zzh1 hb);have a9:=zzm (hbox);have b0:=zzm ((by rw [hg];exact (zzo zzh1):w.heap.size≤a1));have b1:=zzm ((by rw [hg];exact (zzo zzh1):w.heap.size≤a1));clear HB;have HB:=a8;have a6:=a9;have b6:=b0;have b7:=b1;clear a8 a9 b0 b1 hb hbox hg;obtain ⟨d3,d4,d5,d6,d7,d8,d9,e0,e1,e2,e3,e4⟩:=zzc6 a6.out)|((with_reducible refine gate_callee (f:=45) rfl ?_);refine goesL_ (some 5) rfl rfl Try.func45 (by kernel_rfl) rfl #[.int .i64 a0,.int .i64 0,.int .i64 99999] rfl zzM2 ?_;(with_reducible refine (Qx.calls a0 0 99999 true _ A2.out).mono ?_);rintro e w' ⟨rfl,⟨nd,rfl⟩⟩;refine ⟨_,rfl,?_⟩)|(go_at_call 45;(with_reducible refine (Qx.calls a4 0 99999 true _ A4.out).mono ?_);rintro e w' ⟨rfl,⟨nd,rfl⟩⟩)|(go_at_call 67;(with_reducible refine (Rk.calls k a5 _ _ a2 true _ ?side1 ?side2 A6.out).mono ?_);(case side1=>repeat (first|exact (Kd.C_below c9.out zzh2)|(with_reducible refine Kd.C_alloc ?_ _)|(with_reducible refine Kd.C_drewN ?_ _)|(with_reducible refine Kd.C_drew ?_)));(case side2=>exact d0.out);rintro e w' ⟨rfl,⟨nd,rfl⟩⟩)|(go_at_call 67;(with_reducible refine (Rk.calls k a7 _ _ a3 c1 _ ?side1 ?side2 A8.out).mono ?_);(case side1=>repeat (first|exact (Kd.C_below d1.out zzh2)|(with_reducible refine Kd.C_alloc ?_ _)|(with_reducible refine Kd.C_drewN ?_ _)|(with_reducible refine Kd.C_drew ?_)));(case side2=>exact d2.out);rintro e w' ⟨rfl,⟨nd,rfl⟩⟩));go_ret;exact ⟨zzR,zzh3⟩
   ·
    replace c7:=Bool.eq_false_iff.mpr c7;subst c7;replace H:=zzIf H;obtain rfl:=Option.some.inj H;go_enter Try.func58,Try.ntmps58;go_wp2_with (first|((with_reducible refine gate_dst (N:=1) rfl ?_);refine box_event ?hg (N:=1) ?hd (cs:=#[.int .i64 a0,.int .i64 a4,.bool a5,.slice b2 a2.length b3,.bool a7,.slice b4 a3.length b5]) (t:=47) ?hr ?_;(case hd=>rfl);(case hg=>rfl);(case hr=>first|(go_simp;done)|(go_simp;rfl));intro a1 hg k4 hbox hb;have a8:=zzm (zzp zzh1 hb);have a9:=zzm (hbox);have b0:=zzm ((by rw [hg];exact (zzo zzh1):w.heap.size≤a1));have b1:=zzm ((by rw [hg];exact (zzo zzh1):w.heap.size≤a1));clear HB;have HB:=a8;have a6:=a9;have b6:=b0;have b7:=b1;clear a8 a9 b0 b1 hb hbox hg;obtain ⟨e5,e6,e7,e8,e9,g0,g1,g2,g3,g4,g5,g6⟩:=zzc6 a6.out)|((with_reducible refine gate_callee (f:=45) rfl ?_);refine goesL_ (some 5) rfl rfl Try.func45 (by kernel_rfl) rfl #[.int .i64 a0,.int .i64 0,.int .i64 99999] rfl zzM2 ?_;(with_reducible refine (Qx.calls a0 0 99999 true _ A2.out).mono ?_);rintro e w' ⟨rfl,⟨nd,rfl⟩⟩;refine ⟨_,rfl,?_⟩)|(go_at_call 45;(with_reducible refine (Qx.calls a4 0 99999 true _ A4.out).mono ?_);rintro e w' ⟨rfl,⟨nd,rfl⟩⟩)|(go_at_call 67;(with_reducible refine (Rk.calls k a5 _ _ a2 false _ ?side1 ?side2 A6.out).mono ?_);(case side1=>repeat (first|exact (Kd.C_below c9.out zzh2)|(with_reducible refine Kd.C_alloc ?_ _)|(with_reducible refine Kd.C_drewN ?_ _)|(with_reducible refine Kd.C_drew ?_)));(case side2=>exact d0.out);rintro e w' ⟨rfl,⟨nd,rfl⟩⟩));go_ret;exact ⟨zzR,zzh3⟩
  ·
   replace c5:=Bool.eq_false_iff.mpr c5;subst c5;replace H:=zzIf H;obtain rfl:=Option.some.inj H;go_enter Try.func58,Try.ntmps58;go_wp2_with (first|((with_reducible refine gate_dst (N:=1) rfl ?_);refine box_event ?hg (N:=1) ?hd (cs:=#[.int .i64 a0,.int .i64 a4,.bool a5,.slice b2 a2.length b3,.bool a7,.slice b4 a3.length b5]) (t:=47) ?hr ?_;(case hd=>rfl);(case hg=>rfl);(case hr=>first|(go_simp;done)|(go_simp;rfl));intro a1 hg k5 hbox hb;have a8:=zzm (zzp zzh1 hb);have a9:=zzm (hbox);have b0:=zzm ((by rw [hg];exact (zzo zzh1):w.heap.size≤a1));have b1:=zzm ((by rw [hg];exact (zzo zzh1):w.heap.size≤a1));clear HB;have HB:=a8;have a6:=a9;have b6:=b0;have b7:=b1;clear a8 a9 b0 b1 hb hbox hg;obtain ⟨g7,g8,g9,h0,h1,h2,h3,h4,h5,h6,h7,h8⟩:=zzc6 a6.out)|((with_reducible refine gate_callee (f:=45) rfl ?_);refine goesL_ (some 5) rfl rfl Try.func45 (by kernel_rfl) rfl #[.int .i64 a0,.int .i64 0,.int .i64 99999] rfl zzM2 ?_;(with_reducible refine (Qx.calls a0 0 99999 true _ A2.out).mono ?_);rintro e w' ⟨rfl,⟨nd,rfl⟩⟩;refine ⟨_,rfl,?_⟩)|(go_at_call 45;(with_reducible refine (Qx.calls a4 0 99999 false _ A4.out).mono ?_);rintro e w' ⟨rfl,⟨nd,rfl⟩⟩));go_ret;exact ⟨zzR,zzh3⟩
 ·
  replace c3:=Bool.eq_false_iff.mpr c3;subst c3;replace H:=zzIf H;obtain rfl:=Option.some.inj H;go_enter Try.func58,Try.ntmps58;go_wp2_with (first|((with_reducible refine gate_dst (N:=1) rfl ?_);refine box_event ?hg (N:=1) ?hd (cs:=#[.int .i64 a0,.int .i64 a4,.bool a5,.slice b2 a2.length b3,.bool a7,.slice b4 a3.length b5]) (t:=47) ?hr ?_;(case hd=>rfl);(case hg=>rfl);(case hr=>first|(go_simp;done)|(go_simp;rfl));intro a1 hg k6 hbox hb;have a8:=zzm (zzp zzh1 hb);have a9:=zzm (hbox);have b0:=zzm ((by rw [hg];exact (zzo zzh1):w.heap.size≤a1));have b1:=zzm ((by rw [hg];exact (zzo zzh1):w.heap.size≤a1));clear HB;have HB:=a8;have a6:=a9;have b6:=b0;have b7:=b1;clear a8 a9 b0 b1 hb hbox hg;obtain ⟨h9,j3,j4,j5,j6,j7,j8,j9,k0,k1,k2,k3⟩:=zzc6 a6.out)|((with_reducible refine gate_callee (f:=45) rfl ?_);refine goesL_ (some 5) rfl rfl Try.func45 (by kernel_rfl) rfl #[.int .i64 a0,.int .i64 0,.int .i64 99999] rfl zzM2 ?_;(with_reducible refine (Qx.calls a0 0 99999 false _ A2.out).mono ?_);rintro e w' ⟨rfl,⟨nd,rfl⟩⟩;refine ⟨_,rfl,?_⟩));go_ret;exact ⟨zzR,zzh3⟩

set_option linter.unusedVariables false
set_option linter.unusedSimpArgs false
def Qf.l0:Nat→List (S47)→Int→Option (Bool)
 | 0,_,_=>none
 | k+1,x0,x3=>if x3 < (x0.length:Int) then (if 0≤x3 then ((Rd.f k ((Qb x0 x3).f0) ((Qb x0 x3).f1) ((Qb x0 x3).f2) ((Qb x0 x3).f3) ((Qb x0 x3).f4) ((Qb x0 x3).f5)).bind fun t120=>(if t120=true then (if x3 > 0 then (if 0≤(wrap64 (x3 - 1)) then (if (wrap64 (x3 - 1)) < (x0.length:Int) then (if ((Qb x0 (wrap64 (x3 - 1))).f0) ≥ ((Qb x0 x3).f0) then (some false) else (Qf.l0 k x0 (wrap64 (x3+1)))) else (none)) else (none)) else (Qf.l0 k x0 (wrap64 (x3+1)))) else (some false))) else (none)) else ((Qx.f (x0.length:Int) 1 6).bind fun t123=>(some t123))
def Qf.f (k:Nat) (l0:List (S47)):Option (Bool):=Qf.l0 k l0 0
def Qf.T4:Bool×List (List Nat×List Nat):=(true,[([],[]),([],[]),([0,1],[0,1]),([2],[2]),([3],[3]),([4],[4]),([5,4],[5]),([6],[6]),([7,6],[6,7]),([8,6,6],[6,8]),([9],[9]),([9],[9]),([11,9],[9,11]),([10,12,9],[9,10,12]),([13,9],[9,13]),([14,9],[9,14]),([9],[9]),([9],[9]),([16,17,9],[9,16,17]),([18,9],[9,18]),([19,9],[9,19]),([15,20,9],[9,15,20]),([9,21,6],[6,9,21]),([6,22],[6,22])])
def Qf.B4:List Nat:=[0,0,3,7,15,31,63,127,255,511,1023,1023,3071,8191,16383,32767,1023,1023,197631,459775,984063,2097151,4194303,8388607]
theorem Qf.tab4:rtab .any (opsOf Try.f44 4)=Qf.T4:=by kernel_rfl
theorem Qf.bits4:waitsOk Qf.T4.2 Qf.B4=true:=by kernel_rfl
set_option maxHeartbeats 8000000 in
theorem Qf.calls (k:Nat) (A0:Option Addr) (c0:Nat) (l0:List (S47)) (r:Bool) (w:World) (m6:Kd.C k47 w A0 l0.length l0) (m7:l0.length≤c0) (h:Qf.f k l0=some r) :
  Calls Try.prog 44 #[.slice A0 l0.length c0] w fun e w'=>e = .returned (.bool r)∧Below w.heap.size w w':=by
 have hu47:=Try.underlying47;have k5:=zzm m6;have n6:=zzm m7;clear m6 m7;have HB:=zzm (Below.refl w.heap.size w);have H:(Qf.l0 k l0 0)=some r:=h;clear h;have H':=zzm H;clear H;go_enter Try.func44,Try.ntmps44;go_wp2;go_loopg [3] k (fun kq v3 w'=>∃ (a0:Int),v3 = .int .i64 a0∧Aside0 (Qf.l0 kq l0 a0=some r)∧Aside0 (kq≤k)∧Aside0 (Below w.heap.size w w'))
 case atStart=>exact ⟨(0),(by first|rfl|(simp;done)|(simp [*];done)),H',⟨Nat.le_refl _⟩,⟨zzh1⟩⟩
 case round=>
  clear H';obtain ⟨a0,rfl,HA,HK1,HB⟩:=hrel;cases gk with
  | zero=>exact absurd HA.out (by simp [Qf.l0])
  | succ k1=>
   have H:=HA.out;clear HA;simp only [Qf.l0] at H;by_cases c2:a0 < (l0.length:Int)
   ·
    rw [if_pos c2] at H;have m8:decide (a0 < (l0.length:Int))=true:=decide_eq_true c2;clear c2;by_cases c3 : 0≤a0
    ·
     rw [if_pos c3] at H;have n3:decide (0≤a0)=true:=decide_eq_true c3;clear c3;obtain ⟨m9,A4,H⟩:=zzG H;by_cases c5:m9=true
     ·
      subst c5;replace H:=zzIt H;by_cases c6:a0 > 0
      ·
       rw [if_pos c6] at H;have n0:decide (0 < a0)=true:=decide_eq_true c6;clear c6;obtain ⟨a3,hji7⟩:∃ j_:Int,(wrap64 (a0 - 1))=j_:=⟨_,rfl⟩;replace H:(if 0≤(a3) then (if (a3) < (l0.length:Int) then (if ((Qb l0 (a3)).f0) ≥ ((Qb l0 a0).f0) then (some false) else (Qf.l0 k1 l0 (wrap64 (a0+1)))) else (none)) else (none))=some r:=by first|(rw [hji7] at H;exact H)|(simp only [hji7] at H ⊢;exact H)
       (try rw [hji7] at A4);have hji7w:(IntKind.i64.wrap (a0 - 1))=a3:=(i64_w _).trans hji7;by_cases c8 : 0≤(a3)
       ·
        rw [if_pos c8] at H;have n4:decide (0≤(a3))=true:=decide_eq_true c8;clear c8;by_cases c9:(a3) < (l0.length:Int)
        ·
         rw [if_pos c9] at H;have n5:decide ((a3) < (l0.length:Int))=true:=decide_eq_true c9;clear c9;by_cases l6:((Qb l0 (a3)).f0) ≥ ((Qb l0 a0).f0)
         ·
          rw [if_pos l6] at H;have m5:decide (((Qb l0 a0).f0)≤((Qb l0 (a3)).f0))=true:=decide_eq_true l6;clear l6;obtain rfl:=Option.some.inj H;try go_wp2
          have d0:=zzm (zzc HB.out);clear HB;have HB:=d0;clear d0;have e7 : 0≤(a0:Int):=zzt;have e8:a0 < (l0.length:Int):=zzt;obtain ⟨a1,d1,d2,d3,d4,j5,a4,a5,a6,a7,a8,a9,b1,b2,b3,b4⟩:=Qs k5.out a0 e7 e8;have b5:=a9;have b6:=a8;have b7:=a7;have b8:=a6;have b9:=a5;have c1:=a4;cases j5;replace a4:=zzx HB.out a4;replace a5:=zzx HB.out a5;replace a6:=zzx HB.out a6;replace a7:=zzx HB.out a7;replace a8:=zzx HB.out a8;replace a9:=zzx HB.out a9;have c4:=zzm b2;have e9:=zzm b1;clear b2 b1;have c7:=zzm b4;have g0:=zzm b3;clear b4 b3;replace e7:=eq_true e7;replace e8:=eq_true e8;have j6 : 0≤((a3):Int):=zzt;have j7:(a3) < (l0.length:Int):=zzt;obtain ⟨l7,k6,k7,k8,k9,l9,d5,d6,d7,d8,d9,e0,g1,g2,g3,g4⟩:=Qs k5.out (a3) j6 j7;have g5:=e0;have g6:=d9;have g7:=d8;have g8:=d7;have g9:=d6;have h0:=d5;obtain rfl:a1=l7:=(by injection l9);replace d5:=zzx HB.out d5;replace d6:=zzx HB.out d6;replace d7:=zzx HB.out d7;replace d8:=zzx HB.out d8;replace d9:=zzx HB.out d9;replace e0:=zzx HB.out e0;have k0:=zzm g2;have m1:=zzm g1;clear g2 g1;have k2:=zzm g4;have m2:=zzm g3;clear g4 g3;replace j6:=eq_true j6;replace j7:=eq_true j7;have j8 : 0≤(a0:Int):=zzt;have j9:a0 < (l0.length:Int):=zzt;obtain ⟨l8,l2,l3,l4,l5,m0,e1,e2,e3,e4,e5,e6,h1,h2,h3,h4⟩:=Qs k5.out a0 j8 j9;have h5:=e6;have h6:=e5;have h7:=e4;have h8:=e3;have h9:=e2;have j3:=e1;obtain rfl:a1=l8:=(by injection m0);replace e1:=zzx HB.out e1;replace e2:=zzx HB.out e2;replace e3:=zzx HB.out e3;replace e4:=zzx HB.out e4;replace e5:=zzx HB.out e5;replace e6:=zzx HB.out e6;have k3:=zzm h2;have m3:=zzm h1;clear h2 h1;have k4:=zzm h4;have m4:=zzm h3;clear h4 h3;replace j8:=eq_true j8;replace j9:=eq_true j9;refine start_ (n:=24) (S:=fun w'=>w'.cell? (a1.add ((a0).toNat * 6))=some (.int .i64 ((Qb l0 a0).f0))∧w'.cell? ⟨(a1.add ((a0).toNat * 6)).block,(a1.add ((a0).toNat * 6)).off+1,none⟩=some (.int .i64 ((Qb l0 a0).f1))∧w'.cell? ⟨(a1.add ((a0).toNat * 6)).block,(a1.add ((a0).toNat * 6)).off+2,none⟩=some (.bool ((Qb l0 a0).f2))∧w'.cell? ⟨(a1.add ((a0).toNat * 6)).block,(a1.add ((a0).toNat * 6)).off+3,none⟩=some (.slice d1 ((Qb l0 a0).f3).length d2)∧w'.cell? ⟨(a1.add ((a0).toNat * 6)).block,(a1.add ((a0).toNat * 6)).off+4,none⟩=some (.bool ((Qb l0 a0).f4))∧w'.cell? ⟨(a1.add ((a0).toNat * 6)).block,(a1.add ((a0).toNat * 6)).off+5,none⟩=some (.slice d3 ((Qb l0 a0).f5).length d4)∧w'.cell? (a1.add (((a3)).toNat * 6))=some (.int .i64 ((Qb l0 (a3)).f0))∧w'.cell? ⟨(a1.add (((a3)).toNat * 6)).block,(a1.add (((a3)).toNat * 6)).off+1,none⟩=some (.int .i64 ((Qb l0 (a3)).f1))∧w'.cell? ⟨(a1.add (((a3)).toNat * 6)).block,(a1.add (((a3)).toNat * 6)).off+2,none⟩=some (.bool ((Qb l0 (a3)).f2))∧w'.cell? ⟨(a1.add (((a3)).toNat * 6)).block,(a1.add (((a3)).toNat * 6)).off+3,none⟩=some (.slice k6 ((Qb l0 (a3)).f3).length k7)∧w'.cell? ⟨(a1.add (((a3)).toNat * 6)).block,(a1.add (((a3)).toNat * 6)).off+4,none⟩=some (.bool ((Qb l0 (a3)).f4))∧w'.cell? ⟨(a1.add (((a3)).toNat * 6)).block,(a1.add (((a3)).toNat * 6)).off+5,none⟩=some (.slice k8 ((Qb l0 (a3)).f5).length k9)∧w'.cell? (a1.add ((a0).toNat * 6))=some (.int .i64 ((Qb l0 a0).f0))∧w'.cell? ⟨(a1.add ((a0).toNat * 6)).block,(a1.add ((a0).toNat * 6)).off+1,none⟩=some (.int .i64 ((Qb l0 a0).f1))∧w'.cell? ⟨(a1.add ((a0).toNat * 6)).block,(a1.add ((a0).toNat * 6)).off+2,none⟩=some (.bool ((Qb l0 a0).f2))∧w'.cell? ⟨(a1.add ((a0).toNat * 6)).block,(a1.add ((a0).toNat * 6)).off+3,none⟩=some (.slice l2 ((Qb l0 a0).f3).length l3)∧w'.cell? ⟨(a1.add ((a0).toNat * 6)).block,(a1.add ((a0).toNat * 6)).off+4,none⟩=some (.bool ((Qb l0 a0).f4))∧w'.cell? ⟨(a1.add ((a0).toNat * 6)).block,(a1.add ((a0).toNat * 6)).off+5,none⟩=some (.slice l4 ((Qb l0 a0).f5).length l5)) (ds:=[]) (zzB 24 0) (by kernel_rfl) rfl rfl ⟨(zzx HB.out c1 :),(zzx HB.out b9 :),(zzx HB.out b8 :),(zzx HB.out b7 :),(zzx HB.out b6 :),(zzx HB.out b5 :),(zzx HB.out h0 :),(zzx HB.out g9 :),(zzx HB.out g8 :),(zzx HB.out g7 :),(zzx HB.out g6 :),(zzx HB.out g5 :),(zzx HB.out j3 :),(zzx HB.out h9 :),(zzx HB.out h8 :),(zzx HB.out h7 :),(zzx HB.out h6 :),(zzx HB.out h5 :)⟩ (fun b0=>?_);refine with_tabW Qf.tab4 Qf.bits4 (fun a2 j4=>?_);generalize wr.drew=n7 at HB c4 c7 k0 k2 k3 k4 a4 a5 a6 a7 a8 a9 d5 d6 d7 d8 d9 e0 e1 e2 e3 e4 e5 e6 b0 ⊢;refine zzP 0 10 24 1 a2 ?_
          refine zzP 1 11 24 3 a2 ?_
          refine zzP 2 12 24 7 a2 ?_
          refine zzT 3 13 24 15 a2 j4 b0 ?_
          refine one_ (i:=4) (N:=some 14) (zzB 24 31) rfl rfl (one_of a2.out (by kernel_rfl)) (by decide) (fun K hK=>?_);refine goes_ Try.func58 (by kernel_rfl) rfl #[.agg #[.int .i64 ((Qb l0 a0).f0),.int .i64 ((Qb l0 a0).f1),.bool ((Qb l0 a0).f2),.slice d1 ((Qb l0 a0).f3).length d2,.bool ((Qb l0 a0).f4),.slice d3 ((Qb l0 a0).f5).length d4]] (by rfl) rfl rfl zzM2 ?_;with_reducible refine (Rd.calls k1 ((Qb l0 a0).f0) ((Qb l0 a0).f1) ((Qb l0 a0).f2) _ _ ((Qb l0 a0).f3) ((Qb l0 a0).f4) _ _ ((Qb l0 a0).f5) true _ ?side1 ?side2 ?side3 ?side4 A4.out).mono ?_
          (case side1=>exact zzcb c4 HB)
          (case side2=>exact e9.out)
          (case side3=>exact zzcb c7 HB)
          (case side4=>exact g0.out);rintro e n8 ⟨rfl,hb⟩;refine ⟨_,rfl,?_⟩;have d0:=zzm (zzp zzh1 hb);clear HB;have HB:=d0;clear d0
          (try clear hb)
          (try clear hb2)
          (try clear hk)
          (try clear hi);refine hK.out _ _ ⟨(zzx HB.out c1 :),(zzx HB.out b9 :),(zzx HB.out b8 :),(zzx HB.out b7 :),(zzx HB.out b6 :),(zzx HB.out b5 :),(zzx HB.out h0 :),(zzx HB.out g9 :),(zzx HB.out g8 :),(zzx HB.out g7 :),(zzx HB.out g6 :),(zzx HB.out g5 :),(zzx HB.out j3 :),(zzx HB.out h9 :),(zzx HB.out h8 :),(zzx HB.out h7 :),(zzx HB.out h6 :),(zzx HB.out h5 :)⟩ (fun b0=>?_);clear hK K;refine zzO 14 ?_
          refine zzP 5 15 24 63 a2 ?_
          refine zzP 6 16 24 127 a2 ?_
          refine zzP 7 17 24 255 a2 ?_
          refine zzP 8 18 24 511 a2 ?_
          refine zzP 9 19 24 1023 a2 ?_
          refine zzP 10 20 24 2047 a2 ?_
          refine zzP 11 21 24 4095 a2 ?_
          refine zzP 12 22 24 8191 a2 ?_
          refine zzP 13 23 24 16383 a2 ?_
          refine zzP 14 24 24 32767 a2 ?_
          refine zzP 16 26 24 98303 a2 ?_
          refine zzP 17 27 24 229375 a2 ?_
          refine zzP 18 28 24 491519 a2 ?_
          refine zzP 19 29 24 1015807 a2 ?_
          refine zzT 15 25 24 1048575 a2 j4 b0 ?_
          refine zzT 20 30 24 2097151 a2 j4 b0 ?_
          refine zzP 21 31 24 4194303 a2 ?_
          refine zzP 22 32 24 8388607 a2 ?_
          refine zzP 23 33 24 16777215 a2 ?_
          refine done_ (done_of a2.out (by kernel_rfl)) ?_;try go_wp2
          go_ret;exact ⟨by first|rfl|(simp [errW_none,errW_some] <;> rfl)|(simp only [← hji7];first|rfl|(simp [errW_none,errW_some] <;> rfl))|(simp [*,errW_none,errW_some] <;> rfl),zzh1⟩
         ·
          rw [if_neg l6] at H;have m5:decide (((Qb l0 a0).f0)≤((Qb l0 (a3)).f0))=false:=decide_eq_false l6;clear l6;have H':=zzm H;clear H;try go_wp2
          have d0:=zzm (zzc HB.out);clear HB;have HB:=d0;clear d0;have e7 : 0≤(a0:Int):=zzt;have e8:a0 < (l0.length:Int):=zzt;obtain ⟨a1,d1,d2,d3,d4,j5,a4,a5,a6,a7,a8,a9,b1,b2,b3,b4⟩:=Qs k5.out a0 e7 e8;have b5:=a9;have b6:=a8;have b7:=a7;have b8:=a6;have b9:=a5;have c1:=a4;cases j5;replace a4:=zzx HB.out a4;replace a5:=zzx HB.out a5;replace a6:=zzx HB.out a6;replace a7:=zzx HB.out a7;replace a8:=zzx HB.out a8;replace a9:=zzx HB.out a9;have c4:=zzm b2;have e9:=zzm b1;clear b2 b1;have c7:=zzm b4;have g0:=zzm b3;clear b4 b3;replace e7:=eq_true e7;replace e8:=eq_true e8;have j6 : 0≤((a3):Int):=zzt;have j7:(a3) < (l0.length:Int):=zzt;obtain ⟨l7,k6,k7,k8,k9,l9,d5,d6,d7,d8,d9,e0,g1,g2,g3,g4⟩:=Qs k5.out (a3) j6 j7;have g5:=e0;have g6:=d9;have g7:=d8;have g8:=d7;have g9:=d6;have h0:=d5;obtain rfl:a1=l7:=(by injection l9);replace d5:=zzx HB.out d5;replace d6:=zzx HB.out d6;replace d7:=zzx HB.out d7;replace d8:=zzx HB.out d8;replace d9:=zzx HB.out d9;replace e0:=zzx HB.out e0;have k0:=zzm g2;have m1:=zzm g1;clear g2 g1;have k2:=zzm g4;have m2:=zzm g3;clear g4 g3;replace j6:=eq_true j6;replace j7:=eq_true j7;have j8 : 0≤(a0:Int):=zzt;have j9:a0 < (l0.length:Int):=zzt;obtain ⟨l8,l2,l3,l4,l5,m0,e1,e2,e3,e4,e5,e6,h1,h2,h3,h4⟩:=Qs k5.out a0 j8 j9;have h5:=e6;have h6:=e5;have h7:=e4;have h8:=e3;have h9:=e2;have j3:=e1;obtain rfl:a1=l8:=(by injection m0);replace e1:=zzx HB.out e1;replace e2:=zzx HB.out e2;replace e3:=zzx HB.out e3;replace e4:=zzx HB.out e4;replace e5:=zzx HB.out e5;replace e6:=zzx HB.out e6;have k3:=zzm h2;have m3:=zzm h1;clear h2 h1;have k4:=zzm h4;have m4:=zzm h3;clear h4 h3;replace j8:=eq_true j8;replace j9:=eq_true j9;refine start_ (n:=24) (S:=fun w'=>w'.cell? (a1.add ((a0).toNat * 6))=some (.int .i64 ((Qb l0 a0).f0))∧w'.cell? ⟨(a1.add ((a0).toNat * 6)).block,(a1.add ((a0).toNat * 6)).off+1,none⟩=some (.int .i64 ((Qb l0 a0).f1))∧w'.cell? ⟨(a1.add ((a0).toNat * 6)).block,(a1.add ((a0).toNat * 6)).off+2,none⟩=some (.bool ((Qb l0 a0).f2))∧w'.cell? ⟨(a1.add ((a0).toNat * 6)).block,(a1.add ((a0).toNat * 6)).off+3,none⟩=some (.slice d1 ((Qb l0 a0).f3).length d2)∧w'.cell? ⟨(a1.add ((a0).toNat * 6)).block,(a1.add ((a0).toNat * 6)).off+4,none⟩=some (.bool ((Qb l0 a0).f4))∧w'.cell? ⟨(a1.add ((a0).toNat * 6)).block,(a1.add ((a0).toNat * 6)).off+5,none⟩=some (.slice d3 ((Qb l0 a0).f5).length d4)∧w'.cell? (a1.add (((a3)).toNat * 6))=some (.int .i64 ((Qb l0 (a3)).f0))∧w'.cell? ⟨(a1.add (((a3)).toNat * 6)).block,(a1.add (((a3)).toNat * 6)).off+1,none⟩=some (.int .i64 ((Qb l0 (a3)).f1))∧w'.cell? ⟨(a1.add (((a3)).toNat * 6)).block,(a1.add (((a3)).toNat * 6)).off+2,none⟩=some (.bool ((Qb l0 (a3)).f2))∧w'.cell? ⟨(a1.add (((a3)).toNat * 6)).block,(a1.add (((a3)).toNat * 6)).off+3,none⟩=some (.slice k6 ((Qb l0 (a3)).f3).length k7)∧w'.cell? ⟨(a1.add (((a3)).toNat * 6)).block,(a1.add (((a3)).toNat * 6)).off+4,none⟩=some (.bool ((Qb l0 (a3)).f4))∧w'.cell? ⟨(a1.add (((a3)).toNat * 6)).block,(a1.add (((a3)).toNat * 6)).off+5,none⟩=some (.slice k8 ((Qb l0 (a3)).f5).length k9)∧w'.cell? (a1.add ((a0).toNat * 6))=some (.int .i64 ((Qb l0 a0).f0))∧w'.cell? ⟨(a1.add ((a0).toNat * 6)).block,(a1.add ((a0).toNat * 6)).off+1,none⟩=some (.int .i64 ((Qb l0 a0).f1))∧w'.cell? ⟨(a1.add ((a0).toNat * 6)).block,(a1.add ((a0).toNat * 6)).off+2,none⟩=some (.bool ((Qb l0 a0).f2))∧w'.cell? ⟨(a1.add ((a0).toNat * 6)).block,(a1.add ((a0).toNat * 6)).off+3,none⟩=some (.slice l2 ((Qb l0 a0).f3).length l3)∧w'.cell? ⟨(a1.add ((a0).toNat * 6)).block,(a1.add ((a0).toNat * 6)).off+4,none⟩=some (.bool ((Qb l0 a0).f4))∧w'.cell? ⟨(a1.add ((a0).toNat * 6)).block,(a1.add ((a0).toNat * 6)).off+5,none⟩=some (.slice l4 ((Qb l0 a0).f5).length l5)) (ds:=[]) (zzB 24 0) (by kernel_rfl) rfl rfl ⟨(zzx HB.out c1 :),(zzx HB.out b9 :),(zzx HB.out b8 :),(zzx HB.out b7 :),(zzx HB.out b6 :),(zzx HB.out b5 :),(zzx HB.out h0 :),(zzx HB.out g9 :),(zzx HB.out g8 :),(zzx HB.out g7 :),(zzx HB.out g6 :),(zzx HB.out g5 :),(zzx HB.out j3 :),(zzx HB.out h9 :),(zzx HB.out h8 :),(zzx HB.out h7 :),(zzx HB.out h6 :),(zzx HB.out h5 :)⟩ (fun b0=>?_);refine with_tabW Qf.tab4 Qf.bits4 (fun a2 j4=>?_);generalize wr.drew=n9 at HB c4 c7 k0 k2 k3 k4 a4 a5 a6 a7 a8 a9 d5 d6 d7 d8 d9 e0 e1 e2 e3 e4 e5 e6 b0 ⊢;refine zzP 0 10 24 1 a2 ?_
          refine zzP 1 11 24 3 a2 ?_
          refine zzP 2 12 24 7 a2 ?_
          refine zzT 3 13 24 15 a2 j4 b0 ?_
          refine one_ (i:=4) (N:=some 14) (zzB 24 31) rfl rfl (one_of a2.out (by kernel_rfl)) (by decide) (fun K hK=>?_);refine goes_ Try.func58 (by kernel_rfl) rfl #[.agg #[.int .i64 ((Qb l0 a0).f0),.int .i64 ((Qb l0 a0).f1),.bool ((Qb l0 a0).f2),.slice d1 ((Qb l0 a0).f3).length d2,.bool ((Qb l0 a0).f4),.slice d3 ((Qb l0 a0).f5).length d4]] (by rfl) rfl rfl zzM2 ?_;with_reducible refine (Rd.calls k1 ((Qb l0 a0).f0) ((Qb l0 a0).f1) ((Qb l0 a0).f2) _ _ ((Qb l0 a0).f3) ((Qb l0 a0).f4) _ _ ((Qb l0 a0).f5) true _ ?side1 ?side2 ?side3 ?side4 A4.out).mono ?_
          (case side1=>exact zzcb c4 HB)
          (case side2=>exact e9.out)
          (case side3=>exact zzcb c7 HB)
          (case side4=>exact g0.out);rintro e o0 ⟨rfl,hb⟩;refine ⟨_,rfl,?_⟩;have d0:=zzm (zzp zzh1 hb);clear HB;have HB:=d0;clear d0
          (try clear hb)
          (try clear hb2)
          (try clear hk)
          (try clear hi);refine hK.out _ _ ⟨(zzx HB.out c1 :),(zzx HB.out b9 :),(zzx HB.out b8 :),(zzx HB.out b7 :),(zzx HB.out b6 :),(zzx HB.out b5 :),(zzx HB.out h0 :),(zzx HB.out g9 :),(zzx HB.out g8 :),(zzx HB.out g7 :),(zzx HB.out g6 :),(zzx HB.out g5 :),(zzx HB.out j3 :),(zzx HB.out h9 :),(zzx HB.out h8 :),(zzx HB.out h7 :),(zzx HB.out h6 :),(zzx HB.out h5 :)⟩ (fun b0=>?_);clear hK K;refine zzO 14 ?_
          refine zzP 5 15 24 63 a2 ?_
          refine zzP 6 16 24 127 a2 ?_
          refine zzP 7 17 24 255 a2 ?_
          refine zzP 8 18 24 511 a2 ?_
          refine zzP 9 19 24 1023 a2 ?_
          refine zzP 10 20 24 2047 a2 ?_
          refine zzP 11 21 24 4095 a2 ?_
          refine zzP 12 22 24 8191 a2 ?_
          refine zzP 13 23 24 16383 a2 ?_
          refine zzP 14 24 24 32767 a2 ?_
          refine zzP 16 26 24 98303 a2 ?_
          refine zzP 17 27 24 229375 a2 ?_
          refine zzP 18 28 24 491519 a2 ?_
          refine zzP 19 29 24 1015807 a2 ?_
          refine zzT 15 25 24 1048575 a2 j4 b0 ?_
          refine zzT 20 30 24 2097151 a2 j4 b0 ?_
          refine zzP 21 31 24 4194303 a2 ?_
          refine zzP 22 32 24 8388607 a2 ?_
          refine zzP 23 33 24 16777215 a2 ?_
          refine done_ (done_of a2.out (by kernel_rfl)) ?_;try go_wp2
          go_roundg k1
          case measure=>have:=HK1.out;omega
          case rel=>exact ⟨(wrap64 (a0+1)),(by first|rfl|(simp;done)|(simp [*];done)),H',⟨by have:=HK1.out;omega⟩,⟨zzh1⟩⟩
        ·
         rw [if_neg c9] at H;exact absurd H (by simp)
       ·
        rw [if_neg c8] at H;exact absurd H (by simp)
      ·
       rw [if_neg c6] at H;have n0:decide (0 < a0)=false:=decide_eq_false c6;clear c6;have H':=zzm H;clear H;try go_wp2
       have d0:=zzm (zzc HB.out);clear HB;have HB:=d0;clear d0;have e7 : 0≤(a0:Int):=zzt;have e8:a0 < (l0.length:Int):=zzt;obtain ⟨a1,d1,d2,d3,d4,j5,a4,a5,a6,a7,a8,a9,b1,b2,b3,b4⟩:=Qs k5.out a0 e7 e8;have b5:=a9;have b6:=a8;have b7:=a7;have b8:=a6;have b9:=a5;have c1:=a4;cases j5;replace a4:=zzx HB.out a4;replace a5:=zzx HB.out a5;replace a6:=zzx HB.out a6;replace a7:=zzx HB.out a7;replace a8:=zzx HB.out a8;replace a9:=zzx HB.out a9;have c4:=zzm b2;have e9:=zzm b1;clear b2 b1;have c7:=zzm b4;have g0:=zzm b3;clear b4 b3;replace e7:=eq_true e7;replace e8:=eq_true e8;refine start_ (n:=24) (S:=fun w'=>w'.cell? (a1.add ((a0).toNat * 6))=some (.int .i64 ((Qb l0 a0).f0))∧w'.cell? ⟨(a1.add ((a0).toNat * 6)).block,(a1.add ((a0).toNat * 6)).off+1,none⟩=some (.int .i64 ((Qb l0 a0).f1))∧w'.cell? ⟨(a1.add ((a0).toNat * 6)).block,(a1.add ((a0).toNat * 6)).off+2,none⟩=some (.bool ((Qb l0 a0).f2))∧w'.cell? ⟨(a1.add ((a0).toNat * 6)).block,(a1.add ((a0).toNat * 6)).off+3,none⟩=some (.slice d1 ((Qb l0 a0).f3).length d2)∧w'.cell? ⟨(a1.add ((a0).toNat * 6)).block,(a1.add ((a0).toNat * 6)).off+4,none⟩=some (.bool ((Qb l0 a0).f4))∧w'.cell? ⟨(a1.add ((a0).toNat * 6)).block,(a1.add ((a0).toNat * 6)).off+5,none⟩=some (.slice d3 ((Qb l0 a0).f5).length d4)) (ds:=[]) (zzB 24 0) (by kernel_rfl) rfl rfl ⟨(zzx HB.out c1 :),(zzx HB.out b9 :),(zzx HB.out b8 :),(zzx HB.out b7 :),(zzx HB.out b6 :),(zzx HB.out b5 :)⟩ (fun b0=>?_);refine with_tabW Qf.tab4 Qf.bits4 (fun a2 j4=>?_);generalize wr.drew=o1 at HB c4 c7 a4 a5 a6 a7 a8 a9 b0 ⊢;refine zzP 0 10 24 1 a2 ?_
       refine zzP 1 11 24 3 a2 ?_
       refine zzP 2 12 24 7 a2 ?_
       refine zzT 3 13 24 15 a2 j4 b0 ?_
       refine one_ (i:=4) (N:=some 14) (zzB 24 31) rfl rfl (one_of a2.out (by kernel_rfl)) (by decide) (fun K hK=>?_);refine goes_ Try.func58 (by kernel_rfl) rfl #[.agg #[.int .i64 ((Qb l0 a0).f0),.int .i64 ((Qb l0 a0).f1),.bool ((Qb l0 a0).f2),.slice d1 ((Qb l0 a0).f3).length d2,.bool ((Qb l0 a0).f4),.slice d3 ((Qb l0 a0).f5).length d4]] (by rfl) rfl rfl zzM2 ?_;with_reducible refine (Rd.calls k1 ((Qb l0 a0).f0) ((Qb l0 a0).f1) ((Qb l0 a0).f2) _ _ ((Qb l0 a0).f3) ((Qb l0 a0).f4) _ _ ((Qb l0 a0).f5) true _ ?side1 ?side2 ?side3 ?side4 A4.out).mono ?_
       (case side1=>exact zzcb c4 HB)
       (case side2=>exact e9.out)
       (case side3=>exact zzcb c7 HB)
       (case side4=>exact g0.out);rintro e o2 ⟨rfl,hb⟩;refine ⟨_,rfl,?_⟩;have d0:=zzm (zzp zzh1 hb);clear HB;have HB:=d0;clear d0
       (try clear hb)
       (try clear hb2)
       (try clear hk)
       (try clear hi);refine hK.out _ _ ⟨(zzx HB.out c1 :),(zzx HB.out b9 :),(zzx HB.out b8 :),(zzx HB.out b7 :),(zzx HB.out b6 :),(zzx HB.out b5 :)⟩ (fun b0=>?_);clear hK K;refine zzO 14 ?_
       refine zzP 5 15 24 63 a2 ?_
       refine zzP 6 16 24 127 a2 ?_
       refine zzP 7 17 24 255 a2 ?_
       refine zzP 8 18 24 511 a2 ?_
       refine zzP 9 19 24 1023 a2 ?_
       refine zzU 10 20 24 2047 a2 ?_
       refine zzU 11 21 24 4095 a2 ?_
       refine zzU 12 22 24 8191 a2 ?_
       refine zzU 13 23 24 16383 a2 ?_
       refine zzU 14 24 24 32767 a2 ?_
       refine zzU 15 25 24 65535 a2 ?_
       refine zzU 16 26 24 131071 a2 ?_
       refine zzU 17 27 24 262143 a2 ?_
       refine zzU 18 28 24 524287 a2 ?_
       refine zzU 19 29 24 1048575 a2 ?_
       refine zzU 20 30 24 2097151 a2 ?_
       refine zzU 21 31 24 4194303 a2 ?_
       refine zzP 22 32 24 8388607 a2 ?_
       refine zzP 23 33 24 16777215 a2 ?_
       refine done_ (done_of a2.out (by kernel_rfl)) ?_;try go_wp2
       go_roundg k1
       case measure=>have:=HK1.out;omega
       case rel=>exact ⟨(wrap64 (a0+1)),(by first|rfl|(simp;done)|(simp [*];done)),H',⟨by have:=HK1.out;omega⟩,⟨zzh1⟩⟩
     ·
      replace c5:=Bool.eq_false_iff.mpr c5;subst c5;replace H:=zzIf H;obtain rfl:=Option.some.inj H;try go_wp2
      have d0:=zzm (zzc HB.out);clear HB;have HB:=d0;clear d0;have e7 : 0≤(a0:Int):=zzt;have e8:a0 < (l0.length:Int):=zzt;obtain ⟨a1,d1,d2,d3,d4,j5,a4,a5,a6,a7,a8,a9,b1,b2,b3,b4⟩:=Qs k5.out a0 e7 e8;have b5:=a9;have b6:=a8;have b7:=a7;have b8:=a6;have b9:=a5;have c1:=a4;cases j5;replace a4:=zzx HB.out a4;replace a5:=zzx HB.out a5;replace a6:=zzx HB.out a6;replace a7:=zzx HB.out a7;replace a8:=zzx HB.out a8;replace a9:=zzx HB.out a9;have c4:=zzm b2;have e9:=zzm b1;clear b2 b1;have c7:=zzm b4;have g0:=zzm b3;clear b4 b3;replace e7:=eq_true e7;replace e8:=eq_true e8;refine start_ (n:=24) (S:=fun w'=>w'.cell? (a1.add ((a0).toNat * 6))=some (.int .i64 ((Qb l0 a0).f0))∧w'.cell? ⟨(a1.add ((a0).toNat * 6)).block,(a1.add ((a0).toNat * 6)).off+1,none⟩=some (.int .i64 ((Qb l0 a0).f1))∧w'.cell? ⟨(a1.add ((a0).toNat * 6)).block,(a1.add ((a0).toNat * 6)).off+2,none⟩=some (.bool ((Qb l0 a0).f2))∧w'.cell? ⟨(a1.add ((a0).toNat * 6)).block,(a1.add ((a0).toNat * 6)).off+3,none⟩=some (.slice d1 ((Qb l0 a0).f3).length d2)∧w'.cell? ⟨(a1.add ((a0).toNat * 6)).block,(a1.add ((a0).toNat * 6)).off+4,none⟩=some (.bool ((Qb l0 a0).f4))∧w'.cell? ⟨(a1.add ((a0).toNat * 6)).block,(a1.add ((a0).toNat * 6)).off+5,none⟩=some (.slice d3 ((Qb l0 a0).f5).length d4)) (ds:=[]) (zzB 24 0) (by kernel_rfl) rfl rfl ⟨(zzx HB.out c1 :),(zzx HB.out b9 :),(zzx HB.out b8 :),(zzx HB.out b7 :),(zzx HB.out b6 :),(zzx HB.out b5 :)⟩ (fun b0=>?_);refine with_tabW Qf.tab4 Qf.bits4 (fun a2 j4=>?_);generalize wr.drew=o3 at HB c4 c7 a4 a5 a6 a7 a8 a9 b0 ⊢;refine zzP 0 10 24 1 a2 ?_
      refine zzP 1 11 24 3 a2 ?_
      refine zzP 2 12 24 7 a2 ?_
      refine zzT 3 13 24 15 a2 j4 b0 ?_
      refine one_ (i:=4) (N:=some 14) (zzB 24 31) rfl rfl (one_of a2.out (by kernel_rfl)) (by decide) (fun K hK=>?_);refine goes_ Try.func58 (by kernel_rfl) rfl #[.agg #[.int .i64 ((Qb l0 a0).f0),.int .i64 ((Qb l0 a0).f1),.bool ((Qb l0 a0).f2),.slice d1 ((Qb l0 a0).f3).length d2,.bool ((Qb l0 a0).f4),.slice d3 ((Qb l0 a0).f5).length d4]] (by rfl) rfl rfl zzM2 ?_;with_reducible refine (Rd.calls k1 ((Qb l0 a0).f0) ((Qb l0 a0).f1) ((Qb l0 a0).f2) _ _ ((Qb l0 a0).f3) ((Qb l0 a0).f4) _ _ ((Qb l0 a0).f5) false _ ?side1 ?side2 ?side3 ?side4 A4.out).mono ?_
      (case side1=>exact zzcb c4 HB)
      (case side2=>exact e9.out)
      (case side3=>exact zzcb c7 HB)
      (case side4=>exact g0.out);rintro e o4 ⟨rfl,hb⟩;refine ⟨_,rfl,?_⟩;have d0:=zzm (zzp zzh1 hb);clear HB;have HB:=d0;clear d0
      (try clear hb)
      (try clear hb2)
      (try clear hk)
      (try clear hi);refine hK.out _ _ ⟨(zzx HB.out c1 :),(zzx HB.out b9 :),(zzx HB.out b8 :),(zzx HB.out b7 :),(zzx HB.out b6 :),(zzx HB.out b5 :)⟩ (fun b0=>?_);clear hK K;refine zzO 14 ?_
      refine zzP 5 15 24 63 a2 ?_
      refine zzP 6 16 24 127 a2 ?_
      refine zzU 7 17 24 255 a2 ?_
      refine zzU 8 18 24 511 a2 ?_
      refine zzU 9 19 24 1023 a2 ?_
      refine zzU 10 20 24 2047 a2 ?_
      refine zzU 11 21 24 4095 a2 ?_
      refine zzU 12 22 24 8191 a2 ?_
      refine zzU 13 23 24 16383 a2 ?_
      refine zzU 14 24 24 32767 a2 ?_
      refine zzU 15 25 24 65535 a2 ?_
      refine zzU 16 26 24 131071 a2 ?_
      refine zzU 17 27 24 262143 a2 ?_
      refine zzU 18 28 24 524287 a2 ?_
      refine zzU 19 29 24 1048575 a2 ?_
      refine zzU 20 30 24 2097151 a2 ?_
      refine zzU 21 31 24 4194303 a2 ?_
      refine zzU 22 32 24 8388607 a2 ?_
      refine zzP 23 33 24 16777215 a2 ?_
      refine done_ (done_of a2.out (by kernel_rfl)) ?_;try go_wp2
      go_ret;exact ⟨zzR,zzh1⟩
    ·
     rw [if_neg c3] at H;exact absurd H (by simp)
   ·
    rw [if_neg c2] at H;have m8:decide (a0 < (l0.length:Int))=false:=decide_eq_false c2;clear c2;obtain ⟨n1,n2,H⟩:=zzG H;obtain rfl:=Option.some.inj H;go_wp2_with (first|((with_reducible refine gate_callee (f:=45) rfl ?_);refine goesL_ (some 36) rfl rfl Try.func45 (by kernel_rfl) rfl #[.int .i64 (l0.length:Int),.int .i64 1,.int .i64 6] rfl zzM2 ?_;(with_reducible refine (Qx.calls (l0.length:Int) 1 6 n1 _ n2.out).mono ?_);rintro e w' ⟨rfl,⟨nd,rfl⟩⟩;refine ⟨_,rfl,?_⟩));go_ret;exact ⟨zzR,zzh1⟩

set_option linter.unusedVariables false
set_option linter.unusedSimpArgs false
def Ql.j0:Nat→Bool→Bool→Bool→Int→Int→Int→List (S47)→Option (Bool)
 | 0,_,_,_,_,_,_,_=>none
 | k+1,x24,x125000,x125001,x125002,x125003,x125004,x125005=>if x24=true then (some false) else (if x125002=255 then (if x125003=0 then (if x125004=0 then (some (!x125001)) else (some false)) else (some false)) else (if x125001=true then (some ((x125005.length:Int)==1)) else (some true)))
def Ql.f (k:Nat) (a0_0:Bool) (a0_1:Bool) (a0_2:Int) (a0_3:Int) (a0_4:Int) (l0_5:List (S47)):Option (Bool):=(Qf.f k l0_5).bind fun t125=>(if t125=true then ((Qx.f a0_2 0 255).bind fun t126=>(if t126=true then ((Qx.f a0_3 0 99).bind fun t127=>(if t127=true then ((Qx.f a0_4 0 9999).bind fun t128=>(Ql.j0 k (!t128) a0_0 a0_1 a0_2 a0_3 a0_4 l0_5)) else (Ql.j0 k true a0_0 a0_1 a0_2 a0_3 a0_4 l0_5))) else (Ql.j0 k true a0_0 a0_1 a0_2 a0_3 a0_4 l0_5))) else (Ql.j0 k true a0_0 a0_1 a0_2 a0_3 a0_4 l0_5))
set_option maxHeartbeats 8000000 in
theorem Ql.calls (k:Nat) (a6:Bool) (a5:Bool) (a2:Int) (a3:Int) (a4:Int) (a7:Option Addr) (a8:Nat) (a1:List (S47)) (r:Bool) (w:World) (c3:Kd.C k47 w a7 a1.length a1) (c6:a1.length≤a8) (h:Ql.f k a6 a5 a2 a3 a4 a1=some r) :
  Calls Try.prog 26 #[.agg #[.bool a6,.bool a5,.int .i64 a2,.int .i64 a3,.int .i64 a4,.slice a7 a1.length a8]] w fun e w'=>e = .returned (.bool r)∧Below w.heap.size w w':=by
 have hu39:=Try.underlying39;have b2:=zzm c3;have b3:=zzm c6;clear c3 c6;have HB:=zzm (Below.refl w.heap.size w);have H:((Qf.f k a1).bind fun b9=>(if b9=true then ((Qx.f a2 0 255).bind fun c0=>(if c0=true then ((Qx.f a3 0 99).bind fun c1=>(if c1=true then ((Qx.f a4 0 9999).bind fun b5=>(Ql.j0 k (!b5) a6 a5 a2 a3 a4 a1)) else (Ql.j0 k true a6 a5 a2 a3 a4 a1))) else (Ql.j0 k true a6 a5 a2 a3 a4 a1))) else (Ql.j0 k true a6 a5 a2 a3 a4 a1)))=some r:=h;clear h;have o0:=zzm H;clear H;go_enter Try.func26,Try.ntmps26;go_upto_region 1 with (first|((with_reducible refine gate_dst (N:=1) rfl ?_);(try (refine gate_guard (by rfl) ?_;dsimp only));refine box_event ?hg (N:=1) ?hd (cs:=#[.bool a6,.bool a5,.int .i64 a2,.int .i64 a3,.int .i64 a4,.slice a7 a1.length a8]) (t:=39) ?hr ?_;(case hd=>rfl);(case hg=>rfl);(case hr=>first|(go_simp;done)|(go_simp;rfl));intro b1 hg w3 hbox hb;have a9:=zzm (zzp zzh1 hb);have b0:=zzm (hbox);have o7:=zzm ((by rw [hg];exact (zzo zzh1):w.heap.size≤b1));have o8:=zzm ((by rw [hg];exact (zzo zzh1):w.heap.size≤b1));clear HB;have HB:=a9;have a0:=b0;have w2:=o7;have w4:=o8;clear a9 b0 o7 o8 hb hbox hg))
 (try simp only [Act.put,zzq,zzr,zzs]);go_cut [24] (fun w0 wc=>∃ (kq:Nat) (b4:Bool),w0 = .bool b4∧Aside0 (Ql.j0 kq b4 a6 a5 a2 a3 a4 a1=some r)∧Aside0 (kq≤k)∧Aside0 (wc.heap[b1]? = some (.cells #[.bool a6,.bool a5,.int .i64 a2,.int .i64 a3,.int .i64 a4,(.slice a7 a1.length a8)] 39 (0,0)))∧Aside0 (Below w.heap.size w wc))
 case first=>
  have H:=o0.out;clear o0;obtain ⟨b9,A4,H⟩:=zzG H;by_cases c5:b9=true
  ·
   subst c5;replace H:=zzIt H;obtain ⟨c0,A6,H⟩:=zzG H;by_cases c7:c0=true
   ·
    subst c7;replace H:=zzIt H;obtain ⟨c1,A8,H⟩:=zzG H;by_cases c9:c1=true
    ·
     subst c9;replace H:=zzIt H;obtain ⟨b5,w1,H⟩:=zzG H;have H':=zzm H;clear H;obtain ⟨d1,d2,d3,d4,d5,d6,d7,d8,d9,e0,e1,e2⟩:=zzc6 a0.out;go_wp2_with (first|((with_reducible refine gate_callee (f:=44) rfl ?_);refine goesL_ (some 5) rfl rfl Try.func44 (by kernel_rfl) rfl #[.slice a7 a1.length a8] rfl zzM2 ?_;(with_reducible refine (Qf.calls k _ _ a1 true _ ?side1 ?side2 A4.out).mono ?_);(case side1=>exact zzcb b2 HB);(case side2=>exact b3.out);rintro e w5 ⟨rfl,hb⟩;refine ⟨_,rfl,?_⟩;have a9:=zzm (zzh (g:=b1) (o:=.cells #[.bool a6,.bool a5,.int .i64 a2,.int .i64 a3,.int .i64 a4,.slice a7 a1.length a8] 39 (0,0)) (zzE a0.out) hb);have b0:=zzm (zzp zzh2 hb);clear a0 HB;have a0:=a9;have HB:=b0;clear a9 b0;(try clear hb);(try clear hb2);(try clear hk);(try clear hi);obtain ⟨e3,e4,e5,e6,e7,e8,e9,g0,g1,g2,g3,g4⟩:=zzc6 a0.out)|(go_at_call 45;(with_reducible refine (Qx.calls a2 0 255 true _ A6.out).mono ?_);rintro e w' ⟨rfl,⟨nd,rfl⟩⟩)|(go_at_call 45;(with_reducible refine (Qx.calls a3 0 99 true _ A8.out).mono ?_);rintro e w' ⟨rfl,⟨nd,rfl⟩⟩)|(go_at_call 45;(with_reducible refine (Qx.calls a4 0 9999 b5 _ w1.out).mono ?_);rintro e w' ⟨rfl,⟨nd,rfl⟩⟩));go_meet
     case rel=>exact ⟨_,(!b5),(by first|rfl|(simp;done)|(simp [*];done)),H',⟨by first|omega|exact Nat.le_refl _⟩,⟨zzE a0.out⟩,⟨zzh3⟩⟩
    ·
     replace c9:=Bool.eq_false_iff.mpr c9;subst c9;replace H:=zzIf H;have H':=zzm H;clear H;obtain ⟨g5,g6,g7,g8,g9,h0,h1,h2,h3,h4,h5,h6⟩:=zzc6 a0.out;go_wp2_with (first|((with_reducible refine gate_callee (f:=44) rfl ?_);refine goesL_ (some 5) rfl rfl Try.func44 (by kernel_rfl) rfl #[.slice a7 a1.length a8] rfl zzM2 ?_;(with_reducible refine (Qf.calls k _ _ a1 true _ ?side1 ?side2 A4.out).mono ?_);(case side1=>exact zzcb b2 HB);(case side2=>exact b3.out);rintro e w6 ⟨rfl,hb⟩;refine ⟨_,rfl,?_⟩;have a9:=zzm (zzh (g:=b1) (o:=.cells #[.bool a6,.bool a5,.int .i64 a2,.int .i64 a3,.int .i64 a4,.slice a7 a1.length a8] 39 (0,0)) (zzE a0.out) hb);have b0:=zzm (zzp zzh2 hb);clear a0 HB;have a0:=a9;have HB:=b0;clear a9 b0;(try clear hb);(try clear hb2);(try clear hk);(try clear hi);obtain ⟨h7,h8,h9,j3,j4,j5,j6,j7,j8,j9,k0,k1⟩:=zzc6 a0.out)|(go_at_call 45;(with_reducible refine (Qx.calls a2 0 255 true _ A6.out).mono ?_);rintro e w' ⟨rfl,⟨nd,rfl⟩⟩)|(go_at_call 45;(with_reducible refine (Qx.calls a3 0 99 false _ A8.out).mono ?_);rintro e w' ⟨rfl,⟨nd,rfl⟩⟩));go_meet
     case rel=>exact ⟨_,(true),(by first|rfl|(simp;done)|(simp [*];done)),H',⟨by first|omega|exact Nat.le_refl _⟩,⟨zzE a0.out⟩,⟨zzh3⟩⟩
   ·
    replace c7:=Bool.eq_false_iff.mpr c7;subst c7;replace H:=zzIf H;have H':=zzm H;clear H;obtain ⟨k2,k3,k4,k5,k6,k7,k8,k9,l2,l3,l4,l5⟩:=zzc6 a0.out;go_wp2_with (first|((with_reducible refine gate_callee (f:=44) rfl ?_);refine goesL_ (some 5) rfl rfl Try.func44 (by kernel_rfl) rfl #[.slice a7 a1.length a8] rfl zzM2 ?_;(with_reducible refine (Qf.calls k _ _ a1 true _ ?side1 ?side2 A4.out).mono ?_);(case side1=>exact zzcb b2 HB);(case side2=>exact b3.out);rintro e w7 ⟨rfl,hb⟩;refine ⟨_,rfl,?_⟩;have a9:=zzm (zzh (g:=b1) (o:=.cells #[.bool a6,.bool a5,.int .i64 a2,.int .i64 a3,.int .i64 a4,.slice a7 a1.length a8] 39 (0,0)) (zzE a0.out) hb);have b0:=zzm (zzp zzh2 hb);clear a0 HB;have a0:=a9;have HB:=b0;clear a9 b0;(try clear hb);(try clear hb2);(try clear hk);(try clear hi);obtain ⟨l6,l7,l8,l9,m0,m1,m2,m3,m4,m5,m6,m7⟩:=zzc6 a0.out)|(go_at_call 45;(with_reducible refine (Qx.calls a2 0 255 false _ A6.out).mono ?_);rintro e w' ⟨rfl,⟨nd,rfl⟩⟩));go_meet
    case rel=>exact ⟨_,(true),(by first|rfl|(simp;done)|(simp [*];done)),H',⟨by first|omega|exact Nat.le_refl _⟩,⟨zzE a0.out⟩,⟨zzh3⟩⟩
  ·
   replace c5:=Bool.eq_false_iff.mpr c5;subst c5;replace H:=zzIf H;have H':=zzm H;clear H;obtain ⟨m8,m9,n0,n1,n2,n3,n4,n5,n6,n7,n8,n9⟩:=zzc6 a0.out;go_wp2_with (first|((with_reducible refine gate_callee (f:=44) rfl ?_);refine goesL_ (some 5) rfl rfl Try.func44 (by kernel_rfl) rfl #[.slice a7 a1.length a8] rfl zzM2 ?_;(with_reducible refine (Qf.calls k _ _ a1 false _ ?side1 ?side2 A4.out).mono ?_);(case side1=>exact zzcb b2 HB);(case side2=>exact b3.out);rintro e w8 ⟨rfl,hb⟩;refine ⟨_,rfl,?_⟩;have a9:=zzm (zzh (g:=b1) (o:=.cells #[.bool a6,.bool a5,.int .i64 a2,.int .i64 a3,.int .i64 a4,.slice a7 a1.length a8] 39 (0,0)) (zzE a0.out) hb);have b0:=zzm (zzp zzh2 hb);clear a0 HB;have a0:=a9;have HB:=b0;clear a9 b0;(try clear hb);(try clear hb2);(try clear hk);(try clear hi)));go_meet
   case rel=>exact ⟨_,(true),(by first|rfl|(simp;done)|(simp [*];done)),H',⟨by first|omega|exact Nat.le_refl _⟩,⟨zzE a0.out⟩,⟨zzh3⟩⟩
 case rest=>
  clear o0;try clear c2
  try clear p2
  try clear c4
  try clear c5
  try clear c7
  try clear c9
  try clear d1
  try clear d2
  try clear d3
  try clear d4
  try clear d5
  try clear d6
  try clear e3
  try clear e4
  try clear e5
  try clear e6
  try clear e7
  try clear e8
  try clear g5
  try clear g6
  try clear g7
  try clear g8
  try clear g9
  try clear h0
  try clear h7
  try clear h8
  try clear h9
  try clear j3
  try clear j4
  try clear j5
  try clear k2
  try clear k3
  try clear k4
  try clear k5
  try clear k6
  try clear k7
  try clear l6
  try clear l7
  try clear l8
  try clear l9
  try clear m0
  try clear m1
  try clear m8
  try clear m9
  try clear n0
  try clear n1
  try clear n2
  try clear n3
  try clear d7
  try clear d8
  try clear d9
  try clear e0
  try clear e1
  try clear e2
  try clear e9
  try clear g0
  try clear g1
  try clear g2
  try clear g3
  try clear g4
  try clear h1
  try clear h2
  try clear h3
  try clear h4
  try clear h5
  try clear h6
  try clear j6
  try clear j7
  try clear j8
  try clear j9
  try clear k0
  try clear k1
  try clear k8
  try clear k9
  try clear l2
  try clear l3
  try clear l4
  try clear l5
  try clear m2
  try clear m3
  try clear m4
  try clear m5
  try clear m6
  try clear m7
  try clear n4
  try clear n5
  try clear n6
  try clear n7
  try clear n8
  try clear n9
  obtain ⟨kq,b4,rfl,HA,HJ1,a0,HB⟩:=hcut;cases kq with
  | zero=>exact absurd HA.out (by simp [Ql.j0])
  | succ w9=>
   have H:=HA.out;clear HA;simp only [Ql.j0] at H;by_cases c8:b4=true
   ·
    subst c8;replace H:=zzIt H;obtain rfl:=Option.some.inj H;go_wp2;go_ret;exact ⟨zzR,zzh3⟩
   ·
    replace c8:=Bool.eq_false_iff.mpr c8;subst c8;replace H:=zzIf H;by_cases b6:a2=255
    ·
     rw [if_pos b6] at H;obtain ⟨o1,o2⟩:=zzQ b6;clear b6;by_cases b7:a3=0
     ·
      rw [if_pos b7] at H;obtain ⟨o3,o4⟩:=zzQ b7;clear b7;by_cases b8:a4=0
      ·
       rw [if_pos b8] at H;obtain ⟨o5,o6⟩:=zzQ b8;clear b8;obtain rfl:=Option.some.inj H;obtain ⟨o9,p0,p1,p3,p4,p5,p6,p7,p8,p9,q0,q1⟩:=zzc6 a0.out;go_wp2;go_ret;exact ⟨zzR,zzh3⟩
      ·
       rw [if_neg b8] at H;obtain ⟨o5,o6⟩:=zzY b8;obtain rfl:=Option.some.inj H;obtain ⟨q2,q3,q4,q5,q6,q7,q8,q9,r0,r1,r2,r3⟩:=zzc6 a0.out;go_wp2;go_ret;exact ⟨zzR,zzh3⟩
     ·
      rw [if_neg b7] at H;obtain ⟨o3,o4⟩:=zzY b7;obtain rfl:=Option.some.inj H;obtain ⟨r4,r5,r6,r7,r8,r9,s0,s1,s2,s3,s4,s5⟩:=zzc6 a0.out;go_wp2;go_ret;exact ⟨zzR,zzh3⟩
    ·
     rw [if_neg b6] at H;obtain ⟨o1,o2⟩:=zzY b6;by_cases d0:a5=true
     ·
      subst d0;replace H:=zzIt H;obtain rfl:=Option.some.inj H;obtain ⟨s6,s7,s8,s9,t0,t1,t2,t3,t4,t5,t6,t7⟩:=zzc6 a0.out;go_wp2;go_ret;exact ⟨zzR,zzh3⟩
     ·
      replace d0:=Bool.eq_false_iff.mpr d0;subst d0;replace H:=zzIf H;obtain rfl:=Option.some.inj H;obtain ⟨t8,t9,v0,v1,v2,v3,v4,v5,v6,v7,v8,v9⟩:=zzc6 a0.out;go_wp2;go_ret;exact ⟨zzR,zzh3⟩

set_option linter.unusedVariables false
set_option linter.unusedSimpArgs false
def Rp.f (a0_0:Bool) (a0_1:Bool) (a0_2:Int) (a0_3:Int) (a0_4:Int) (l0_5:List (S47)):Option (Int):=if 0≤(wrap64 ((l0_5.length:Int) - 1)) then (if (wrap64 ((l0_5.length:Int) - 1)) < (l0_5.length:Int) then (some ((Qb l0_5 (wrap64 ((l0_5.length:Int) - 1))).f0)) else (none)) else (none)
set_option maxHeartbeats 8000000 in
theorem Rp.calls (b2:Bool) (b3:Bool) (b4:Int) (b5:Int) (b6:Int) (b7:Option Addr) (b8:Nat) (a0:List (S47)) (r:Int) (w:World) (c1:Kd.C k47 w b7 a0.length a0) (c2:a0.length≤b8) (h:Rp.f b2 b3 b4 b5 b6 a0=some r) :
  Calls Try.prog 27 #[.agg #[.bool b2,.bool b3,.int .i64 b4,.int .i64 b5,.int .i64 b6,.slice b7 a0.length b8]] w fun e w'=>e = .returned (.int .i64 r)∧Below w.heap.size w w':=by
 have hu39:=Try.underlying39;have c6:=zzm c1;have g3:=zzm c2;clear c1 c2;have HB:=zzm (Below.refl w.heap.size w);have H:(if 0≤(wrap64 ((a0.length:Int) - 1)) then (if (wrap64 ((a0.length:Int) - 1)) < (a0.length:Int) then (some ((Qb a0 (wrap64 ((a0.length:Int) - 1))).f0)) else (none)) else (none))=some r:=h;clear h;obtain ⟨a1,hji2⟩:∃ j_:Int,(wrap64 ((a0.length:Int) - 1))=j_:=⟨_,rfl⟩;replace H:(if 0≤(a1) then (if (a1) < (a0.length:Int) then (some ((Qb a0 (a1)).f0)) else (none)) else (none))=some r:=by first|(rw [hji2] at H;exact H)|(simp only [hji2] at H ⊢;exact H)
 have hji2w:(IntKind.i64.wrap ((a0.length:Int) - 1))=a1:=(i64_w _).trans hji2;by_cases c3 : 0≤(a1)
 ·
  rw [if_pos c3] at H;have g7:decide (0≤(a1))=true:=decide_eq_true c3;clear c3;by_cases c4:(a1) < (a0.length:Int)
  ·
   rw [if_pos c4] at H;have g8:decide ((a1) < (a0.length:Int))=true:=decide_eq_true c4;clear c4;obtain rfl:=Option.some.inj H;go_enter Try.func27,Try.ntmps27;go_wp2_with (first|((with_reducible refine gate_dst (N:=1) rfl ?_);refine box_event ?hg (N:=1) ?hd (cs:=#[.bool b2,.bool b3,.int .i64 b4,.int .i64 b5,.int .i64 b6,.slice b7 a0.length b8]) (t:=39) ?hr ?_;(case hd=>rfl);(case hg=>rfl);(case hr=>first|(go_simp;done)|(go_simp;rfl));intro c5 hg w5 hbox hb;have c8:=zzm (zzp zzh1 hb);have c9:=zzm (hbox);have d0:=zzm ((by rw [hg];exact (zzo zzh1):w.heap.size≤c5));have d1:=zzm ((by rw [hg];exact (zzo zzh1):w.heap.size≤c5));clear HB;have HB:=c8;have c7:=c9;have g4:=d0;have g5:=d1;clear c8 c9 d0 d1 hb hbox hg;obtain ⟨d7,d8,d9,e0,e1,e2,e3,e4,e5,e6,e7,e8⟩:=zzc6 c7.out;have b9 : 0≤((a1):Int):=zzt;have c0:(a1) < (a0.length:Int):=zzt;obtain ⟨g6,e9,g0,g1,g2,d2,a2,a3,a4,a5,a6,a7,a8,a9,b0,b1⟩:=Qs c6.out (a1) b9 c0;cases d2;replace a2:=zzx HB.out a2;replace a3:=zzx HB.out a3;replace a4:=zzx HB.out a4;replace a5:=zzx HB.out a5;replace a6:=zzx HB.out a6;replace a7:=zzx HB.out a7;have d3:=zzm a9;have d4:=zzm a8;clear a9 a8;have d5:=zzm b1;have d6:=zzm b0;clear b1 b0;replace b9:=eq_true b9;replace c0:=eq_true c0));go_ret;exact ⟨by first|rfl|(simp [errW_none,errW_some] <;> rfl)|(simp only [← hji2];first|rfl|(simp [errW_none,errW_some] <;> rfl))|(simp [*,errW_none,errW_some] <;> rfl),zzh3⟩
  ·
   rw [if_neg c4] at H;exact absurd H (by simp)
 ·
  rw [if_neg c3] at H;exact absurd H (by simp)

set_option linter.unusedVariables false
set_option linter.unusedSimpArgs false
def Qh.l0:Nat→List (S39)→Int→Option (Bool)
 | 0,_,_=>none
 | k+1,x0,x3=>if x3 < (x0.length:Int) then (if 0≤x3 then ((Ql.f k ((Qa x0 x3).f0) ((Qa x0 x3).f1) ((Qa x0 x3).f2) ((Qa x0 x3).f3) ((Qa x0 x3).f4) ((Qa x0 x3).f5)).bind fun t132=>(if t132=true then (if x3 > 0 then (if 0≤(wrap64 (x3 - 1)) then (if (wrap64 (x3 - 1)) < (x0.length:Int) then ((Rp.f ((Qa x0 (wrap64 (x3 - 1))).f0) ((Qa x0 (wrap64 (x3 - 1))).f1) ((Qa x0 (wrap64 (x3 - 1))).f2) ((Qa x0 (wrap64 (x3 - 1))).f3) ((Qa x0 (wrap64 (x3 - 1))).f4) ((Qa x0 (wrap64 (x3 - 1))).f5)).bind fun t134=>(if 0 < (((Qa x0 x3).f5).length:Int) then (if t134 ≥ ((Qb ((Qa x0 x3).f5) 0).f0) then (some false) else (Qh.l0 k x0 (wrap64 (x3+1)))) else (none))) else (none)) else (none)) else (Qh.l0 k x0 (wrap64 (x3+1)))) else (some false))) else (none)) else (some (decide ((x0.length:Int)≤8)))
def Qh.f (k:Nat) (l0:List (S39)):Option (Bool):=Qh.l0 k l0 0
def Qh.T4:Bool×List (List Nat×List Nat):=(true,[([],[]),([],[]),([0,1],[0,1]),([2],[2]),([3],[3]),([4],[4]),([5,4],[5]),([6],[6]),([7,6],[6,7]),([8,6,6],[6,8]),([9],[9]),([9],[9]),([11,9],[9,11]),([10,12,9],[9,10,12]),([13,9],[9,13]),([14,9,9],[9,14]),([9],[9]),([9],[9]),([16,17,9],[9,16,17]),([18,9],[9,18]),([19,9],[9,19]),([20,9],[9,20]),([21,9],[9,21]),([22,9],[9,22]),([15,23,9],[9,15,23]),([9,24,6],[6,9,24]),([6,25],[6,25])])
def Qh.B4:List Nat:=[0,0,3,7,15,31,63,127,255,511,1023,1023,3071,8191,16383,32767,1023,1023,197631,459775,984063,2032639,4129791,8324095,16777215,33554431,67108863]
theorem Qh.tab4:rtab .any (opsOf Try.f12 4)=Qh.T4:=by kernel_rfl
theorem Qh.bits4:waitsOk Qh.T4.2 Qh.B4=true:=by kernel_rfl
set_option maxHeartbeats 8000000 in
theorem Qh.calls (k:Nat) (A0:Option Addr) (c0:Nat) (l0:List (S39)) (r:Bool) (w:World) (o2:Kd.C k39 w A0 l0.length l0) (o3:l0.length≤c0) (h:Qh.f k l0=some r) :
  Calls Try.prog 12 #[.slice A0 l0.length c0] w fun e w'=>e = .returned (.bool r)∧Below w.heap.size w w':=by
 have hu39:=Try.underlying39;have m3:=zzm o2;have p3:=zzm o3;clear o2 o3;have HB:=zzm (Below.refl w.heap.size w);have H:(Qh.l0 k l0 0)=some r:=h;clear h;have H':=zzm H;clear H;go_enter Try.func12,Try.ntmps12;go_wp2;go_loopg [3] k (fun kq v3 w'=>∃ (a0:Int),v3 = .int .i64 a0∧Aside0 (Qh.l0 kq l0 a0=some r)∧Aside0 (kq≤k)∧Aside0 (Below w.heap.size w w'))
 case atStart=>exact ⟨(0),(by first|rfl|(simp;done)|(simp [*];done)),H',⟨Nat.le_refl _⟩,⟨zzh1⟩⟩
 case round=>
  clear H';try clear c1
  obtain ⟨a0,rfl,HA,HK1,HB⟩:=hrel;cases gk with
  | zero=>exact absurd HA.out (by simp [Qh.l0])
  | succ k1=>
   have H:=HA.out;clear HA;simp only [Qh.l0] at H;by_cases c2:a0 < (l0.length:Int)
   ·
    rw [if_pos c2] at H;have o5:decide (a0 < (l0.length:Int))=true:=decide_eq_true c2;clear c2;by_cases c3 : 0≤a0
    ·
     rw [if_pos c3] at H;have p0:decide (0≤a0)=true:=decide_eq_true c3;clear c3;obtain ⟨o6,A4,H⟩:=zzG H;by_cases c5:o6=true
     ·
      subst c5;replace H:=zzIt H;by_cases c6:a0 > 0
      ·
       rw [if_pos c6] at H;have o7:decide (0 < a0)=true:=decide_eq_true c6;clear c6;obtain ⟨a3,hji7⟩:∃ j_:Int,(wrap64 (a0 - 1))=j_:=⟨_,rfl⟩;replace H:(if 0≤(a3) then (if (a3) < (l0.length:Int) then ((Rp.f ((Qa l0 (a3)).f0) ((Qa l0 (a3)).f1) ((Qa l0 (a3)).f2) ((Qa l0 (a3)).f3) ((Qa l0 (a3)).f4) ((Qa l0 (a3)).f5)).bind fun l2=>(if 0 < (((Qa l0 a0).f5).length:Int) then (if l2 ≥ ((Qb ((Qa l0 a0).f5) 0).f0) then (some false) else (Qh.l0 k1 l0 (wrap64 (a0+1)))) else (none))) else (none)) else (none))=some r:=by first|(rw [hji7] at H;exact H)|(simp only [hji7] at H ⊢;exact H)
       (try rw [hji7] at A4);have hji7w:(IntKind.i64.wrap (a0 - 1))=a3:=(i64_w _).trans hji7;by_cases c8 : 0≤(a3)
       ·
        rw [if_pos c8] at H;have p1:decide (0≤(a3))=true:=decide_eq_true c8;clear c8;by_cases c9:(a3) < (l0.length:Int)
        ·
         rw [if_pos c9] at H;have p2:decide ((a3) < (l0.length:Int))=true:=decide_eq_true c9;clear c9;obtain ⟨l2,o4,H⟩:=zzG H;by_cases n6 : 0 < (((Qa l0 a0).f5).length:Int)
         ·
          rw [if_pos n6] at H;have o8:decide (0 < (((Qa l0 a0).f5).length:Int))=true:=decide_eq_true n6;have o9:decide (0 < ((Qa l0 a0).f5).length)=true:=decide_eq_true (by omega);clear n6;by_cases m8:l2 ≥ ((Qb ((Qa l0 a0).f5) 0).f0)
          ·
           rw [if_pos m8] at H;have o0:decide (((Qb ((Qa l0 a0).f5) 0).f0)≤l2)=true:=decide_eq_true m8;clear m8;obtain rfl:=Option.some.inj H;try go_wp2
           have d9:=zzm (zzc HB.out);clear HB;have HB:=d9;clear d9;have g6 : 0≤(a0:Int):=zzt;have g7:a0 < (l0.length:Int):=zzt;obtain ⟨a1,g8,d8,l3,a5,a6,a7,a8,a9,b0,e0,e1⟩:=Qp m3.out a0 g6 g7;have b1:=b0;have b9:=a9;have c4:=a8;have c7:=a7;have d0:=a6;have d1:=a5;cases l3;replace a5:=zzx HB.out a5;replace a6:=zzx HB.out a6;replace a7:=zzx HB.out a7;replace a8:=zzx HB.out a8;replace a9:=zzx HB.out a9;replace b0:=zzx HB.out b0;have e2:=zzm e1;have g9:=zzm e0;clear e1 e0;replace g6:=eq_true g6;replace g7:=eq_true g7;have l4 : 0≤((a3):Int):=zzt;have l5:(a3) < (l0.length:Int):=zzt;obtain ⟨m9,k6,k7,n3,e4,e5,e6,e7,e8,e9,j4,j5⟩:=Qp m3.out (a3) l4 l5;have h0:=e9;have h1:=e8;have h2:=e7;have h3:=e6;have h4:=e5;have h5:=e4;obtain rfl:a1=m9:=(by injection n3);replace e4:=zzx HB.out e4;replace e5:=zzx HB.out e5;replace e6:=zzx HB.out e6;replace e7:=zzx HB.out e7;replace e8:=zzx HB.out e8;replace e9:=zzx HB.out e9;have j6:=zzm j5;have m0:=zzm j4;clear j5 j4;replace l4:=eq_true l4;replace l5:=eq_true l5;have l6 : 0≤(a0:Int):=zzt;have l7:a0 < (l0.length:Int):=zzt;obtain ⟨n0,k8,k9,n4,g0,g1,g2,g3,g4,g5,j7,j8⟩:=Qp m3.out a0 l6 l7;have e3:=g5;have h6:=g4;have h7:=g3;have h8:=g2;have h9:=g1;have j3:=g0;obtain rfl:a1=n0:=(by injection n4);replace g0:=zzx HB.out g0;replace g1:=zzx HB.out g1;replace g2:=zzx HB.out g2;replace g3:=zzx HB.out g3;replace g4:=zzx HB.out g4;replace g5:=zzx HB.out g5;have j9:=zzm j8;have n7:=zzm j7;clear j8 j7;replace l6:=eq_true l6;replace l7:=eq_true l7;have l8 : 0≤(0:Int):=(by omega);have l9 : 0 < (((Qa l0 a0).f5).length:Int):=zzt;have eA_:k8=g8:=by have e_:=Option.some.inj (b1.symm.trans e3);injection e_ with n1 _ n2;exact n1.symm
           have eC_:k9=d8:=by have e_:=Option.some.inj (b1.symm.trans e3);injection e_ with n1 _ n2;exact n2.symm
           subst k8;subst k9;obtain ⟨a4,m4,m5,m6,m7,n5,b3,b4,b5,b6,b7,b8,k0,k2,k3,k4⟩:=Qs j9.out 0 l8 l9;have d2:=b8
           (try rw [show ((0:Int)).toNat=0 from rfl] at d2)
           (try rw [show 0 * 6=0 from rfl] at d2)
           (try rw [Addr.add_zero'] at d2);have d3:=b7
           (try rw [show ((0:Int)).toNat=0 from rfl] at d3)
           (try rw [show 0 * 6=0 from rfl] at d3)
           (try rw [Addr.add_zero'] at d3);have d4:=b6
           (try rw [show ((0:Int)).toNat=0 from rfl] at d4)
           (try rw [show 0 * 6=0 from rfl] at d4)
           (try rw [Addr.add_zero'] at d4);have d5:=b5
           (try rw [show ((0:Int)).toNat=0 from rfl] at d5)
           (try rw [show 0 * 6=0 from rfl] at d5)
           (try rw [Addr.add_zero'] at d5);have d6:=b4
           (try rw [show ((0:Int)).toNat=0 from rfl] at d6)
           (try rw [show 0 * 6=0 from rfl] at d6)
           (try rw [Addr.add_zero'] at d6);have d7:=b3
           (try rw [show ((0:Int)).toNat=0 from rfl] at d7)
           (try rw [show 0 * 6=0 from rfl] at d7)
           (try rw [Addr.add_zero'] at d7);cases n5;have o1:(0 < ((Qa l0 a0).f5).length)=True:=eq_true (by omega)
           (try rw [show ((0:Int)).toNat=0 from rfl] at b3)
           (try rw [show 0 * 6=0 from rfl] at b3)
           (try rw [Addr.add_zero'] at b3)
           (try rw [show ((0:Int)).toNat=0 from rfl] at b4)
           (try rw [show 0 * 6=0 from rfl] at b4)
           (try rw [Addr.add_zero'] at b4)
           (try rw [show ((0:Int)).toNat=0 from rfl] at b5)
           (try rw [show 0 * 6=0 from rfl] at b5)
           (try rw [Addr.add_zero'] at b5)
           (try rw [show ((0:Int)).toNat=0 from rfl] at b6)
           (try rw [show 0 * 6=0 from rfl] at b6)
           (try rw [Addr.add_zero'] at b6)
           (try rw [show ((0:Int)).toNat=0 from rfl] at b7)
           (try rw [show 0 * 6=0 from rfl] at b7)
           (try rw [Addr.add_zero'] at b7)
           (try rw [show ((0:Int)).toNat=0 from rfl] at b8)
           (try rw [show 0 * 6=0 from rfl] at b8)
           (try rw [Addr.add_zero'] at b8);replace b3:=zzx HB.out b3;replace b4:=zzx HB.out b4;replace b5:=zzx HB.out b5;replace b6:=zzx HB.out b6;replace b7:=zzx HB.out b7;replace b8:=zzx HB.out b8;have m1:=zzm k2;have n8:=zzm k0;clear k2 k0;have m2:=zzm k4;have n9:=zzm k3;clear k4 k3;replace l8:=eq_true l8;replace l9:=eq_true l9;refine start_ (n:=27) (S:=fun w'=>w'.cell? (a1.add ((a0).toNat * 6))=some (.bool ((Qa l0 a0).f0))∧w'.cell? ⟨(a1.add ((a0).toNat * 6)).block,(a1.add ((a0).toNat * 6)).off+1,none⟩=some (.bool ((Qa l0 a0).f1))∧w'.cell? ⟨(a1.add ((a0).toNat * 6)).block,(a1.add ((a0).toNat * 6)).off+2,none⟩=some (.int .i64 ((Qa l0 a0).f2))∧w'.cell? ⟨(a1.add ((a0).toNat * 6)).block,(a1.add ((a0).toNat * 6)).off+3,none⟩=some (.int .i64 ((Qa l0 a0).f3))∧w'.cell? ⟨(a1.add ((a0).toNat * 6)).block,(a1.add ((a0).toNat * 6)).off+4,none⟩=some (.int .i64 ((Qa l0 a0).f4))∧w'.cell? ⟨(a1.add ((a0).toNat * 6)).block,(a1.add ((a0).toNat * 6)).off+5,none⟩=some (.slice (some a4) ((Qa l0 a0).f5).length d8)∧w'.cell? (a1.add (((a3)).toNat * 6))=some (.bool ((Qa l0 (a3)).f0))∧w'.cell? ⟨(a1.add (((a3)).toNat * 6)).block,(a1.add (((a3)).toNat * 6)).off+1,none⟩=some (.bool ((Qa l0 (a3)).f1))∧w'.cell? ⟨(a1.add (((a3)).toNat * 6)).block,(a1.add (((a3)).toNat * 6)).off+2,none⟩=some (.int .i64 ((Qa l0 (a3)).f2))∧w'.cell? ⟨(a1.add (((a3)).toNat * 6)).block,(a1.add (((a3)).toNat * 6)).off+3,none⟩=some (.int .i64 ((Qa l0 (a3)).f3))∧w'.cell? ⟨(a1.add (((a3)).toNat * 6)).block,(a1.add (((a3)).toNat * 6)).off+4,none⟩=some (.int .i64 ((Qa l0 (a3)).f4))∧w'.cell? ⟨(a1.add (((a3)).toNat * 6)).block,(a1.add (((a3)).toNat * 6)).off+5,none⟩=some (.slice k6 ((Qa l0 (a3)).f5).length k7)∧w'.cell? (a1.add ((a0).toNat * 6))=some (.bool ((Qa l0 a0).f0))∧w'.cell? ⟨(a1.add ((a0).toNat * 6)).block,(a1.add ((a0).toNat * 6)).off+1,none⟩=some (.bool ((Qa l0 a0).f1))∧w'.cell? ⟨(a1.add ((a0).toNat * 6)).block,(a1.add ((a0).toNat * 6)).off+2,none⟩=some (.int .i64 ((Qa l0 a0).f2))∧w'.cell? ⟨(a1.add ((a0).toNat * 6)).block,(a1.add ((a0).toNat * 6)).off+3,none⟩=some (.int .i64 ((Qa l0 a0).f3))∧w'.cell? ⟨(a1.add ((a0).toNat * 6)).block,(a1.add ((a0).toNat * 6)).off+4,none⟩=some (.int .i64 ((Qa l0 a0).f4))∧w'.cell? ⟨(a1.add ((a0).toNat * 6)).block,(a1.add ((a0).toNat * 6)).off+5,none⟩=some (.slice (some a4) ((Qa l0 a0).f5).length d8)∧w'.cell? a4=some (.int .i64 ((Qb ((Qa l0 a0).f5) 0).f0))∧w'.cell? ⟨a4.block,a4.off+1,none⟩=some (.int .i64 ((Qb ((Qa l0 a0).f5) 0).f1))∧w'.cell? ⟨a4.block,a4.off+2,none⟩=some (.bool ((Qb ((Qa l0 a0).f5) 0).f2))∧w'.cell? ⟨a4.block,a4.off+3,none⟩=some (.slice m4 ((Qb ((Qa l0 a0).f5) 0).f3).length m5)∧w'.cell? ⟨a4.block,a4.off+4,none⟩=some (.bool ((Qb ((Qa l0 a0).f5) 0).f4))∧w'.cell? ⟨a4.block,a4.off+5,none⟩=some (.slice m6 ((Qb ((Qa l0 a0).f5) 0).f5).length m7)) (ds:=[]) (zzB 27 0) (by kernel_rfl) rfl rfl ⟨(zzx HB.out d1 :),(zzx HB.out d0 :),(zzx HB.out c7 :),(zzx HB.out c4 :),(zzx HB.out b9 :),(zzx HB.out b1 :),(zzx HB.out h5 :),(zzx HB.out h4 :),(zzx HB.out h3 :),(zzx HB.out h2 :),(zzx HB.out h1 :),(zzx HB.out h0 :),(zzx HB.out j3 :),(zzx HB.out h9 :),(zzx HB.out h8 :),(zzx HB.out h7 :),(zzx HB.out h6 :),(zzx HB.out e3 :),(zzx HB.out d7 :),(zzx HB.out d6 :),(zzx HB.out d5 :),(zzx HB.out d4 :),(zzx HB.out d3 :),(zzx HB.out d2 :)⟩ (fun b2=>?_);refine with_tabW Qh.tab4 Qh.bits4 (fun a2 k5=>?_);generalize wr.drew=p4 at HB e2 j6 j9 m1 m2 a5 a6 a7 a8 a9 b0 e4 e5 e6 e7 e8 e9 g0 g1 g2 g3 g4 g5 b3 b4 b5 b6 b7 b8 b2 ⊢;refine zzP 0 10 27 1 a2 ?_
           refine zzP 1 11 27 3 a2 ?_
           refine zzP 2 12 27 7 a2 ?_
           refine zzT 3 13 27 15 a2 k5 b2 ?_
           refine one_ (i:=4) (N:=some 14) (zzB 27 31) rfl rfl (one_of a2.out (by kernel_rfl)) (by decide) (fun K hK=>?_);refine goes_ Try.func26 (by kernel_rfl) rfl #[.agg #[.bool ((Qa l0 a0).f0),.bool ((Qa l0 a0).f1),.int .i64 ((Qa l0 a0).f2),.int .i64 ((Qa l0 a0).f3),.int .i64 ((Qa l0 a0).f4),.slice (some a4) ((Qa l0 a0).f5).length d8]] (by rfl) rfl rfl zzM2 ?_;with_reducible refine (Ql.calls k1 ((Qa l0 a0).f0) ((Qa l0 a0).f1) ((Qa l0 a0).f2) ((Qa l0 a0).f3) ((Qa l0 a0).f4) _ _ ((Qa l0 a0).f5) true _ ?side1 ?side2 A4.out).mono ?_
           (case side1=>exact zzcb e2 HB)
           (case side2=>exact g9.out);rintro e p5 ⟨rfl,hb⟩;refine ⟨_,rfl,?_⟩;have d9:=zzm (zzp zzh1 hb);clear HB;have HB:=d9;clear d9
           (try clear hb)
           (try clear hb2)
           (try clear hk)
           (try clear hi);refine hK.out _ _ ⟨(zzx HB.out d1 :),(zzx HB.out d0 :),(zzx HB.out c7 :),(zzx HB.out c4 :),(zzx HB.out b9 :),(zzx HB.out b1 :),(zzx HB.out h5 :),(zzx HB.out h4 :),(zzx HB.out h3 :),(zzx HB.out h2 :),(zzx HB.out h1 :),(zzx HB.out h0 :),(zzx HB.out j3 :),(zzx HB.out h9 :),(zzx HB.out h8 :),(zzx HB.out h7 :),(zzx HB.out h6 :),(zzx HB.out e3 :),(zzx HB.out d7 :),(zzx HB.out d6 :),(zzx HB.out d5 :),(zzx HB.out d4 :),(zzx HB.out d3 :),(zzx HB.out d2 :)⟩ (fun b2=>?_);clear hK K;refine zzO 14 ?_
           refine zzP 5 15 27 63 a2 ?_
           refine zzP 6 16 27 127 a2 ?_
           refine zzP 7 17 27 255 a2 ?_
           refine zzP 8 18 27 511 a2 ?_
           refine zzP 9 19 27 1023 a2 ?_
           refine zzP 10 20 27 2047 a2 ?_
           refine zzP 11 21 27 4095 a2 ?_
           refine zzP 12 22 27 8191 a2 ?_
           refine zzP 13 23 27 16383 a2 ?_
           refine zzP 16 26 27 81919 a2 ?_
           refine zzP 17 27 27 212991 a2 ?_
           refine zzP 18 28 27 475135 a2 ?_
           refine zzP 19 29 27 999423 a2 ?_
           refine zzT 14 24 27 1015807 a2 k5 b2 ?_
           refine zzT 20 30 27 2064383 a2 k5 b2 ?_
           refine zzP 21 31 27 4161535 a2 ?_
           refine zzP 22 32 27 8355839 a2 ?_
           refine zzT 23 33 27 16744447 a2 k5 b2 ?_
           refine one_ (i:=15) (N:=some 25) (zzB 27 16777215) rfl rfl (one_of a2.out (by kernel_rfl)) (by decide) (fun K hK=>?_);refine goes_ Try.func27 (by kernel_rfl) rfl #[.agg #[.bool ((Qa l0 (a3)).f0),.bool ((Qa l0 (a3)).f1),.int .i64 ((Qa l0 (a3)).f2),.int .i64 ((Qa l0 (a3)).f3),.int .i64 ((Qa l0 (a3)).f4),.slice k6 ((Qa l0 (a3)).f5).length k7]] (by rfl) rfl rfl (by (try simp only [map_toArray,map_cons,map_nil]);first|done|(simp only [hji7];rfl)|rfl|(simp only [length_drop,length_take];rfl)) ?_;with_reducible refine (Rp.calls ((Qa l0 (a3)).f0) ((Qa l0 (a3)).f1) ((Qa l0 (a3)).f2) ((Qa l0 (a3)).f3) ((Qa l0 (a3)).f4) _ _ ((Qa l0 (a3)).f5) l2 _ ?side1 ?side2 o4.out).mono ?_
           (case side1=>exact zzcb j6 HB)
           (case side2=>exact m0.out);rintro e p6 ⟨rfl,hb⟩;refine ⟨_,rfl,?_⟩;have d9:=zzm (zzp zzh1 hb);clear HB;have HB:=d9;clear d9
           (try clear hb)
           (try clear hb2)
           (try clear hk)
           (try clear hi);refine hK.out _ _ ⟨(zzx HB.out d1 :),(zzx HB.out d0 :),(zzx HB.out c7 :),(zzx HB.out c4 :),(zzx HB.out b9 :),(zzx HB.out b1 :),(zzx HB.out h5 :),(zzx HB.out h4 :),(zzx HB.out h3 :),(zzx HB.out h2 :),(zzx HB.out h1 :),(zzx HB.out h0 :),(zzx HB.out j3 :),(zzx HB.out h9 :),(zzx HB.out h8 :),(zzx HB.out h7 :),(zzx HB.out h6 :),(zzx HB.out e3 :),(zzx HB.out d7 :),(zzx HB.out d6 :),(zzx HB.out d5 :),(zzx HB.out d4 :),(zzx HB.out d3 :),(zzx HB.out d2 :)⟩ (fun b2=>?_);clear hK K;refine zzO 25 ?_
           refine zzP 24 34 27 33554431 a2 ?_
           refine zzP 25 35 27 67108863 a2 ?_
           refine zzP 26 36 27 134217727 a2 ?_
           refine done_ (done_of a2.out (by kernel_rfl)) ?_;try go_wp2
           go_ret;exact ⟨by first|rfl|(simp [errW_none,errW_some] <;> rfl)|(simp only [← hji7];first|rfl|(simp [errW_none,errW_some] <;> rfl))|(simp [*,errW_none,errW_some] <;> rfl),zzh1⟩
          ·
           rw [if_neg m8] at H;have o0:decide (((Qb ((Qa l0 a0).f5) 0).f0)≤l2)=false:=decide_eq_false m8;clear m8;have H':=zzm H;clear H;try go_wp2
           have d9:=zzm (zzc HB.out);clear HB;have HB:=d9;clear d9;have g6 : 0≤(a0:Int):=zzt;have g7:a0 < (l0.length:Int):=zzt;obtain ⟨a1,g8,d8,l3,a5,a6,a7,a8,a9,b0,e0,e1⟩:=Qp m3.out a0 g6 g7;have b1:=b0;have b9:=a9;have c4:=a8;have c7:=a7;have d0:=a6;have d1:=a5;cases l3;replace a5:=zzx HB.out a5;replace a6:=zzx HB.out a6;replace a7:=zzx HB.out a7;replace a8:=zzx HB.out a8;replace a9:=zzx HB.out a9;replace b0:=zzx HB.out b0;have e2:=zzm e1;have g9:=zzm e0;clear e1 e0;replace g6:=eq_true g6;replace g7:=eq_true g7;have l4 : 0≤((a3):Int):=zzt;have l5:(a3) < (l0.length:Int):=zzt;obtain ⟨m9,k6,k7,n3,e4,e5,e6,e7,e8,e9,j4,j5⟩:=Qp m3.out (a3) l4 l5;have h0:=e9;have h1:=e8;have h2:=e7;have h3:=e6;have h4:=e5;have h5:=e4;obtain rfl:a1=m9:=(by injection n3);replace e4:=zzx HB.out e4;replace e5:=zzx HB.out e5;replace e6:=zzx HB.out e6;replace e7:=zzx HB.out e7;replace e8:=zzx HB.out e8;replace e9:=zzx HB.out e9;have j6:=zzm j5;have m0:=zzm j4;clear j5 j4;replace l4:=eq_true l4;replace l5:=eq_true l5;have l6 : 0≤(a0:Int):=zzt;have l7:a0 < (l0.length:Int):=zzt;obtain ⟨n0,k8,k9,n4,g0,g1,g2,g3,g4,g5,j7,j8⟩:=Qp m3.out a0 l6 l7;have e3:=g5;have h6:=g4;have h7:=g3;have h8:=g2;have h9:=g1;have j3:=g0;obtain rfl:a1=n0:=(by injection n4);replace g0:=zzx HB.out g0;replace g1:=zzx HB.out g1;replace g2:=zzx HB.out g2;replace g3:=zzx HB.out g3;replace g4:=zzx HB.out g4;replace g5:=zzx HB.out g5;have j9:=zzm j8;have n7:=zzm j7;clear j8 j7;replace l6:=eq_true l6;replace l7:=eq_true l7;have l8 : 0≤(0:Int):=(by omega);have l9 : 0 < (((Qa l0 a0).f5).length:Int):=zzt;have eA_:k8=g8:=by have e_:=Option.some.inj (b1.symm.trans e3);injection e_ with n1 _ n2;exact n1.symm
           have eC_:k9=d8:=by have e_:=Option.some.inj (b1.symm.trans e3);injection e_ with n1 _ n2;exact n2.symm
           subst k8;subst k9;obtain ⟨a4,m4,m5,m6,m7,n5,b3,b4,b5,b6,b7,b8,k0,k2,k3,k4⟩:=Qs j9.out 0 l8 l9;have d2:=b8
           (try rw [show ((0:Int)).toNat=0 from rfl] at d2)
           (try rw [show 0 * 6=0 from rfl] at d2)
           (try rw [Addr.add_zero'] at d2);have d3:=b7
           (try rw [show ((0:Int)).toNat=0 from rfl] at d3)
           (try rw [show 0 * 6=0 from rfl] at d3)
           (try rw [Addr.add_zero'] at d3);have d4:=b6
           (try rw [show ((0:Int)).toNat=0 from rfl] at d4)
           (try rw [show 0 * 6=0 from rfl] at d4)
           (try rw [Addr.add_zero'] at d4);have d5:=b5
           (try rw [show ((0:Int)).toNat=0 from rfl] at d5)
           (try rw [show 0 * 6=0 from rfl] at d5)
           (try rw [Addr.add_zero'] at d5);have d6:=b4
           (try rw [show ((0:Int)).toNat=0 from rfl] at d6)
           (try rw [show 0 * 6=0 from rfl] at d6)
           (try rw [Addr.add_zero'] at d6);have d7:=b3
           (try rw [show ((0:Int)).toNat=0 from rfl] at d7)
           (try rw [show 0 * 6=0 from rfl] at d7)
           (try rw [Addr.add_zero'] at d7);cases n5;have o1:(0 < ((Qa l0 a0).f5).length)=True:=eq_true (by omega)
           (try rw [show ((0:Int)).toNat=0 from rfl] at b3)
           (try rw [show 0 * 6=0 from rfl] at b3)
           (try rw [Addr.add_zero'] at b3)
           (try rw [show ((0:Int)).toNat=0 from rfl] at b4)
           (try rw [show 0 * 6=0 from rfl] at b4)
           (try rw [Addr.add_zero'] at b4)
           (try rw [show ((0:Int)).toNat=0 from rfl] at b5)
           (try rw [show 0 * 6=0 from rfl] at b5)
           (try rw [Addr.add_zero'] at b5)
           (try rw [show ((0:Int)).toNat=0 from rfl] at b6)
           (try rw [show 0 * 6=0 from rfl] at b6)
           (try rw [Addr.add_zero'] at b6)
           (try rw [show ((0:Int)).toNat=0 from rfl] at b7)
           (try rw [show 0 * 6=0 from rfl] at b7)
           (try rw [Addr.add_zero'] at b7)
           (try rw [show ((0:Int)).toNat=0 from rfl] at b8)
           (try rw [show 0 * 6=0 from rfl] at b8)
           (try rw [Addr.add_zero'] at b8);replace b3:=zzx HB.out b3;replace b4:=zzx HB.out b4;replace b5:=zzx HB.out b5;replace b6:=zzx HB.out b6;replace b7:=zzx HB.out b7;replace b8:=zzx HB.out b8;have m1:=zzm k2;have n8:=zzm k0;clear k2 k0;have m2:=zzm k4;have n9:=zzm k3;clear k4 k3;replace l8:=eq_true l8;replace l9:=eq_true l9;refine start_ (n:=27) (S:=fun w'=>w'.cell? (a1.add ((a0).toNat * 6))=some (.bool ((Qa l0 a0).f0))∧w'.cell? ⟨(a1.add ((a0).toNat * 6)).block,(a1.add ((a0).toNat * 6)).off+1,none⟩=some (.bool ((Qa l0 a0).f1))∧w'.cell? ⟨(a1.add ((a0).toNat * 6)).block,(a1.add ((a0).toNat * 6)).off+2,none⟩=some (.int .i64 ((Qa l0 a0).f2))∧w'.cell? ⟨(a1.add ((a0).toNat * 6)).block,(a1.add ((a0).toNat * 6)).off+3,none⟩=some (.int .i64 ((Qa l0 a0).f3))∧w'.cell? ⟨(a1.add ((a0).toNat * 6)).block,(a1.add ((a0).toNat * 6)).off+4,none⟩=some (.int .i64 ((Qa l0 a0).f4))∧w'.cell? ⟨(a1.add ((a0).toNat * 6)).block,(a1.add ((a0).toNat * 6)).off+5,none⟩=some (.slice (some a4) ((Qa l0 a0).f5).length d8)∧w'.cell? (a1.add (((a3)).toNat * 6))=some (.bool ((Qa l0 (a3)).f0))∧w'.cell? ⟨(a1.add (((a3)).toNat * 6)).block,(a1.add (((a3)).toNat * 6)).off+1,none⟩=some (.bool ((Qa l0 (a3)).f1))∧w'.cell? ⟨(a1.add (((a3)).toNat * 6)).block,(a1.add (((a3)).toNat * 6)).off+2,none⟩=some (.int .i64 ((Qa l0 (a3)).f2))∧w'.cell? ⟨(a1.add (((a3)).toNat * 6)).block,(a1.add (((a3)).toNat * 6)).off+3,none⟩=some (.int .i64 ((Qa l0 (a3)).f3))∧w'.cell? ⟨(a1.add (((a3)).toNat * 6)).block,(a1.add (((a3)).toNat * 6)).off+4,none⟩=some (.int .i64 ((Qa l0 (a3)).f4))∧w'.cell? ⟨(a1.add (((a3)).toNat * 6)).block,(a1.add (((a3)).toNat * 6)).off+5,none⟩=some (.slice k6 ((Qa l0 (a3)).f5).length k7)∧w'.cell? (a1.add ((a0).toNat * 6))=some (.bool ((Qa l0 a0).f0))∧w'.cell? ⟨(a1.add ((a0).toNat * 6)).block,(a1.add ((a0).toNat * 6)).off+1,none⟩=some (.bool ((Qa l0 a0).f1))∧w'.cell? ⟨(a1.add ((a0).toNat * 6)).block,(a1.add ((a0).toNat * 6)).off+2,none⟩=some (.int .i64 ((Qa l0 a0).f2))∧w'.cell? ⟨(a1.add ((a0).toNat * 6)).block,(a1.add ((a0).toNat * 6)).off+3,none⟩=some (.int .i64 ((Qa l0 a0).f3))∧w'.cell? ⟨(a1.add ((a0).toNat * 6)).block,(a1.add ((a0).toNat * 6)).off+4,none⟩=some (.int .i64 ((Qa l0 a0).f4))∧w'.cell? ⟨(a1.add ((a0).toNat * 6)).block,(a1.add ((a0).toNat * 6)).off+5,none⟩=some (.slice (some a4) ((Qa l0 a0).f5).length d8)∧w'.cell? a4=some (.int .i64 ((Qb ((Qa l0 a0).f5) 0).f0))∧w'.cell? ⟨a4.block,a4.off+1,none⟩=some (.int .i64 ((Qb ((Qa l0 a0).f5) 0).f1))∧w'.cell? ⟨a4.block,a4.off+2,none⟩=some (.bool ((Qb ((Qa l0 a0).f5) 0).f2))∧w'.cell? ⟨a4.block,a4.off+3,none⟩=some (.slice m4 ((Qb ((Qa l0 a0).f5) 0).f3).length m5)∧w'.cell? ⟨a4.block,a4.off+4,none⟩=some (.bool ((Qb ((Qa l0 a0).f5) 0).f4))∧w'.cell? ⟨a4.block,a4.off+5,none⟩=some (.slice m6 ((Qb ((Qa l0 a0).f5) 0).f5).length m7)) (ds:=[]) (zzB 27 0) (by kernel_rfl) rfl rfl ⟨(zzx HB.out d1 :),(zzx HB.out d0 :),(zzx HB.out c7 :),(zzx HB.out c4 :),(zzx HB.out b9 :),(zzx HB.out b1 :),(zzx HB.out h5 :),(zzx HB.out h4 :),(zzx HB.out h3 :),(zzx HB.out h2 :),(zzx HB.out h1 :),(zzx HB.out h0 :),(zzx HB.out j3 :),(zzx HB.out h9 :),(zzx HB.out h8 :),(zzx HB.out h7 :),(zzx HB.out h6 :),(zzx HB.out e3 :),(zzx HB.out d7 :),(zzx HB.out d6 :),(zzx HB.out d5 :),(zzx HB.out d4 :),(zzx HB.out d3 :),(zzx HB.out d2 :)⟩ (fun b2=>?_);refine with_tabW Qh.tab4 Qh.bits4 (fun a2 k5=>?_);generalize wr.drew=p7 at HB e2 j6 j9 m1 m2 a5 a6 a7 a8 a9 b0 e4 e5 e6 e7 e8 e9 g0 g1 g2 g3 g4 g5 b3 b4 b5 b6 b7 b8 b2 ⊢;refine zzP 0 10 27 1 a2 ?_
           refine zzP 1 11 27 3 a2 ?_
           refine zzP 2 12 27 7 a2 ?_
           refine zzT 3 13 27 15 a2 k5 b2 ?_
           refine one_ (i:=4) (N:=some 14) (zzB 27 31) rfl rfl (one_of a2.out (by kernel_rfl)) (by decide) (fun K hK=>?_);refine goes_ Try.func26 (by kernel_rfl) rfl #[.agg #[.bool ((Qa l0 a0).f0),.bool ((Qa l0 a0).f1),.int .i64 ((Qa l0 a0).f2),.int .i64 ((Qa l0 a0).f3),.int .i64 ((Qa l0 a0).f4),.slice (some a4) ((Qa l0 a0).f5).length d8]] (by rfl) rfl rfl zzM2 ?_;with_reducible refine (Ql.calls k1 ((Qa l0 a0).f0) ((Qa l0 a0).f1) ((Qa l0 a0).f2) ((Qa l0 a0).f3) ((Qa l0 a0).f4) _ _ ((Qa l0 a0).f5) true _ ?side1 ?side2 A4.out).mono ?_
           (case side1=>exact zzcb e2 HB)
           (case side2=>exact g9.out);rintro e p8 ⟨rfl,hb⟩;refine ⟨_,rfl,?_⟩;have d9:=zzm (zzp zzh1 hb);clear HB;have HB:=d9;clear d9
           (try clear hb)
           (try clear hb2)
           (try clear hk)
           (try clear hi);refine hK.out _ _ ⟨(zzx HB.out d1 :),(zzx HB.out d0 :),(zzx HB.out c7 :),(zzx HB.out c4 :),(zzx HB.out b9 :),(zzx HB.out b1 :),(zzx HB.out h5 :),(zzx HB.out h4 :),(zzx HB.out h3 :),(zzx HB.out h2 :),(zzx HB.out h1 :),(zzx HB.out h0 :),(zzx HB.out j3 :),(zzx HB.out h9 :),(zzx HB.out h8 :),(zzx HB.out h7 :),(zzx HB.out h6 :),(zzx HB.out e3 :),(zzx HB.out d7 :),(zzx HB.out d6 :),(zzx HB.out d5 :),(zzx HB.out d4 :),(zzx HB.out d3 :),(zzx HB.out d2 :)⟩ (fun b2=>?_);clear hK K;refine zzO 14 ?_
           refine zzP 5 15 27 63 a2 ?_
           refine zzP 6 16 27 127 a2 ?_
           refine zzP 7 17 27 255 a2 ?_
           refine zzP 8 18 27 511 a2 ?_
           refine zzP 9 19 27 1023 a2 ?_
           refine zzP 10 20 27 2047 a2 ?_
           refine zzP 11 21 27 4095 a2 ?_
           refine zzP 12 22 27 8191 a2 ?_
           refine zzP 13 23 27 16383 a2 ?_
           refine zzP 16 26 27 81919 a2 ?_
           refine zzP 17 27 27 212991 a2 ?_
           refine zzP 18 28 27 475135 a2 ?_
           refine zzP 19 29 27 999423 a2 ?_
           refine zzT 14 24 27 1015807 a2 k5 b2 ?_
           refine zzT 20 30 27 2064383 a2 k5 b2 ?_
           refine zzP 21 31 27 4161535 a2 ?_
           refine zzP 22 32 27 8355839 a2 ?_
           refine zzT 23 33 27 16744447 a2 k5 b2 ?_
           refine one_ (i:=15) (N:=some 25) (zzB 27 16777215) rfl rfl (one_of a2.out (by kernel_rfl)) (by decide) (fun K hK=>?_);refine goes_ Try.func27 (by kernel_rfl) rfl #[.agg #[.bool ((Qa l0 (a3)).f0),.bool ((Qa l0 (a3)).f1),.int .i64 ((Qa l0 (a3)).f2),.int .i64 ((Qa l0 (a3)).f3),.int .i64 ((Qa l0 (a3)).f4),.slice k6 ((Qa l0 (a3)).f5).length k7]] (by rfl) rfl rfl (by (try simp only [map_toArray,map_cons,map_nil]);first|done|(simp only [hji7];rfl)|rfl|(simp only [length_drop,length_take];rfl)) ?_;with_reducible refine (Rp.calls ((Qa l0 (a3)).f0) ((Qa l0 (a3)).f1) ((Qa l0 (a3)).f2) ((Qa l0 (a3)).f3) ((Qa l0 (a3)).f4) _ _ ((Qa l0 (a3)).f5) l2 _ ?side1 ?side2 o4.out).mono ?_
           (case side1=>exact zzcb j6 HB)
           (case side2=>exact m0.out);rintro e p9 ⟨rfl,hb⟩;refine ⟨_,rfl,?_⟩;have d9:=zzm (zzp zzh1 hb);clear HB;have HB:=d9;clear d9
           (try clear hb)
           (try clear hb2)
           (try clear hk)
           (try clear hi);refine hK.out _ _ ⟨(zzx HB.out d1 :),(zzx HB.out d0 :),(zzx HB.out c7 :),(zzx HB.out c4 :),(zzx HB.out b9 :),(zzx HB.out b1 :),(zzx HB.out h5 :),(zzx HB.out h4 :),(zzx HB.out h3 :),(zzx HB.out h2 :),(zzx HB.out h1 :),(zzx HB.out h0 :),(zzx HB.out j3 :),(zzx HB.out h9 :),(zzx HB.out h8 :),(zzx HB.out h7 :),(zzx HB.out h6 :),(zzx HB.out e3 :),(zzx HB.out d7 :),(zzx HB.out d6 :),(zzx HB.out d5 :),(zzx HB.out d4 :),(zzx HB.out d3 :),(zzx HB.out d2 :)⟩ (fun b2=>?_);clear hK K;refine zzO 25 ?_
           refine zzP 24 34 27 33554431 a2 ?_
           refine zzP 25 35 27 67108863 a2 ?_
           refine zzP 26 36 27 134217727 a2 ?_
           refine done_ (done_of a2.out (by kernel_rfl)) ?_;try go_wp2
           go_roundg k1
           case measure=>have:=HK1.out;omega
           case rel=>exact ⟨(wrap64 (a0+1)),(by first|rfl|(simp;done)|(simp [*];done)),H',⟨by have:=HK1.out;omega⟩,⟨zzh1⟩⟩
         ·
          rw [if_neg n6] at H;exact absurd H (by simp)
        ·
         rw [if_neg c9] at H;exact absurd H (by simp)
       ·
        rw [if_neg c8] at H;exact absurd H (by simp)
      ·
       rw [if_neg c6] at H;have o7:decide (0 < a0)=false:=decide_eq_false c6;clear c6;have H':=zzm H;clear H;try go_wp2
       have d9:=zzm (zzc HB.out);clear HB;have HB:=d9;clear d9;have g6 : 0≤(a0:Int):=zzt;have g7:a0 < (l0.length:Int):=zzt;obtain ⟨a1,g8,d8,l3,a5,a6,a7,a8,a9,b0,e0,e1⟩:=Qp m3.out a0 g6 g7;have b1:=b0;have b9:=a9;have c4:=a8;have c7:=a7;have d0:=a6;have d1:=a5;cases l3;replace a5:=zzx HB.out a5;replace a6:=zzx HB.out a6;replace a7:=zzx HB.out a7;replace a8:=zzx HB.out a8;replace a9:=zzx HB.out a9;replace b0:=zzx HB.out b0;have e2:=zzm e1;have g9:=zzm e0;clear e1 e0;replace g6:=eq_true g6;replace g7:=eq_true g7;refine start_ (n:=27) (S:=fun w'=>w'.cell? (a1.add ((a0).toNat * 6))=some (.bool ((Qa l0 a0).f0))∧w'.cell? ⟨(a1.add ((a0).toNat * 6)).block,(a1.add ((a0).toNat * 6)).off+1,none⟩=some (.bool ((Qa l0 a0).f1))∧w'.cell? ⟨(a1.add ((a0).toNat * 6)).block,(a1.add ((a0).toNat * 6)).off+2,none⟩=some (.int .i64 ((Qa l0 a0).f2))∧w'.cell? ⟨(a1.add ((a0).toNat * 6)).block,(a1.add ((a0).toNat * 6)).off+3,none⟩=some (.int .i64 ((Qa l0 a0).f3))∧w'.cell? ⟨(a1.add ((a0).toNat * 6)).block,(a1.add ((a0).toNat * 6)).off+4,none⟩=some (.int .i64 ((Qa l0 a0).f4))∧w'.cell? ⟨(a1.add ((a0).toNat * 6)).block,(a1.add ((a0).toNat * 6)).off+5,none⟩=some (.slice g8 ((Qa l0 a0).f5).length d8)) (ds:=[]) (zzB 27 0) (by kernel_rfl) rfl rfl ⟨(zzx HB.out d1 :),(zzx HB.out d0 :),(zzx HB.out c7 :),(zzx HB.out c4 :),(zzx HB.out b9 :),(zzx HB.out b1 :)⟩ (fun b2=>?_);refine with_tabW Qh.tab4 Qh.bits4 (fun a2 k5=>?_);generalize wr.drew=q0 at HB e2 a5 a6 a7 a8 a9 b0 b2 ⊢;refine zzP 0 10 27 1 a2 ?_
       refine zzP 1 11 27 3 a2 ?_
       refine zzP 2 12 27 7 a2 ?_
       refine zzT 3 13 27 15 a2 k5 b2 ?_
       refine one_ (i:=4) (N:=some 14) (zzB 27 31) rfl rfl (one_of a2.out (by kernel_rfl)) (by decide) (fun K hK=>?_);refine goes_ Try.func26 (by kernel_rfl) rfl #[.agg #[.bool ((Qa l0 a0).f0),.bool ((Qa l0 a0).f1),.int .i64 ((Qa l0 a0).f2),.int .i64 ((Qa l0 a0).f3),.int .i64 ((Qa l0 a0).f4),.slice g8 ((Qa l0 a0).f5).length d8]] (by rfl) rfl rfl zzM2 ?_;with_reducible refine (Ql.calls k1 ((Qa l0 a0).f0) ((Qa l0 a0).f1) ((Qa l0 a0).f2) ((Qa l0 a0).f3) ((Qa l0 a0).f4) _ _ ((Qa l0 a0).f5) true _ ?side1 ?side2 A4.out).mono ?_
       (case side1=>exact zzcb e2 HB)
       (case side2=>exact g9.out);rintro e q1 ⟨rfl,hb⟩;refine ⟨_,rfl,?_⟩;have d9:=zzm (zzp zzh1 hb);clear HB;have HB:=d9;clear d9
       (try clear hb)
       (try clear hb2)
       (try clear hk)
       (try clear hi);refine hK.out _ _ ⟨(zzx HB.out d1 :),(zzx HB.out d0 :),(zzx HB.out c7 :),(zzx HB.out c4 :),(zzx HB.out b9 :),(zzx HB.out b1 :)⟩ (fun b2=>?_);clear hK K;refine zzO 14 ?_
       refine zzP 5 15 27 63 a2 ?_
       refine zzP 6 16 27 127 a2 ?_
       refine zzP 7 17 27 255 a2 ?_
       refine zzP 8 18 27 511 a2 ?_
       refine zzP 9 19 27 1023 a2 ?_
       refine zzU 10 20 27 2047 a2 ?_
       refine zzU 11 21 27 4095 a2 ?_
       refine zzU 12 22 27 8191 a2 ?_
       refine zzU 13 23 27 16383 a2 ?_
       refine zzU 14 24 27 32767 a2 ?_
       refine zzU 15 25 27 65535 a2 ?_
       refine zzU 16 26 27 131071 a2 ?_
       refine zzU 17 27 27 262143 a2 ?_
       refine zzU 18 28 27 524287 a2 ?_
       refine zzU 19 29 27 1048575 a2 ?_
       refine zzU 20 30 27 2097151 a2 ?_
       refine zzU 21 31 27 4194303 a2 ?_
       refine zzU 22 32 27 8388607 a2 ?_
       refine zzU 23 33 27 16777215 a2 ?_
       refine zzU 24 34 27 33554431 a2 ?_
       refine zzP 25 35 27 67108863 a2 ?_
       refine zzP 26 36 27 134217727 a2 ?_
       refine done_ (done_of a2.out (by kernel_rfl)) ?_;try go_wp2
       go_roundg k1
       case measure=>have:=HK1.out;omega
       case rel=>exact ⟨(wrap64 (a0+1)),(by first|rfl|(simp;done)|(simp [*];done)),H',⟨by have:=HK1.out;omega⟩,⟨zzh1⟩⟩
     ·
      replace c5:=Bool.eq_false_iff.mpr c5;subst c5;replace H:=zzIf H;obtain rfl:=Option.some.inj H;try go_wp2
      have d9:=zzm (zzc HB.out);clear HB;have HB:=d9;clear d9;have g6 : 0≤(a0:Int):=zzt;have g7:a0 < (l0.length:Int):=zzt;obtain ⟨a1,g8,d8,l3,a5,a6,a7,a8,a9,b0,e0,e1⟩:=Qp m3.out a0 g6 g7;have b1:=b0;have b9:=a9;have c4:=a8;have c7:=a7;have d0:=a6;have d1:=a5;cases l3;replace a5:=zzx HB.out a5;replace a6:=zzx HB.out a6;replace a7:=zzx HB.out a7;replace a8:=zzx HB.out a8;replace a9:=zzx HB.out a9;replace b0:=zzx HB.out b0;have e2:=zzm e1;have g9:=zzm e0;clear e1 e0;replace g6:=eq_true g6;replace g7:=eq_true g7;refine start_ (n:=27) (S:=fun w'=>w'.cell? (a1.add ((a0).toNat * 6))=some (.bool ((Qa l0 a0).f0))∧w'.cell? ⟨(a1.add ((a0).toNat * 6)).block,(a1.add ((a0).toNat * 6)).off+1,none⟩=some (.bool ((Qa l0 a0).f1))∧w'.cell? ⟨(a1.add ((a0).toNat * 6)).block,(a1.add ((a0).toNat * 6)).off+2,none⟩=some (.int .i64 ((Qa l0 a0).f2))∧w'.cell? ⟨(a1.add ((a0).toNat * 6)).block,(a1.add ((a0).toNat * 6)).off+3,none⟩=some (.int .i64 ((Qa l0 a0).f3))∧w'.cell? ⟨(a1.add ((a0).toNat * 6)).block,(a1.add ((a0).toNat * 6)).off+4,none⟩=some (.int .i64 ((Qa l0 a0).f4))∧w'.cell? ⟨(a1.add ((a0).toNat * 6)).block,(a1.add ((a0).toNat * 6)).off+5,none⟩=some (.slice g8 ((Qa l0 a0).f5).length d8)) (ds:=[]) (zzB 27 0) (by kernel_rfl) rfl rfl ⟨(zzx HB.out d1 :),(zzx HB.out d0 :),(zzx HB.out c7 :),(zzx HB.out c4 :),(zzx HB.out b9 :),(zzx HB.out b1 :)⟩ (fun b2=>?_);refine with_tabW Qh.tab4 Qh.bits4 (fun a2 k5=>?_);generalize wr.drew=q2 at HB e2 a5 a6 a7 a8 a9 b0 b2 ⊢;refine zzP 0 10 27 1 a2 ?_
      refine zzP 1 11 27 3 a2 ?_
      refine zzP 2 12 27 7 a2 ?_
      refine zzT 3 13 27 15 a2 k5 b2 ?_
      refine one_ (i:=4) (N:=some 14) (zzB 27 31) rfl rfl (one_of a2.out (by kernel_rfl)) (by decide) (fun K hK=>?_);refine goes_ Try.func26 (by kernel_rfl) rfl #[.agg #[.bool ((Qa l0 a0).f0),.bool ((Qa l0 a0).f1),.int .i64 ((Qa l0 a0).f2),.int .i64 ((Qa l0 a0).f3),.int .i64 ((Qa l0 a0).f4),.slice g8 ((Qa l0 a0).f5).length d8]] (by rfl) rfl rfl zzM2 ?_;with_reducible refine (Ql.calls k1 ((Qa l0 a0).f0) ((Qa l0 a0).f1) ((Qa l0 a0).f2) ((Qa l0 a0).f3) ((Qa l0 a0).f4) _ _ ((Qa l0 a0).f5) false _ ?side1 ?side2 A4.out).mono ?_
      (case side1=>exact zzcb e2 HB)
      (case side2=>exact g9.out);rintro e q3 ⟨rfl,hb⟩;refine ⟨_,rfl,?_⟩;have d9:=zzm (zzp zzh1 hb);clear HB;have HB:=d9;clear d9
      (try clear hb)
      (try clear hb2)
      (try clear hk)
      (try clear hi);refine hK.out _ _ ⟨(zzx HB.out d1 :),(zzx HB.out d0 :),(zzx HB.out c7 :),(zzx HB.out c4 :),(zzx HB.out b9 :),(zzx HB.out b1 :)⟩ (fun b2=>?_);clear hK K;refine zzO 14 ?_
      refine zzP 5 15 27 63 a2 ?_
      refine zzP 6 16 27 127 a2 ?_
      refine zzU 7 17 27 255 a2 ?_
      refine zzU 8 18 27 511 a2 ?_
      refine zzU 9 19 27 1023 a2 ?_
      refine zzU 10 20 27 2047 a2 ?_
      refine zzU 11 21 27 4095 a2 ?_
      refine zzU 12 22 27 8191 a2 ?_
      refine zzU 13 23 27 16383 a2 ?_
      refine zzU 14 24 27 32767 a2 ?_
      refine zzU 15 25 27 65535 a2 ?_
      refine zzU 16 26 27 131071 a2 ?_
      refine zzU 17 27 27 262143 a2 ?_
      refine zzU 18 28 27 524287 a2 ?_
      refine zzU 19 29 27 1048575 a2 ?_
      refine zzU 20 30 27 2097151 a2 ?_
      refine zzU 21 31 27 4194303 a2 ?_
      refine zzU 22 32 27 8388607 a2 ?_
      refine zzU 23 33 27 16777215 a2 ?_
      refine zzU 24 34 27 33554431 a2 ?_
      refine zzU 25 35 27 67108863 a2 ?_
      refine zzP 26 36 27 134217727 a2 ?_
      refine done_ (done_of a2.out (by kernel_rfl)) ?_;try go_wp2
      go_ret;exact ⟨zzR,zzh1⟩
    ·
     rw [if_neg c3] at H;exact absurd H (by simp)
   ·
    rw [if_neg c2] at H;have o5:decide (a0 < (l0.length:Int))=false:=decide_eq_false c2;clear c2;obtain rfl:=Option.some.inj H;go_wp2;go_ret;exact ⟨zzR,zzh1⟩

set_option linter.unusedVariables false
set_option linter.unusedSimpArgs false
def Q7.l0:Nat→List Int→Int→List Int→Int→Option (Bool)
 | 0,_,_,_,_=>none
 | k+1,x0,x1,x2,x7=>if x7 < (x2.length:Int) then (if 0≤(wrap64 (x1+x7)) then (if (wrap64 (x1+x7)) < (x0.length:Int) then (if 0≤x7 then (if (rd x0 (wrap64 (x1+x7)))=(rd x2 x7) then (Q7.l0 k x0 x1 x2 (wrap64 (x7+1))) else (some false)) else (none)) else (none)) else (none)) else (some true)
def Q7.f (k:Nat) (l0:List Int) (a1:Int) (l2:List Int):Option (Bool):=if (wrap64 (a1+(l2.length:Int))) > (l0.length:Int) then (some false) else (Q7.l0 k l0 a1 l2 0)
set_option maxHeartbeats 8000000 in
theorem Q7.calls (k:Nat) (A0:Option Addr) (c0:Nat) (l0:List Int) (a1:Int) (A2:Option Addr) (c2:Nat) (l2:List Int) (r:Bool) (w:World) (b7:Kd.C (Kd.int .i64) w A0 l0.length l0) (b8:l0.length≤c0) (b9:Kd.C (Kd.int .i64) w A2 l2.length l2) (c1:l2.length≤c2) (h:Q7.f k l0 a1 l2=some r) :
  Calls Try.prog 68 #[.slice A0 l0.length c0,.int .i64 a1,.slice A2 l2.length c2] w fun e w'=>e = .returned (.bool r)∧Drawn0 w w':=by
 have c3:=zzm b7;have d4:=zzm b8;clear b7 b8;have c6:=zzm b9;have d5:=zzm c1;clear b9 c1;have H:(if (wrap64 (a1+(l2.length:Int))) > (l0.length:Int) then (some false) else (Q7.l0 k l0 a1 l2 0))=some r:=h;clear h;by_cases c4:(wrap64 (a1+(l2.length:Int))) > (l0.length:Int)
 ·
  rw [if_pos c4] at H;have b2:decide ((l0.length:Int) < (wrap64 (a1+(l2.length:Int))))=true:=decide_eq_true c4;clear c4;obtain rfl:=Option.some.inj H;go_enter Try.func68,Try.ntmps68;go_wp2;repeat (go_quiet (fail);try go_wp2)
  go_ret;exact ⟨by first|rfl|(simp;done)|(simp [*];done),by repeat (first|exact Drawn0.refl _|apply Drawn0.step)⟩
 ·
  rw [if_neg c4] at H;have b2:decide ((l0.length:Int) < (wrap64 (a1+(l2.length:Int))))=false:=decide_eq_false c4;clear c4;have H':=zzm H;clear H;go_enter Try.func68,Try.ntmps68;go_wp2;repeat (go_quiet (fail);try go_wp2)
  go_loopg [7] k (fun kq v7 w'=>∃ (a0:Int),v7 = .int .i64 a0∧Aside0 (Q7.l0 kq l0 a1 l2 a0=some r)∧Aside0 (kq≤k)∧Drawn0 w w')
  case atStart=>exact ⟨(0),(by first|rfl|(simp;done)|(simp [*];done)),H',⟨Nat.le_refl _⟩,by repeat (first|exact Drawn0.refl _|apply Drawn0.step)⟩
  case round=>
   clear H';try clear c2
   try clear p2
   try clear c4
   try clear b2
   obtain ⟨a0,rfl,HA,HK1,⟨m1,rfl⟩⟩:=hrel;cases gk with
   | zero=>exact absurd HA.out (by simp [Q7.l0])
   | succ k1=>
    have H:=HA.out;clear HA;simp only [Q7.l0] at H;by_cases c5:a0 < (l2.length:Int)
    ·
     rw [if_pos c5] at H;have d0:decide (a0 < (l2.length:Int))=true:=decide_eq_true c5;clear c5;obtain ⟨a2,hji6⟩:∃ j_:Int,(wrap64 (a1+a0))=j_:=⟨_,rfl⟩;replace H:(if 0≤(a2) then (if (a2) < (l0.length:Int) then (if 0≤a0 then (if (rd l0 (a2))=(rd l2 a0) then (Q7.l0 k1 l0 a1 l2 (wrap64 (a0+1))) else (some false)) else (none)) else (none)) else (none))=some r:=by first|(rw [hji6] at H;exact H)|(simp only [hji6] at H ⊢;exact H)
     have hji6w:(IntKind.i64.wrap (a1+a0))=a2:=(i64_w _).trans hji6;by_cases c7 : 0≤(a2)
     ·
      rw [if_pos c7] at H;have d1:decide (0≤(a2))=true:=decide_eq_true c7;clear c7;by_cases c8:(a2) < (l0.length:Int)
      ·
       rw [if_pos c8] at H;have d2:decide ((a2) < (l0.length:Int))=true:=decide_eq_true c8;clear c8;by_cases c9 : 0≤a0
       ·
        rw [if_pos c9] at H;have d3:decide (0≤a0)=true:=decide_eq_true c9;clear c9;by_cases a7:(rd l0 (a2))=(rd l2 a0)
        ·
         rw [if_pos a7] at H;obtain ⟨b3,b4⟩:=zzQ a7;clear a7;have H':=zzm H;clear H;have a3 : 0≤((a2):Int):=zzt;have a4:(a2) < (l0.length:Int):=zzt;obtain ⟨b5,a8,b0⟩:=Kd.at_int c3.out (a2) a3 a4;cases a8;replace a3:=eq_true a3;replace a4:=eq_true a4;have a5 : 0≤(a0:Int):=zzt;have a6:a0 < (l2.length:Int):=zzt;obtain ⟨b6,a9,b1⟩:=Kd.at_int c6.out a0 a5 a6;cases a9;replace a5:=eq_true a5;replace a6:=eq_true a6;go_wp2;repeat (go_quiet (fail);try go_wp2)
         go_roundg k1
         case measure=>have:=HK1.out;omega
         case rel=>exact ⟨(wrap64 (a0+1)),(by first|rfl|(simp;done)|(simp [*];done)),H',⟨by have:=HK1.out;omega⟩,by repeat (first|exact Drawn0.refl _|apply Drawn0.step)⟩
        ·
         rw [if_neg a7] at H;obtain ⟨b3,b4⟩:=zzY a7;obtain rfl:=Option.some.inj H;have a3 : 0≤((a2):Int):=zzt;have a4:(a2) < (l0.length:Int):=zzt;obtain ⟨b5,a8,b0⟩:=Kd.at_int c3.out (a2) a3 a4;cases a8;replace a3:=eq_true a3;replace a4:=eq_true a4;have a5 : 0≤(a0:Int):=zzt;have a6:a0 < (l2.length:Int):=zzt;obtain ⟨b6,a9,b1⟩:=Kd.at_int c6.out a0 a5 a6;cases a9;replace a5:=eq_true a5;replace a6:=eq_true a6;go_wp2;repeat (go_quiet (fail);try go_wp2)
         go_ret;exact ⟨by first|rfl|(simp;done)|(simp only [← hji6] <;> (first|rfl|simp))|(simp [*];done),by repeat (first|exact Drawn0.refl _|apply Drawn0.step)⟩
       ·
        rw [if_neg c9] at H;exact absurd H (by simp)
      ·
       rw [if_neg c8] at H;exact absurd H (by simp)
     ·
      rw [if_neg c7] at H;exact absurd H (by simp)
    ·
     rw [if_neg c5] at H;have d0:decide (a0 < (l2.length:Int))=false:=decide_eq_false c5;clear c5;obtain rfl:=Option.some.inj H;go_wp2;repeat (go_quiet (fail);try go_wp2)
     go_ret;exact ⟨by first|rfl|(simp;done)|(simp [*];done),by repeat (first|exact Drawn0.refl _|apply Drawn0.step)⟩

set_option linter.unusedVariables false
set_option linter.unusedSimpArgs false
def Rl.f (k:Nat) (l0:List Int) (l1:List Int):Option (Bool):=if (l0.length:Int)=(l1.length:Int) then ((Q7.f k l0 0 l1).bind fun t139=>(some t139)) else (some false)
set_option maxHeartbeats 8000000 in
theorem Rl.calls (k:Nat) (A0:Option Addr) (c0:Nat) (l0:List Int) (A1:Option Addr) (c1:Nat) (l1:List Int) (r:Bool) (w:World) (a1:Kd.C (Kd.int .i64) w A0 l0.length l0) (a2:l0.length≤c0) (a3:Kd.C (Kd.int .i64) w A1 l1.length l1) (a4:l1.length≤c1) (h:Rl.f k l0 l1=some r) :
  Calls Try.prog 59 #[.slice A0 l0.length c0,.slice A1 l1.length c1] w fun e w'=>e = .returned (.bool r)∧Drawn0 w w':=by
 have a8:=zzm a1;have a9:=zzm a2;clear a1 a2;have b0:=zzm a3;have b1:=zzm a4;clear a3 a4;have H:(if (l0.length:Int)=(l1.length:Int) then ((Q7.f k l0 0 l1).bind fun a0=>(some a0)) else (some false))=some r:=h;clear h;by_cases c3:(l0.length:Int)=(l1.length:Int)
 ·
  rw [if_pos c3] at H;obtain ⟨a5,a6⟩:=zzQ c3;have a7:(l0.length==l1.length)=true:=by first|simpa using c3|(simp at c3 ⊢;omega)
  clear c3;obtain ⟨a0,A4,H⟩:=zzG H;obtain rfl:=Option.some.inj H;go_enter Try.func59,Try.ntmps59;go_wp2_with (first|(go_at_call 68;(with_reducible refine (Q7.calls k _ _ l0 0 _ _ l1 a0 _ ?side1 ?side2 ?side3 ?side4 A4.out).mono ?_);(case side1=>repeat (first|exact a8.out|(with_reducible refine Kd.C_alloc ?_ _)|(with_reducible refine Kd.C_drewN ?_ _)|(with_reducible refine Kd.C_drew ?_)));(case side2=>exact a9.out);(case side3=>repeat (first|exact b0.out|(with_reducible refine Kd.C_alloc ?_ _)|(with_reducible refine Kd.C_drewN ?_ _)|(with_reducible refine Kd.C_drew ?_)));(case side4=>exact b1.out);rintro e w' ⟨rfl,⟨nd,rfl⟩⟩));go_ret;exact ⟨by first|rfl|(simp;done)|(simp [*];done),by repeat (first|exact Drawn0.refl _|apply Drawn0.step)⟩
 ·
  rw [if_neg c3] at H;obtain ⟨a5,a6⟩:=zzY c3;have a7:(l0.length==l1.length)=false:=by first|simpa using c3|(simp at c3 ⊢;omega)
  obtain rfl:=Option.some.inj H;go_enter Try.func59,Try.ntmps59;go_wp2;go_ret;exact ⟨by first|rfl|(simp;done)|(simp [*];done),by repeat (first|exact Drawn0.refl _|apply Drawn0.step)⟩
end Go.Proofs.Ytnjalgheihiagaa.T
