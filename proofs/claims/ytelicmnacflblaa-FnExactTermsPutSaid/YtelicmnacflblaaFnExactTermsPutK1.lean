/- The law FnExactTermsPut holds (part 2 of 3; merged by pack2.py). -/
import Derived.Test.YtelicmnacflblaaRows
import Derived.JoinedOf
import Derived.Test.YtelicmnacflblaaProg
import Derived.Lib.SliceRun
import Derived.Test.YtelicmnacflblaaFnExactTermsPutK0
set_option maxRecDepth 1000000
open List (setIfInBounds_toArray set_cons_zero set_cons_succ map_toArray map_cons map_nil length_drop length_take)
namespace Go.Proofs.YtelicmnacflblaaW.PrintWords
open Go.RowKit Go.Proofs.YtelicmnacflblaaW.PrintLast
inductive Grew (W : World) : World → Prop
  | refl : Grew W W
  | alloc {V : World} (h : Grew W V) (o : Obj) : Grew W (V.alloc o)
  | drewN {V : World} (h : Grew W V) (n : Nat) : Grew W (V.drewN n)
  | drew {V : World} (h : Grew W V) : Grew W V.drew
theorem zzE {W W' : World} {b : Nat} {o : Obj} (h : W.heap[b]? = some o) (g : Grew W W' := by with_reducible repeat (first | exact Grew.refl | refine Grew.alloc ?_ _ | refine Grew.drewN ?_ _ | refine Grew.drew ?_)) : W'.heap[b]? = some o := by
  induction g with
  | refl => exact h
  | alloc _ _ ih => exact blk_alloc ih _
  | drewN _ _ ih => exact blk_drewN ih _
  | drew _ ih => exact blk_drew ih
theorem zzh2 {w W : World} (h : Below w.heap.size w W := by repeat (first | (with_reducible first | exact HB.out | apply zza | apply zzb | apply zzc | refine zzd ?_ (Aside0.out (by with_reducible assumption))) | exact HB.out)) : Below w.heap.size w W := h
theorem zzJ : (∀ {α : Type} {l : List α} {i : Nat} {a : α}, l.toArray.setIfInBounds i a = (l.set i a).toArray) ∧ (∀ {α : Type} {xs : List α} {a b : α}, (a :: xs).set 0 b = b :: xs) ∧ (∀ {α : Type} {xs : List α} {i : Nat} {a b : α}, (a :: xs).set (i + 1) b = a :: xs.set i b) ∧ (∀ n : Int, IntKind.i64.wrap n = Go.RowKit.wrap64 n) ∧ (∀ n : Int, IntKind.i32.wrap n = Go.RowKit.wrap32 n) ∧ (∀ (a : Act) (d : Tmp) (v : Value), a.put (some d) v = { a with tmps := a.tmps.setIfInBounds d v }) ∧ ∀ (a : Act) (v : Value), a.put none v = a := ⟨zzq, zzr, zzs, i64_w, i32_w, fun _ _ _ => rfl, fun _ _ => rfl⟩
theorem zzH {α β : Type} {o : Option α} {f : α → Option β} {b : β} (h : o.bind f = some b) : ∃ a, o = some a ∧ f a = some b := Option.bind_eq_some_iff.mp h
theorem zzR {α : Sort _} {x y : α} (h : x = y := by first | rfl | (simp [errW_none, errW_some] <;> rfl) | (simp [*, errW_none, errW_some] <;> rfl)) : x = y := h
theorem zzM2 {α : Type} {x y : α} (h : x = y := by (try simp only [List.map_toArray, List.map_cons, List.map_nil]); first | done | rfl | (simp only [List.length_drop, List.length_take]; rfl)) : x = y := h
theorem zzA2 {md : Region.Mode} {ops : Array Oper} {T : Bool × List (List Nat × List Nat)} {l l' : Array Bool} {i : Nat} (hT : rtab md ops = T) (h : anyT T l.toList l'.toList i = true := by kernel_rfl) : anyB md ops l l' i = true := any_of hT h
end Go.Proofs.YtelicmnacflblaaW.PrintWords
namespace Go.Proofs.YtelicmnacflblaaW.PrintWords
open Go.RowKit Go.Proofs.YtelicmnacflblaaW.PrintLast
theorem zzC {α : Type} {d : Kd α} {W W' : World} {A : Option Addr} {n : Nat} {xs : List α} (h : Kd.C d W A n xs) (g : Grew W W' := by with_reducible repeat (first | exact Grew.refl | refine Grew.alloc ?_ _ | refine Grew.drewN ?_ _ | refine Grew.drew ?_)) : Kd.C d W' A n xs := by
  induction g with
  | refl => exact h
  | alloc _ _ ih => exact Kd.C_alloc ih _
  | drewN _ _ ih => exact Kd.C_drewN ih _
  | drew _ ih => exact Kd.C_drew ih
end Go.Proofs.YtelicmnacflblaaW.PrintWords
namespace Go.Proofs.YtelicmnacflblaaW.PrintWords
open Go.RowKit Go.Proofs.YtelicmnacflblaaW.PrintLast
section
variable {P:Program} {md:Region.Mode} {ops:Array Oper} {ds:List Nat} {T:Bool×List (List Nat×List Nat)} {B:List Nat} {Q:Exit→Act→World→Prop} {S:World→Prop} {oi:Oper} {v:Value} {fuel:Nat} {l:Array Bool} {a a':Act} {w:World}
theorem zzP (i N c m:Nat) (HT:Aside0 (rtab md ops=T)) (h:wpAnyLast P md ops Q S ds fuel (zzB c m) a' w) (hi:ops[i]?=some oi:=by exact rfl) (hN:oi.dst=some N:=by exact rfl) (hc:anyT T l.toList (zzB c m).toList i=true:=by kernel_rfl) (hw:Region.wanted oi (yielded ops a.tmps)=true:=by rfl) (hy:∀ w,(execOp a.eval oi).run P w=.ok (.value v) w:=by intro w';go_simp;with_reducible rfl) (ha:a.put (some N) v=a':=by simp only [zzJ];rfl) (hQ:∀ c a w,Q (.panic c) (a.put oi.dst v) w→Q (.panic c) a w:=by exact fun _ _ _ h=>h):wpAnyLast P md ops Q S ds (fuel+1) l a w:=pure_ (zzB c m) hi hN (any_of HT.out hc) hQ (Or.inl ⟨hw,hy⟩) ha h
theorem zzU (i N c m:Nat) (HT:Aside0 (rtab md ops=T)) (h:wpAnyLast P md ops Q S ds fuel (zzB c m) a' w) (hi:ops[i]?=some oi:=by exact rfl) (hN:oi.dst=some N:=by exact rfl) (hc:anyT T l.toList (zzB c m).toList i=true:=by kernel_rfl) (hw:Region.wanted oi (yielded ops a.tmps)=false:=by rfl) (ha:a.put (some N) undef=a':=by simp only [zzJ];rfl) (hQ:∀ c a w,Q (.panic c) (a.put oi.dst undef) w→Q (.panic c) a w:=by exact fun _ _ _ h=>h):wpAnyLast P md ops Q S ds (fuel+1) l a w:=pure_ (zzB c m) hi hN (any_of HT.out hc) hQ (Or.inr ⟨hw,rfl⟩) ha h
theorem zzT (i N c m:Nat) (HT:Aside0 (rtab md ops=T)) (HW:Aside0 (waitsOk T.2 B=true)) (hS:S w) (h:wpAnyLast P md ops Q S ds fuel (zzB c m) a' w) (hi:ops[i]?=some oi:=by exact rfl) (hN:oi.dst=some N:=by exact rfl) (hc:takeW T B ds l.toList (zzB c m).toList i=true:=by kernel_rfl) (hw:Region.wanted oi (yielded ops a.tmps)=true:=by rfl) (hy:∀ w,S w→(execOp a.eval oi).run P w=.ok (.value v) w:=by intro w';(try simp only [and_imp]);intros;go_simp;with_reducible rfl) (ha:a.put (some N) v=a':=by simp only [zzJ];rfl) (hQ:∀ c a w,Q (.panic c) (a.put oi.dst v) w→Q (.panic c) a w:=by exact fun _ _ _ h=>h):wpAnyLast P md ops Q S ds (fuel+1) l a w:=take_ (zzB c m) hi hN (take_ofW HT.out HW.out hc) hQ (Or.inl ⟨hw,hy⟩) hS ha h
theorem zzO (N:Nat) {a0:Act} (h:wpAnyLast P md ops Q S ds fuel l a' w) (e:a=a0.put (some N) v:=by exact rfl) (ha:a0.put (some N) v=a':=by simp only [zzJ];rfl):wpAnyLast P md ops Q S ds fuel l a w:=norm_ (e.trans ha) h
end
theorem zzIt {α:Type} {a b c:α} {i:Decidable (true=true)} (h:(@ite α (true=true) i a b)=c):a=c:=by rw [if_pos rfl] at h;exact h
theorem zzIf {α:Type} {a b c:α} {i:Decidable (false=true)} (h:(@ite α (false=true) i a b)=c):b=c:=by rw [if_neg (fun e=>Bool.noConfusion e)] at h;exact h
theorem zzG {α β:Type} {o:Option α} {f:α→Option β} {b:β} (h:o.bind f=some b):∃ a,Aside0 (o=some a)∧f a=some b:=let ⟨a,x,y⟩:=Option.bind_eq_some_iff.mp h;⟨a,⟨x⟩,y⟩
theorem zzQ {α:Type} [BEq α] [LawfulBEq α] {a b:α} (h:a=b):(a==b)=true∧(a != b)=false:=⟨beq_iff_eq.mpr h,bne_eq_false_iff_eq.mpr h⟩
theorem zzY {α:Type} [BEq α] [LawfulBEq α] {a b:α} (h:¬ a=b):(a==b)=false∧(a != b)=true:=⟨beq_eq_false_iff_ne.mpr h,bne_iff_ne.mpr h⟩
theorem zzh3 {w W:World} (h:Below w.heap.size w W:=by repeat (first|(with_reducible first|exact HB.out|apply zza|apply zzb|apply zzc|refine zzd ?_ (Aside0.out (by with_reducible assumption)))|exact HB.out)):Below w.heap.size w W:=h
theorem zzcb {α:Type} {d:Kd α} {W V W':World} {A:Option Addr} {n:Nat} {xs:List α} (h:Aside0 (Kd.C d W A n xs)) (HB:Aside0 (Below W.heap.size W V)) (g:Grew V W':=by with_reducible repeat (first|exact Grew.refl|refine Grew.alloc ?_ _|refine Grew.drewN ?_ _|refine Grew.drew ?_)):Kd.C d W' A n xs:=zzC (Kd.C_below h.out HB.out) g
end Go.Proofs.YtelicmnacflblaaW.PrintWords
namespace Go.Proofs.Ytelicmnacflblaa.Head
open Go
theorem make_of (P : Program) (w : List Char) (R : List (List Char)) (h : behindMainWord (wordsSigns P.initOrder.toList) = w :: R) (h1 : (w == "gc".toList || w == "spec".toList) = false) (h2 : (w == "cut".toList) = true) : P.make = some .cut := by
 unfold Program.make
 rw [h]
 simp only [h1,h2,Bool.true_or,if_true,Bool.false_eq_true,if_false]
theorem enter_of (P : Program) (w : List Char) (R : List (List Char)) (h : behindMainWord (wordsSigns P.initOrder.toList) = w :: R) (h2 : stripLifts liftWords (w :: R) = ([], w :: R)) (h3 : ((w :: R).head? == some "cut".toList) = true)
  (h4:P.laysLater=false) (h5:P.bearsReflect=false) (h6:P.doorFits []=true):P.mayEnter=true:=by
 unfold Program.mayEnter
 rw [h]
 simp only [h2,h3,h4,h5,h6,List.contains_nil,Bool.not_false,Bool.and_self,Bool.or_true]
theorem lifts_of (P : Program) (w : List Char) (R : List (List Char)) (h : behindMainWord (wordsSigns P.initOrder.toList) = w :: R) (h2 : stripLifts liftWords (w :: R) = ([], w :: R)) (h3 : ((w :: R).head? == some "carried".toList) = false) : P.liftsFinal = false := by
 unfold Program.liftsFinal Program.headLifts
 rw [h]
 simp only [h2,h3,Bool.false_and,Bool.false_or,List.contains_nil,ite_self]
def chs (l:List Nat):List Char:=l.map Char.ofNat
theorem wordsSigns_word:∀ (w r:List Char),(∀ c∈w,c≠Char.ofNat 32)→wordsSigns (w++Char.ofNat 32::r)=w::wordsSigns r
 | [],r,_=>rfl
 | c::w,r,h=>by
  have ih:=wordsSigns_word w r (fun x hx=>h x (List.mem_cons_of_mem _ hx))
  have hc:c≠Char.ofNat 32:=h c List.mem_cons_self
  rw [List.cons_append,wordsSigns,ih]
  exact hc
def word1:List Nat:=[104,97,114,110,101,115,115]
def word2:List Nat:=[102,53,102,56,102,100,49,98,50,48,49,98,97,53,53,101,100,48,101,50,48,102,53,51,99,97,50,50,52,54,55,54,99,51,97,54,48,54,51,49,97,100,98,49,99,100,55,49,50,52,56,100,50,54,50,52,102,98,52,48,51,52,53,97]
def word3:List Nat:=[99,117,116]
def signs:List Nat:=[97,116,32,108,111,111,112,46,101,120,97,109,112,108,101,47,114,101,99,111,114,100,98,97,116,99,104,101,115,47,108,97,119,115,46,70,110,69,120,97,99,116,84,101,114,109,115,80,117,116]
theorem init_is:Try.prog.initOrder=String.ofList (chs word1++Char.ofNat 32::(chs word2++Char.ofNat 32::(chs word3++Char.ofNat 32::chs signs))):=by kernel_rfl
theorem init_words:wordsSigns Try.prog.initOrder.toList=chs word1::chs word2::chs word3::wordsSigns (chs signs):=by
 rw [init_is,String.toList_ofList,wordsSigns_word _ _ (by decide +kernel),wordsSigns_word _ _ (by decide +kernel),wordsSigns_word _ _ (by decide +kernel)]
theorem behind_is:∃ R,behindMainWord (wordsSigns Try.prog.initOrder.toList)=chs word3::R:=by
 rw [init_words]
 generalize wordsSigns (chs signs)=R
 exact ⟨R,by kernel_rfl⟩
theorem strip_is (R:List (List Char)):stripLifts liftWords (chs word3::R)=([],chs word3::R):=by kernel_rfl
theorem make_is:Try.prog.make=some .cut:=by
 obtain ⟨R,h⟩:=behind_is
 exact make_of _ _ R h (by kernel_rfl) (by kernel_rfl)
theorem lays_later:Try.prog.laysLater=false:=by kernel_rfl
theorem bears_reflect:Try.prog.bearsReflect=false:=by kernel_rfl
theorem door_fits:Try.prog.doorFits []=true:=by kernel_rfl
theorem may_enter:Try.prog.mayEnter=true:=by
 obtain ⟨R,h⟩:=behind_is
 exact enter_of _ _ R h (strip_is R) (by kernel_rfl) lays_later bears_reflect door_fits
theorem lifts_final:Try.prog.liftsFinal=false:=by
 obtain ⟨R,h⟩:=behind_is
 exact lifts_of _ _ R h (strip_is R) (by kernel_rfl)
theorem and2 {a b:Bool} (h:a=true) (h2:b=true):(a&&b)=true:=by rw [h,h2];rfl
theorem closed_of (P:Program) (f:FuncId) (fn:Func) (s:ChangeSpec) (c:OpenClaim) (k0:(c.wf (OpenSpec.ofChange s))=true) (k1:(laidOutB P)=true) (k2:(mapsRowed P)=true) (k3:(fn.params.all (P.readableRec ·))=true) (k4:(namedTie P c.named s.vars)=true) (k5:((c.stops == []))=true) (k6:((P.stops == []))=true) (k7:((c.knobs == []))=true) (k8:((P.stopKnobs == []))=true) (k9:((c.inPlace==P.inPlace f))=true) (k10:((c.unfollowed==P.unfollowed f))=true) (k11:((c.recurses==P.recurses f))=true) (k12:((c.named==P.varsNamed f))=true) (k13:((c.maps==(fn.params.toList++s.plain.varTypes P).any (P.mapsRec ·)))=true) (k14:((c.ifaces==(fn.params.toList++s.plain.varTypes P).any (P.ifacesRec ·)))=true) (k15:((c.mapsOut==P.mapsAmong fn.resultTypes.toList))=true) (k16:((c.loops==(fn.params.toList++s.plain.varTypes P).any (P.loopsFrom ·)))=true) (k17:((c.wideKeys==(fn.params.toList++s.plain.varTypes P++fn.resultTypes.toList).any (P.wideKeysFrom ·)))=true) (k18:(s.vars.all (P.varReadable ·))=true) (k19:(fn.resultTypes.all (fun t=>P.readableRec t&&decide (t < P.types.size)))=true) (k20:((c.ifacesOut==fn.resultTypes.toList.any (P.ifacesRec ·)))=true) (k21:((c.loopsOut==fn.resultTypes.toList.any (P.loopsFrom ·)))=true) (k22:((c.plainKeys==P.plainKeys))=true) (k23:(c.shortTexts.isNone)=true) (k24:(P.stopsHeard)=true) (k25:(P.mayEnter)=true) (k26:((c.lifted==P.liftsFinal))=true) (k27:((P.make==some c.make))=true) (k28:((c.kinds==(if c.domain.isEmpty then [] else fn.params.toList.map fun t=>match P.underlying t with|some (.int k)=>some k|_=>none)))=true) (k29:((c.pinned==c.pinnedBy))=true) (k30:((c.veiled==(fn.params.toList++s.plain.varTypes P++fn.resultTypes.toList).any (P.veiledRec ·)))=true) (k31:(c.veiledFits P fn.params.toList (fn.params.toList++s.plain.varTypes P++fn.resultTypes.toList))=true):joinedFacts P f fn s c=true:=by
 unfold joinedFacts
 exact (and2 (and2 (and2 (and2 (and2 (and2 (and2 (and2 (and2 (and2 (and2 (and2 (and2 (and2 (and2 (and2 (and2 (and2 (and2 (and2 (and2 (and2 (and2 (and2 (and2 (and2 (and2 (and2 (and2 (and2 (and2 k0 k1) k2) k3) k4) k5) k6) k7) k8) k9) k10) k11) k12) k13) k14) k15) k16) k17) k18) k19) k20) k21) k22) k23) k24) k25) k26) k27) k28) k29) k30) k31)
end Go.Proofs.Ytelicmnacflblaa.Head
namespace Go.Proofs.Ytelicmnacflblaa.T
open Go.RowKit Go.Proofs.YtelicmnacflblaaW.PrintWords Go.Proofs.YtelicmnacflblaaW.PrintLast Go.Proofs.YtelicmnacflblaaW.PrintMore

set_option linter.unusedVariables false
set_option linter.unusedSimpArgs false
def errW:Option Int→Value
 | none=>.nilIface
 | some c=>.iface 0 (.int .i64 c)
theorem errW_none:errW none = .nilIface:=rfl
theorem errW_some (c:Int):errW (some c) = .iface 0 (.int .i64 c):=rfl
theorem info30:(Try.prog.info? 30).map (fun i=>(i.zero,i.size,i.bytes))=some (some (.agg #[(.int .i64 0),(.int .i64 0)]),2,16):=by kernel_rfl
structure S24 where
 f0:Int
 f1:Int
def z24:S24:=⟨(0:Int),(0:Int)⟩
def k24:Kd S24:=Kd.iso (Kd.pair (Kd.int .i64) (Kd.int .i64)) (fun x:S24=>(x.f0,x.f1))
theorem k24_open {w:World} {x:S24} {cs:List Value} (h:k24.K w x cs):cs = [.int .i64 x.f0,.int .i64 x.f1]:=by
 obtain ⟨_,_,rfl,rfl,rfl⟩:=h;exact rfl
def rd_T24 (xs:List S24) (i:Int):S24:=xs.getD i.toNat z24
theorem at_T24 {w:World} {A:Option Addr} {n:Nat} {xs:List S24} (h:Kd.C k24 w A n xs) (i:Int) (h0 : 0≤i) (h1:i < n):∃ ad,A=some ad∧w.cell? (ad.add (i.toNat * 2))=some (.int .i64 (rd_T24 xs i).f0)∧w.cell? ⟨(ad.add (i.toNat * 2)).block,(ad.add (i.toNat * 2)).off+1,none⟩=some (.int .i64 (rd_T24 xs i).f1):=by
 obtain ⟨ad,c,e,_,hK,hc0⟩:=Kd.C_get h z24 i h0 h1;have hc:∀ j u,c[j]? = some u→w.cell? (ad.add (i.toNat * 2+j))=some u:=hc0;obtain rfl:=k24_open hK;exact ⟨ad,e,hc 0 _ rfl,by rw [← add_field _ _ 1 (by omega)];exact hc 1 _ rfl⟩
structure S30 where
 f0:Int
 f1:Int
def z30:S30:=⟨(0:Int),(0:Int)⟩
def k30:Kd S30:=Kd.iso (Kd.pair (Kd.int .i64) (Kd.int .i64)) (fun x:S30=>(x.f0,x.f1))
theorem k30_open {w:World} {x:S30} {cs:List Value} (h:k30.K w x cs):cs = [.int .i64 x.f0,.int .i64 x.f1]:=by
 obtain ⟨_,_,rfl,rfl,rfl⟩:=h;exact rfl
theorem k30_openM {w:World} {base:Nat} {ok:Nat→Prop} {x:S30} {cs:List Value} (h:k30.M w base ok x cs):cs = [.int .i64 x.f0,.int .i64 x.f1]:=by
 obtain ⟨_,_,rfl,rfl,rfl⟩:=h;exact rfl
theorem k30_mkM (w:World) (base:Nat) (ok:Nat→Prop) (x:S30)  : k30.M w base ok x [.int .i64 x.f0,.int .i64 x.f1]:=⟨[.int .i64 x.f0],[.int .i64 x.f1],rfl,rfl,rfl⟩
def Qa (xs:List S30) (i:Int):S30:=xs.getD i.toNat z30
theorem Qm {w:World} {A:Option Addr} {n:Nat} {xs:List S30} (h:Kd.C k30 w A n xs) (i:Int) (h0 : 0≤i) (h1:i < n):∃ ad,A=some ad∧w.cell? (ad.add (i.toNat * 2))=some (.int .i64 (Qa xs i).f0)∧w.cell? ⟨(ad.add (i.toNat * 2)).block,(ad.add (i.toNat * 2)).off+1,none⟩=some (.int .i64 (Qa xs i).f1):=by
 obtain ⟨ad,c,e,_,hK,hc0⟩:=Kd.C_get h z30 i h0 h1;have hc:∀ j u,c[j]? = some u→w.cell? (ad.add (i.toNat * 2+j))=some u:=hc0;obtain rfl:=k30_open hK;exact ⟨ad,e,hc 0 _ rfl,by rw [← add_field _ _ 1 (by omega)];exact hc 1 _ rfl⟩
end Go.Proofs.Ytelicmnacflblaa.T
namespace Go.Proofs.Ytelicmnacflblaa.T
open Go.RowKit Go.Proofs.YtelicmnacflblaaW.PrintWords Go.Proofs.YtelicmnacflblaaW.PrintLast Go.Proofs.YtelicmnacflblaaW.PrintMore

set_option linter.unusedVariables false
set_option linter.unusedSimpArgs false
def Qn.f (l0:List (S24)) (a1:Int):Option (Int):=if (wrap64 (a1 - (l0.length:Int))) < 0 then (some (-1)) else (some (wrap64 (a1 - (l0.length:Int))))
set_option maxHeartbeats 8000000 in
theorem Qn.calls (A0:Option Addr) (c0:Nat) (l0:List (S24)) (a1:Int) (r:Int) (w:World) (a0:Kd.C k24 w A0 l0.length l0) (a2:l0.length≤c0) (h:Qn.f l0 a1=some r) :
  Calls Try.prog 4 #[.slice A0 l0.length c0,.int .i64 a1] w fun e w'=>e = .returned (.int .i64 r)∧Drawn0 w w':=by
 have a4:=zzm a0;have a5:=zzm a2;clear a0 a2;have H:(if (wrap64 (a1 - (l0.length:Int))) < 0 then (some (-1)) else (some (wrap64 (a1 - (l0.length:Int)))))=some r:=h;clear h;by_cases c3:(wrap64 (a1 - (l0.length:Int))) < 0
 ·
  rw [if_pos c3] at H;have a3:decide ((wrap64 (a1 - (l0.length:Int))) < 0)=true:=decide_eq_true c3;clear c3;obtain rfl:=Option.some.inj H;go_enter Try.func4,Try.ntmps4;go_wp2;go_ret;exact ⟨by first|rfl|(simp;done)|(simp [*];done),by repeat (first|exact Drawn0.refl _|apply Drawn0.step)⟩
 ·
  rw [if_neg c3] at H;have a3:decide ((wrap64 (a1 - (l0.length:Int))) < 0)=false:=decide_eq_false c3;clear c3;obtain rfl:=Option.some.inj H;go_enter Try.func4,Try.ntmps4;go_wp2;go_ret;exact ⟨by first|rfl|(simp;done)|(simp [*];done),by repeat (first|exact Drawn0.refl _|apply Drawn0.step)⟩
def Qk.f (a0:Int) (a1:Int) (a2:Int):Option (Bool):=if a0 ≥ a1 then (some (decide (a0≤a2))) else (some false)
set_option maxHeartbeats 8000000 in
theorem Qk.calls (a0:Int) (a1:Int) (a2:Int) (r:Bool) (w:World) (h:Qk.f a0 a1 a2=some r) :
  Calls Try.prog 17 #[.int .i64 a0,.int .i64 a1,.int .i64 a2] w fun e w'=>e = .returned (.bool r)∧Drawn0 w w':=by
 have H:(if a0 ≥ a1 then (some (decide (a0≤a2))) else (some false))=some r:=h;clear h;by_cases c4:a0 ≥ a1
 ·
  rw [if_pos c4] at H;have c4b0:decide (a1≤a0)=true:=decide_eq_true c4;clear c4;obtain rfl:=Option.some.inj H;go_enter Try.func17,Try.ntmps17;go_wp2;go_ret;exact ⟨by first|rfl|(simp;done)|(simp [*];done),by repeat (first|exact Drawn0.refl _|apply Drawn0.step)⟩
 ·
  rw [if_neg c4] at H;have c4b0:decide (a1≤a0)=false:=decide_eq_false c4;clear c4;obtain rfl:=Option.some.inj H;go_enter Try.func17,Try.ntmps17;go_wp2;go_ret;exact ⟨by first|rfl|(simp;done)|(simp [*];done),by repeat (first|exact Drawn0.refl _|apply Drawn0.step)⟩

set_option linter.unusedVariables false
set_option linter.unusedSimpArgs false
def Qb.l0:Nat→List (S30)→Int→Option (Bool)
 | 0,_,_=>none
 | k+1,x0,x3=>if x3 < (x0.length:Int) then (if 0≤x3 then ((Qk.f ((Qa x0 x3).f0) 0 999).bind fun t103=>(if t103=true then ((Qk.f ((Qa x0 x3).f1) 0 99999).bind fun t104=>(if t104=true then (if x3 > 0 then (if 0≤(wrap64 (x3 - 1)) then (if (wrap64 (x3 - 1)) < (x0.length:Int) then (if ((Qa x0 (wrap64 (x3 - 1))).f0) ≥ ((Qa x0 x3).f0) then (some false) else (if ((Qa x0 (wrap64 (x3 - 1))).f1) ≥ ((Qa x0 x3).f1) then (some false) else (Qb.l0 k x0 (wrap64 (x3+1))))) else (none)) else (none)) else (Qb.l0 k x0 (wrap64 (x3+1)))) else (some false))) else (some false))) else (none)) else (some (decide ((x0.length:Int)≤8)))
def Qb.f (k:Nat) (l0:List (S30)):Option (Bool):=Qb.l0 k l0 0
def Qb.T5:Bool×List (List Nat×List Nat):=(true,[([],[]),([0],[0]),([1],[1]),([2],[2]),([3,2],[3]),([4],[4]),([5,4],[4,5]),([6,4,4],[4,6]),([7,4],[4,7]),([4,8],[4,8]),([9,7],[9]),([10],[10]),([11,10],[10,11]),([12,10,10],[10,12]),([13],[13]),([13],[13]),([15,13],[13,15]),([14,16,13],[13,14,16]),([17,13],[13,17]),([18,13],[13,18]),([13],[13]),([20,13],[13,20]),([19,21,13],[13,19,21]),([22,13,13],[13,22]),([23],[23]),([23],[23]),([25,23],[23,25]),([24,26,23],[23,24,26]),([27,23],[23,27]),([28,23],[23,28]),([23],[23]),([30,23],[23,30]),([29,31,23],[23,29,31]),([23,32,13],[13,23,32]),([13,33,10],[10,13,33]),([10,34],[10,34])])
def Qb.B5:List Nat:=[0,1,3,7,15,31,63,127,255,511,1023,2047,4095,8191,16383,16383,49151,131071,262143,524287,16383,1064959,4194303,8388607,16777215,16777215,50331647,134217727,268435455,536870911,16777215,1090519039,4294967295,8589934591,17179869183,34359738367]
theorem Qb.tab5:rtab .any (opsOf Try.f12 5)=Qb.T5:=by kernel_rfl
theorem Qb.bits5:waitsOk Qb.T5.2 Qb.B5=true:=by kernel_rfl
set_option maxHeartbeats 8000000 in
theorem Qb.calls (k:Nat) (A0:Option Addr) (c0:Nat) (l0:List (S30)) (r:Bool) (w:World) (g5:Kd.C k30 w A0 l0.length l0) (g6:l0.length≤c0) (h:Qb.f k l0=some r) :
  Calls Try.prog 12 #[.slice A0 l0.length c0] w fun e w'=>e = .returned (.bool r)∧Below w.heap.size w w':=by
 have hu30:=Try.underlying30;have d4:=zzm g5;have l9:=zzm g6;clear g5 g6;have HB:=zzm (Below.refl w.heap.size w);have H:(Qb.l0 k l0 0)=some r:=h;clear h;have H':=zzm H;clear H;go_enter Try.func12,Try.ntmps12;go_wp2;go_loopg [3] k (fun kq v3 w'=>∃ (a1:Int),v3 = .int .i64 a1∧Aside0 (Qb.l0 kq l0 a1=some r)∧Aside0 (kq≤k)∧Aside0 (Below w.heap.size w w'))
 case atStart=>exact ⟨(0),(by first|rfl|(simp;done)|(simp [*];done)),H',⟨Nat.le_refl _⟩,⟨zzh1⟩⟩
 case round=>
  clear H';try clear c1
  obtain ⟨a1,rfl,HA,HK1,HB⟩:=hrel;cases gk with
  | zero=>exact absurd HA.out (by simp [Qb.l0])
  | succ k1=>
   have H:=HA.out;clear HA;simp only [Qb.l0] at H;by_cases c2:a1 < (l0.length:Int)
   ·
    rw [if_pos c2] at H;have g7:decide (a1 < (l0.length:Int))=true:=decide_eq_true c2;clear c2;by_cases c3 : 0≤a1
    ·
     rw [if_pos c3] at H;have l8:decide (0≤a1)=true:=decide_eq_true c3;clear c3;obtain ⟨g8,A4,H⟩:=zzG H;by_cases c5:g8=true
     ·
      subst c5;replace H:=zzIt H;obtain ⟨g9,A6,H⟩:=zzG H;by_cases c7:g9=true
      ·
       subst c7;replace H:=zzIt H;by_cases c8:a1 > 0
       ·
        rw [if_pos c8] at H;have h0:decide (0 < a1)=true:=decide_eq_true c8;clear c8;obtain ⟨a7,hji9⟩:∃ j_:Int,(wrap64 (a1 - 1))=j_:=⟨_,rfl⟩;replace H:(if 0≤(a7) then (if (a7) < (l0.length:Int) then (if ((Qa l0 (a7)).f0) ≥ ((Qa l0 a1).f0) then (some false) else (if ((Qa l0 (a7)).f1) ≥ ((Qa l0 a1).f1) then (some false) else (Qb.l0 k1 l0 (wrap64 (a1+1))))) else (none)) else (none))=some r:=by first|(rw [hji9] at H;exact H)|(simp only [hji9] at H ⊢;exact H)
        (try rw [hji9] at A4)
        (try rw [hji9] at A6);have hji9w:(IntKind.i64.wrap (a1 - 1))=a7:=(i64_w _).trans hji9;by_cases e5 : 0≤(a7)
        ·
         rw [if_pos e5] at H;have l6:decide (0≤(a7))=true:=decide_eq_true e5;clear e5;by_cases e6:(a7) < (l0.length:Int)
         ·
          rw [if_pos e6] at H;have l7:decide ((a7) < (l0.length:Int))=true:=decide_eq_true e6;clear e6;by_cases e1:((Qa l0 (a7)).f0) ≥ ((Qa l0 a1).f0)
          ·
           rw [if_pos e1] at H;have g3:decide (((Qa l0 a1).f0)≤((Qa l0 (a7)).f0))=true:=decide_eq_true e1;clear e1;obtain rfl:=Option.some.inj H;have b3 : 0≤(a1:Int):=zzt;have b4:a1 < (l0.length:Int):=zzt;obtain ⟨a8,d1,a9,b0⟩:=Qm d4.out a1 b3 b4;cases d1;replace a9:=zzx HB.out a9;replace b0:=zzx HB.out b0;replace b3:=eq_true b3;replace b4:=eq_true b4;try go_wp2_with (first|((with_reducible refine gate_dst (N:=4) rfl ?_);refine box_event ?hg (N:=4) ?hd (cs:=#[.int .i64 0,.int .i64 0]) (t:=30) ?hr ?_;(case hd=>rfl);(case hg=>rfl);(case hr=>first|(go_simp;done)|(go_simp;rfl));intro a3 hg e7 hbox hb;have a5:=zzm (zzp zzh1 hb);have a6:=zzm (hbox);have c9:=zzm ((by rw [hg];exact (zzo zzh1):w.heap.size≤a3));have d0:=zzm ((by rw [hg];exact (zzo zzh1):w.heap.size≤a3));clear HB;have HB:=a5;have a2:=a6;have d7:=c9;have d8:=d0;clear a5 a6 c9 d0 hb hbox hg;obtain ⟨h1,h2,h3,h4⟩:=zzc2 a2.out))
           have a5:Aside0 (((e7.setCell ⟨a3,0,none⟩ (.int .i64 ((Qa l0 a1).f0))).setCell ⟨a3,1,none⟩ (.int .i64 ((Qa l0 a1).f1))).heap[a3]? = some (.cells #[.int .i64 ((Qa l0 a1).f0),.int .i64 ((Qa l0 a1).f1)] 30 (0,0))):=⟨by (with_reducible repeat (first|apply zzf|apply zzg|apply zze));refine zzi (cs:=#[.int .i64 ((Qa l0 a1).f0),.int .i64 0]) ?_ 1 _ rfl;refine zzi (cs:=#[.int .i64 0,.int .i64 0]) ?_ 0 _ rfl;(with_reducible repeat (first|apply zzf|apply zzg|apply zze));exact a2.out⟩;have a6:Aside0 (Below w.heap.size w ((e7.setCell ⟨a3,0,none⟩ (.int .i64 ((Qa l0 a1).f0))).setCell ⟨a3,1,none⟩ (.int .i64 ((Qa l0 a1).f1)))):=⟨zzh3⟩
           (try clear a2)
           (try clear HB);generalize ((e7.setCell ⟨a3,0,none⟩ (.int .i64 ((Qa l0 a1).f0))).setCell ⟨a3,1,none⟩ (.int .i64 ((Qa l0 a1).f1)))=k9 at a5 a6 ⊢;have a2:=a5;have HB:=a6;clear a5 a6;have a5:=zzm (zzg a2.out);have a6:=zzm (zzc HB.out);clear a2 HB;have a2:=a5;have HB:=a6;clear a5 a6;have d2 : 0≤((a7):Int):=zzt;have d3:(a7) < (l0.length:Int):=zzt;obtain ⟨d9,e0,b1,b2⟩:=Qm d4.out (a7) d2 d3;have b5:=b2;have b6:=b1;obtain rfl:a8=d9:=(by injection e0);replace b1:=zzx HB.out b1;replace b2:=zzx HB.out b2;replace d2:=eq_true d2;replace d3:=eq_true d3;refine start_ (n:=36) (S:=fun w'=>w'.cell? ⟨a3,0,none⟩=some (.int .i64 ((Qa l0 a1).f0))∧w'.cell? ⟨a3,1,none⟩=some (.int .i64 ((Qa l0 a1).f1))∧w'.cell? (a8.add (((a7)).toNat * 2))=some (.int .i64 ((Qa l0 (a7)).f0))∧w'.cell? ⟨(a8.add (((a7)).toNat * 2)).block,(a8.add (((a7)).toNat * 2)).off+1,none⟩=some (.int .i64 ((Qa l0 (a7)).f1))) (ds:=[]) (zzB 36 0) (by kernel_rfl) rfl rfl ⟨(zzk a2.out 0).trans rfl,(zzk a2.out 1).trans rfl,(zzx HB.out b6 :),(zzx HB.out b5 :)⟩ (fun a4=>?_);refine with_tabW Qb.tab5 Qb.bits5 (fun a0 b7=>?_);generalize k9.drew=m0 at a2 HB b1 b2 a4 ⊢;refine zzP 0 15 36 1 a0 ?_
           refine zzT 1 16 36 3 a0 b7 a4 ?_
           refine one_ (i:=2) (N:=some 17) (zzB 36 7) rfl rfl (one_of a0.out (by kernel_rfl)) (by decide) (fun K hK=>?_);refine goes_ Try.func17 (by kernel_rfl) rfl #[.int .i64 ((Qa l0 a1).f0),.int .i64 0,.int .i64 999] (by rfl) rfl rfl zzM2 ?_;with_reducible refine (Qk.calls ((Qa l0 a1).f0) 0 999 true _ A4.out).mono ?_
           rintro e w' ⟨rfl,⟨nd,rfl⟩⟩;refine ⟨_,rfl,?_⟩;refine hK.out _ _ ⟨(zzk a2.out 0).trans rfl,(zzk a2.out 1).trans rfl,(zzx HB.out b6 :),(zzx HB.out b5 :)⟩ (fun a4=>?_);clear hK K;refine zzO 17 ?_
           refine zzP 3 18 36 15 a0 ?_
           refine zzP 4 19 36 31 a0 ?_
           refine zzP 5 20 36 63 a0 ?_
           refine zzT 6 21 36 127 a0 b7 a4 ?_
           refine one_ (i:=7) (N:=some 22) (zzB 36 255) rfl rfl (one_of a0.out (by kernel_rfl)) (by decide) (fun K hK=>?_);refine goes_ Try.func17 (by kernel_rfl) rfl #[.int .i64 ((Qa l0 a1).f1),.int .i64 0,.int .i64 99999] (by rfl) rfl rfl zzM2 ?_;with_reducible refine (Qk.calls ((Qa l0 a1).f1) 0 99999 true _ A6.out).mono ?_
           rintro e w' ⟨rfl,⟨nd,rfl⟩⟩;refine ⟨_,rfl,?_⟩;refine hK.out _ _ ⟨(zzk a2.out 0).trans rfl,(zzk a2.out 1).trans rfl,(zzx HB.out b6 :),(zzx HB.out b5 :)⟩ (fun a4=>?_);clear hK K;refine zzO 22 ?_
           refine zzP 8 23 36 511 a0 ?_
           refine zzP 9 24 36 1023 a0 ?_
           refine zzP 10 25 36 2047 a0 ?_
           refine zzP 11 26 36 4095 a0 ?_
           refine zzP 12 27 36 8191 a0 ?_
           refine zzP 13 28 36 16383 a0 ?_
           refine zzP 14 29 36 32767 a0 ?_
           refine zzP 15 30 36 65535 a0 ?_
           refine zzP 16 31 36 131071 a0 ?_
           refine zzP 17 32 36 262143 a0 ?_
           refine zzP 18 33 36 524287 a0 ?_
           refine zzP 20 35 36 1572863 a0 ?_
           refine zzT 19 34 36 2097151 a0 b7 a4 ?_
           refine zzT 21 36 36 4194303 a0 b7 a4 ?_
           refine zzP 22 37 36 8388607 a0 ?_
           refine zzP 23 38 36 16777215 a0 ?_
           refine zzU 24 39 36 33554431 a0 ?_
           refine zzU 25 40 36 67108863 a0 ?_
           refine zzU 26 41 36 134217727 a0 ?_
           refine zzU 27 42 36 268435455 a0 ?_
           refine zzU 28 43 36 536870911 a0 ?_
           refine zzU 29 44 36 1073741823 a0 ?_
           refine zzU 30 45 36 2147483647 a0 ?_
           refine zzU 31 46 36 4294967295 a0 ?_
           refine zzU 32 47 36 8589934591 a0 ?_
           refine zzP 33 48 36 17179869183 a0 ?_
           refine zzP 34 49 36 34359738367 a0 ?_
           refine zzP 35 50 36 68719476735 a0 ?_
           refine done_ (done_of a0.out (by kernel_rfl)) ?_;try go_wp2
           go_ret;exact ⟨by first|rfl|(simp [errW_none,errW_some] <;> rfl)|(simp only [← hji9];first|rfl|(simp [errW_none,errW_some] <;> rfl))|(simp [*,errW_none,errW_some] <;> rfl),zzh3⟩
          ·
           rw [if_neg e1] at H;have g3:decide (((Qa l0 a1).f0)≤((Qa l0 (a7)).f0))=false:=decide_eq_false e1;clear e1;by_cases e2:((Qa l0 (a7)).f1) ≥ ((Qa l0 a1).f1)
           ·
            rw [if_pos e2] at H;have g4:decide (((Qa l0 a1).f1)≤((Qa l0 (a7)).f1))=true:=decide_eq_true e2;clear e2;obtain rfl:=Option.some.inj H;have b3 : 0≤(a1:Int):=zzt;have b4:a1 < (l0.length:Int):=zzt;obtain ⟨a8,d1,a9,b0⟩:=Qm d4.out a1 b3 b4;cases d1;replace a9:=zzx HB.out a9;replace b0:=zzx HB.out b0;replace b3:=eq_true b3;replace b4:=eq_true b4;try go_wp2_with (first|((with_reducible refine gate_dst (N:=4) rfl ?_);refine box_event ?hg (N:=4) ?hd (cs:=#[.int .i64 0,.int .i64 0]) (t:=30) ?hr ?_;(case hd=>rfl);(case hg=>rfl);(case hr=>first|(go_simp;done)|(go_simp;rfl));intro a3 hg e8 hbox hb;have a5:=zzm (zzp zzh1 hb);have a6:=zzm (hbox);have c9:=zzm ((by rw [hg];exact (zzo zzh1):w.heap.size≤a3));have d0:=zzm ((by rw [hg];exact (zzo zzh1):w.heap.size≤a3));clear HB;have HB:=a5;have a2:=a6;have d7:=c9;have d8:=d0;clear a5 a6 c9 d0 hb hbox hg;obtain ⟨h5,h6,h7,h8⟩:=zzc2 a2.out))
            have a5:Aside0 (((e8.setCell ⟨a3,0,none⟩ (.int .i64 ((Qa l0 a1).f0))).setCell ⟨a3,1,none⟩ (.int .i64 ((Qa l0 a1).f1))).heap[a3]? = some (.cells #[.int .i64 ((Qa l0 a1).f0),.int .i64 ((Qa l0 a1).f1)] 30 (0,0))):=⟨by (with_reducible repeat (first|apply zzf|apply zzg|apply zze));refine zzi (cs:=#[.int .i64 ((Qa l0 a1).f0),.int .i64 0]) ?_ 1 _ rfl;refine zzi (cs:=#[.int .i64 0,.int .i64 0]) ?_ 0 _ rfl;(with_reducible repeat (first|apply zzf|apply zzg|apply zze));exact a2.out⟩;have a6:Aside0 (Below w.heap.size w ((e8.setCell ⟨a3,0,none⟩ (.int .i64 ((Qa l0 a1).f0))).setCell ⟨a3,1,none⟩ (.int .i64 ((Qa l0 a1).f1)))):=⟨zzh3⟩
            (try clear a2)
            (try clear HB);generalize ((e8.setCell ⟨a3,0,none⟩ (.int .i64 ((Qa l0 a1).f0))).setCell ⟨a3,1,none⟩ (.int .i64 ((Qa l0 a1).f1)))=l1 at a5 a6 ⊢;have a2:=a5;have HB:=a6;clear a5 a6;have a5:=zzm (zzg a2.out);have a6:=zzm (zzc HB.out);clear a2 HB;have a2:=a5;have HB:=a6;clear a5 a6;have d2 : 0≤((a7):Int):=zzt;have d3:(a7) < (l0.length:Int):=zzt;obtain ⟨d9,e0,b1,b2⟩:=Qm d4.out (a7) d2 d3;have b5:=b2;have b6:=b1;obtain rfl:a8=d9:=(by injection e0);replace b1:=zzx HB.out b1;replace b2:=zzx HB.out b2;replace d2:=eq_true d2;replace d3:=eq_true d3;have d5 : 0≤((a7):Int):=zzt;have d6:(a7) < (l0.length:Int):=zzt;obtain ⟨e3,e4,b8,b9⟩:=Qm d4.out (a7) d5 d6;have c4:=b9;have c6:=b8;obtain rfl:a8=e3:=(by injection e4);replace b8:=zzx HB.out b8;replace b9:=zzx HB.out b9;replace d5:=eq_true d5;replace d6:=eq_true d6;refine start_ (n:=36) (S:=fun w'=>w'.cell? ⟨a3,0,none⟩=some (.int .i64 ((Qa l0 a1).f0))∧w'.cell? ⟨a3,1,none⟩=some (.int .i64 ((Qa l0 a1).f1))∧w'.cell? (a8.add (((a7)).toNat * 2))=some (.int .i64 ((Qa l0 (a7)).f0))∧w'.cell? ⟨(a8.add (((a7)).toNat * 2)).block,(a8.add (((a7)).toNat * 2)).off+1,none⟩=some (.int .i64 ((Qa l0 (a7)).f1))∧w'.cell? (a8.add (((a7)).toNat * 2))=some (.int .i64 ((Qa l0 (a7)).f0))∧w'.cell? ⟨(a8.add (((a7)).toNat * 2)).block,(a8.add (((a7)).toNat * 2)).off+1,none⟩=some (.int .i64 ((Qa l0 (a7)).f1))) (ds:=[]) (zzB 36 0) (by kernel_rfl) rfl rfl ⟨(zzk a2.out 0).trans rfl,(zzk a2.out 1).trans rfl,(zzx HB.out b6 :),(zzx HB.out b5 :),(zzx HB.out c6 :),(zzx HB.out c4 :)⟩ (fun a4=>?_);refine with_tabW Qb.tab5 Qb.bits5 (fun a0 b7=>?_);generalize l1.drew=m1 at a2 HB b1 b2 b8 b9 a4 ⊢;refine zzP 0 15 36 1 a0 ?_
            refine zzT 1 16 36 3 a0 b7 a4 ?_
            refine one_ (i:=2) (N:=some 17) (zzB 36 7) rfl rfl (one_of a0.out (by kernel_rfl)) (by decide) (fun K hK=>?_);refine goes_ Try.func17 (by kernel_rfl) rfl #[.int .i64 ((Qa l0 a1).f0),.int .i64 0,.int .i64 999] (by rfl) rfl rfl zzM2 ?_;with_reducible refine (Qk.calls ((Qa l0 a1).f0) 0 999 true _ A4.out).mono ?_
            rintro e w' ⟨rfl,⟨nd,rfl⟩⟩;refine ⟨_,rfl,?_⟩;refine hK.out _ _ ⟨(zzk a2.out 0).trans rfl,(zzk a2.out 1).trans rfl,(zzx HB.out b6 :),(zzx HB.out b5 :),(zzx HB.out c6 :),(zzx HB.out c4 :)⟩ (fun a4=>?_);clear hK K;refine zzO 17 ?_
            refine zzP 3 18 36 15 a0 ?_
            refine zzP 4 19 36 31 a0 ?_
            refine zzP 5 20 36 63 a0 ?_
            refine zzT 6 21 36 127 a0 b7 a4 ?_
            refine one_ (i:=7) (N:=some 22) (zzB 36 255) rfl rfl (one_of a0.out (by kernel_rfl)) (by decide) (fun K hK=>?_);refine goes_ Try.func17 (by kernel_rfl) rfl #[.int .i64 ((Qa l0 a1).f1),.int .i64 0,.int .i64 99999] (by rfl) rfl rfl zzM2 ?_;with_reducible refine (Qk.calls ((Qa l0 a1).f1) 0 99999 true _ A6.out).mono ?_
            rintro e w' ⟨rfl,⟨nd,rfl⟩⟩;refine ⟨_,rfl,?_⟩;refine hK.out _ _ ⟨(zzk a2.out 0).trans rfl,(zzk a2.out 1).trans rfl,(zzx HB.out b6 :),(zzx HB.out b5 :),(zzx HB.out c6 :),(zzx HB.out c4 :)⟩ (fun a4=>?_);clear hK K;refine zzO 22 ?_
            refine zzP 8 23 36 511 a0 ?_
            refine zzP 9 24 36 1023 a0 ?_
            refine zzP 10 25 36 2047 a0 ?_
            refine zzP 11 26 36 4095 a0 ?_
            refine zzP 12 27 36 8191 a0 ?_
            refine zzP 13 28 36 16383 a0 ?_
            refine zzP 14 29 36 32767 a0 ?_
            refine zzP 15 30 36 65535 a0 ?_
            refine zzP 16 31 36 131071 a0 ?_
            refine zzP 17 32 36 262143 a0 ?_
            refine zzP 18 33 36 524287 a0 ?_
            refine zzP 20 35 36 1572863 a0 ?_
            refine zzT 19 34 36 2097151 a0 b7 a4 ?_
            refine zzT 21 36 36 4194303 a0 b7 a4 ?_
            refine zzP 22 37 36 8388607 a0 ?_
            refine zzP 23 38 36 16777215 a0 ?_
            refine zzP 24 39 36 33554431 a0 ?_
            refine zzP 25 40 36 67108863 a0 ?_
            refine zzP 26 41 36 134217727 a0 ?_
            refine zzP 27 42 36 268435455 a0 ?_
            refine zzP 28 43 36 536870911 a0 ?_
            refine zzP 30 45 36 1610612735 a0 ?_
            refine zzT 29 44 36 2147483647 a0 b7 a4 ?_
            refine zzT 31 46 36 4294967295 a0 b7 a4 ?_
            refine zzP 32 47 36 8589934591 a0 ?_
            refine zzP 33 48 36 17179869183 a0 ?_
            refine zzP 34 49 36 34359738367 a0 ?_
            refine zzP 35 50 36 68719476735 a0 ?_
            refine done_ (done_of a0.out (by kernel_rfl)) ?_;try go_wp2
            go_ret;exact ⟨by first|rfl|(simp [errW_none,errW_some] <;> rfl)|(simp only [← hji9];first|rfl|(simp [errW_none,errW_some] <;> rfl))|(simp [*,errW_none,errW_some] <;> rfl),zzh3⟩
           ·
            rw [if_neg e2] at H;have g4:decide (((Qa l0 a1).f1)≤((Qa l0 (a7)).f1))=false:=decide_eq_false e2;clear e2;have H':=zzm H;clear H;have b3 : 0≤(a1:Int):=zzt;have b4:a1 < (l0.length:Int):=zzt;obtain ⟨a8,d1,a9,b0⟩:=Qm d4.out a1 b3 b4;cases d1;replace a9:=zzx HB.out a9;replace b0:=zzx HB.out b0;replace b3:=eq_true b3;replace b4:=eq_true b4;try go_wp2_with (first|((with_reducible refine gate_dst (N:=4) rfl ?_);refine box_event ?hg (N:=4) ?hd (cs:=#[.int .i64 0,.int .i64 0]) (t:=30) ?hr ?_;(case hd=>rfl);(case hg=>rfl);(case hr=>first|(go_simp;done)|(go_simp;rfl));intro a3 hg e9 hbox hb;have a5:=zzm (zzp zzh1 hb);have a6:=zzm (hbox);have c9:=zzm ((by rw [hg];exact (zzo zzh1):w.heap.size≤a3));have d0:=zzm ((by rw [hg];exact (zzo zzh1):w.heap.size≤a3));clear HB;have HB:=a5;have a2:=a6;have d7:=c9;have d8:=d0;clear a5 a6 c9 d0 hb hbox hg;obtain ⟨h9,j3,j4,j5⟩:=zzc2 a2.out))
            have a5:Aside0 (((e9.setCell ⟨a3,0,none⟩ (.int .i64 ((Qa l0 a1).f0))).setCell ⟨a3,1,none⟩ (.int .i64 ((Qa l0 a1).f1))).heap[a3]? = some (.cells #[.int .i64 ((Qa l0 a1).f0),.int .i64 ((Qa l0 a1).f1)] 30 (0,0))):=⟨by (with_reducible repeat (first|apply zzf|apply zzg|apply zze));refine zzi (cs:=#[.int .i64 ((Qa l0 a1).f0),.int .i64 0]) ?_ 1 _ rfl;refine zzi (cs:=#[.int .i64 0,.int .i64 0]) ?_ 0 _ rfl;(with_reducible repeat (first|apply zzf|apply zzg|apply zze));exact a2.out⟩;have a6:Aside0 (Below w.heap.size w ((e9.setCell ⟨a3,0,none⟩ (.int .i64 ((Qa l0 a1).f0))).setCell ⟨a3,1,none⟩ (.int .i64 ((Qa l0 a1).f1)))):=⟨zzh3⟩
            (try clear a2)
            (try clear HB);generalize ((e9.setCell ⟨a3,0,none⟩ (.int .i64 ((Qa l0 a1).f0))).setCell ⟨a3,1,none⟩ (.int .i64 ((Qa l0 a1).f1)))=l2 at a5 a6 ⊢;have a2:=a5;have HB:=a6;clear a5 a6;have a5:=zzm (zzg a2.out);have a6:=zzm (zzc HB.out);clear a2 HB;have a2:=a5;have HB:=a6;clear a5 a6;have d2 : 0≤((a7):Int):=zzt;have d3:(a7) < (l0.length:Int):=zzt;obtain ⟨d9,e0,b1,b2⟩:=Qm d4.out (a7) d2 d3;have b5:=b2;have b6:=b1;obtain rfl:a8=d9:=(by injection e0);replace b1:=zzx HB.out b1;replace b2:=zzx HB.out b2;replace d2:=eq_true d2;replace d3:=eq_true d3;have d5 : 0≤((a7):Int):=zzt;have d6:(a7) < (l0.length:Int):=zzt;obtain ⟨e3,e4,b8,b9⟩:=Qm d4.out (a7) d5 d6;have c4:=b9;have c6:=b8;obtain rfl:a8=e3:=(by injection e4);replace b8:=zzx HB.out b8;replace b9:=zzx HB.out b9;replace d5:=eq_true d5;replace d6:=eq_true d6;refine start_ (n:=36) (S:=fun w'=>w'.cell? ⟨a3,0,none⟩=some (.int .i64 ((Qa l0 a1).f0))∧w'.cell? ⟨a3,1,none⟩=some (.int .i64 ((Qa l0 a1).f1))∧w'.cell? (a8.add (((a7)).toNat * 2))=some (.int .i64 ((Qa l0 (a7)).f0))∧w'.cell? ⟨(a8.add (((a7)).toNat * 2)).block,(a8.add (((a7)).toNat * 2)).off+1,none⟩=some (.int .i64 ((Qa l0 (a7)).f1))∧w'.cell? (a8.add (((a7)).toNat * 2))=some (.int .i64 ((Qa l0 (a7)).f0))∧w'.cell? ⟨(a8.add (((a7)).toNat * 2)).block,(a8.add (((a7)).toNat * 2)).off+1,none⟩=some (.int .i64 ((Qa l0 (a7)).f1))) (ds:=[]) (zzB 36 0) (by kernel_rfl) rfl rfl ⟨(zzk a2.out 0).trans rfl,(zzk a2.out 1).trans rfl,(zzx HB.out b6 :),(zzx HB.out b5 :),(zzx HB.out c6 :),(zzx HB.out c4 :)⟩ (fun a4=>?_);refine with_tabW Qb.tab5 Qb.bits5 (fun a0 b7=>?_);generalize l2.drew=m2 at a2 HB b1 b2 b8 b9 a4 ⊢;refine zzP 0 15 36 1 a0 ?_
            refine zzT 1 16 36 3 a0 b7 a4 ?_
            refine one_ (i:=2) (N:=some 17) (zzB 36 7) rfl rfl (one_of a0.out (by kernel_rfl)) (by decide) (fun K hK=>?_);refine goes_ Try.func17 (by kernel_rfl) rfl #[.int .i64 ((Qa l0 a1).f0),.int .i64 0,.int .i64 999] (by rfl) rfl rfl zzM2 ?_;with_reducible refine (Qk.calls ((Qa l0 a1).f0) 0 999 true _ A4.out).mono ?_
            rintro e w' ⟨rfl,⟨nd,rfl⟩⟩;refine ⟨_,rfl,?_⟩;refine hK.out _ _ ⟨(zzk a2.out 0).trans rfl,(zzk a2.out 1).trans rfl,(zzx HB.out b6 :),(zzx HB.out b5 :),(zzx HB.out c6 :),(zzx HB.out c4 :)⟩ (fun a4=>?_);clear hK K;refine zzO 17 ?_
            refine zzP 3 18 36 15 a0 ?_
            refine zzP 4 19 36 31 a0 ?_
            refine zzP 5 20 36 63 a0 ?_
            refine zzT 6 21 36 127 a0 b7 a4 ?_
            refine one_ (i:=7) (N:=some 22) (zzB 36 255) rfl rfl (one_of a0.out (by kernel_rfl)) (by decide) (fun K hK=>?_);refine goes_ Try.func17 (by kernel_rfl) rfl #[.int .i64 ((Qa l0 a1).f1),.int .i64 0,.int .i64 99999] (by rfl) rfl rfl zzM2 ?_;with_reducible refine (Qk.calls ((Qa l0 a1).f1) 0 99999 true _ A6.out).mono ?_
            rintro e w' ⟨rfl,⟨nd,rfl⟩⟩;refine ⟨_,rfl,?_⟩;refine hK.out _ _ ⟨(zzk a2.out 0).trans rfl,(zzk a2.out 1).trans rfl,(zzx HB.out b6 :),(zzx HB.out b5 :),(zzx HB.out c6 :),(zzx HB.out c4 :)⟩ (fun a4=>?_);clear hK K;refine zzO 22 ?_
            refine zzP 8 23 36 511 a0 ?_
            refine zzP 9 24 36 1023 a0 ?_
            refine zzP 10 25 36 2047 a0 ?_
            refine zzP 11 26 36 4095 a0 ?_
            refine zzP 12 27 36 8191 a0 ?_
            refine zzP 13 28 36 16383 a0 ?_
            refine zzP 14 29 36 32767 a0 ?_
            refine zzP 15 30 36 65535 a0 ?_
            refine zzP 16 31 36 131071 a0 ?_
            refine zzP 17 32 36 262143 a0 ?_
            refine zzP 18 33 36 524287 a0 ?_
            refine zzP 20 35 36 1572863 a0 ?_
            refine zzT 19 34 36 2097151 a0 b7 a4 ?_
            refine zzT 21 36 36 4194303 a0 b7 a4 ?_
            refine zzP 22 37 36 8388607 a0 ?_
            refine zzP 23 38 36 16777215 a0 ?_
            refine zzP 24 39 36 33554431 a0 ?_
            refine zzP 25 40 36 67108863 a0 ?_
            refine zzP 26 41 36 134217727 a0 ?_
            refine zzP 27 42 36 268435455 a0 ?_
            refine zzP 28 43 36 536870911 a0 ?_
            refine zzP 30 45 36 1610612735 a0 ?_
            refine zzT 29 44 36 2147483647 a0 b7 a4 ?_
            refine zzT 31 46 36 4294967295 a0 b7 a4 ?_
            refine zzP 32 47 36 8589934591 a0 ?_
            refine zzP 33 48 36 17179869183 a0 ?_
            refine zzP 34 49 36 34359738367 a0 ?_
            refine zzP 35 50 36 68719476735 a0 ?_
            refine done_ (done_of a0.out (by kernel_rfl)) ?_;try go_wp2
            go_roundg k1
            case measure=>have:=HK1.out;omega
            case rel=>exact ⟨(wrap64 (a1+1)),(by first|rfl|(simp;done)|(simp [*];done)),H',⟨by have:=HK1.out;omega⟩,⟨zzh3⟩⟩
         ·
          rw [if_neg e6] at H;exact absurd H (by simp)
        ·
         rw [if_neg e5] at H;exact absurd H (by simp)
       ·
        rw [if_neg c8] at H;have h0:decide (0 < a1)=false:=decide_eq_false c8;clear c8;have H':=zzm H;clear H;have b3 : 0≤(a1:Int):=zzt;have b4:a1 < (l0.length:Int):=zzt;obtain ⟨a8,d1,a9,b0⟩:=Qm d4.out a1 b3 b4;cases d1;replace a9:=zzx HB.out a9;replace b0:=zzx HB.out b0;replace b3:=eq_true b3;replace b4:=eq_true b4;try go_wp2_with (first|((with_reducible refine gate_dst (N:=4) rfl ?_);refine box_event ?hg (N:=4) ?hd (cs:=#[.int .i64 0,.int .i64 0]) (t:=30) ?hr ?_;(case hd=>rfl);(case hg=>rfl);(case hr=>first|(go_simp;done)|(go_simp;rfl));intro a3 hg g0 hbox hb;have a5:=zzm (zzp zzh1 hb);have a6:=zzm (hbox);have c9:=zzm ((by rw [hg];exact (zzo zzh1):w.heap.size≤a3));have d0:=zzm ((by rw [hg];exact (zzo zzh1):w.heap.size≤a3));clear HB;have HB:=a5;have a2:=a6;have d7:=c9;have d8:=d0;clear a5 a6 c9 d0 hb hbox hg;obtain ⟨j6,j7,j8,j9⟩:=zzc2 a2.out))
        have a5:Aside0 (((g0.setCell ⟨a3,0,none⟩ (.int .i64 ((Qa l0 a1).f0))).setCell ⟨a3,1,none⟩ (.int .i64 ((Qa l0 a1).f1))).heap[a3]? = some (.cells #[.int .i64 ((Qa l0 a1).f0),.int .i64 ((Qa l0 a1).f1)] 30 (0,0))):=⟨by (with_reducible repeat (first|apply zzf|apply zzg|apply zze));refine zzi (cs:=#[.int .i64 ((Qa l0 a1).f0),.int .i64 0]) ?_ 1 _ rfl;refine zzi (cs:=#[.int .i64 0,.int .i64 0]) ?_ 0 _ rfl;(with_reducible repeat (first|apply zzf|apply zzg|apply zze));exact a2.out⟩;have a6:Aside0 (Below w.heap.size w ((g0.setCell ⟨a3,0,none⟩ (.int .i64 ((Qa l0 a1).f0))).setCell ⟨a3,1,none⟩ (.int .i64 ((Qa l0 a1).f1)))):=⟨zzh3⟩
        (try clear a2)
        (try clear HB);generalize ((g0.setCell ⟨a3,0,none⟩ (.int .i64 ((Qa l0 a1).f0))).setCell ⟨a3,1,none⟩ (.int .i64 ((Qa l0 a1).f1)))=l3 at a5 a6 ⊢;have a2:=a5;have HB:=a6;clear a5 a6;have a5:=zzm (zzg a2.out);have a6:=zzm (zzc HB.out);clear a2 HB;have a2:=a5;have HB:=a6;clear a5 a6;refine start_ (n:=36) (S:=fun w'=>w'.cell? ⟨a3,0,none⟩=some (.int .i64 ((Qa l0 a1).f0))∧w'.cell? ⟨a3,1,none⟩=some (.int .i64 ((Qa l0 a1).f1))) (ds:=[]) (zzB 36 0) (by kernel_rfl) rfl rfl ⟨(zzk a2.out 0).trans rfl,(zzk a2.out 1).trans rfl⟩ (fun a4=>?_);refine with_tabW Qb.tab5 Qb.bits5 (fun a0 b7=>?_);generalize l3.drew=m3 at a2 HB a4 ⊢;refine zzP 0 15 36 1 a0 ?_
        refine zzT 1 16 36 3 a0 b7 a4 ?_
        refine one_ (i:=2) (N:=some 17) (zzB 36 7) rfl rfl (one_of a0.out (by kernel_rfl)) (by decide) (fun K hK=>?_);refine goes_ Try.func17 (by kernel_rfl) rfl #[.int .i64 ((Qa l0 a1).f0),.int .i64 0,.int .i64 999] (by rfl) rfl rfl zzM2 ?_;with_reducible refine (Qk.calls ((Qa l0 a1).f0) 0 999 true _ A4.out).mono ?_
        rintro e w' ⟨rfl,⟨nd,rfl⟩⟩;refine ⟨_,rfl,?_⟩;refine hK.out _ _ ⟨(zzk a2.out 0).trans rfl,(zzk a2.out 1).trans rfl⟩ (fun a4=>?_);clear hK K;refine zzO 17 ?_
        refine zzP 3 18 36 15 a0 ?_
        refine zzP 4 19 36 31 a0 ?_
        refine zzP 5 20 36 63 a0 ?_
        refine zzT 6 21 36 127 a0 b7 a4 ?_
        refine one_ (i:=7) (N:=some 22) (zzB 36 255) rfl rfl (one_of a0.out (by kernel_rfl)) (by decide) (fun K hK=>?_);refine goes_ Try.func17 (by kernel_rfl) rfl #[.int .i64 ((Qa l0 a1).f1),.int .i64 0,.int .i64 99999] (by rfl) rfl rfl zzM2 ?_;with_reducible refine (Qk.calls ((Qa l0 a1).f1) 0 99999 true _ A6.out).mono ?_
        rintro e w' ⟨rfl,⟨nd,rfl⟩⟩;refine ⟨_,rfl,?_⟩;refine hK.out _ _ ⟨(zzk a2.out 0).trans rfl,(zzk a2.out 1).trans rfl⟩ (fun a4=>?_);clear hK K;refine zzO 22 ?_
        refine zzP 8 23 36 511 a0 ?_
        refine zzP 9 24 36 1023 a0 ?_
        refine zzP 10 25 36 2047 a0 ?_
        refine zzP 11 26 36 4095 a0 ?_
        refine zzP 12 27 36 8191 a0 ?_
        refine zzP 13 28 36 16383 a0 ?_
        refine zzU 14 29 36 32767 a0 ?_
        refine zzU 15 30 36 65535 a0 ?_
        refine zzU 16 31 36 131071 a0 ?_
        refine zzU 17 32 36 262143 a0 ?_
        refine zzU 18 33 36 524287 a0 ?_
        refine zzU 19 34 36 1048575 a0 ?_
        refine zzU 20 35 36 2097151 a0 ?_
        refine zzU 21 36 36 4194303 a0 ?_
        refine zzU 22 37 36 8388607 a0 ?_
        refine zzU 23 38 36 16777215 a0 ?_
        refine zzU 24 39 36 33554431 a0 ?_
        refine zzU 25 40 36 67108863 a0 ?_
        refine zzU 26 41 36 134217727 a0 ?_
        refine zzU 27 42 36 268435455 a0 ?_
        refine zzU 28 43 36 536870911 a0 ?_
        refine zzU 29 44 36 1073741823 a0 ?_
        refine zzU 30 45 36 2147483647 a0 ?_
        refine zzU 31 46 36 4294967295 a0 ?_
        refine zzU 32 47 36 8589934591 a0 ?_
        refine zzU 33 48 36 17179869183 a0 ?_
        refine zzP 34 49 36 34359738367 a0 ?_
        refine zzP 35 50 36 68719476735 a0 ?_
        refine done_ (done_of a0.out (by kernel_rfl)) ?_;try go_wp2
        go_roundg k1
        case measure=>have:=HK1.out;omega
        case rel=>exact ⟨(wrap64 (a1+1)),(by first|rfl|(simp;done)|(simp [*];done)),H',⟨by have:=HK1.out;omega⟩,⟨zzh3⟩⟩
      ·
       replace c7:=Bool.eq_false_iff.mpr c7;subst c7;replace H:=zzIf H;obtain rfl:=Option.some.inj H;have b3 : 0≤(a1:Int):=zzt;have b4:a1 < (l0.length:Int):=zzt;obtain ⟨a8,d1,a9,b0⟩:=Qm d4.out a1 b3 b4;cases d1;replace a9:=zzx HB.out a9;replace b0:=zzx HB.out b0;replace b3:=eq_true b3;replace b4:=eq_true b4;try go_wp2_with (first|((with_reducible refine gate_dst (N:=4) rfl ?_);refine box_event ?hg (N:=4) ?hd (cs:=#[.int .i64 0,.int .i64 0]) (t:=30) ?hr ?_;(case hd=>rfl);(case hg=>rfl);(case hr=>first|(go_simp;done)|(go_simp;rfl));intro a3 hg g1 hbox hb;have a5:=zzm (zzp zzh1 hb);have a6:=zzm (hbox);have c9:=zzm ((by rw [hg];exact (zzo zzh1):w.heap.size≤a3));have d0:=zzm ((by rw [hg];exact (zzo zzh1):w.heap.size≤a3));clear HB;have HB:=a5;have a2:=a6;have d7:=c9;have d8:=d0;clear a5 a6 c9 d0 hb hbox hg;obtain ⟨k0,k2,k3,k4⟩:=zzc2 a2.out))
       have a5:Aside0 (((g1.setCell ⟨a3,0,none⟩ (.int .i64 ((Qa l0 a1).f0))).setCell ⟨a3,1,none⟩ (.int .i64 ((Qa l0 a1).f1))).heap[a3]? = some (.cells #[.int .i64 ((Qa l0 a1).f0),.int .i64 ((Qa l0 a1).f1)] 30 (0,0))):=⟨by (with_reducible repeat (first|apply zzf|apply zzg|apply zze));refine zzi (cs:=#[.int .i64 ((Qa l0 a1).f0),.int .i64 0]) ?_ 1 _ rfl;refine zzi (cs:=#[.int .i64 0,.int .i64 0]) ?_ 0 _ rfl;(with_reducible repeat (first|apply zzf|apply zzg|apply zze));exact a2.out⟩;have a6:Aside0 (Below w.heap.size w ((g1.setCell ⟨a3,0,none⟩ (.int .i64 ((Qa l0 a1).f0))).setCell ⟨a3,1,none⟩ (.int .i64 ((Qa l0 a1).f1)))):=⟨zzh3⟩
       (try clear a2)
       (try clear HB);generalize ((g1.setCell ⟨a3,0,none⟩ (.int .i64 ((Qa l0 a1).f0))).setCell ⟨a3,1,none⟩ (.int .i64 ((Qa l0 a1).f1)))=l4 at a5 a6 ⊢;have a2:=a5;have HB:=a6;clear a5 a6;have a5:=zzm (zzg a2.out);have a6:=zzm (zzc HB.out);clear a2 HB;have a2:=a5;have HB:=a6;clear a5 a6;refine start_ (n:=36) (S:=fun w'=>w'.cell? ⟨a3,0,none⟩=some (.int .i64 ((Qa l0 a1).f0))∧w'.cell? ⟨a3,1,none⟩=some (.int .i64 ((Qa l0 a1).f1))) (ds:=[]) (zzB 36 0) (by kernel_rfl) rfl rfl ⟨(zzk a2.out 0).trans rfl,(zzk a2.out 1).trans rfl⟩ (fun a4=>?_);refine with_tabW Qb.tab5 Qb.bits5 (fun a0 b7=>?_);generalize l4.drew=m4 at a2 HB a4 ⊢;refine zzP 0 15 36 1 a0 ?_
       refine zzT 1 16 36 3 a0 b7 a4 ?_
       refine one_ (i:=2) (N:=some 17) (zzB 36 7) rfl rfl (one_of a0.out (by kernel_rfl)) (by decide) (fun K hK=>?_);refine goes_ Try.func17 (by kernel_rfl) rfl #[.int .i64 ((Qa l0 a1).f0),.int .i64 0,.int .i64 999] (by rfl) rfl rfl zzM2 ?_;with_reducible refine (Qk.calls ((Qa l0 a1).f0) 0 999 true _ A4.out).mono ?_
       rintro e w' ⟨rfl,⟨nd,rfl⟩⟩;refine ⟨_,rfl,?_⟩;refine hK.out _ _ ⟨(zzk a2.out 0).trans rfl,(zzk a2.out 1).trans rfl⟩ (fun a4=>?_);clear hK K;refine zzO 17 ?_
       refine zzP 3 18 36 15 a0 ?_
       refine zzP 4 19 36 31 a0 ?_
       refine zzP 5 20 36 63 a0 ?_
       refine zzT 6 21 36 127 a0 b7 a4 ?_
       refine one_ (i:=7) (N:=some 22) (zzB 36 255) rfl rfl (one_of a0.out (by kernel_rfl)) (by decide) (fun K hK=>?_);refine goes_ Try.func17 (by kernel_rfl) rfl #[.int .i64 ((Qa l0 a1).f1),.int .i64 0,.int .i64 99999] (by rfl) rfl rfl zzM2 ?_;with_reducible refine (Qk.calls ((Qa l0 a1).f1) 0 99999 false _ A6.out).mono ?_
       rintro e w' ⟨rfl,⟨nd,rfl⟩⟩;refine ⟨_,rfl,?_⟩;refine hK.out _ _ ⟨(zzk a2.out 0).trans rfl,(zzk a2.out 1).trans rfl⟩ (fun a4=>?_);clear hK K;refine zzO 22 ?_
       refine zzP 8 23 36 511 a0 ?_
       refine zzP 9 24 36 1023 a0 ?_
       refine zzP 10 25 36 2047 a0 ?_
       refine zzU 11 26 36 4095 a0 ?_
       refine zzU 12 27 36 8191 a0 ?_
       refine zzU 13 28 36 16383 a0 ?_
       refine zzU 14 29 36 32767 a0 ?_
       refine zzU 15 30 36 65535 a0 ?_
       refine zzU 16 31 36 131071 a0 ?_
       refine zzU 17 32 36 262143 a0 ?_
       refine zzU 18 33 36 524287 a0 ?_
       refine zzU 19 34 36 1048575 a0 ?_
       refine zzU 20 35 36 2097151 a0 ?_
       refine zzU 21 36 36 4194303 a0 ?_
       refine zzU 22 37 36 8388607 a0 ?_
       refine zzU 23 38 36 16777215 a0 ?_
       refine zzU 24 39 36 33554431 a0 ?_
       refine zzU 25 40 36 67108863 a0 ?_
       refine zzU 26 41 36 134217727 a0 ?_
       refine zzU 27 42 36 268435455 a0 ?_
       refine zzU 28 43 36 536870911 a0 ?_
       refine zzU 29 44 36 1073741823 a0 ?_
       refine zzU 30 45 36 2147483647 a0 ?_
       refine zzU 31 46 36 4294967295 a0 ?_
       refine zzU 32 47 36 8589934591 a0 ?_
       refine zzU 33 48 36 17179869183 a0 ?_
       refine zzU 34 49 36 34359738367 a0 ?_
       refine zzP 35 50 36 68719476735 a0 ?_
       refine done_ (done_of a0.out (by kernel_rfl)) ?_;try go_wp2
       go_ret;exact ⟨zzR,zzh3⟩
     ·
      replace c5:=Bool.eq_false_iff.mpr c5;subst c5;replace H:=zzIf H;obtain rfl:=Option.some.inj H;have b3 : 0≤(a1:Int):=zzt;have b4:a1 < (l0.length:Int):=zzt;obtain ⟨a8,d1,a9,b0⟩:=Qm d4.out a1 b3 b4;cases d1;replace a9:=zzx HB.out a9;replace b0:=zzx HB.out b0;replace b3:=eq_true b3;replace b4:=eq_true b4;try go_wp2_with (first|((with_reducible refine gate_dst (N:=4) rfl ?_);refine box_event ?hg (N:=4) ?hd (cs:=#[.int .i64 0,.int .i64 0]) (t:=30) ?hr ?_;(case hd=>rfl);(case hg=>rfl);(case hr=>first|(go_simp;done)|(go_simp;rfl));intro a3 hg g2 hbox hb;have a5:=zzm (zzp zzh1 hb);have a6:=zzm (hbox);have c9:=zzm ((by rw [hg];exact (zzo zzh1):w.heap.size≤a3));have d0:=zzm ((by rw [hg];exact (zzo zzh1):w.heap.size≤a3));clear HB;have HB:=a5;have a2:=a6;have d7:=c9;have d8:=d0;clear a5 a6 c9 d0 hb hbox hg;obtain ⟨k5,k6,k7,k8⟩:=zzc2 a2.out))
      have a5:Aside0 (((g2.setCell ⟨a3,0,none⟩ (.int .i64 ((Qa l0 a1).f0))).setCell ⟨a3,1,none⟩ (.int .i64 ((Qa l0 a1).f1))).heap[a3]? = some (.cells #[.int .i64 ((Qa l0 a1).f0),.int .i64 ((Qa l0 a1).f1)] 30 (0,0))):=⟨by (with_reducible repeat (first|apply zzf|apply zzg|apply zze));refine zzi (cs:=#[.int .i64 ((Qa l0 a1).f0),.int .i64 0]) ?_ 1 _ rfl;refine zzi (cs:=#[.int .i64 0,.int .i64 0]) ?_ 0 _ rfl;(with_reducible repeat (first|apply zzf|apply zzg|apply zze));exact a2.out⟩;have a6:Aside0 (Below w.heap.size w ((g2.setCell ⟨a3,0,none⟩ (.int .i64 ((Qa l0 a1).f0))).setCell ⟨a3,1,none⟩ (.int .i64 ((Qa l0 a1).f1)))):=⟨zzh3⟩
      (try clear a2)
      (try clear HB);generalize ((g2.setCell ⟨a3,0,none⟩ (.int .i64 ((Qa l0 a1).f0))).setCell ⟨a3,1,none⟩ (.int .i64 ((Qa l0 a1).f1)))=l5 at a5 a6 ⊢;have a2:=a5;have HB:=a6;clear a5 a6;have a5:=zzm (zzg a2.out);have a6:=zzm (zzc HB.out);clear a2 HB;have a2:=a5;have HB:=a6;clear a5 a6;refine start_ (n:=36) (S:=fun w'=>w'.cell? ⟨a3,0,none⟩=some (.int .i64 ((Qa l0 a1).f0))∧w'.cell? ⟨a3,1,none⟩=some (.int .i64 ((Qa l0 a1).f1))) (ds:=[]) (zzB 36 0) (by kernel_rfl) rfl rfl ⟨(zzk a2.out 0).trans rfl,(zzk a2.out 1).trans rfl⟩ (fun a4=>?_);refine with_tabW Qb.tab5 Qb.bits5 (fun a0 b7=>?_);generalize l5.drew=m5 at a2 HB a4 ⊢;refine zzP 0 15 36 1 a0 ?_
      refine zzT 1 16 36 3 a0 b7 a4 ?_
      refine one_ (i:=2) (N:=some 17) (zzB 36 7) rfl rfl (one_of a0.out (by kernel_rfl)) (by decide) (fun K hK=>?_);refine goes_ Try.func17 (by kernel_rfl) rfl #[.int .i64 ((Qa l0 a1).f0),.int .i64 0,.int .i64 999] (by rfl) rfl rfl zzM2 ?_;with_reducible refine (Qk.calls ((Qa l0 a1).f0) 0 999 false _ A4.out).mono ?_
      rintro e w' ⟨rfl,⟨nd,rfl⟩⟩;refine ⟨_,rfl,?_⟩;refine hK.out _ _ ⟨(zzk a2.out 0).trans rfl,(zzk a2.out 1).trans rfl⟩ (fun a4=>?_);clear hK K;refine zzO 17 ?_
      refine zzP 3 18 36 15 a0 ?_
      refine zzP 4 19 36 31 a0 ?_
      refine zzU 5 20 36 63 a0 ?_
      refine zzU 6 21 36 127 a0 ?_
      refine zzU 7 22 36 255 a0 ?_
      refine zzU 8 23 36 511 a0 ?_
      refine zzP 9 24 36 1023 a0 ?_
      refine zzP 10 25 36 2047 a0 ?_
      refine zzU 11 26 36 4095 a0 ?_
      refine zzU 12 27 36 8191 a0 ?_
      refine zzU 13 28 36 16383 a0 ?_
      refine zzU 14 29 36 32767 a0 ?_
      refine zzU 15 30 36 65535 a0 ?_
      refine zzU 16 31 36 131071 a0 ?_
      refine zzU 17 32 36 262143 a0 ?_
      refine zzU 18 33 36 524287 a0 ?_
      refine zzU 19 34 36 1048575 a0 ?_
      refine zzU 20 35 36 2097151 a0 ?_
      refine zzU 21 36 36 4194303 a0 ?_
      refine zzU 22 37 36 8388607 a0 ?_
      refine zzU 23 38 36 16777215 a0 ?_
      refine zzU 24 39 36 33554431 a0 ?_
      refine zzU 25 40 36 67108863 a0 ?_
      refine zzU 26 41 36 134217727 a0 ?_
      refine zzU 27 42 36 268435455 a0 ?_
      refine zzU 28 43 36 536870911 a0 ?_
      refine zzU 29 44 36 1073741823 a0 ?_
      refine zzU 30 45 36 2147483647 a0 ?_
      refine zzU 31 46 36 4294967295 a0 ?_
      refine zzU 32 47 36 8589934591 a0 ?_
      refine zzU 33 48 36 17179869183 a0 ?_
      refine zzU 34 49 36 34359738367 a0 ?_
      refine zzP 35 50 36 68719476735 a0 ?_
      refine done_ (done_of a0.out (by kernel_rfl)) ?_;try go_wp2
      go_ret;exact ⟨zzR,zzh3⟩
    ·
     rw [if_neg c3] at H;exact absurd H (by simp)
   ·
    rw [if_neg c2] at H;have g7:decide (a1 < (l0.length:Int))=false:=decide_eq_false c2;clear c2;obtain rfl:=Option.some.inj H;go_wp2;go_ret;exact ⟨zzR,zzh1⟩

set_option linter.unusedVariables false
set_option linter.unusedSimpArgs false
def Qo.f (k:Nat) (l0:List (S30)) (a1_0:Int) (a1_1:Int):Option ((List (S30))×Bool):=(some (([]:List (S30)):List (S30))).bind fun y108=>(if y108.length+l0.length < 8796093022208 then ((some (y108++l0:List (S30))).bind fun y111=>((some (([(⟨a1_0,a1_1⟩:S30)]:List (S30)):List (S30))).bind fun y114=>(if y111.length+y114.length < 8796093022208 then ((some (y111++y114:List (S30))).bind fun y117=>((Qb.f k y117).bind fun t120=>(if t120=true then (some (y117,true)) else (some ((([]:List (S30))),false))))) else (none)))) else (none))
set_option maxHeartbeats 8000000 in
theorem Qo.calls (k:Nat) (A0:Option Addr) (c0:Nat) (l0:List (S30)) (a2:Int) (a3:Int) (r1:List (S30)) (r2:Bool) (w:World) (c8:Kd.C k30 w A0 l0.length l0) (c9:l0.length≤c0) (h:Qo.f k l0 a2 a3=some (r1,r2)) :
  Calls Try.prog 5 #[.slice A0 l0.length c0,.agg #[.int .i64 a2,.int .i64 a3]] w fun e w'=>∃ d0:Value,e = .returned (.tuple #[d0,.bool r2])∧Kd.R k30 30 w' w.heap.size (fun _=>True) d0 r1∧Below w.heap.size w w':=by
 have hu30:=Try.underlying30;have b7:=zzm c8;have e8:=zzm c9;clear c8 c9;have HB:=zzm (Below.refl w.heap.size w);have H:((some (([]:List (S30)):List (S30))).bind fun y108=>(if y108.length+l0.length < 8796093022208 then ((some (y108++l0:List (S30))).bind fun y111=>((some (([(⟨a2,a3⟩:S30)]:List (S30)):List (S30))).bind fun y114=>(if y111.length+y114.length < 8796093022208 then ((some (y111++y114:List (S30))).bind fun y117=>((Qb.f k y117).bind fun b6=>(if b6=true then (some (y117,true)) else (some ((([]:List (S30))),false))))) else (none)))) else (none)))=some (r1,r2):=h;clear h;obtain ⟨y108,hy108⟩:∃ y_:List (S30),y_=(([]:List (S30))):=⟨_,rfl⟩;replace H:(if y108.length+l0.length < 8796093022208 then ((some (y108++l0:List (S30))).bind fun y111=>((some (([(⟨a2,a3⟩:S30)]:List (S30)):List (S30))).bind fun y114=>(if y111.length+y114.length < 8796093022208 then ((some (y111++y114:List (S30))).bind fun y117=>((Qb.f k y117).bind fun b6=>(if b6=true then (some (y117,true)) else (some ((([]:List (S30))),false))))) else (none)))) else (none))=some (r1,r2):=by first|(rw [hy108];with_reducible exact H)|(have H2_:=(Option.bind_some _ _).symm.trans H;rw [hy108];with_reducible exact H2_)|(have H2_:=(Option.bind_some _ _).symm.trans H;with_reducible exact H2_)|with_reducible exact H|(rw [hy108];exact H)|exact H
 have Ny108:=zzm hy108;clear hy108;by_cases c3:y108.length+l0.length < 8796093022208
 ·
  rw [if_pos c3] at H;have LMc3:=zzm c3;clear c3;obtain ⟨y111,hy111⟩:∃ y_:List (S30),y_=(y108++l0):=⟨_,rfl⟩;replace H:((some (([(⟨a2,a3⟩:S30)]:List (S30)):List (S30))).bind fun y114=>(if y111.length+y114.length < 8796093022208 then ((some (y111++y114:List (S30))).bind fun y117=>((Qb.f k y117).bind fun b6=>(if b6=true then (some (y117,true)) else (some ((([]:List (S30))),false))))) else (none)))=some (r1,r2):=by first|(rw [hy111];with_reducible exact H)|(have H2_:=(Option.bind_some _ _).symm.trans H;rw [hy111];with_reducible exact H2_)|(have H2_:=(Option.bind_some _ _).symm.trans H;with_reducible exact H2_)|with_reducible exact H|(rw [hy111];exact H)|exact H
  have Ny111:=zzm hy111;clear hy111;obtain ⟨y114,hy114⟩:∃ y_:List (S30),y_=(([(⟨a2,a3⟩:S30)]:List (S30))):=⟨_,rfl⟩;replace H:(if y111.length+y114.length < 8796093022208 then ((some (y111++y114:List (S30))).bind fun y117=>((Qb.f k y117).bind fun b6=>(if b6=true then (some (y117,true)) else (some ((([]:List (S30))),false))))) else (none))=some (r1,r2):=by first|(rw [hy114];with_reducible exact H)|(have H2_:=(Option.bind_some _ _).symm.trans H;rw [hy114];with_reducible exact H2_)|(have H2_:=(Option.bind_some _ _).symm.trans H;with_reducible exact H2_)|with_reducible exact H|(rw [hy114];exact H)|exact H
  have Ny114:=zzm hy114;clear hy114;by_cases c4:y111.length+y114.length < 8796093022208
  ·
   rw [if_pos c4] at H;have LMc4:=zzm c4;clear c4;obtain ⟨y117,hy117⟩:∃ y_:List (S30),y_=(y111++y114):=⟨_,rfl⟩;replace H:((Qb.f k y117).bind fun b6=>(if b6=true then (some (y117,true)) else (some ((([]:List (S30))),false))))=some (r1,r2):=by first|(rw [hy117];with_reducible exact H)|(have H2_:=(Option.bind_some _ _).symm.trans H;rw [hy117];with_reducible exact H2_)|(have H2_:=(Option.bind_some _ _).symm.trans H;with_reducible exact H2_)|with_reducible exact H|(rw [hy117];exact H)|exact H
   have Ny117:=zzm hy117;clear hy117;obtain ⟨b6,A5,H⟩:=zzG H;by_cases c6:b6=true
   ·
    subst c6;replace H:=zzIt H;simp only [Option.some.injEq,Prod.mk.injEq] at H;obtain ⟨rfl,rfl⟩:=H;go_enter Try.func5,Try.ntmps5;try go_wp2_with (first|((with_reducible refine gate_dst (N:=3) rfl ?_);refine box_event ?hg (N:=3) ?hd (cs:=#[.int .i64 a2,.int .i64 a3]) (t:=30) ?hr ?_;(case hd=>rfl);(case hg=>rfl);(case hr=>first|(go_simp;done)|(go_simp;rfl));intro a1 hg w7 hbox hb;have a5:=zzm (zzp zzh1 hb);have a6:=zzm (hbox);have a7:=zzm ((by rw [hg];exact (zzo zzh1):w.heap.size≤a1));have a8:=zzm ((by rw [hg];exact (zzo zzh1):w.heap.size≤a1));clear HB;have HB:=a5;have a0:=a6;have c1:=a7;have c5:=a8;clear a5 a6 a7 a8 hb hbox hg))
    have a5:=zzm (zzg a0.out);have a6:=zzm (zzc HB.out);clear a0 HB;have a0:=a5;have HB:=a6;clear a5 a6;refine start_ (n:=7) (S:=fun w'=>w'.cell? ⟨a1,0,none⟩=some (.int .i64 a2)∧w'.cell? ⟨a1,1,none⟩=some (.int .i64 a3)) (ds:=[]) (zzB 7 0) (by kernel_rfl) rfl rfl ⟨(zzk a0.out 0).trans rfl,(zzk a0.out 1).trans rfl⟩ (fun a9=>?_);generalize w7.drew=w8 at a0 HB a9 ⊢;refine pure_ (i:=1) (N:=some 8) (v:=?_) (a':=?_) (zzB 7 2) rfl rfl (by kernel_rfl) (fun _ _ _ h=>h) (Or.inl ⟨by rfl,?_⟩) ?_ ?_;rotate_left
    ·
     intro w';go_simp;with_reducible rfl
    rotate_left
    ·
     simp only [zzJ];rfl
    refine take_ (i:=3) (N:=some 10) (v:=?_) (a':=?_) (zzB 7 10) rfl rfl (by kernel_rfl) (fun _ _ _ h=>h) (Or.inl ⟨by rfl,?_⟩) a9 ?_ ?_;rotate_left
    ·
     rintro w' ⟨s0,s1⟩;go_simp;with_reducible rfl
    rotate_left
    ·
     simp only [zzJ];rfl
    refine join_ (σ:=Value×Value×Value) 2 (zzB 7 31) (fun s_=>[(7,s_.1),(9,s_.2.1),(11,s_.2.2)]) (fun s_ w'=>(w'.cell? ⟨a1,0,none⟩=some (.int .i64 a2)∧w'.cell? ⟨a1,1,none⟩=some (.int .i64 a3))∧(Kd.R k30 30 w' w.heap.size (fun k_=>some k_≠(s_.2.2:Value).ownBlock∧k_≠a1) s_.2.1 y111)∧(Kd.R k30 30 w' w.heap.size (fun k_=>some k_≠(s_.2.1:Value).ownBlock∧k_≠a1) s_.2.2 y114)∧(w'.heap[a1]? = some (.cells #[.int .i64 a2,.int .i64 a3] 30 (0,0)))∧(Below w.heap.size w w')) ?_ ?_;rotate_left
    ·
     intro hCont;refine two_ (i:=0) (j:=4) (Ni:=some 7) (Nj:=some 11) (zzB 7 11) (zzB 7 26) rfl rfl rfl rfl (by kernel_rfl) (by decide) (by decide) (fun K hK=>?_) (fun K hK=>?_)
     ·
      skip;refine Kd.R_lit_step k30 _ 30 ?hg (N:=7) ?hd (xs:=([]:List (S30))) (inner:=[]) (ok:=fun _=>True) (okp:=fun _=>True) ?hr ?hp (fun _ hk=>hk) trivial (Below.refl _ _) (Nat.le_refl _) (by simp) ?_;(case hd=>rfl);(case hg=>rfl);(case hr=>first|(go_simp;done)|(go_simp;rfl));(case hp=>exact (Reps.none _ _));intro b5 w9 ho10 hb hg_ hnew_;clear hg_ hnew_
      (first|rw [← Ny108.out] at ho10|(simp only [Int.reduceToNat] at ho10;rw [← Ny108.out] at ho10));have a5:=zzm (Kd.R_lower (Kd.R_newB ho10 (g:=a1) (o:=.cells #[.int .i64 a2,.int .i64 a3] 30 (0,0)) (zzE a0.out)) (zzo zzh2));have a6:=zzm (zzh (g:=a1) (o:=.cells #[.int .i64 a2,.int .i64 a3] 30 (0,0)) (zzE a0.out) hb);have a7:=zzm (zzp zzh2 hb);clear a0 HB;have b0:=a5;have a0:=a6;have HB:=a7;clear a5 a6 a7;clear hb ho10;refine hK.out _ _ ⟨(zzk a0.out 0).trans rfl,(zzk a0.out 1).trans rfl⟩ (fun a9=>?_);clear hK K;refine zzO 7 ?_
      refine two_ (i:=2) (j:=4) (Ni:=some 9) (Nj:=some 11) (zzB 7 15) (zzB 7 27) rfl rfl rfl rfl (by kernel_rfl) (by decide) (by decide) (fun K hK=>?_) (fun K hK=>?_)
      ·
       skip;refine Kd.R_append_rows_step k30 (w0:=w) w.heap.size (by rfl) (.tmp 7) (.tmp 8) 26 30 (.agg #[(.int .i64 0),(.int .i64 0)]) 16 rfl Try.underlying26 info30 rfl (by decide) (by omega) b5 y108 l0 _ _ _ (fun k_=>k_≠a1) (fun _=>False) rfl rfl ?aO ?aR (fun _ _ h=>h) (fun _ h=>h.elim) ?aF ?aB ?aS ?aL ?_
       (case aR=>exact zzcb b7 HB)
       (case aB=>exact zzh2)
       (case aF=>exact (fun k_ hk=>Kd.freshB (g:=a1) (o:=.cells #[.int .i64 a2,.int .i64 a3] 30 (0,0)) (zzE a0.out) k_ hk))
       (case aO=>exact (by (with_reducible repeat (first|apply Kd.R_alloc|apply Kd.R_drewN|apply Kd.R_drew));exact Kd.R_mono b0.out (fun _ hk=>hk.2)))
       (case aS=>exact (zzo zzh2))
       (case aL=>have:=LMc3.out;omega);intro b4 d1 ho hb hg hat;rw [← Ny111.out] at ho;have a5:=zzm (blk_grown (g:=a1) (o:=.cells #[.int .i64 a2,.int .i64 a3] 30 (0,0)) (zzE a0.out) hg (Kd.R_away b0.out (fun _ hk=>hk.2)));have a6:=zzm (hb);have a7:=zzm (ho);clear a0 HB b0;have a0:=a5;have HB:=a6;have b1:=a7;clear a5 a6 a7;clear ho hb hg hat;refine hK.out _ _ ⟨(zzk a0.out 0).trans rfl,(zzk a0.out 1).trans rfl⟩ (fun a9=>?_);clear hK K;refine zzO 9 ?_
       refine one_ (i:=4) (N:=some 11) (zzB 7 31) rfl rfl (by kernel_rfl) (by decide) (fun K hK=>?_);refine Kd.R_lit_step k30 _ 30 ?hg (N:=11) ?hd (xs:=([(⟨a2,a3⟩:S30)]:List (S30))) (inner:=[.int .i64 a2,.int .i64 a3]) (ok:=fun _=>True) (okp:=fun _=>True) ?hr ?hp (fun _ hk=>hk) trivial (Below.refl _ _) (Nat.le_refl _) (by simp) ?_;(case hd=>rfl);(case hg=>rfl);(case hr=>first|(go_simp;done)|(go_simp;rfl));(case hp=>exact (Reps.c2 (show Kd.M k30 _ _ _ (⟨a2,a3⟩:S30) [.int .i64 a2,.int .i64 a3] from (k30_mkM _ _ _ (⟨a2,a3⟩:S30))) (Reps.none _ _)));intro b3 e9 ho13 hb hg_ hnew_;clear hg_ hnew_
       (first|rw [← Ny114.out] at ho13|(simp only [Int.reduceToNat] at ho13;rw [← Ny114.out] at ho13));have a5:=zzm (Kd.R_elder' (by (with_reducible repeat (first|apply Kd.R_alloc|apply Kd.R_drewN|apply Kd.R_drew));exact b1.out) (Kd.R_base ho13) hb);have a6:=zzm (Kd.R_lower (Kd.R_newB (Kd.R_new' ho13 (Kd.R_lt (by (with_reducible repeat (first|apply Kd.R_alloc|apply Kd.R_drewN|apply Kd.R_drew));exact b1.out))) (g:=a1) (o:=.cells #[.int .i64 a2,.int .i64 a3] 30 (0,0)) (zzE a0.out)) (zzo zzh2));have a7:=zzm (zzh (g:=a1) (o:=.cells #[.int .i64 a2,.int .i64 a3] 30 (0,0)) (zzE a0.out) hb);have a8:=zzm (zzp zzh2 hb);clear b1 a0 HB;have b1:=a5;have a4:=a6;have a0:=a7;have HB:=a8;clear a5 a6 a7 a8;clear hb ho13;refine hK.out _ _ ⟨(zzk a0.out 0).trans rfl,(zzk a0.out 1).trans rfl⟩ (fun a9=>?_);clear hK K;refine zzO 11 ?_
       exact norm_ (by simp only [putAll,Act.put,zzq,zzr,zzs]) (hCont (b5,b4,b3) _ ⟨a9,(by (with_reducible repeat (first|apply Kd.R_alloc|apply Kd.R_drewN|apply Kd.R_drew));exact Kd.R_mono b1.out (fun _ hk=>⟨hk.2,hk.1⟩)),(by (with_reducible repeat (first|apply Kd.R_alloc|apply Kd.R_drewN|apply Kd.R_drew));exact Kd.R_mono a4.out (fun _ hk=>⟨hk.1.2,hk.2⟩)),(zzE a0.out),zzh2⟩)
      ·
       skip;refine Kd.R_lit_step k30 _ 30 ?hg (N:=11) ?hd (xs:=([(⟨a2,a3⟩:S30)]:List (S30))) (inner:=[.int .i64 a2,.int .i64 a3]) (ok:=fun _=>True) (okp:=fun _=>True) ?hr ?hp (fun _ hk=>hk) trivial (Below.refl _ _) (Nat.le_refl _) (by simp) ?_;(case hd=>rfl);(case hg=>rfl);(case hr=>first|(go_simp;done)|(go_simp;rfl));(case hp=>exact (Reps.c2 (show Kd.M k30 _ _ _ (⟨a2,a3⟩:S30) [.int .i64 a2,.int .i64 a3] from (k30_mkM _ _ _ (⟨a2,a3⟩:S30))) (Reps.none _ _)));intro b3 d1 ho12 hb hg_ hnew_;clear hg_ hnew_
       (first|rw [← Ny114.out] at ho12|(simp only [Int.reduceToNat] at ho12;rw [← Ny114.out] at ho12));have a5:=zzm (Kd.R_elder' (by (with_reducible repeat (first|apply Kd.R_alloc|apply Kd.R_drewN|apply Kd.R_drew));exact b0.out) (Kd.R_base ho12) hb);have a6:=zzm (Kd.R_lower (Kd.R_newB (Kd.R_new' ho12 (Kd.R_lt (by (with_reducible repeat (first|apply Kd.R_alloc|apply Kd.R_drewN|apply Kd.R_drew));exact b0.out))) (g:=a1) (o:=.cells #[.int .i64 a2,.int .i64 a3] 30 (0,0)) (zzE a0.out)) (zzo zzh2));have a7:=zzm (zzh (g:=a1) (o:=.cells #[.int .i64 a2,.int .i64 a3] 30 (0,0)) (zzE a0.out) hb);have a8:=zzm (zzp zzh2 hb);clear b0 a0 HB;have b0:=a5;have a4:=a6;have a0:=a7;have HB:=a8;clear a5 a6 a7 a8;clear hb ho12;refine hK.out _ _ ⟨(zzk a0.out 0).trans rfl,(zzk a0.out 1).trans rfl⟩ (fun a9=>?_);clear hK K;refine zzO 11 ?_
       refine one_ (i:=2) (N:=some 9) (zzB 7 31) rfl rfl (by kernel_rfl) (by decide) (fun K hK=>?_);refine Kd.R_append_rows_step k30 (w0:=w) w.heap.size (by rfl) (.tmp 7) (.tmp 8) 26 30 (.agg #[(.int .i64 0),(.int .i64 0)]) 16 rfl Try.underlying26 info30 rfl (by decide) (by omega) b5 y108 l0 _ _ _ (fun k_=>some k_≠(b3:Value).ownBlock∧k_≠a1) (fun _=>False) rfl rfl ?aO ?aR (fun _ _ h=>h) (fun _ h=>h.elim) ?aF ?aB ?aS ?aL ?_
       (case aR=>exact zzcb b7 HB)
       (case aB=>exact zzh2)
       (case aF=>exact (fun k_ hk=>⟨Kd.fresh' (Kd.R_lt (by (with_reducible repeat (first|apply Kd.R_alloc|apply Kd.R_drewN|apply Kd.R_drew));exact a4.out)) k_ hk,Kd.freshB (g:=a1) (o:=.cells #[.int .i64 a2,.int .i64 a3] 30 (0,0)) (zzE a0.out) k_ hk⟩))
       (case aO=>exact (by (with_reducible repeat (first|apply Kd.R_alloc|apply Kd.R_drewN|apply Kd.R_drew));exact Kd.R_mono b0.out (fun _ hk=>⟨hk.2,hk.1.2⟩)))
       (case aS=>exact (zzo zzh2))
       (case aL=>have:=LMc3.out;omega);intro b4 e3 ho hb hg hat;rw [← Ny111.out] at ho;have a5:=zzm (blk_grown (g:=a1) (o:=.cells #[.int .i64 a2,.int .i64 a3] 30 (0,0)) (zzE a0.out) hg (Kd.R_away b0.out (fun _ hk=>hk.1.2)));have a6:=zzm (Kd.R_after (ok:=(fun k_=>k_≠a1)) (by (with_reducible repeat (first|apply Kd.R_alloc|apply Kd.R_drewN|apply Kd.R_drew));exact Kd.R_mono a4.out (fun _ hk=>⟨hk.2,hk.1.2⟩)) hg hat);have a7:=zzm (hb);have a8:=zzm (ho);clear a0 a4 HB b0;have a0:=a5;have a4:=a6;have HB:=a7;have b1:=a8;clear a5 a6 a7 a8;clear ho hb hg hat;refine hK.out _ _ ⟨(zzk a0.out 0).trans rfl,(zzk a0.out 1).trans rfl⟩ (fun a9=>?_);clear hK K;refine zzO 9 ?_
       exact norm_ (by simp only [putAll,Act.put,zzq,zzr,zzs]) (hCont (b5,b4,b3) _ ⟨a9,(by (with_reducible repeat (first|apply Kd.R_alloc|apply Kd.R_drewN|apply Kd.R_drew));exact b1.out),(by (with_reducible repeat (first|apply Kd.R_alloc|apply Kd.R_drewN|apply Kd.R_drew));exact Kd.R_mono a4.out (fun _ hk=>⟨hk.2,hk.1⟩)),(zzE a0.out),zzh2⟩)
     ·
      skip;refine Kd.R_lit_step k30 _ 30 ?hg (N:=11) ?hd (xs:=([(⟨a2,a3⟩:S30)]:List (S30))) (inner:=[.int .i64 a2,.int .i64 a3]) (ok:=fun _=>True) (okp:=fun _=>True) ?hr ?hp (fun _ hk=>hk) trivial (Below.refl _ _) (Nat.le_refl _) (by simp) ?_;(case hd=>rfl);(case hg=>rfl);(case hr=>first|(go_simp;done)|(go_simp;rfl));(case hp=>exact (Reps.c2 (show Kd.M k30 _ _ _ (⟨a2,a3⟩:S30) [.int .i64 a2,.int .i64 a3] from (k30_mkM _ _ _ (⟨a2,a3⟩:S30))) (Reps.none _ _)));intro b3 w9 ho10 hb hg_ hnew_;clear hg_ hnew_
      (first|rw [← Ny114.out] at ho10|(simp only [Int.reduceToNat] at ho10;rw [← Ny114.out] at ho10));have a5:=zzm (Kd.R_lower (Kd.R_newB ho10 (g:=a1) (o:=.cells #[.int .i64 a2,.int .i64 a3] 30 (0,0)) (zzE a0.out)) (zzo zzh2));have a6:=zzm (zzh (g:=a1) (o:=.cells #[.int .i64 a2,.int .i64 a3] 30 (0,0)) (zzE a0.out) hb);have a7:=zzm (zzp zzh2 hb);clear a0 HB;have a4:=a5;have a0:=a6;have HB:=a7;clear a5 a6 a7;clear hb ho10;refine hK.out _ _ ⟨(zzk a0.out 0).trans rfl,(zzk a0.out 1).trans rfl⟩ (fun a9=>?_);clear hK K;refine zzO 11 ?_
      refine one_ (i:=0) (N:=some 7) (zzB 7 27) rfl rfl (by kernel_rfl) (by decide) (fun K hK=>?_);refine Kd.R_lit_step k30 _ 30 ?hg (N:=7) ?hd (xs:=([]:List (S30))) (inner:=[]) (ok:=fun _=>True) (okp:=fun _=>True) ?hr ?hp (fun _ hk=>hk) trivial (Below.refl _ _) (Nat.le_refl _) (by simp) ?_;(case hd=>rfl);(case hg=>rfl);(case hr=>first|(go_simp;done)|(go_simp;rfl));(case hp=>exact (Reps.none _ _));intro b5 d1 ho12 hb hg_ hnew_;clear hg_ hnew_
      (first|rw [← Ny108.out] at ho12|(simp only [Int.reduceToNat] at ho12;rw [← Ny108.out] at ho12));have a5:=zzm (Kd.R_elder' (by (with_reducible repeat (first|apply Kd.R_alloc|apply Kd.R_drewN|apply Kd.R_drew));exact a4.out) (Kd.R_base ho12) hb);have a6:=zzm (Kd.R_lower (Kd.R_newB (Kd.R_new' ho12 (Kd.R_lt (by (with_reducible repeat (first|apply Kd.R_alloc|apply Kd.R_drewN|apply Kd.R_drew));exact a4.out))) (g:=a1) (o:=.cells #[.int .i64 a2,.int .i64 a3] 30 (0,0)) (zzE a0.out)) (zzo zzh2));have a7:=zzm (zzh (g:=a1) (o:=.cells #[.int .i64 a2,.int .i64 a3] 30 (0,0)) (zzE a0.out) hb);have a8:=zzm (zzp zzh2 hb);clear a4 a0 HB;have a4:=a5;have b0:=a6;have a0:=a7;have HB:=a8;clear a5 a6 a7 a8;clear hb ho12;refine hK.out _ _ ⟨(zzk a0.out 0).trans rfl,(zzk a0.out 1).trans rfl⟩ (fun a9=>?_);clear hK K;refine zzO 7 ?_
      refine one_ (i:=2) (N:=some 9) (zzB 7 31) rfl rfl (by kernel_rfl) (by decide) (fun K hK=>?_);refine Kd.R_append_rows_step k30 (w0:=w) w.heap.size (by rfl) (.tmp 7) (.tmp 8) 26 30 (.agg #[(.int .i64 0),(.int .i64 0)]) 16 rfl Try.underlying26 info30 rfl (by decide) (by omega) b5 y108 l0 _ _ _ (fun k_=>some k_≠(b3:Value).ownBlock∧k_≠a1) (fun _=>False) rfl rfl ?aO ?aR (fun _ _ h=>h) (fun _ h=>h.elim) ?aF ?aB ?aS ?aL ?_
      (case aR=>exact zzcb b7 HB)
      (case aB=>exact zzh2)
      (case aF=>exact (fun k_ hk=>⟨Kd.fresh' (Kd.R_lt (by (with_reducible repeat (first|apply Kd.R_alloc|apply Kd.R_drewN|apply Kd.R_drew));exact a4.out)) k_ hk,Kd.freshB (g:=a1) (o:=.cells #[.int .i64 a2,.int .i64 a3] 30 (0,0)) (zzE a0.out) k_ hk⟩))
      (case aO=>exact (by (with_reducible repeat (first|apply Kd.R_alloc|apply Kd.R_drewN|apply Kd.R_drew));exact Kd.R_mono b0.out (fun _ hk=>⟨hk.1.2,hk.2⟩)))
      (case aS=>exact (zzo zzh2))
      (case aL=>have:=LMc3.out;omega);intro b4 e3 ho hb hg hat;rw [← Ny111.out] at ho;have a5:=zzm (blk_grown (g:=a1) (o:=.cells #[.int .i64 a2,.int .i64 a3] 30 (0,0)) (zzE a0.out) hg (Kd.R_away b0.out (fun _ hk=>hk.2)));have a6:=zzm (Kd.R_after (ok:=(fun k_=>k_≠a1)) (by (with_reducible repeat (first|apply Kd.R_alloc|apply Kd.R_drewN|apply Kd.R_drew));exact Kd.R_mono a4.out (fun _ hk=>⟨hk.1.2,hk.2⟩)) hg hat);have a7:=zzm (hb);have a8:=zzm (ho);clear a0 a4 HB b0;have a0:=a5;have a4:=a6;have HB:=a7;have b1:=a8;clear a5 a6 a7 a8;clear ho hb hg hat;refine hK.out _ _ ⟨(zzk a0.out 0).trans rfl,(zzk a0.out 1).trans rfl⟩ (fun a9=>?_);clear hK K;refine zzO 9 ?_
      exact norm_ (by simp only [putAll,Act.put,zzq,zzr,zzs]) (hCont (b5,b4,b3) _ ⟨a9,(by (with_reducible repeat (first|apply Kd.R_alloc|apply Kd.R_drewN|apply Kd.R_drew));exact b1.out),(by (with_reducible repeat (first|apply Kd.R_alloc|apply Kd.R_drewN|apply Kd.R_drew));exact Kd.R_mono a4.out (fun _ hk=>⟨hk.2,hk.1⟩)),(zzE a0.out),zzh2⟩)
    rintro ⟨b5,b4,b3⟩ b8 ⟨hS_,h0_,h1_,h2_,h3_⟩;have a5:Aside0 (Kd.R k30 30 b8 w.heap.size (fun k_=>some k_≠(b3:Value).ownBlock∧k_≠a1) b4 y111):=⟨h0_⟩;have a6:Aside0 (Kd.R k30 30 b8 w.heap.size (fun k_=>some k_≠(b4:Value).ownBlock∧k_≠a1) b3 y114):=⟨h1_⟩;have a7:Aside0 (b8.heap[a1]? = some (.cells #[.int .i64 a2,.int .i64 a3] 30 (0,0))):=⟨h2_⟩;have a8:Aside0 (Below w.heap.size w b8):=⟨h3_⟩;clear a0 HB;clear h0_ h1_ h2_ h3_;have b1:=a5;have a4:=a6;have a0:=a7;have HB:=a8;clear a5 a6 a7 a8;have a9:b8.cell? ⟨a1,0,none⟩=some (.int .i64 a2)∧b8.cell? ⟨a1,1,none⟩=some (.int .i64 a3):=hS_;obtain ⟨d4,d5,eo16⟩:=Kd.R_slice a4.out
    (first|subst eo16|(injection eo16 with f1_ f2_ f3_;have f4_:=f1_.symm;have f5_:=f3_.symm;clear f1_ f2_ f3_;subst f4_;subst f5_));refine norm_ (a':=?_) ?_ ?_;rotate_left
    ·
     simp only [putAll,Act.put,zzq,zzr,zzs];rfl
    refine one_ (i:=5) (N:=some 12) (zzB 7 63) rfl rfl (by kernel_rfl) (by decide) (fun K hK=>?_);refine Kd.R_append_rows_step k30 (w0:=w) w.heap.size (by rfl) (.tmp 9) (.tmp 11) 26 30 (.agg #[(.int .i64 0),(.int .i64 0)]) 16 rfl Try.underlying26 info30 rfl (by decide) (by omega) b4 y111 y114 _ _ _ (fun k_=>some k_≠(.slice d4 y114.length d5:Value).ownBlock∧k_≠a1) (fun _=>False) rfl rfl ?aO ?aR (fun _ _ h=>h) (fun _ h=>h.elim) ?aF ?aB ?aS ?aL ?_
    (case aR=>repeat (first|exact (Kd.R_reads' a4.out).2.2|(with_reducible refine Kd.C_alloc ?_ _)|(with_reducible refine Kd.C_drewN ?_ _)|(with_reducible refine Kd.C_drew ?_)))
    (case aB=>exact zzh2)
    (case aF=>exact (fun k_ hk=>⟨Kd.fresh' (Kd.R_lt (by (with_reducible repeat (first|apply Kd.R_alloc|apply Kd.R_drewN|apply Kd.R_drew));exact a4.out)) k_ hk,Kd.freshB (g:=a1) (o:=.cells #[.int .i64 a2,.int .i64 a3] 30 (0,0)) (zzE a0.out) k_ hk⟩))
    (case aO=>exact (by (with_reducible repeat (first|apply Kd.R_alloc|apply Kd.R_drewN|apply Kd.R_drew));exact b1.out))
    (case aS=>exact (zzo zzh2))
    (case aL=>have:=LMc4.out;omega);intro d6 g0 ho hb hg hat;rw [← Ny117.out] at ho;have a5:=zzm (blk_grown (g:=a1) (o:=.cells #[.int .i64 a2,.int .i64 a3] 30 (0,0)) (zzE a0.out) hg (Kd.R_away b1.out (fun _ hk=>hk.2)));have a6:=zzm (Kd.R_after (ok:=(fun k_=>k_≠a1)) (by (with_reducible repeat (first|apply Kd.R_alloc|apply Kd.R_drewN|apply Kd.R_drew));exact Kd.R_mono a4.out (fun _ hk=>⟨hk.2,hk.1⟩)) hg hat);have a7:=zzm (hb);have a8:=zzm (ho);clear a0 a4 HB b1;have a0:=a5;have a4:=a6;have HB:=a7;have b2:=a8;clear a5 a6 a7 a8;clear ho hb hg hat;refine hK.out _ _ ⟨(zzk a0.out 0).trans rfl,(zzk a0.out 1).trans rfl⟩ (fun a9=>?_);clear hK K;refine zzO 12 ?_
    refine pure_ (i:=6) (N:=some 6) (v:=?_) (a':=?_) (zzB 7 127) rfl rfl (by kernel_rfl) (fun _ _ _ h=>h) (Or.inl ⟨by rfl,?_⟩) ?_ ?_;rotate_left
    ·
     intro w';go_simp;with_reducible rfl
    rotate_left
    ·
     simp only [zzJ];rfl
    refine done_ (by kernel_rfl) ?_;obtain ⟨d7,d8,eo17⟩:=Kd.R_slice b2.out;subst eo17;try go_wp2_with (first|((with_reducible refine gate_callee (f:=12) rfl ?_);refine goesL_ (some 14) rfl rfl Try.func12 (by kernel_rfl) rfl #[.slice d7 y117.length d8] rfl zzM2 ?_;(with_reducible refine (Qb.calls k _ _ y117 true _ ?side1 ?side2 A5.out).mono ?_);(case side1=>repeat (first|exact (Kd.R_reads' b2.out).2.2|(with_reducible refine Kd.C_alloc ?_ _)|(with_reducible refine Kd.C_drewN ?_ _)|(with_reducible refine Kd.C_drew ?_)));(case side2=>exact (Kd.R_reads' b2.out).2.1);rintro e g1 ⟨rfl,hb⟩;refine ⟨_,rfl,?_⟩;have a5:=zzm (Kd.R_below (by (with_reducible repeat (first|apply Kd.R_alloc|apply Kd.R_drewN|apply Kd.R_drew));exact a4.out) hb);have a6:=zzm (Kd.R_below (by (with_reducible repeat (first|apply Kd.R_alloc|apply Kd.R_drewN|apply Kd.R_drew));exact b2.out) hb);have a7:=zzm (zzh (g:=a1) (o:=.cells #[.int .i64 a2,.int .i64 a3] 30 (0,0)) (zzE a0.out) hb);have a8:=zzm (zzp zzh2 hb);clear a4 b2 a0 HB;have a4:=a5;have b2:=a6;have a0:=a7;have HB:=a8;clear a5 a6 a7 a8;(try clear hb);(try clear hb2);(try clear hk);(try clear hi)))
    go_ret2;exact ⟨_,zzR,by (with_reducible repeat (first|apply Kd.R_alloc|apply Kd.R_drewN|apply Kd.R_drew));exact Kd.R_mono b2.out (fun _ hk=>trivial),zzh3⟩
   ·
    replace c6:=Bool.eq_false_iff.mpr c6;subst c6;replace H:=zzIf H;obtain ⟨y121,hy121⟩:∃ y_:List (S30),y_=(([]:List (S30))):=⟨_,rfl⟩;replace H:(some (y121,false))=some (r1,r2):=by first|(rw [hy121];with_reducible exact H)|(have H2_:=(Option.bind_some _ _).symm.trans H;rw [hy121];with_reducible exact H2_)|(have H2_:=(Option.bind_some _ _).symm.trans H;with_reducible exact H2_)|with_reducible exact H|(rw [hy121];exact H)|exact H
    have Ny121:=zzm hy121;clear hy121;simp only [Option.some.injEq,Prod.mk.injEq] at H;obtain ⟨rfl,rfl⟩:=H;go_enter Try.func5,Try.ntmps5;try go_wp2_with (first|((with_reducible refine gate_dst (N:=3) rfl ?_);refine box_event ?hg (N:=3) ?hd (cs:=#[.int .i64 a2,.int .i64 a3]) (t:=30) ?hr ?_;(case hd=>rfl);(case hg=>rfl);(case hr=>first|(go_simp;done)|(go_simp;rfl));intro a1 hg e4 hbox hb;have a5:=zzm (zzp zzh1 hb);have a6:=zzm (hbox);have a7:=zzm ((by rw [hg];exact (zzo zzh1):w.heap.size≤a1));have a8:=zzm ((by rw [hg];exact (zzo zzh1):w.heap.size≤a1));clear HB;have HB:=a5;have a0:=a6;have c1:=a7;have c5:=a8;clear a5 a6 a7 a8 hb hbox hg))
    have a5:=zzm (zzg a0.out);have a6:=zzm (zzc HB.out);clear a0 HB;have a0:=a5;have HB:=a6;clear a5 a6;refine start_ (n:=7) (S:=fun w'=>w'.cell? ⟨a1,0,none⟩=some (.int .i64 a2)∧w'.cell? ⟨a1,1,none⟩=some (.int .i64 a3)) (ds:=[]) (zzB 7 0) (by kernel_rfl) rfl rfl ⟨(zzk a0.out 0).trans rfl,(zzk a0.out 1).trans rfl⟩ (fun a9=>?_);generalize e4.drew=g2 at a0 HB a9 ⊢;refine pure_ (i:=1) (N:=some 8) (v:=?_) (a':=?_) (zzB 7 2) rfl rfl (by kernel_rfl) (fun _ _ _ h=>h) (Or.inl ⟨by rfl,?_⟩) ?_ ?_;rotate_left
    ·
     intro w';go_simp;with_reducible rfl
    rotate_left
    ·
     simp only [zzJ];rfl
    refine take_ (i:=3) (N:=some 10) (v:=?_) (a':=?_) (zzB 7 10) rfl rfl (by kernel_rfl) (fun _ _ _ h=>h) (Or.inl ⟨by rfl,?_⟩) a9 ?_ ?_;rotate_left
    ·
     rintro w' ⟨s0,s1⟩;go_simp;with_reducible rfl
    rotate_left
    ·
     simp only [zzJ];rfl
    refine join_ (σ:=Value×Value×Value) 2 (zzB 7 31) (fun s_=>[(7,s_.1),(9,s_.2.1),(11,s_.2.2)]) (fun s_ w'=>(w'.cell? ⟨a1,0,none⟩=some (.int .i64 a2)∧w'.cell? ⟨a1,1,none⟩=some (.int .i64 a3))∧(Kd.R k30 30 w' w.heap.size (fun k_=>some k_≠(s_.2.2:Value).ownBlock∧k_≠a1) s_.2.1 y111)∧(Kd.R k30 30 w' w.heap.size (fun k_=>some k_≠(s_.2.1:Value).ownBlock∧k_≠a1) s_.2.2 y114)∧(w'.heap[a1]? = some (.cells #[.int .i64 a2,.int .i64 a3] 30 (0,0)))∧(Below w.heap.size w w')) ?_ ?_;rotate_left
    ·
     intro hCont;refine two_ (i:=0) (j:=4) (Ni:=some 7) (Nj:=some 11) (zzB 7 11) (zzB 7 26) rfl rfl rfl rfl (by kernel_rfl) (by decide) (by decide) (fun K hK=>?_) (fun K hK=>?_)
     ·
      skip;refine Kd.R_lit_step k30 _ 30 ?hg (N:=7) ?hd (xs:=([]:List (S30))) (inner:=[]) (ok:=fun _=>True) (okp:=fun _=>True) ?hr ?hp (fun _ hk=>hk) trivial (Below.refl _ _) (Nat.le_refl _) (by simp) ?_;(case hd=>rfl);(case hg=>rfl);(case hr=>first|(go_simp;done)|(go_simp;rfl));(case hp=>exact (Reps.none _ _));intro b5 e5 ho22 hb hg_ hnew_;clear hg_ hnew_
      (first|rw [← Ny108.out] at ho22|(simp only [Int.reduceToNat] at ho22;rw [← Ny108.out] at ho22));have a5:=zzm (Kd.R_lower (Kd.R_newB ho22 (g:=a1) (o:=.cells #[.int .i64 a2,.int .i64 a3] 30 (0,0)) (zzE a0.out)) (zzo zzh2));have a6:=zzm (zzh (g:=a1) (o:=.cells #[.int .i64 a2,.int .i64 a3] 30 (0,0)) (zzE a0.out) hb);have a7:=zzm (zzp zzh2 hb);clear a0 HB;have b0:=a5;have a0:=a6;have HB:=a7;clear a5 a6 a7;clear hb ho22;refine hK.out _ _ ⟨(zzk a0.out 0).trans rfl,(zzk a0.out 1).trans rfl⟩ (fun a9=>?_);clear hK K;refine zzO 7 ?_
      refine two_ (i:=2) (j:=4) (Ni:=some 9) (Nj:=some 11) (zzB 7 15) (zzB 7 27) rfl rfl rfl rfl (by kernel_rfl) (by decide) (by decide) (fun K hK=>?_) (fun K hK=>?_)
      ·
       skip;refine Kd.R_append_rows_step k30 (w0:=w) w.heap.size (by rfl) (.tmp 7) (.tmp 8) 26 30 (.agg #[(.int .i64 0),(.int .i64 0)]) 16 rfl Try.underlying26 info30 rfl (by decide) (by omega) b5 y108 l0 _ _ _ (fun k_=>k_≠a1) (fun _=>False) rfl rfl ?aO ?aR (fun _ _ h=>h) (fun _ h=>h.elim) ?aF ?aB ?aS ?aL ?_
       (case aR=>exact zzcb b7 HB)
       (case aB=>exact zzh2)
       (case aF=>exact (fun k_ hk=>Kd.freshB (g:=a1) (o:=.cells #[.int .i64 a2,.int .i64 a3] 30 (0,0)) (zzE a0.out) k_ hk))
       (case aO=>exact (by (with_reducible repeat (first|apply Kd.R_alloc|apply Kd.R_drewN|apply Kd.R_drew));exact Kd.R_mono b0.out (fun _ hk=>hk.2)))
       (case aS=>exact (zzo zzh2))
       (case aL=>have:=LMc3.out;omega);intro b4 d2 ho hb hg hat;rw [← Ny111.out] at ho;have a5:=zzm (blk_grown (g:=a1) (o:=.cells #[.int .i64 a2,.int .i64 a3] 30 (0,0)) (zzE a0.out) hg (Kd.R_away b0.out (fun _ hk=>hk.2)));have a6:=zzm (hb);have a7:=zzm (ho);clear a0 HB b0;have a0:=a5;have HB:=a6;have b1:=a7;clear a5 a6 a7;clear ho hb hg hat;refine hK.out _ _ ⟨(zzk a0.out 0).trans rfl,(zzk a0.out 1).trans rfl⟩ (fun a9=>?_);clear hK K;refine zzO 9 ?_
       refine one_ (i:=4) (N:=some 11) (zzB 7 31) rfl rfl (by kernel_rfl) (by decide) (fun K hK=>?_);refine Kd.R_lit_step k30 _ 30 ?hg (N:=11) ?hd (xs:=([(⟨a2,a3⟩:S30)]:List (S30))) (inner:=[.int .i64 a2,.int .i64 a3]) (ok:=fun _=>True) (okp:=fun _=>True) ?hr ?hp (fun _ hk=>hk) trivial (Below.refl _ _) (Nat.le_refl _) (by simp) ?_;(case hd=>rfl);(case hg=>rfl);(case hr=>first|(go_simp;done)|(go_simp;rfl));(case hp=>exact (Reps.c2 (show Kd.M k30 _ _ _ (⟨a2,a3⟩:S30) [.int .i64 a2,.int .i64 a3] from (k30_mkM _ _ _ (⟨a2,a3⟩:S30))) (Reps.none _ _)));intro b3 g3 ho25 hb hg_ hnew_;clear hg_ hnew_
       (first|rw [← Ny114.out] at ho25|(simp only [Int.reduceToNat] at ho25;rw [← Ny114.out] at ho25));have a5:=zzm (Kd.R_elder' (by (with_reducible repeat (first|apply Kd.R_alloc|apply Kd.R_drewN|apply Kd.R_drew));exact b1.out) (Kd.R_base ho25) hb);have a6:=zzm (Kd.R_lower (Kd.R_newB (Kd.R_new' ho25 (Kd.R_lt (by (with_reducible repeat (first|apply Kd.R_alloc|apply Kd.R_drewN|apply Kd.R_drew));exact b1.out))) (g:=a1) (o:=.cells #[.int .i64 a2,.int .i64 a3] 30 (0,0)) (zzE a0.out)) (zzo zzh2));have a7:=zzm (zzh (g:=a1) (o:=.cells #[.int .i64 a2,.int .i64 a3] 30 (0,0)) (zzE a0.out) hb);have a8:=zzm (zzp zzh2 hb);clear b1 a0 HB;have b1:=a5;have a4:=a6;have a0:=a7;have HB:=a8;clear a5 a6 a7 a8;clear hb ho25;refine hK.out _ _ ⟨(zzk a0.out 0).trans rfl,(zzk a0.out 1).trans rfl⟩ (fun a9=>?_);clear hK K;refine zzO 11 ?_
       exact norm_ (by simp only [putAll,Act.put,zzq,zzr,zzs]) (hCont (b5,b4,b3) _ ⟨a9,(by (with_reducible repeat (first|apply Kd.R_alloc|apply Kd.R_drewN|apply Kd.R_drew));exact Kd.R_mono b1.out (fun _ hk=>⟨hk.2,hk.1⟩)),(by (with_reducible repeat (first|apply Kd.R_alloc|apply Kd.R_drewN|apply Kd.R_drew));exact Kd.R_mono a4.out (fun _ hk=>⟨hk.1.2,hk.2⟩)),(zzE a0.out),zzh2⟩)
      ·
       skip;refine Kd.R_lit_step k30 _ 30 ?hg (N:=11) ?hd (xs:=([(⟨a2,a3⟩:S30)]:List (S30))) (inner:=[.int .i64 a2,.int .i64 a3]) (ok:=fun _=>True) (okp:=fun _=>True) ?hr ?hp (fun _ hk=>hk) trivial (Below.refl _ _) (Nat.le_refl _) (by simp) ?_;(case hd=>rfl);(case hg=>rfl);(case hr=>first|(go_simp;done)|(go_simp;rfl));(case hp=>exact (Reps.c2 (show Kd.M k30 _ _ _ (⟨a2,a3⟩:S30) [.int .i64 a2,.int .i64 a3] from (k30_mkM _ _ _ (⟨a2,a3⟩:S30))) (Reps.none _ _)));intro b3 d2 ho24 hb hg_ hnew_;clear hg_ hnew_
       (first|rw [← Ny114.out] at ho24|(simp only [Int.reduceToNat] at ho24;rw [← Ny114.out] at ho24));have a5:=zzm (Kd.R_elder' (by (with_reducible repeat (first|apply Kd.R_alloc|apply Kd.R_drewN|apply Kd.R_drew));exact b0.out) (Kd.R_base ho24) hb);have a6:=zzm (Kd.R_lower (Kd.R_newB (Kd.R_new' ho24 (Kd.R_lt (by (with_reducible repeat (first|apply Kd.R_alloc|apply Kd.R_drewN|apply Kd.R_drew));exact b0.out))) (g:=a1) (o:=.cells #[.int .i64 a2,.int .i64 a3] 30 (0,0)) (zzE a0.out)) (zzo zzh2));have a7:=zzm (zzh (g:=a1) (o:=.cells #[.int .i64 a2,.int .i64 a3] 30 (0,0)) (zzE a0.out) hb);have a8:=zzm (zzp zzh2 hb);clear b0 a0 HB;have b0:=a5;have a4:=a6;have a0:=a7;have HB:=a8;clear a5 a6 a7 a8;clear hb ho24;refine hK.out _ _ ⟨(zzk a0.out 0).trans rfl,(zzk a0.out 1).trans rfl⟩ (fun a9=>?_);clear hK K;refine zzO 11 ?_
       refine one_ (i:=2) (N:=some 9) (zzB 7 31) rfl rfl (by kernel_rfl) (by decide) (fun K hK=>?_);refine Kd.R_append_rows_step k30 (w0:=w) w.heap.size (by rfl) (.tmp 7) (.tmp 8) 26 30 (.agg #[(.int .i64 0),(.int .i64 0)]) 16 rfl Try.underlying26 info30 rfl (by decide) (by omega) b5 y108 l0 _ _ _ (fun k_=>some k_≠(b3:Value).ownBlock∧k_≠a1) (fun _=>False) rfl rfl ?aO ?aR (fun _ _ h=>h) (fun _ h=>h.elim) ?aF ?aB ?aS ?aL ?_
       (case aR=>exact zzcb b7 HB)
       (case aB=>exact zzh2)
       (case aF=>exact (fun k_ hk=>⟨Kd.fresh' (Kd.R_lt (by (with_reducible repeat (first|apply Kd.R_alloc|apply Kd.R_drewN|apply Kd.R_drew));exact a4.out)) k_ hk,Kd.freshB (g:=a1) (o:=.cells #[.int .i64 a2,.int .i64 a3] 30 (0,0)) (zzE a0.out) k_ hk⟩))
       (case aO=>exact (by (with_reducible repeat (first|apply Kd.R_alloc|apply Kd.R_drewN|apply Kd.R_drew));exact Kd.R_mono b0.out (fun _ hk=>⟨hk.2,hk.1.2⟩)))
       (case aS=>exact (zzo zzh2))
       (case aL=>have:=LMc3.out;omega);intro b4 e6 ho hb hg hat;rw [← Ny111.out] at ho;have a5:=zzm (blk_grown (g:=a1) (o:=.cells #[.int .i64 a2,.int .i64 a3] 30 (0,0)) (zzE a0.out) hg (Kd.R_away b0.out (fun _ hk=>hk.1.2)));have a6:=zzm (Kd.R_after (ok:=(fun k_=>k_≠a1)) (by (with_reducible repeat (first|apply Kd.R_alloc|apply Kd.R_drewN|apply Kd.R_drew));exact Kd.R_mono a4.out (fun _ hk=>⟨hk.2,hk.1.2⟩)) hg hat);have a7:=zzm (hb);have a8:=zzm (ho);clear a0 a4 HB b0;have a0:=a5;have a4:=a6;have HB:=a7;have b1:=a8;clear a5 a6 a7 a8;clear ho hb hg hat;refine hK.out _ _ ⟨(zzk a0.out 0).trans rfl,(zzk a0.out 1).trans rfl⟩ (fun a9=>?_);clear hK K;refine zzO 9 ?_
       exact norm_ (by simp only [putAll,Act.put,zzq,zzr,zzs]) (hCont (b5,b4,b3) _ ⟨a9,(by (with_reducible repeat (first|apply Kd.R_alloc|apply Kd.R_drewN|apply Kd.R_drew));exact b1.out),(by (with_reducible repeat (first|apply Kd.R_alloc|apply Kd.R_drewN|apply Kd.R_drew));exact Kd.R_mono a4.out (fun _ hk=>⟨hk.2,hk.1⟩)),(zzE a0.out),zzh2⟩)
     ·
      skip;refine Kd.R_lit_step k30 _ 30 ?hg (N:=11) ?hd (xs:=([(⟨a2,a3⟩:S30)]:List (S30))) (inner:=[.int .i64 a2,.int .i64 a3]) (ok:=fun _=>True) (okp:=fun _=>True) ?hr ?hp (fun _ hk=>hk) trivial (Below.refl _ _) (Nat.le_refl _) (by simp) ?_;(case hd=>rfl);(case hg=>rfl);(case hr=>first|(go_simp;done)|(go_simp;rfl));(case hp=>exact (Reps.c2 (show Kd.M k30 _ _ _ (⟨a2,a3⟩:S30) [.int .i64 a2,.int .i64 a3] from (k30_mkM _ _ _ (⟨a2,a3⟩:S30))) (Reps.none _ _)));intro b3 e5 ho22 hb hg_ hnew_;clear hg_ hnew_
      (first|rw [← Ny114.out] at ho22|(simp only [Int.reduceToNat] at ho22;rw [← Ny114.out] at ho22));have a5:=zzm (Kd.R_lower (Kd.R_newB ho22 (g:=a1) (o:=.cells #[.int .i64 a2,.int .i64 a3] 30 (0,0)) (zzE a0.out)) (zzo zzh2));have a6:=zzm (zzh (g:=a1) (o:=.cells #[.int .i64 a2,.int .i64 a3] 30 (0,0)) (zzE a0.out) hb);have a7:=zzm (zzp zzh2 hb);clear a0 HB;have a4:=a5;have a0:=a6;have HB:=a7;clear a5 a6 a7;clear hb ho22;refine hK.out _ _ ⟨(zzk a0.out 0).trans rfl,(zzk a0.out 1).trans rfl⟩ (fun a9=>?_);clear hK K;refine zzO 11 ?_
      refine one_ (i:=0) (N:=some 7) (zzB 7 27) rfl rfl (by kernel_rfl) (by decide) (fun K hK=>?_);refine Kd.R_lit_step k30 _ 30 ?hg (N:=7) ?hd (xs:=([]:List (S30))) (inner:=[]) (ok:=fun _=>True) (okp:=fun _=>True) ?hr ?hp (fun _ hk=>hk) trivial (Below.refl _ _) (Nat.le_refl _) (by simp) ?_;(case hd=>rfl);(case hg=>rfl);(case hr=>first|(go_simp;done)|(go_simp;rfl));(case hp=>exact (Reps.none _ _));intro b5 d2 ho24 hb hg_ hnew_;clear hg_ hnew_
      (first|rw [← Ny108.out] at ho24|(simp only [Int.reduceToNat] at ho24;rw [← Ny108.out] at ho24));have a5:=zzm (Kd.R_elder' (by (with_reducible repeat (first|apply Kd.R_alloc|apply Kd.R_drewN|apply Kd.R_drew));exact a4.out) (Kd.R_base ho24) hb);have a6:=zzm (Kd.R_lower (Kd.R_newB (Kd.R_new' ho24 (Kd.R_lt (by (with_reducible repeat (first|apply Kd.R_alloc|apply Kd.R_drewN|apply Kd.R_drew));exact a4.out))) (g:=a1) (o:=.cells #[.int .i64 a2,.int .i64 a3] 30 (0,0)) (zzE a0.out)) (zzo zzh2));have a7:=zzm (zzh (g:=a1) (o:=.cells #[.int .i64 a2,.int .i64 a3] 30 (0,0)) (zzE a0.out) hb);have a8:=zzm (zzp zzh2 hb);clear a4 a0 HB;have a4:=a5;have b0:=a6;have a0:=a7;have HB:=a8;clear a5 a6 a7 a8;clear hb ho24;refine hK.out _ _ ⟨(zzk a0.out 0).trans rfl,(zzk a0.out 1).trans rfl⟩ (fun a9=>?_);clear hK K;refine zzO 7 ?_
      refine one_ (i:=2) (N:=some 9) (zzB 7 31) rfl rfl (by kernel_rfl) (by decide) (fun K hK=>?_);refine Kd.R_append_rows_step k30 (w0:=w) w.heap.size (by rfl) (.tmp 7) (.tmp 8) 26 30 (.agg #[(.int .i64 0),(.int .i64 0)]) 16 rfl Try.underlying26 info30 rfl (by decide) (by omega) b5 y108 l0 _ _ _ (fun k_=>some k_≠(b3:Value).ownBlock∧k_≠a1) (fun _=>False) rfl rfl ?aO ?aR (fun _ _ h=>h) (fun _ h=>h.elim) ?aF ?aB ?aS ?aL ?_
      (case aR=>exact zzcb b7 HB)
      (case aB=>exact zzh2)
      (case aF=>exact (fun k_ hk=>⟨Kd.fresh' (Kd.R_lt (by (with_reducible repeat (first|apply Kd.R_alloc|apply Kd.R_drewN|apply Kd.R_drew));exact a4.out)) k_ hk,Kd.freshB (g:=a1) (o:=.cells #[.int .i64 a2,.int .i64 a3] 30 (0,0)) (zzE a0.out) k_ hk⟩))
      (case aO=>exact (by (with_reducible repeat (first|apply Kd.R_alloc|apply Kd.R_drewN|apply Kd.R_drew));exact Kd.R_mono b0.out (fun _ hk=>⟨hk.1.2,hk.2⟩)))
      (case aS=>exact (zzo zzh2))
      (case aL=>have:=LMc3.out;omega);intro b4 e6 ho hb hg hat;rw [← Ny111.out] at ho;have a5:=zzm (blk_grown (g:=a1) (o:=.cells #[.int .i64 a2,.int .i64 a3] 30 (0,0)) (zzE a0.out) hg (Kd.R_away b0.out (fun _ hk=>hk.2)));have a6:=zzm (Kd.R_after (ok:=(fun k_=>k_≠a1)) (by (with_reducible repeat (first|apply Kd.R_alloc|apply Kd.R_drewN|apply Kd.R_drew));exact Kd.R_mono a4.out (fun _ hk=>⟨hk.1.2,hk.2⟩)) hg hat);have a7:=zzm (hb);have a8:=zzm (ho);clear a0 a4 HB b0;have a0:=a5;have a4:=a6;have HB:=a7;have b1:=a8;clear a5 a6 a7 a8;clear ho hb hg hat;refine hK.out _ _ ⟨(zzk a0.out 0).trans rfl,(zzk a0.out 1).trans rfl⟩ (fun a9=>?_);clear hK K;refine zzO 9 ?_
      exact norm_ (by simp only [putAll,Act.put,zzq,zzr,zzs]) (hCont (b5,b4,b3) _ ⟨a9,(by (with_reducible repeat (first|apply Kd.R_alloc|apply Kd.R_drewN|apply Kd.R_drew));exact b1.out),(by (with_reducible repeat (first|apply Kd.R_alloc|apply Kd.R_drewN|apply Kd.R_drew));exact Kd.R_mono a4.out (fun _ hk=>⟨hk.2,hk.1⟩)),(zzE a0.out),zzh2⟩)
    rintro ⟨b5,b4,b3⟩ b9 ⟨hS_,h0_,h1_,h2_,h3_⟩;have a5:Aside0 (Kd.R k30 30 b9 w.heap.size (fun k_=>some k_≠(b3:Value).ownBlock∧k_≠a1) b4 y111):=⟨h0_⟩;have a6:Aside0 (Kd.R k30 30 b9 w.heap.size (fun k_=>some k_≠(b4:Value).ownBlock∧k_≠a1) b3 y114):=⟨h1_⟩;have a7:Aside0 (b9.heap[a1]? = some (.cells #[.int .i64 a2,.int .i64 a3] 30 (0,0))):=⟨h2_⟩;have a8:Aside0 (Below w.heap.size w b9):=⟨h3_⟩;clear a0 HB;clear h0_ h1_ h2_ h3_;have b1:=a5;have a4:=a6;have a0:=a7;have HB:=a8;clear a5 a6 a7 a8;have a9:b9.cell? ⟨a1,0,none⟩=some (.int .i64 a2)∧b9.cell? ⟨a1,1,none⟩=some (.int .i64 a3):=hS_;obtain ⟨d9,e0,eo28⟩:=Kd.R_slice a4.out
    (first|subst eo28|(injection eo28 with f1_ f2_ f3_;have f4_:=f1_.symm;have f5_:=f3_.symm;clear f1_ f2_ f3_;subst f4_;subst f5_));refine norm_ (a':=?_) ?_ ?_;rotate_left
    ·
     simp only [putAll,Act.put,zzq,zzr,zzs];rfl
    refine one_ (i:=5) (N:=some 12) (zzB 7 63) rfl rfl (by kernel_rfl) (by decide) (fun K hK=>?_);refine Kd.R_append_rows_step k30 (w0:=w) w.heap.size (by rfl) (.tmp 9) (.tmp 11) 26 30 (.agg #[(.int .i64 0),(.int .i64 0)]) 16 rfl Try.underlying26 info30 rfl (by decide) (by omega) b4 y111 y114 _ _ _ (fun k_=>some k_≠(.slice d9 y114.length e0:Value).ownBlock∧k_≠a1) (fun _=>False) rfl rfl ?aO ?aR (fun _ _ h=>h) (fun _ h=>h.elim) ?aF ?aB ?aS ?aL ?_
    (case aR=>repeat (first|exact (Kd.R_reads' a4.out).2.2|(with_reducible refine Kd.C_alloc ?_ _)|(with_reducible refine Kd.C_drewN ?_ _)|(with_reducible refine Kd.C_drew ?_)))
    (case aB=>exact zzh2)
    (case aF=>exact (fun k_ hk=>⟨Kd.fresh' (Kd.R_lt (by (with_reducible repeat (first|apply Kd.R_alloc|apply Kd.R_drewN|apply Kd.R_drew));exact a4.out)) k_ hk,Kd.freshB (g:=a1) (o:=.cells #[.int .i64 a2,.int .i64 a3] 30 (0,0)) (zzE a0.out) k_ hk⟩))
    (case aO=>exact (by (with_reducible repeat (first|apply Kd.R_alloc|apply Kd.R_drewN|apply Kd.R_drew));exact b1.out))
    (case aS=>exact (zzo zzh2))
    (case aL=>have:=LMc4.out;omega);intro d6 g4 ho hb hg hat;rw [← Ny117.out] at ho;have a5:=zzm (blk_grown (g:=a1) (o:=.cells #[.int .i64 a2,.int .i64 a3] 30 (0,0)) (zzE a0.out) hg (Kd.R_away b1.out (fun _ hk=>hk.2)));have a6:=zzm (Kd.R_after (ok:=(fun k_=>k_≠a1)) (by (with_reducible repeat (first|apply Kd.R_alloc|apply Kd.R_drewN|apply Kd.R_drew));exact Kd.R_mono a4.out (fun _ hk=>⟨hk.2,hk.1⟩)) hg hat);have a7:=zzm (hb);have a8:=zzm (ho);clear a0 a4 HB b1;have a0:=a5;have a4:=a6;have HB:=a7;have b2:=a8;clear a5 a6 a7 a8;clear ho hb hg hat;refine hK.out _ _ ⟨(zzk a0.out 0).trans rfl,(zzk a0.out 1).trans rfl⟩ (fun a9=>?_);clear hK K;refine zzO 12 ?_
    refine pure_ (i:=6) (N:=some 6) (v:=?_) (a':=?_) (zzB 7 127) rfl rfl (by kernel_rfl) (fun _ _ _ h=>h) (Or.inl ⟨by rfl,?_⟩) ?_ ?_;rotate_left
    ·
     intro w';go_simp;with_reducible rfl
    rotate_left
    ·
     simp only [zzJ];rfl
    refine done_ (by kernel_rfl) ?_;obtain ⟨e1,e2,eo29⟩:=Kd.R_slice b2.out;subst eo29;try go_wp2_with (first|((with_reducible refine gate_callee (f:=12) rfl ?_);refine goesL_ (some 14) rfl rfl Try.func12 (by kernel_rfl) rfl #[.slice e1 y117.length e2] rfl zzM2 ?_;(with_reducible refine (Qb.calls k _ _ y117 false _ ?side1 ?side2 A5.out).mono ?_);(case side1=>repeat (first|exact (Kd.R_reads' b2.out).2.2|(with_reducible refine Kd.C_alloc ?_ _)|(with_reducible refine Kd.C_drewN ?_ _)|(with_reducible refine Kd.C_drew ?_)));(case side2=>exact (Kd.R_reads' b2.out).2.1);rintro e g5 ⟨rfl,hb⟩;refine ⟨_,rfl,?_⟩;have a5:=zzm (Kd.R_below (by (with_reducible repeat (first|apply Kd.R_alloc|apply Kd.R_drewN|apply Kd.R_drew));exact a4.out) hb);have a6:=zzm (Kd.R_below (by (with_reducible repeat (first|apply Kd.R_alloc|apply Kd.R_drewN|apply Kd.R_drew));exact b2.out) hb);have a7:=zzm (zzh (g:=a1) (o:=.cells #[.int .i64 a2,.int .i64 a3] 30 (0,0)) (zzE a0.out) hb);have a8:=zzm (zzp zzh2 hb);clear a4 b2 a0 HB;have a4:=a5;have b2:=a6;have a0:=a7;have HB:=a8;clear a5 a6 a7 a8;(try clear hb);(try clear hb2);(try clear hk);(try clear hi))|((with_reducible refine gate_dst (N:=16) rfl ?_);refine Kd.R_lit k30 _ 30 ?hg (N:=16) ?hd (xs:=([]:List (S30))) (inner:=[]) (ok:=fun _=>True) (okp:=fun _=>True) ?hr ?hp (fun _ hk=>hk) trivial (Below.refl _ _) (Nat.le_refl _) (by simp) ?_;(case hd=>rfl);(case hg=>rfl);(case hr=>first|(go_simp;done)|(go_simp;rfl));(case hp=>exact (Reps.none _ _));intro e7 g6 ho32 hb hg_ hnew_;clear hg_ hnew_;(first|rw [← Ny121.out] at ho32|(simp only [Int.reduceToNat] at ho32;rw [← Ny121.out] at ho32));have a5:=zzm (Kd.R_elder' (by (with_reducible repeat (first|apply Kd.R_alloc|apply Kd.R_drewN|apply Kd.R_drew));exact a4.out) (Kd.R_base ho32) hb);have a6:=zzm (Kd.R_elder' (by (with_reducible repeat (first|apply Kd.R_alloc|apply Kd.R_drewN|apply Kd.R_drew));exact b2.out) (Kd.R_base ho32) hb);have a7:=zzm (Kd.R_lower (Kd.R_newB (Kd.R_new' (Kd.R_new' ho32 (Kd.R_lt (by (with_reducible repeat (first|apply Kd.R_alloc|apply Kd.R_drewN|apply Kd.R_drew));exact a4.out))) (Kd.R_lt (by (with_reducible repeat (first|apply Kd.R_alloc|apply Kd.R_drewN|apply Kd.R_drew));exact b2.out))) (g:=a1) (o:=.cells #[.int .i64 a2,.int .i64 a3] 30 (0,0)) (zzE a0.out)) (zzo zzh2));have a8:=zzm (zzh (g:=a1) (o:=.cells #[.int .i64 a2,.int .i64 a3] 30 (0,0)) (zzE a0.out) hb);have d3:=zzm (zzp zzh2 hb);clear a4 b2 a0 HB;have a4:=a5;have b2:=a6;have c7:=a7;have a0:=a8;have HB:=d3;clear a5 a6 a7 a8 d3 hb ho32))
    go_ret2;exact ⟨_,zzR,by (with_reducible repeat (first|apply Kd.R_alloc|apply Kd.R_drewN|apply Kd.R_drew));exact Kd.R_mono c7.out (fun _ hk=>trivial),zzh3⟩
  ·
   rw [if_neg c4] at H;exact absurd H (by simp)
 ·
  rw [if_neg c3] at H;exact absurd H (by simp)

set_option linter.unusedVariables false
set_option linter.unusedSimpArgs false
def Qi.f (a0_0:Int) (a0_1:Int):Option (Int×Int):=some (a0_0,a0_1)
set_option maxHeartbeats 8000000 in
theorem Qi.calls (a3:Int) (a4:Int) (r1:Int) (r2:Int) (w:World) (h:Qi.f a3 a4=some (r1,r2)) :
  Calls Try.prog 7 #[.agg #[.int .i64 a3,.int .i64 a4]] w fun e w'=>e = .returned (.agg #[.int .i64 r1,.int .i64 r2])∧Below w.heap.size w w':=by
 have hu24:=Try.underlying24;have hu30:=Try.underlying30;have HB:=zzm (Below.refl w.heap.size w);have H:(some (a3,a4))=some (r1,r2):=h;clear h;simp only [Option.some.injEq,Prod.mk.injEq] at H;obtain ⟨rfl,rfl⟩:=H;go_enter Try.func7,Try.ntmps7;go_wp2_with (first|((with_reducible refine gate_dst (N:=1) rfl ?_);refine box_event ?hg (N:=1) ?hd (cs:=#[.int .i64 a3,.int .i64 a4]) (t:=24) ?hr ?_;(case hd=>rfl);(case hg=>rfl);(case hr=>first|(go_simp;done)|(go_simp;rfl));intro a0 hg w2 hbox hb;have a8:=zzm (zzp zzh1 hb);have a9:=zzm (hbox);have b0:=zzm ((by rw [hg];exact (zzo zzh1):w.heap.size≤a0));have b1:=zzm ((by rw [hg];exact (zzo zzh1):w.heap.size≤a0));clear HB;have HB:=a8;have a1:=a9;have d7:=b0;have d8:=b1;clear a8 a9 b0 b1 hb hbox hg)|((with_reducible refine gate_dst (N:=2) rfl ?_);refine box_event ?hg (N:=2) ?hd (cs:=#[.int .i64 0,.int .i64 0]) (t:=30) ?hr ?_;(case hd=>rfl);(case hg=>rfl);(case hr=>first|(go_simp;done)|(go_simp;rfl));intro a2 hg w3 hbox hb;have a8:=zzm (zzh (g:=a0) (o:=.cells #[.int .i64 a3,.int .i64 a4] 24 (0,0)) (zzE a1.out) hb);have a9:=zzm (zzp zzh2 hb);have b0:=zzm (hbox);have b1:=zzm ((by rw [hg];exact (zzo zzh2):w.heap.size≤a2));have b2:=zzm ((by rw [hg];exact (zzo zzh2):w.heap.size≤a2));have b3:=zzm ((by rw [hg];exact Nat.ne_of_lt (blk_lt (g:=a0) (o:=.cells #[.int .i64 a3,.int .i64 a4] 24 (0,0)) (zzE a1.out)):a0≠a2));have b4:=zzm ((by rw [hg];exact Nat.ne_of_gt (blk_lt (g:=a0) (o:=.cells #[.int .i64 a3,.int .i64 a4] 24 (0,0)) (zzE a1.out)):a2≠a0));clear a1 HB;have a1:=a8;have HB:=a9;have a5:=b0;have d9:=b1;have e0:=b2;have b5:=b3;have b6:=b4;clear a8 a9 b0 b1 b2 b3 b4 hb hbox hg)|((with_reducible refine gate_dst (N:=3) rfl ?_);refine box_event ?hg (N:=3) ?hd (cs:=#[.int .i64 0,.int .i64 0]) (t:=30) ?hr ?_;(case hd=>rfl);(case hg=>rfl);(case hr=>first|(go_simp;done)|(go_simp;rfl));intro a7 hg w4 hbox hb;have a8:=zzm (zzh (g:=a0) (o:=.cells #[.int .i64 a3,.int .i64 a4] 24 (0,0)) (zzE a1.out) hb);have a9:=zzm (zzh (g:=a2) (o:=.cells #[.int .i64 0,.int .i64 0] 30 (0,0)) (zzE a5.out) hb);have b0:=zzm (zzp zzh2 hb);have b1:=zzm (hbox);have b2:=zzm ((by rw [hg];exact (zzo zzh2):w.heap.size≤a7));have b3:=zzm ((by rw [hg];exact (zzo zzh2):w.heap.size≤a7));have b4:=zzm ((by rw [hg];exact Nat.ne_of_lt (blk_lt (g:=a0) (o:=.cells #[.int .i64 a3,.int .i64 a4] 24 (0,0)) (zzE a1.out)):a0≠a7));have c1:=zzm ((by rw [hg];exact Nat.ne_of_gt (blk_lt (g:=a0) (o:=.cells #[.int .i64 a3,.int .i64 a4] 24 (0,0)) (zzE a1.out)):a7≠a0));have c3:=zzm ((by rw [hg];exact Nat.ne_of_lt (blk_lt (g:=a2) (o:=.cells #[.int .i64 0,.int .i64 0] 30 (0,0)) (zzE a5.out)):a2≠a7));have c4:=zzm ((by rw [hg];exact Nat.ne_of_gt (blk_lt (g:=a2) (o:=.cells #[.int .i64 0,.int .i64 0] 30 (0,0)) (zzE a5.out)):a7≠a2));clear a1 a5 HB;have a1:=a8;have a5:=a9;have HB:=b0;have c0:=b1;have e1:=b2;have e2:=b3;have b7:=b4;have b8:=c1;have a6:=c3;have b9:=c4;clear a8 a9 b0 b1 b2 b3 b4 c1 c3 c4 hb hbox hg;have e3:=b5.out;have e4:=b6.out;have e5:=b7.out;have e6:=b8.out;obtain ⟨c9,d0,d1,d2⟩:=zzc2 a1.out;have e7:=b9.out;have e8:=a6.out;obtain ⟨d3,d4,d5,d6⟩:=zzc2 c0.out;obtain ⟨c5,c6,c7,c8⟩:=zzc2 a5.out));refine bodyPost_ret (results_cell_row rfl _ _ a2 30 #[.int .i64 a3,.int .i64 a4] (0,0) _ rfl (by (with_reducible repeat (first|apply zzf|apply zzg|apply zze));refine zzi (cs:=#[.int .i64 a3,.int .i64 0]) ?_ 1 _ rfl;refine zzi (cs:=#[.int .i64 0,.int .i64 0]) ?_ 0 _ rfl;(with_reducible repeat (first|apply zzf|apply zzg|apply zze));refine zzj ?_ a6.out _;(with_reducible repeat (first|apply zzf|apply zzg|apply zze));refine zzj ?_ a6.out _;(with_reducible repeat (first|apply zzf|apply zzg|apply zze));exact a5.out) Try.underlying30 rfl (by kernel_rfl)) rfl ?_;exact ⟨zzR,zzh3⟩
def Qf.l0:Nat→List (S24)→List (S30)→Int→Option ((List (S30)))
 | 0,_,_,_=>none
 | k+1,x0,x3,x4=>if x4 < (x0.length:Int) then (if 0≤x4 then ((Qi.f ((rd_T24 x0 x4).f0) ((rd_T24 x0 x4).f1)).bind fun bt131=>(if x4 < (x3.length:Int) then (Qf.l0 k x0 (x3.set (x4:Int).toNat (⟨bt131.1,bt131.2⟩:S30)) (wrap64 (x4+1))) else (none))) else (none)) else (some x3)
def Qf.f (k:Nat) (l0:List (S24)):Option ((List (S30))):=if 0≤(l0.length:Int) then (if ((l0.length:Int):Int).toNat≤17592186044416 then (Qf.l0 k l0 (List.replicate ((l0.length:Int):Int).toNat z30) 0) else (none)) else (none)
set_option maxHeartbeats 8000000 in
theorem Qf.calls (k:Nat) (A0:Option Addr) (c0:Nat) (l0:List (S24)) (r:List (S30)) (w:World) (c5:Kd.C k24 w A0 l0.length l0) (c8:l0.length≤c0) (h:Qf.f k l0=some r) :
  Calls Try.prog 6 #[.slice A0 l0.length c0] w fun e w'=>∃ d0:Value,e = .returned (d0)∧Kd.R k30 30 w' w.heap.size (fun _=>True) d0 r∧Below w.heap.size w w':=by
 have hu24:=Try.underlying24;have hu30:=Try.underlying30;have d9:=zzm c5;have e7:=zzm c8;clear c5 c8;have HB:=zzm (Below.refl w.heap.size w);have H:(if 0≤(l0.length:Int) then (if ((l0.length:Int):Int).toNat≤17592186044416 then (Qf.l0 k l0 (List.replicate ((l0.length:Int):Int).toNat z30) 0) else (none)) else (none))=some r:=h;clear h;by_cases c2 : 0≤(l0.length:Int)
 ·
  rw [if_pos c2] at H;have d2:=eq_true c2;have d3:decide (0≤(l0.length:Int))=true:=decide_eq_true c2;clear c2;by_cases c3:((l0.length:Int):Int).toNat≤17592186044416
  ·
   rw [if_pos c3] at H;have d4:=eq_true c3;have d5:decide (((l0.length:Int):Int).toNat≤17592186044416)=true:=decide_eq_true c3;clear c3;obtain ⟨y127,hy127⟩:∃ y_:List (S30),y_=(List.replicate ((l0.length:Int):Int).toNat z30):=⟨_,rfl⟩;replace H:(Qf.l0 k l0 y127 0)=some r:=by first|(rw [hy127];with_reducible exact H)|(have H2_:=(Option.bind_some _ _).symm.trans H;rw [hy127];with_reducible exact H2_)|(have H2_:=(Option.bind_some _ _).symm.trans H;with_reducible exact H2_)|with_reducible exact H|(rw [hy127];exact H)|exact H
   have Ny127:=zzm hy127;clear hy127;have H':=zzm H;clear H;go_enter Try.func6,Try.ntmps6;go_wp2_with (first|((with_reducible refine gate_dst (N:=7) rfl ?_);refine Kd.R_make k30 _ 30 rfl (N:=7) rfl 26 _ _ rfl (l0.length:Int) rfl rfl Try.underlying26 (.agg #[(.int .i64 0),(.int .i64 0)]) 16 info30 rfl (by decide) (by omega) z30 (ok:=fun _=>True) (okp:=fun _=>True) (k30_mkM _ _ _ z30) (fun _ hk=>hk) trivial (zzt) (Nat.le_trans (Nat.mul_le_mul_right _ (zzt:(l0.length:Int).toNat≤17592186044416)) (by omega)) (Below.refl _ _) (Nat.le_refl _) ?_;intro d6 w4 ho5 hb hg_ hnew_;clear hg_ hnew_;(first|rw [← Ny127.out] at ho5|(simp only [Int.reduceToNat] at ho5;rw [← Ny127.out] at ho5));have a5:=zzm (Kd.R_lower ho5 (zzo zzh1));have a6:=zzm (zzp zzh1 hb);clear HB;have c4:=a5;have HB:=a6;clear a5 a6 hb ho5));go_loopg [4] k (fun kq v4 w'=>∃ (a1:List (S30)) (a0:Int),v4 = .int .i64 a0∧Aside0 (Qf.l0 kq l0 a1 a0=some r)∧Aside0 (kq≤k)∧Aside0 (Kd.R k30 30 w' w.heap.size (fun _=>True) d6 a1)∧Aside0 (Below w.heap.size w w'))
   case atStart=>exact ⟨(y127),(0),(by first|rfl|(simp;done)|(simp [*];done)),H',⟨Nat.le_refl _⟩,⟨by (with_reducible repeat (first|apply Kd.R_alloc|apply Kd.R_drewN|apply Kd.R_drew));exact c4.out⟩,⟨zzh1⟩⟩
   case round=>
    clear H';try clear c2
    try clear d2
    try clear d3
    try clear p2
    try clear c3
    try clear d4
    try clear d5
    obtain ⟨a1,a0,rfl,HA,HK1,a2,HB⟩:=hrel;cases gk with
    | zero=>exact absurd HA.out (by simp [Qf.l0])
    | succ k1=>
     have H:=HA.out;clear HA;simp only [Qf.l0] at H;by_cases c6:a0 < (l0.length:Int)
     ·
      rw [if_pos c6] at H;have d7:decide (a0 < (l0.length:Int))=true:=decide_eq_true c6;clear c6;by_cases c7 : 0≤a0
      ·
       rw [if_pos c7] at H;have e3:decide (0≤a0)=true:=decide_eq_true c7;clear c7;replace H:=zzH H;obtain ⟨⟨a3,a4⟩,d1,H⟩:=H;replace H:(if a0 < (a1.length:Int) then (Qf.l0 k1 l0 (a1.set (a0:Int).toNat (⟨a3,a4⟩:S30)) (wrap64 (a0+1))) else (none))=some r:=H;have A8:=zzm d1;clear d1;by_cases c9:a0 < (a1.length:Int)
       ·
        rw [if_pos c9] at H;have e4:decide (a0 < (a1.length:Int))=true:=decide_eq_true c9;clear c9;obtain ⟨y133,hy133⟩:∃ y_:List (S30),y_=(a1.set (a0:Int).toNat (⟨a3,a4⟩:S30)):=⟨_,rfl⟩;replace H:(Qf.l0 k1 l0 y133 (wrap64 (a0+1)))=some r:=by first|(rw [hy133];with_reducible exact H)|(have H2_:=(Option.bind_some _ _).symm.trans H;rw [hy133];with_reducible exact H2_)|(have H2_:=(Option.bind_some _ _).symm.trans H;with_reducible exact H2_)|with_reducible exact H|(rw [hy133];exact H)|exact H
        have Ny133:=zzm hy133;clear hy133;have H':=zzm H;clear H;have b2 : 0≤(a0:Int):=zzt;have b3:a0 < (l0.length:Int):=zzt;obtain ⟨e2,d8,a9,b0⟩:=at_T24 d9.out a0 b2 b3;cases d8;replace a9:=zzx HB.out a9;replace b0:=zzx HB.out b0;replace b2:=eq_true b2;replace b3:=eq_true b3;go_wp2_with (first|((with_reducible refine gate_callee (f:=7) rfl ?_);refine goesL_ (some 20) rfl rfl Try.func7 (by kernel_rfl) rfl #[.agg #[.int .i64 ((rd_T24 l0 a0).f0),.int .i64 ((rd_T24 l0 a0).f1)]] rfl zzM2 ?_;(with_reducible refine (Qi.calls ((rd_T24 l0 a0).f0) ((rd_T24 l0 a0).f1) a3 a4 _ A8.out).mono ?_);rintro e a8 ⟨rfl,hb⟩;refine ⟨_,rfl,?_⟩;have a5:=zzm (Kd.R_below (by (with_reducible repeat (first|apply Kd.R_alloc|apply Kd.R_drewN|apply Kd.R_drew));exact a2.out) hb);have a6:=zzm (zzp zzh1 hb);clear a2 HB;have a2:=a5;have HB:=a6;clear a5 a6;(try clear hb);(try clear hb2);(try clear hk);(try clear hi);have b4 : 0≤(a0:Int):=zzt;have b5:(a0:Int) < ((a1.length:Int):Int):=zzt;obtain ⟨go10,b6,eo10,b7,gl10,cl10,HG10⟩:=Kd.R_form a2.out (by omega);(first|cases eo10|(injection eo10 with ea_ en_ ec_;(first|subst ea_|(injection ea_ with ea_;subst ea_));subst ec_;clear en_));have GB10:=zzm b7;have GG10:=zzm HG10;clear b7 gl10 HG10;obtain ⟨e5,hcl10,hM10,b1,hfr10⟩:=Kd.R_elem a2.out z30 (a0:Int) b4 b5;obtain rfl:=k30_openM hM10;have e0:a8.cell? ⟨go10,(a0:Int).toNat * 2,none⟩=some (.int .i64 ((Qa a1 a0).f0)):=b1 0 _ rfl;have e1:a8.cell? ⟨go10,(a0:Int).toNat * 2+1,none⟩=some (.int .i64 ((Qa a1 a0).f1)):=b1 1 _ rfl;have hf10_0:a8.frozen? ⟨go10,(a0:Int).toNat * 2,none⟩=false:=hfr10 0;have hf10_1:a8.frozen? ⟨go10,(a0:Int).toNat * 2+1,none⟩=false:=hfr10 1;clear hcl10 b1 hfr10 hM10;replace b4:=eq_true b4;replace b5:=eq_true b5;have HX12:=zzm (show Kd.R k30 30 a8 w.heap.size (fun _=>True) (.slice (some ⟨go10,0,none⟩) a1.length b6) a1 from (by (with_reducible repeat (first|apply Kd.R_alloc|apply Kd.R_drewN|apply Kd.R_drew));exact a2.out));obtain ⟨e6,hcl12,hM12,a7,hfr12⟩:=Kd.R_elem HX12.out z30 (a0:Int) (zzt) (by have h_:(a0:Int) < ((a1.length:Int):Int):=zzt;first|exact h_|(have e_:=(Kd.R_reads' a2.out).1;omega)|simpa using h_);obtain rfl:=k30_openM hM12;have HP12:=Kd.R_seg HX12.out (a0:Int) (zzt) (by have h_:(a0:Int) < ((a1.length:Int):Int):=zzt;first|exact h_|(have e_:=(Kd.R_reads' a2.out).1;omega)|simpa using h_) (seg:=[.int .i64 a3,.int .i64 a4]) (j:=0) hcl12 a7 (show 2≤2 from by decide) (x':=(⟨a3,a4⟩:S30)) (k30_mkM _ _ _ (⟨a3,a4⟩:S30)) (fun _ hk=>hk);have b8:=a7 0 _ rfl;(try simp only [show (k30).sz=2 from rfl,Nat.mul_one,Nat.add_zero] at b8);have hf12_0:=hfr12 0;(try simp only [show (k30).sz=2 from rfl,Nat.mul_one,Nat.add_zero] at hf12_0);have b9:=a7 1 _ rfl;(try simp only [show (k30).sz=2 from rfl,Nat.mul_one,Nat.add_zero] at b9);have hf12_1:=hfr12 1;(try simp only [show (k30).sz=2 from rfl,Nat.mul_one,Nat.add_zero] at hf12_1);clear hcl12 a7 hfr12 hM12)|((with_reducible refine gate_store (t:=30) (p:=21) rfl ?_);refine store_event (t:=30) (p:=21) (v:=?vo_w13) (w1:=((a8.setCell ⟨go10,(a0:Int).toNat * 2,none⟩ (.int .i64 a3)).setCell ⟨go10,(a0:Int).toNat * 2+1,none⟩ (.int .i64 a4))) ?hg ?ho ?hn ?hr ?_;(case ho=>rfl);(case hg=>rfl);(case hn=>rfl);(case hr=>first|(go_simp;done)|(go_simp;rfl));intro c1 hw;have hg:a8.grownBy c1 (some go10):=(by rw [hw];exact HP12.2);have hp_:Kd.R k30 30 c1 w.heap.size (fun _=>True) (.slice (some ⟨go10,0,none⟩) a1.length b6) y133:=(by rw [hw,Ny133.out];exact HP12.1);clear HP12;have a5:=zzm (hp_);have a6:=zzm ((by rw [hw];exact zzd (zzd (HB.out) GB10.out) GB10.out:Below w.heap.size w c1));clear a2 HB;have a2:=a5;have HB:=a6;clear a5 a6 hg hw hp_));go_roundg k1
        case measure=>have:=HK1.out;omega
        case rel=>exact ⟨(y133),(wrap64 (a0+1)),(by first|rfl|(simp;done)|(simp [*];done)),H',⟨by have:=HK1.out;omega⟩,⟨by (with_reducible repeat (first|apply Kd.R_alloc|apply Kd.R_drewN|apply Kd.R_drew));exact a2.out⟩,⟨zzh1⟩⟩
       ·
        rw [if_neg c9] at H;exact absurd H (by simp)
      ·
       rw [if_neg c7] at H;exact absurd H (by simp)
     ·
      rw [if_neg c6] at H;have d7:decide (a0 < (l0.length:Int))=false:=decide_eq_false c6;clear c6;obtain rfl:=Option.some.inj H;go_wp2;go_ret;exact ⟨_,zzR,by (with_reducible repeat (first|apply Kd.R_alloc|apply Kd.R_drewN|apply Kd.R_drew));exact a2.out,zzh1⟩
  ·
   rw [if_neg c3] at H;exact absurd H (by simp)
 ·
  rw [if_neg c2] at H;exact absurd H (by simp)
def Ql.f (l0:List S30):Option (List S30):=if l0.length < 8796093022208 then some l0 else none
set_option maxHeartbeats 8000000 in
theorem Ql.calls (A0:Option Addr) (c0:Nat) (l0:List (S30)) (r:List (S30)) (w:World) (a0:Kd.C k30 w A0 l0.length l0) (a1:l0.length≤c0) (h:Ql.f l0=some r) :
  Calls Try.prog 13 #[.slice A0 l0.length c0] w fun e w'=>∃ a2:Value,e = .returned (a2)∧Kd.R k30 30 w' w.heap.size (fun _=>True) a2 r∧Below w.heap.size w w':=by
 unfold Ql.f at h;by_cases hlt:l0.length < 8796093022208
 ·
  rw [if_pos hlt] at h;obtain rfl:=Option.some.inj h;have LM:=zzm hlt;clear hlt h;have a3:=zzm a0;have a7:=zzm a1;clear a0 a1;have HB:=zzm (Below.refl w.heap.size w);have a8:∀ (w:World) (a:Option Addr) (n c n' c' : Nat),(binOp .eql 26 (.slice a n c) (.slice none n' c')).run Try.prog w = .ok (.bool a.isNone) w:=fun w a n c n' c'=>Lib.run_eql_slice_nil w _ _ a n c n' c' Try.underlying26;cases A0 with
  | none=>
   have hl:l0 = []:=by
    cases l0 with
    | nil=>rfl
    | cons a l=>
     obtain ⟨ad,e,_⟩:=a3.out.2.2 (by simp);cases e
   subst hl;go_enter Try.func13,Try.ntmps13;go_wp2;go_ret;exact ⟨_,rfl,Kd.R_nil _ _ _ _ _,HB.out⟩
  | some ad=>
   obtain ⟨y,hy⟩:∃ y:List S30,y = []:=⟨_,rfl⟩;have Ny:=zzm hy;clear hy;go_enter Try.func13,Try.ntmps13;go_wp2_with (first
    | ((with_reducible refine gate_dst (N:=5) rfl ?_);refine Kd.R_lit k30 _ 30 ?hg (N:=5) ?hd (xs:=([]:List (S30))) (inner:=[]) (ok:=fun _=>True) (okp:=fun _=>True) ?hr ?hp (fun _ hk=>hk) trivial (Below.refl _ _) (Nat.le_refl _) (by simp) ?_;(case hd=>rfl);(case hg=>rfl);(case hr=>first|(go_simp;done)|(go_simp;rfl));(case hp=>exact (Reps.none _ _));intro v1 w1 ho1 hb hg_ hnew_;clear hg_ hnew_;rw [← Ny.out] at ho1;have a4:=zzm (zzp HB.out hb);have a5:=zzm ho1;clear HB;have HB:=a4;have HO:=a5;clear a4 a5 hb ho1)
    | ((with_reducible refine gate_dst (N:=7) rfl ?_);refine Kd.R_append_rows k30 (w0:=w) w.heap.size rfl (.tmp 5) (.tmp 6) 26 30 (.agg #[(.int .i64 0),(.int .i64 0)]) 16 rfl Try.underlying26 info30 rfl (by decide) (by omega) v1 y l0 _ _ _ (fun _=>True) (fun _=>False) rfl rfl ?aO ?aR (fun _ _ h=>h) (fun _ h=>h.elim) ?aF ?aB ?aS ?aL ?_;(case aR=>exact (Kd.C_below a3.out HB.out));(case aB=>exact HB.out);(case aF=>exact fun _ _=>trivial);(case aO=>exact HO.out);(case aS=>exact HB.out.size);(case aL=>have:=LM.out;rw [Ny.out];simp only [List.length_nil];omega);intro v2 w2 ho2 hb2 hg2 hat2;rw [Ny.out,List.nil_append] at ho2;have a6:=zzm ho2;have HB2:=zzm hb2;clear ho2 hb2 hg2 hat2))
   go_ret;exact ⟨_,rfl,a6.out,HB2.out⟩
 ·
  rw [if_neg hlt] at h;cases h

set_option linter.unusedVariables false
set_option linter.unusedSimpArgs false
def Qq.f (l0:List S30):Option (List S30):=some l0
def cl:Value→Value
 | .slice A n _=>.slice A n n
 | v=>v
theorem cl_slice (A:Option Addr) (n c:Nat):cl (.slice A n c) = .slice A n n:=rfl
set_option maxHeartbeats 8000000 in
theorem Qq.calls2 (A0:Option Addr) (c0:Nat) (l0:List (S30)) (w:World) (hc:l0.length≤c0) :
  Calls Try.prog 15 #[.slice A0 l0.length c0] w fun e w'=>e = .returned (.slice A0 l0.length l0.length)∧Below w.heap.size w w':=by
 obtain ⟨i0,hi0,_,hsz,_⟩:=info_parts info30;have hel:Try.prog.elem 26=30:=by simp [Program.elem,Try.underlying26]
 have hu:Try.prog.underlying 26=some (.slice (Try.prog.elem 26)):=by rw [hel];exact Try.underlying26
 have ha:(A0.map fun x=>x.add 0)=A0:=by cases A0 <;> simp [Addr.add]
 have hcut:∀ W:World,(Instr.slice 26 (.slice A0 l0.length c0) none (some (.int .i64 (l0.length:Int))) (some (.int .i64 (l0.length:Int)))).run Try.prog W = .ok (.slice A0 l0.length l0.length) W:=by
  intro W;rw [run_slice_hm W 26 A0 l0.length c0 hu .i64 .i64 (l0.length:Int) (l0.length:Int) (by omega) (by omega) (by omega),hel];simp [sizeOf,typeInfo,hi0,sliced,Result.andThen,ha]
 clear hu hel hi0 ha hc hsz;go_enter Try.func15,Try.ntmps15;go_wp2;go_ret;exact ⟨rfl,Below.refl _ _⟩

set_option linter.unusedVariables false
set_option linter.unusedSimpArgs false
def Qj.f (a0:Int) (a1:Int) (a2:Int):Option (Bool):=if a0 ≥ a1 then (some (decide (a0≤a2))) else (some false)
set_option maxHeartbeats 8000000 in
theorem Qj.calls (a0:Int) (a1:Int) (a2:Int) (r:Bool) (w:World) (h:Qj.f a0 a1 a2=some r) :
  Calls Try.prog 18 #[.int .i64 a0,.int .i64 a1,.int .i64 a2] w fun e w'=>e = .returned (.bool r)∧Drawn0 w w':=by
 have H:(if a0 ≥ a1 then (some (decide (a0≤a2))) else (some false))=some r:=h;clear h;by_cases c4:a0 ≥ a1
 ·
  rw [if_pos c4] at H;have c4b0:decide (a1≤a0)=true:=decide_eq_true c4;clear c4;obtain rfl:=Option.some.inj H;go_enter Try.func18,Try.ntmps18;go_wp2;go_ret;exact ⟨by first|rfl|(simp;done)|(simp [*];done),by repeat (first|exact Drawn0.refl _|apply Drawn0.step)⟩
 ·
  rw [if_neg c4] at H;have c4b0:decide (a1≤a0)=false:=decide_eq_false c4;clear c4;obtain rfl:=Option.some.inj H;go_enter Try.func18,Try.ntmps18;go_wp2;go_ret;exact ⟨by first|rfl|(simp;done)|(simp [*];done),by repeat (first|exact Drawn0.refl _|apply Drawn0.step)⟩

set_option linter.unusedVariables false
set_option linter.unusedSimpArgs false
mutual
def Qc.l0:Nat→List (S30)→List (S30)→Int→Int→Option (Bool)
 | 0,_,_,_,_=>none
 | k+1,x0,x8,x9,x10=>if x10 < x9 then (if 0≤x10 then (if x10 < (x8.length:Int) then ((Qj.f ((Qa x8 x10).f0) 0 999).bind fun t136=>(if t136=true then ((Qj.f ((Qa x8 x10).f1) 0 99999).bind fun t137=>(Qc.j1 k x0 x10 x8 x9 x10 (!t137) ((Qa x8 x10).f0) ((Qa x8 x10).f1))) else (Qc.j1 k x0 x10 x8 x9 x10 true ((Qa x8 x10).f0) ((Qa x8 x10).f1)))) else (none)) else (none)) else (some true)
def Qc.j1:Nat→List (S30)→Int→List (S30)→Int→Int→Bool→Int→Int→Option (Bool)
 | 0,_,_,_,_,_,_,_,_=>none
 | k+1,x0,x3,x8,x9,x10,x24,x136000,x136001=>if x24=true then (some false) else (if x3 > 0 then (if 0≤(wrap64 (x3 - 1)) then (if (wrap64 (x3 - 1)) < (x0.length:Int) then (if ((Qa x0 (wrap64 (x3 - 1))).f0) ≥ x136000 then (some false) else (if ((Qa x0 (wrap64 (x3 - 1))).f1) ≥ x136001 then (some false) else (Qc.l0 k x0 x8 x9 (wrap64 (x10+1))))) else (none)) else (none)) else (Qc.l0 k x0 x8 x9 (wrap64 (x10+1))))
end
def Qc.f (k:Nat) (l0:List (S30)):Option (Bool):=if (l0.length:Int) > 8 then (some false) else (Qc.l0 k l0 l0 (l0.length:Int) 0)
set_option maxHeartbeats 8000000 in
theorem Qc.calls (k:Nat) (A0:Option Addr) (c0:Nat) (l0:List (S30)) (r:Bool) (w:World) (h4:Kd.C k30 w A0 l0.length l0) (h5:l0.length≤c0) (h:Qc.f k l0=some r) :
  Calls Try.prog 14 #[.slice A0 l0.length c0] w fun e w'=>e = .returned (.bool r)∧Below w.heap.size w w':=by
 have hu30:=Try.underlying30;have d2:=zzm h4;have l2:=zzm h5;clear h4 h5;have HB:=zzm (Below.refl w.heap.size w);have H:(if (l0.length:Int) > 8 then (some false) else (Qc.l0 k l0 l0 (l0.length:Int) 0))=some r:=h;clear h;by_cases c2:(l0.length:Int) > 8
 ·
  rw [if_pos c2] at H;have e1:decide (8 < (l0.length:Int))=true:=decide_eq_true c2;have e2:decide (8 < l0.length)=true:=decide_eq_true (by omega);clear c2;obtain rfl:=Option.some.inj H;go_enter Try.func14,Try.ntmps14;go_wp2;repeat (go_quiet (fail);try go_wp2)
  go_ret;exact ⟨zzR,zzh1⟩
 ·
  rw [if_neg c2] at H;have e1:decide (8 < (l0.length:Int))=false:=decide_eq_false c2;have e2:decide (8 < l0.length)=false:=decide_eq_false (by omega);clear c2;have H':=zzm H;clear H;go_enter Try.func14,Try.ntmps14;go_wp2;repeat (go_quiet (fail);try go_wp2)
  go_loopg [10] k (fun kq k6 w'=>∃ (a0:Int),k6 = .int .i64 a0∧Aside0 (Qc.l0 kq l0 l0 (l0.length:Int) a0=some r)∧Aside0 (kq≤k)∧Aside0 (Below w.heap.size w w'))
  case atStart=>exact ⟨(0),(by first|rfl|(simp;done)|(simp [*];done)),H',⟨Nat.le_refl _⟩,⟨zzh1⟩⟩
  case round=>
   clear H';try clear c1
   try clear c2
   try clear e1
   try clear e2
   try clear p2
   obtain ⟨a0,rfl,HA,HK1,HB⟩:=hrel;cases gk with
   | zero=>exact absurd HA.out (by simp [Qc.l0])
   | succ k1=>
    have H:=HA.out;clear HA;simp only [Qc.l0] at H;by_cases c3:a0 < (l0.length:Int)
    ·
     rw [if_pos c3] at H;have g7:decide (a0 < (l0.length:Int))=true:=decide_eq_true c3;clear c3;by_cases c4 : 0≤a0
     ·
      rw [if_pos c4] at H;have h6:decide (0≤a0)=true:=decide_eq_true c4;clear c4;by_cases c5:a0 < (l0.length:Int)
      ·
       rw [if_pos c5] at H;have h7:decide (a0 < (l0.length:Int))=true:=decide_eq_true c5;clear c5;have g8:=zzm H;clear H;have d6 : 0≤(a0:Int):=zzt;have d7:a0 < (l0.length:Int):=zzt;obtain ⟨b2,h8,b4,b5⟩:=Qm d2.out a0 d6 d7;cases h8;replace b4:=zzx HB.out b4;replace b5:=zzx HB.out b5;replace d6:=eq_true d6;replace d7:=eq_true d7;go_upto_region 6 with (first|((with_reducible refine gate_dst (N:=4) rfl ?_);refine box_event ?hg (N:=4) ?hd (cs:=#[.int .i64 0,.int .i64 0]) (t:=30) ?hr ?_;(case hd=>rfl);(case hg=>rfl);(case hr=>first|(go_simp;done)|(go_simp;rfl));intro a5 hg w7 hbox hb;have b6:=zzm (zzp zzh1 hb);have b7:=zzm (hbox);have b8:=zzm ((by rw [hg];exact (zzo zzh1):w.heap.size≤a5));have b9:=zzm ((by rw [hg];exact (zzo zzh1):w.heap.size≤a5));clear HB;have HB:=b6;have a2:=b7;have e4:=b8;have e5:=b9;clear b6 b7 b8 b9 hb hbox hg;obtain ⟨c7,c8,c9,d0⟩:=zzc2 a2.out));repeat (go_quiet (first|((with_reducible refine gate_dst (N:=4) rfl ?_);refine box_event ?hg (N:=4) ?hd (cs:=#[.int .i64 0,.int .i64 0]) (t:=30) ?hr ?_;(case hd=>rfl);(case hg=>rfl);(case hr=>first|(go_simp;done)|(go_simp;rfl));intro a5 hg w7 hbox hb;have b6:=zzm (zzp zzh1 hb);have b7:=zzm (hbox);have b8:=zzm ((by rw [hg];exact (zzo zzh1):w.heap.size≤a5));have b9:=zzm ((by rw [hg];exact (zzo zzh1):w.heap.size≤a5));clear HB;have HB:=b6;have a2:=b7;have e4:=b8;have e5:=b9;clear b6 b7 b8 b9 hb hbox hg;obtain ⟨c7,c8,c9,d0⟩:=zzc2 a2.out));go_upto_region 6 with (first|((with_reducible refine gate_dst (N:=4) rfl ?_);refine box_event ?hg (N:=4) ?hd (cs:=#[.int .i64 0,.int .i64 0]) (t:=30) ?hr ?_;(case hd=>rfl);(case hg=>rfl);(case hr=>first|(go_simp;done)|(go_simp;rfl));intro a5 hg w7 hbox hb;have b6:=zzm (zzp zzh1 hb);have b7:=zzm (hbox);have b8:=zzm ((by rw [hg];exact (zzo zzh1):w.heap.size≤a5));have b9:=zzm ((by rw [hg];exact (zzo zzh1):w.heap.size≤a5));clear HB;have HB:=b6;have a2:=b7;have e4:=b8;have e5:=b9;clear b6 b7 b8 b9 hb hbox hg;obtain ⟨c7,c8,c9,d0⟩:=zzc2 a2.out)))
       (try simp only [Act.put,zzq,zzr,zzs]);go_cut [24] (fun k7 wc=>∃ (kq:Nat) (c6:Bool),k7 = .bool c6∧Aside0 (Qc.j1 kq l0 a0 l0 (l0.length:Int) a0 c6 ((Qa l0 a0).f0) ((Qa l0 a0).f1)=some r)∧Aside0 (kq≤k1)∧Aside0 (wc.heap[a5]? = some (.cells #[.int .i64 ((Qa l0 a0).f0),.int .i64 ((Qa l0 a0).f1)] 30 (0,0)))∧Aside0 (Below w.heap.size w wc))
       case first=>
        have H:=g8.out;clear g8;obtain ⟨h9,A9,H⟩:=zzG H;by_cases e0:h9=true
        ·
         subst e0;replace H:=zzIt H;obtain ⟨d8,g9,H⟩:=zzG H;have H':=zzm H;clear H;obtain ⟨e9,g0,g1,g2⟩:=zzc2 a2.out;go_wp2_with (first|(go_at_call 18;(with_reducible refine (Qj.calls ((Qa l0 a0).f0) 0 999 true _ A9.out).mono ?_);rintro e w' ⟨rfl,⟨nd,rfl⟩⟩;(try first|exact ⟨rfl,_,World.drewN_drewN _ _ _⟩|exact ⟨rfl,_,Eq.trans (World.drewN_drewN _ _ _) (congrArg (World.drewN _) (Nat.add_assoc _ _ _))⟩))|(go_at_call 18;(with_reducible refine (Qj.calls ((Qa l0 a0).f1) 0 99999 d8 _ g9.out).mono ?_);rintro e w' ⟨rfl,⟨nd,rfl⟩⟩;(try first|exact ⟨rfl,_,World.drewN_drewN _ _ _⟩|exact ⟨rfl,_,Eq.trans (World.drewN_drewN _ _ _) (congrArg (World.drewN _) (Nat.add_assoc _ _ _))⟩)));repeat (go_quiet (first|(go_at_call 18;(with_reducible refine (Qj.calls ((Qa l0 a0).f0) 0 999 true _ A9.out).mono ?_);rintro e w' ⟨rfl,⟨nd,rfl⟩⟩;(try first|exact ⟨rfl,_,World.drewN_drewN _ _ _⟩|exact ⟨rfl,_,Eq.trans (World.drewN_drewN _ _ _) (congrArg (World.drewN _) (Nat.add_assoc _ _ _))⟩))|(go_at_call 18;(with_reducible refine (Qj.calls ((Qa l0 a0).f1) 0 99999 d8 _ g9.out).mono ?_);rintro e w' ⟨rfl,⟨nd,rfl⟩⟩;(try first|exact ⟨rfl,_,World.drewN_drewN _ _ _⟩|exact ⟨rfl,_,Eq.trans (World.drewN_drewN _ _ _) (congrArg (World.drewN _) (Nat.add_assoc _ _ _))⟩)));try go_wp2_with (first|(go_at_call 18;(with_reducible refine (Qj.calls ((Qa l0 a0).f0) 0 999 true _ A9.out).mono ?_);rintro e w' ⟨rfl,⟨nd,rfl⟩⟩;(try first|exact ⟨rfl,_,World.drewN_drewN _ _ _⟩|exact ⟨rfl,_,Eq.trans (World.drewN_drewN _ _ _) (congrArg (World.drewN _) (Nat.add_assoc _ _ _))⟩))|(go_at_call 18;(with_reducible refine (Qj.calls ((Qa l0 a0).f1) 0 99999 d8 _ g9.out).mono ?_);rintro e w' ⟨rfl,⟨nd,rfl⟩⟩;(try first|exact ⟨rfl,_,World.drewN_drewN _ _ _⟩|exact ⟨rfl,_,Eq.trans (World.drewN_drewN _ _ _) (congrArg (World.drewN _) (Nat.add_assoc _ _ _))⟩))))
         go_meet
         case rel=>exact ⟨_,(!d8),(by first|rfl|(simp;done)|(simp [*];done)),H',⟨by have:=HK1.out;first|omega|exact Nat.le_refl _⟩,⟨by (with_reducible repeat (first|apply zzf|apply zzg|apply zze));refine zzi (cs:=#[.int .i64 ((Qa l0 a0).f0),.int .i64 0]) ?_ 1 _ rfl;refine zzi (cs:=#[.int .i64 0,.int .i64 0]) ?_ 0 _ rfl;(with_reducible repeat (first|apply zzf|apply zzg|apply zze));exact a2.out⟩,⟨zzh3⟩⟩
        ·
         replace e0:=Bool.eq_false_iff.mpr e0;subst e0;replace H:=zzIf H;have H':=zzm H;clear H;obtain ⟨g3,g4,g5,g6⟩:=zzc2 a2.out;go_wp2_with (first|(go_at_call 18;(with_reducible refine (Qj.calls ((Qa l0 a0).f0) 0 999 false _ A9.out).mono ?_);rintro e w' ⟨rfl,⟨nd,rfl⟩⟩;(try first|exact ⟨rfl,_,World.drewN_drewN _ _ _⟩|exact ⟨rfl,_,Eq.trans (World.drewN_drewN _ _ _) (congrArg (World.drewN _) (Nat.add_assoc _ _ _))⟩)));repeat (go_quiet (first|(go_at_call 18;(with_reducible refine (Qj.calls ((Qa l0 a0).f0) 0 999 false _ A9.out).mono ?_);rintro e w' ⟨rfl,⟨nd,rfl⟩⟩;(try first|exact ⟨rfl,_,World.drewN_drewN _ _ _⟩|exact ⟨rfl,_,Eq.trans (World.drewN_drewN _ _ _) (congrArg (World.drewN _) (Nat.add_assoc _ _ _))⟩)));try go_wp2_with (first|(go_at_call 18;(with_reducible refine (Qj.calls ((Qa l0 a0).f0) 0 999 false _ A9.out).mono ?_);rintro e w' ⟨rfl,⟨nd,rfl⟩⟩;(try first|exact ⟨rfl,_,World.drewN_drewN _ _ _⟩|exact ⟨rfl,_,Eq.trans (World.drewN_drewN _ _ _) (congrArg (World.drewN _) (Nat.add_assoc _ _ _))⟩))))
         go_meet
         case rel=>exact ⟨_,(true),(by first|rfl|(simp;done)|(simp [*];done)),H',⟨by have:=HK1.out;first|omega|exact Nat.le_refl _⟩,⟨by (with_reducible repeat (first|apply zzf|apply zzg|apply zze));refine zzi (cs:=#[.int .i64 ((Qa l0 a0).f0),.int .i64 0]) ?_ 1 _ rfl;refine zzi (cs:=#[.int .i64 0,.int .i64 0]) ?_ 0 _ rfl;(with_reducible repeat (first|apply zzf|apply zzg|apply zze));exact a2.out⟩,⟨zzh3⟩⟩
       case rest=>
        clear g8;try clear c1
        try clear p1
        try clear q1
        try clear l3
        try clear c2
        try clear e1
        try clear e2
        try clear p2
        try clear c3
        try clear g7
        try clear c4
        try clear h6
        try clear c5
        try clear h7
        try clear e0
        try clear l4
        try clear l5
        try clear l1
        try clear e9
        try clear g0
        try clear g3
        try clear g4
        try clear c7
        try clear c8
        try clear g1
        try clear g2
        try clear g5
        try clear g6
        try clear c9
        try clear d0
        try clear b4
        try clear b5
        try clear d6
        try clear p2
        try clear d7
        obtain ⟨kq,c6,rfl,HA,HJ5,a2,HB⟩:=hcut;cases kq with
        | zero=>exact absurd HA.out (by simp [Qc.j1])
        | succ h0=>
         have H:=HA.out;clear HA;simp only [Qc.j1] at H;by_cases e6:c6=true
         ·
          subst e6;replace H:=zzIt H;obtain rfl:=Option.some.inj H;go_wp2;repeat (go_quiet (fail);try go_wp2)
          go_ret;exact ⟨zzR,zzh3⟩
         ·
          replace e6:=Bool.eq_false_iff.mpr e6;subst e6;replace H:=zzIf H;by_cases d3:a0 > 0
          ·
           rw [if_pos d3] at H;have h1:decide (0 < a0)=true:=decide_eq_true d3;clear d3;obtain ⟨a1,hji16⟩:∃ j_:Int,(wrap64 (a0 - 1))=j_:=⟨_,rfl⟩;replace H:(if 0≤(a1) then (if (a1) < (l0.length:Int) then (if ((Qa l0 (a1)).f0) ≥ ((Qa l0 a0).f0) then (some false) else (if ((Qa l0 (a1)).f1) ≥ ((Qa l0 a0).f1) then (some false) else (Qc.l0 h0 l0 l0 (l0.length:Int) (wrap64 (a0+1))))) else (none)) else (none))=some r:=by first|(rw [hji16] at H;exact H)|(simp only [hji16] at H ⊢;exact H)
           have hji16w:(IntKind.i64.wrap (a0 - 1))=a1:=(i64_w _).trans hji16;by_cases e7 : 0≤(a1)
           ·
            rw [if_pos e7] at H;have k8:decide (0≤(a1))=true:=decide_eq_true e7;clear e7;by_cases e8:(a1) < (l0.length:Int)
            ·
             rw [if_pos e8] at H;have k9:decide ((a1) < (l0.length:Int))=true:=decide_eq_true e8;clear e8;by_cases d4:((Qa l0 (a1)).f0) ≥ ((Qa l0 a0).f0)
             ·
              rw [if_pos d4] at H;have h2:decide (((Qa l0 a0).f0)≤((Qa l0 (a1)).f0))=true:=decide_eq_true d4;clear d4;obtain rfl:=Option.some.inj H;have a6 : 0≤((a1):Int):=zzt;have a7:(a1) < (l0.length:Int):=zzt;obtain ⟨b3,d1,a3,a4⟩:=Qm d2.out (a1) a6 a7;obtain rfl:b2=b3:=(by injection d1);replace a3:=zzx HB.out a3;replace a4:=zzx HB.out a4;replace a6:=eq_true a6;replace a7:=eq_true a7;obtain ⟨j3,j4,j5,j6⟩:=zzc2 a2.out;go_wp2;repeat (go_quiet (fail);try go_wp2)
              go_ret;exact ⟨by first|rfl|(simp [errW_none,errW_some] <;> rfl)|(simp only [← hji16];first|rfl|(simp [errW_none,errW_some] <;> rfl))|(simp [*,errW_none,errW_some] <;> rfl),zzh3⟩
             ·
              rw [if_neg d4] at H;have h2:decide (((Qa l0 a0).f0)≤((Qa l0 (a1)).f0))=false:=decide_eq_false d4;clear d4;by_cases d5:((Qa l0 (a1)).f1) ≥ ((Qa l0 a0).f1)
              ·
               rw [if_pos d5] at H;have h3:decide (((Qa l0 a0).f1)≤((Qa l0 (a1)).f1))=true:=decide_eq_true d5;clear d5;obtain rfl:=Option.some.inj H;have a6 : 0≤((a1):Int):=zzt;have a7:(a1) < (l0.length:Int):=zzt;obtain ⟨b3,d1,a3,a4⟩:=Qm d2.out (a1) a6 a7;obtain rfl:b2=b3:=(by injection d1);replace a3:=zzx HB.out a3;replace a4:=zzx HB.out a4;replace a6:=eq_true a6;replace a7:=eq_true a7;obtain ⟨j7,j8,j9,k0⟩:=zzc2 a2.out;have b0 : 0≤((a1):Int):=zzt;have b1:(a1) < (l0.length:Int):=zzt;obtain ⟨d9,e3,a8,a9⟩:=Qm d2.out (a1) b0 b1;obtain rfl:b2=d9:=(by injection e3);replace a8:=zzx HB.out a8;replace a9:=zzx HB.out a9;replace b0:=eq_true b0;replace b1:=eq_true b1;go_wp2;repeat (go_quiet (fail);try go_wp2)
               go_ret;exact ⟨by first|rfl|(simp [errW_none,errW_some] <;> rfl)|(simp only [← hji16];first|rfl|(simp [errW_none,errW_some] <;> rfl))|(simp [*,errW_none,errW_some] <;> rfl),zzh3⟩
              ·
               rw [if_neg d5] at H;have h3:decide (((Qa l0 a0).f1)≤((Qa l0 (a1)).f1))=false:=decide_eq_false d5;clear d5;have H':=zzm H;clear H;have a6 : 0≤((a1):Int):=zzt;have a7:(a1) < (l0.length:Int):=zzt;obtain ⟨b3,d1,a3,a4⟩:=Qm d2.out (a1) a6 a7;obtain rfl:b2=b3:=(by injection d1);replace a3:=zzx HB.out a3;replace a4:=zzx HB.out a4;replace a6:=eq_true a6;replace a7:=eq_true a7;obtain ⟨k2,k3,k4,k5⟩:=zzc2 a2.out;have b0 : 0≤((a1):Int):=zzt;have b1:(a1) < (l0.length:Int):=zzt;obtain ⟨d9,e3,a8,a9⟩:=Qm d2.out (a1) b0 b1;obtain rfl:b2=d9:=(by injection e3);replace a8:=zzx HB.out a8;replace a9:=zzx HB.out a9;replace b0:=eq_true b0;replace b1:=eq_true b1;go_wp2;repeat (go_quiet (fail);try go_wp2)
               go_roundg h0
               case measure=>have:=HK1.out;have:=HJ5.out;omega
               case rel=>exact ⟨(wrap64 (a0+1)),(by first|rfl|(simp;done)|(simp [*];done)),H',⟨by have:=HK1.out;have:=HJ5.out;omega⟩,⟨zzh3⟩⟩
            ·
             rw [if_neg e8] at H;exact absurd H (by simp)
           ·
            rw [if_neg e7] at H;exact absurd H (by simp)
          ·
           rw [if_neg d3] at H;have h1:decide (0 < a0)=false:=decide_eq_false d3;clear d3;have H':=zzm H;clear H;go_wp2;repeat (go_quiet (fail);try go_wp2)
           go_roundg h0
           case measure=>have:=HK1.out;have:=HJ5.out;omega
           case rel=>exact ⟨(wrap64 (a0+1)),(by first|rfl|(simp;done)|(simp [*];done)),H',⟨by have:=HK1.out;have:=HJ5.out;omega⟩,⟨zzh3⟩⟩
      ·
       rw [if_neg c5] at H;exact absurd H (by simp)
     ·
      rw [if_neg c4] at H;exact absurd H (by simp)
    ·
     rw [if_neg c3] at H;have g7:decide (a0 < (l0.length:Int))=false:=decide_eq_false c3;clear c3;obtain rfl:=Option.some.inj H;go_wp2;repeat (go_quiet (fail);try go_wp2)
     go_ret;exact ⟨zzR,zzh1⟩

set_option linter.unusedVariables false
set_option linter.unusedSimpArgs false
def Qh.f (k:Nat) (l0:List (S30)) (a1_0:Int) (a1_1:Int):Option ((List (S30))×Bool):=(Ql.f l0).bind fun t141=>((some (([(⟨a1_0,a1_1⟩:S30)]:List (S30)):List (S30))).bind fun y144=>(if t141.length+y144.length < 8796093022208 then ((some (t141++y144:List (S30))).bind fun y147=>((Qc.f k y147).bind fun t150=>(if t150=true then ((Qq.f y147).bind fun t151=>(some (t151,true))) else (some (([]:List (S30)),false))))) else (none)))
set_option maxHeartbeats 8000000 in
theorem Qh.calls (k:Nat) (A0:Option Addr) (c0:Nat) (l0:List (S30)) (a2:Int) (a3:Int) (r1:List (S30)) (r2:Bool) (w:World) (c9:Kd.C k30 w A0 l0.length l0) (d0:l0.length≤c0) (h:Qh.f k l0 a2 a3=some (r1,r2)) :
  Calls Try.prog 8 #[.slice A0 l0.length c0,.agg #[.int .i64 a2,.int .i64 a3]] w fun e w'=>∃ d1:Value,e = .returned (.tuple #[cl d1,.bool r2])∧Kd.R k30 30 w' w.heap.size (fun k_=>(w.heap.size≤k_)) d1 r1∧Below w.heap.size w w':=by
 have hu30:=Try.underlying30;have c3:=zzm c9;have c5:=zzm d0;clear c9 d0;have HB:=zzm (Below.refl w.heap.size w);have H:((Ql.f l0).bind fun b2=>((some (([(⟨a2,a3⟩:S30)]:List (S30)):List (S30))).bind fun y144=>(if b2.length+y144.length < 8796093022208 then ((some (b2++y144:List (S30))).bind fun y147=>((Qc.f k y147).bind fun b5=>(if b5=true then ((Qq.f y147).bind fun b6=>(some (b6,true))) else (some (([]:List (S30)),false))))) else (none))))=some (r1,r2):=h;clear h;obtain ⟨b2,A3,H⟩:=zzG H;obtain ⟨y144,hy144⟩:∃ y_:List (S30),y_=(([(⟨a2,a3⟩:S30)]:List (S30))):=⟨_,rfl⟩;replace H:(if b2.length+y144.length < 8796093022208 then ((some (b2++y144:List (S30))).bind fun y147=>((Qc.f k y147).bind fun b5=>(if b5=true then ((Qq.f y147).bind fun b6=>(some (b6,true))) else (some (([]:List (S30)),false))))) else (none))=some (r1,r2):=by first|(rw [hy144];with_reducible exact H)|(have H2_:=(Option.bind_some _ _).symm.trans H;rw [hy144];with_reducible exact H2_)|(have H2_:=(Option.bind_some _ _).symm.trans H;with_reducible exact H2_)|with_reducible exact H|(rw [hy144];exact H)|exact H
 have Ny144:=zzm hy144;clear hy144;by_cases c4:b2.length+y144.length < 8796093022208
 ·
  rw [if_pos c4] at H;have LMc4:=zzm c4;clear c4;obtain ⟨y147,hy147⟩:∃ y_:List (S30),y_=(b2++y144):=⟨_,rfl⟩;replace H:((Qc.f k y147).bind fun b5=>(if b5=true then ((Qq.f y147).bind fun b6=>(some (b6,true))) else (some (([]:List (S30)),false))))=some (r1,r2):=by first|(rw [hy147];with_reducible exact H)|(have H2_:=(Option.bind_some _ _).symm.trans H;rw [hy147];with_reducible exact H2_)|(have H2_:=(Option.bind_some _ _).symm.trans H;with_reducible exact H2_)|with_reducible exact H|(rw [hy147];exact H)|exact H
  have Ny147:=zzm hy147;clear hy147;obtain ⟨b5,A5,H⟩:=zzG H;by_cases c6:b5=true
  ·
   subst c6;replace H:=zzIt H;obtain ⟨b6,A7,H⟩:=zzG H;simp only [Option.some.injEq,Prod.mk.injEq] at H;obtain ⟨rfl,rfl⟩:=H;go_enter Try.func8,Try.ntmps8;try go_wp2_with (first|((with_reducible refine gate_dst (N:=3) rfl ?_);refine box_event ?hg (N:=3) ?hd (cs:=#[.int .i64 a2,.int .i64 a3]) (t:=30) ?hr ?_;(case hd=>rfl);(case hg=>rfl);(case hr=>first|(go_simp;done)|(go_simp;rfl));intro a1 hg w8 hbox hb;have a5:=zzm (zzp zzh1 hb);have a6:=zzm (hbox);have a7:=zzm ((by rw [hg];exact (zzo zzh1):w.heap.size≤a1));have a9:=zzm ((by rw [hg];exact (zzo zzh1):w.heap.size≤a1));clear HB;have HB:=a5;have a0:=a6;have c7:=a7;have c8:=a9;clear a5 a6 a7 a9 hb hbox hg))
   have a5:=zzm (zzg a0.out);have a6:=zzm (zzc HB.out);clear a0 HB;have a0:=a5;have HB:=a6;clear a5 a6;refine start_ (n:=6) (S:=fun w'=>w'.cell? ⟨a1,0,none⟩=some (.int .i64 a2)∧w'.cell? ⟨a1,1,none⟩=some (.int .i64 a3)) (ds:=[]) (zzB 6 0) (by kernel_rfl) rfl rfl ⟨(zzk a0.out 0).trans rfl,(zzk a0.out 1).trans rfl⟩ (fun b0=>?_);generalize w8.drew=w9 at a0 HB b0 ⊢;refine pure_ (i:=0) (N:=some 7) (v:=?_) (a':=?_) (zzB 6 1) rfl rfl (by kernel_rfl) (fun _ _ _ h=>h) (Or.inl ⟨by rfl,?_⟩) ?_ ?_;rotate_left
   ·
    intro w';go_simp;with_reducible rfl
   rotate_left
   ·
    simp only [zzJ];rfl
   refine take_ (i:=2) (N:=some 9) (v:=?_) (a':=?_) (zzB 6 5) rfl rfl (by kernel_rfl) (fun _ _ _ h=>h) (Or.inl ⟨by rfl,?_⟩) b0 ?_ ?_;rotate_left
   ·
    rintro w' ⟨s0,s1⟩;go_simp;with_reducible rfl
   rotate_left
   ·
    simp only [zzJ];rfl
   refine join_ (σ:=Value×Value) 2 (zzB 6 15) (fun s_=>[(8,s_.1),(10,s_.2)]) (fun s_ w'=>(w'.cell? ⟨a1,0,none⟩=some (.int .i64 a2)∧w'.cell? ⟨a1,1,none⟩=some (.int .i64 a3))∧(Kd.R k30 30 w' w.heap.size (fun k_=>(w.heap.size≤k_)∧some k_≠(s_.2:Value).ownBlock∧k_≠a1) s_.1 b2)∧(Kd.R k30 30 w' w.heap.size (fun k_=>(w.heap.size≤k_)∧some k_≠(s_.1:Value).ownBlock∧k_≠a1) s_.2 y144)∧(w'.heap[a1]? = some (.cells #[.int .i64 a2,.int .i64 a3] 30 (0,0)))∧(Below w.heap.size w w')) ?_ ?_;rotate_left
   ·
    intro hCont;refine two_ (i:=1) (j:=3) (Ni:=some 8) (Nj:=some 10) (zzB 6 7) (zzB 6 13) rfl rfl rfl rfl (by kernel_rfl) (by decide) (by decide) (fun K hK=>?_) (fun K hK=>?_)
    ·
     skip;refine goes_ Try.func13 (by kernel_rfl) rfl #[.slice A0 l0.length c0] (by rfl) rfl rfl zzM2 ?_;with_reducible refine (Ql.calls _ _ l0 b2 _ ?side1 ?side2 A3.out).mono ?_
     (case side1=>exact zzcb c3 HB)
     (case side2=>exact c5.out);rintro e e0 ⟨b3,rfl,ho0,hb⟩;refine ⟨_,rfl,?_⟩;have a5:=zzm (Kd.R_lower (Kd.R_newB (Kd.R_newM (M:=fun k_=>(w.heap.size≤k_)) ho0 (zzo zzh2) (fun k_ h_=>h_)) (g:=a1) (o:=.cells #[.int .i64 a2,.int .i64 a3] 30 (0,0)) (zzE a0.out)) (zzo zzh2));have a6:=zzm (zzh (g:=a1) (o:=.cells #[.int .i64 a2,.int .i64 a3] 30 (0,0)) (zzE a0.out) hb);have a7:=zzm (zzp zzh2 hb);clear a0 HB;have a8:=a5;have a0:=a6;have HB:=a7;clear a5 a6 a7
     (try clear hb)
     (try clear hb2)
     (try clear hk)
     (try clear hi)
     (try clear ho0);refine hK.out _ _ ⟨(zzk a0.out 0).trans rfl,(zzk a0.out 1).trans rfl⟩ (fun b0=>?_);clear hK K;refine zzO 8 ?_
     refine one_ (i:=3) (N:=some 10) (zzB 6 15) rfl rfl (by kernel_rfl) (by decide) (fun K hK=>?_);refine Kd.R_lit_step k30 _ 30 ?hg (N:=10) ?hd (xs:=([(⟨a2,a3⟩:S30)]:List (S30))) (inner:=[.int .i64 a2,.int .i64 a3]) (ok:=fun _=>True) (okp:=fun _=>True) ?hr ?hp (fun _ hk=>hk) trivial (Below.refl _ _) (Nat.le_refl _) (by simp) ?_;(case hd=>rfl);(case hg=>rfl);(case hr=>first|(go_simp;done)|(go_simp;rfl));(case hp=>exact (Reps.c2 (show Kd.M k30 _ _ _ (⟨a2,a3⟩:S30) [.int .i64 a2,.int .i64 a3] from (k30_mkM _ _ _ (⟨a2,a3⟩:S30))) (Reps.none _ _)));intro b4 e4 ho12 hb hg_ hnew_;clear hg_ hnew_
     (first|rw [← Ny144.out] at ho12|(simp only [Int.reduceToNat] at ho12;rw [← Ny144.out] at ho12));have a5:=zzm (Kd.R_elder' (by (with_reducible repeat (first|apply Kd.R_alloc|apply Kd.R_drewN|apply Kd.R_drew));exact a8.out) (Kd.R_base ho12) hb);have a6:=zzm (Kd.R_lower (Kd.R_newB (Kd.R_new' (Kd.R_newM (M:=fun k_=>(w.heap.size≤k_)) ho12 (zzo zzh2) (fun k_ h_=>h_)) (Kd.R_lt (by (with_reducible repeat (first|apply Kd.R_alloc|apply Kd.R_drewN|apply Kd.R_drew));exact a8.out))) (g:=a1) (o:=.cells #[.int .i64 a2,.int .i64 a3] 30 (0,0)) (zzE a0.out)) (zzo zzh2));have a7:=zzm (zzh (g:=a1) (o:=.cells #[.int .i64 a2,.int .i64 a3] 30 (0,0)) (zzE a0.out) hb);have a9:=zzm (zzp zzh2 hb);clear a8 a0 HB;have a8:=a5;have a4:=a6;have a0:=a7;have HB:=a9;clear a5 a6 a7 a9;clear hb ho12;refine hK.out _ _ ⟨(zzk a0.out 0).trans rfl,(zzk a0.out 1).trans rfl⟩ (fun b0=>?_);clear hK K;refine zzO 10 ?_
     exact norm_ (by simp only [putAll,Act.put,zzq,zzr,zzs]) (hCont (b3,b4) _ ⟨b0,(by (with_reducible repeat (first|apply Kd.R_alloc|apply Kd.R_drewN|apply Kd.R_drew));exact Kd.R_mono a8.out (fun _ hk=>⟨hk.1.1.1,⟨hk.2,hk.1.2⟩⟩)),(by (with_reducible repeat (first|apply Kd.R_alloc|apply Kd.R_drewN|apply Kd.R_drew));exact Kd.R_mono a4.out (fun _ hk=>⟨hk.1.1.1,⟨hk.1.2,hk.2⟩⟩)),(zzE a0.out),zzh2⟩)
    ·
     skip;refine Kd.R_lit_step k30 _ 30 ?hg (N:=10) ?hd (xs:=([(⟨a2,a3⟩:S30)]:List (S30))) (inner:=[.int .i64 a2,.int .i64 a3]) (ok:=fun _=>True) (okp:=fun _=>True) ?hr ?hp (fun _ hk=>hk) trivial (Below.refl _ _) (Nat.le_refl _) (by simp) ?_;(case hd=>rfl);(case hg=>rfl);(case hr=>first|(go_simp;done)|(go_simp;rfl));(case hp=>exact (Reps.c2 (show Kd.M k30 _ _ _ (⟨a2,a3⟩:S30) [.int .i64 a2,.int .i64 a3] from (k30_mkM _ _ _ (⟨a2,a3⟩:S30))) (Reps.none _ _)));intro b4 e0 ho11 hb hg_ hnew_;clear hg_ hnew_
     (first|rw [← Ny144.out] at ho11|(simp only [Int.reduceToNat] at ho11;rw [← Ny144.out] at ho11));have a5:=zzm (Kd.R_lower (Kd.R_newB (Kd.R_newM (M:=fun k_=>(w.heap.size≤k_)) ho11 (zzo zzh2) (fun k_ h_=>h_)) (g:=a1) (o:=.cells #[.int .i64 a2,.int .i64 a3] 30 (0,0)) (zzE a0.out)) (zzo zzh2));have a6:=zzm (zzh (g:=a1) (o:=.cells #[.int .i64 a2,.int .i64 a3] 30 (0,0)) (zzE a0.out) hb);have a7:=zzm (zzp zzh2 hb);clear a0 HB;have a4:=a5;have a0:=a6;have HB:=a7;clear a5 a6 a7;clear hb ho11;refine hK.out _ _ ⟨(zzk a0.out 0).trans rfl,(zzk a0.out 1).trans rfl⟩ (fun b0=>?_);clear hK K;refine zzO 10 ?_
     refine one_ (i:=1) (N:=some 8) (zzB 6 15) rfl rfl (by kernel_rfl) (by decide) (fun K hK=>?_);refine goes_ Try.func13 (by kernel_rfl) rfl #[.slice A0 l0.length c0] (by rfl) rfl rfl zzM2 ?_;with_reducible refine (Ql.calls _ _ l0 b2 _ ?side1 ?side2 A3.out).mono ?_
     (case side1=>exact zzcb c3 HB)
     (case side2=>exact c5.out);rintro e e5 ⟨b3,rfl,ho0,hb⟩;refine ⟨_,rfl,?_⟩;have a5:=zzm (Kd.R_elder' (by (with_reducible repeat (first|apply Kd.R_alloc|apply Kd.R_drewN|apply Kd.R_drew));exact a4.out) (Kd.R_base ho0) hb);have a6:=zzm (Kd.R_lower (Kd.R_newB (Kd.R_new' (Kd.R_newM (M:=fun k_=>(w.heap.size≤k_)) ho0 (zzo zzh2) (fun k_ h_=>h_)) (Kd.R_lt (by (with_reducible repeat (first|apply Kd.R_alloc|apply Kd.R_drewN|apply Kd.R_drew));exact a4.out))) (g:=a1) (o:=.cells #[.int .i64 a2,.int .i64 a3] 30 (0,0)) (zzE a0.out)) (zzo zzh2));have a7:=zzm (zzh (g:=a1) (o:=.cells #[.int .i64 a2,.int .i64 a3] 30 (0,0)) (zzE a0.out) hb);have a9:=zzm (zzp zzh2 hb);clear a4 a0 HB;have a4:=a5;have a8:=a6;have a0:=a7;have HB:=a9;clear a5 a6 a7 a9
     (try clear hb)
     (try clear hb2)
     (try clear hk)
     (try clear hi)
     (try clear ho0);refine hK.out _ _ ⟨(zzk a0.out 0).trans rfl,(zzk a0.out 1).trans rfl⟩ (fun b0=>?_);clear hK K;refine zzO 8 ?_
     exact norm_ (by simp only [putAll,Act.put,zzq,zzr,zzs]) (hCont (b3,b4) _ ⟨b0,(by (with_reducible repeat (first|apply Kd.R_alloc|apply Kd.R_drewN|apply Kd.R_drew));exact Kd.R_mono a8.out (fun _ hk=>⟨hk.1.1.1,⟨hk.1.2,hk.2⟩⟩)),(by (with_reducible repeat (first|apply Kd.R_alloc|apply Kd.R_drewN|apply Kd.R_drew));exact Kd.R_mono a4.out (fun _ hk=>⟨hk.1.1.1,⟨hk.2,hk.1.2⟩⟩)),(zzE a0.out),zzh2⟩)
   rintro ⟨b3,b4⟩ b7 ⟨hS_,h0_,h1_,h2_,h3_⟩;have a5:Aside0 (Kd.R k30 30 b7 w.heap.size (fun k_=>(w.heap.size≤k_)∧some k_≠(b4:Value).ownBlock∧k_≠a1) b3 b2):=⟨h0_⟩;have a6:Aside0 (Kd.R k30 30 b7 w.heap.size (fun k_=>(w.heap.size≤k_)∧some k_≠(b3:Value).ownBlock∧k_≠a1) b4 y144):=⟨h1_⟩;have a7:Aside0 (b7.heap[a1]? = some (.cells #[.int .i64 a2,.int .i64 a3] 30 (0,0))):=⟨h2_⟩;have a9:Aside0 (Below w.heap.size w b7):=⟨h3_⟩;clear a0 HB;clear h0_ h1_ h2_ h3_;have a8:=a5;have a4:=a6;have a0:=a7;have HB:=a9;clear a5 a6 a7 a9;have b0:b7.cell? ⟨a1,0,none⟩=some (.int .i64 a2)∧b7.cell? ⟨a1,1,none⟩=some (.int .i64 a3):=hS_;obtain ⟨d3,d4,eo15⟩:=Kd.R_slice a4.out
   (first|subst eo15|(injection eo15 with f1_ f2_ f3_;have f4_:=f1_.symm;have f5_:=f3_.symm;clear f1_ f2_ f3_;subst f4_;subst f5_));refine norm_ (a':=?_) ?_ ?_;rotate_left
   ·
    simp only [putAll,Act.put,zzq,zzr,zzs];rfl
   refine one_ (i:=4) (N:=some 11) (zzB 6 31) rfl rfl (by kernel_rfl) (by decide) (fun K hK=>?_);refine Kd.R_append_rows_step k30 (w0:=w) w.heap.size (by rfl) (.tmp 8) (.tmp 10) 26 30 (.agg #[(.int .i64 0),(.int .i64 0)]) 16 rfl Try.underlying26 info30 rfl (by decide) (by omega) b3 b2 y144 _ _ _ (fun k_=>(w.heap.size≤k_)∧some k_≠(.slice d3 y144.length d4:Value).ownBlock∧k_≠a1) (fun _=>False) rfl rfl ?aO ?aR (fun _ _ h=>h) (fun _ h=>h.elim) ?aF ?aB ?aS ?aL ?_
   (case aR=>repeat (first|exact (Kd.R_reads' a4.out).2.2|(with_reducible refine Kd.C_alloc ?_ _)|(with_reducible refine Kd.C_drewN ?_ _)|(with_reducible refine Kd.C_drew ?_)))
   (case aB=>exact zzh2)
   (case aF=>exact (fun k_ hk=>⟨(Nat.le_trans (zzo zzh2) hk),Kd.fresh' (Kd.R_lt (by (with_reducible repeat (first|apply Kd.R_alloc|apply Kd.R_drewN|apply Kd.R_drew));exact a4.out)) k_ hk,Kd.freshB (g:=a1) (o:=.cells #[.int .i64 a2,.int .i64 a3] 30 (0,0)) (zzE a0.out) k_ hk⟩))
   (case aO=>exact (by (with_reducible repeat (first|apply Kd.R_alloc|apply Kd.R_drewN|apply Kd.R_drew));exact a8.out))
   (case aS=>exact (zzo zzh2))
   (case aL=>have:=LMc4.out;omega);intro d5 e6 ho hb hg hat;rw [← Ny147.out] at ho;have a5:=zzm (blk_grown (g:=a1) (o:=.cells #[.int .i64 a2,.int .i64 a3] 30 (0,0)) (zzE a0.out) hg (Kd.R_away a8.out (fun _ hk=>hk.2.2)));have a6:=zzm (Kd.R_after (ok:=(fun k_=>(w.heap.size≤k_)∧k_≠a1)) (by (with_reducible repeat (first|apply Kd.R_alloc|apply Kd.R_drewN|apply Kd.R_drew));exact Kd.R_mono a4.out (fun _ hk=>⟨⟨hk.1,hk.2.2⟩,hk.2.1⟩)) hg hat);have a7:=zzm (hb);have a9:=zzm (ho);clear a0 a4 HB a8;have a0:=a5;have a4:=a6;have HB:=a7;have b1:=a9;clear a5 a6 a7 a9;clear ho hb hg hat;refine hK.out _ _ ⟨(zzk a0.out 0).trans rfl,(zzk a0.out 1).trans rfl⟩ (fun b0=>?_);clear hK K;refine zzO 11 ?_
   refine pure_ (i:=5) (N:=some 6) (v:=?_) (a':=?_) (zzB 6 63) rfl rfl (by kernel_rfl) (fun _ _ _ h=>h) (Or.inl ⟨by rfl,?_⟩) ?_ ?_;rotate_left
   ·
    intro w';go_simp;with_reducible rfl
   rotate_left
   ·
    simp only [zzJ];rfl
   refine done_ (by kernel_rfl) ?_;obtain ⟨b9,c1,eo16⟩:=Kd.R_slice b1.out;subst eo16;try go_wp2_with (first|((with_reducible refine gate_callee (f:=14) rfl ?_);refine goesL_ (some 13) rfl rfl Try.func14 (by kernel_rfl) rfl #[.slice b9 y147.length c1] rfl zzM2 ?_;(with_reducible refine (Qc.calls k _ _ y147 true _ ?side1 ?side2 A5.out).mono ?_);(case side1=>repeat (first|exact (Kd.R_reads' b1.out).2.2|(with_reducible refine Kd.C_alloc ?_ _)|(with_reducible refine Kd.C_drewN ?_ _)|(with_reducible refine Kd.C_drew ?_)));(case side2=>exact (Kd.R_reads' b1.out).2.1);rintro e e7 ⟨rfl,hb⟩;refine ⟨_,rfl,?_⟩;have a5:=zzm (Kd.R_below (by (with_reducible repeat (first|apply Kd.R_alloc|apply Kd.R_drewN|apply Kd.R_drew));exact a4.out) hb);have a6:=zzm (Kd.R_below (by (with_reducible repeat (first|apply Kd.R_alloc|apply Kd.R_drewN|apply Kd.R_drew));exact b1.out) hb);have a7:=zzm (zzh (g:=a1) (o:=.cells #[.int .i64 a2,.int .i64 a3] 30 (0,0)) (zzE a0.out) hb);have a9:=zzm (zzp zzh2 hb);clear a4 b1 a0 HB;have a4:=a5;have b1:=a6;have a0:=a7;have HB:=a9;clear a5 a6 a7 a9;(try clear hb);(try clear hb2);(try clear hk);(try clear hi))|((with_reducible refine gate_callee (f:=15) rfl ?_);refine goesL_ (some 16) rfl rfl Try.func15 (by kernel_rfl) rfl #[.slice b9 y147.length c1] rfl zzM2 ?_;(with_reducible refine (Qq.calls2 _ _ y147 _ ?side1).mono ?_);(case side1=>exact (Kd.R_reads' b1.out).2.1);rintro e e8 ⟨rfl,hb⟩;refine ⟨_,rfl,?_⟩;have a5:=zzm (Kd.R_below (by (with_reducible repeat (first|apply Kd.R_alloc|apply Kd.R_drewN|apply Kd.R_drew));exact a4.out) hb);have a6:=zzm (Kd.R_below (by (with_reducible repeat (first|apply Kd.R_alloc|apply Kd.R_drewN|apply Kd.R_drew));exact b1.out) hb);have a7:=zzm trivial;have a9:=zzm (zzh (g:=a1) (o:=.cells #[.int .i64 a2,.int .i64 a3] 30 (0,0)) (zzE a0.out) hb);have d2:=zzm (zzp zzh2 hb);clear a4 b1 a0 HB;have a4:=a5;have b1:=a6;have e3:=a7;have a0:=a9;have HB:=d2;clear a5 a6 a7 a9 d2;(try clear hb);(try clear hb2);(try clear hk);(try clear hi);(try clear ho0)))
   go_ret2;obtain rfl:y147=b6:=Option.some.inj A7.out;exact ⟨.slice b9 y147.length c1,rfl,(by (with_reducible repeat (first|apply Kd.R_alloc|apply Kd.R_drewN|apply Kd.R_drew));exact Kd.R_mono b1.out (fun _ hk=>hk.1)),zzh3⟩
  ·
   replace c6:=Bool.eq_false_iff.mpr c6;subst c6;replace H:=zzIf H;simp only [Option.some.injEq,Prod.mk.injEq] at H;obtain ⟨rfl,rfl⟩:=H;go_enter Try.func8,Try.ntmps8;try go_wp2_with (first|((with_reducible refine gate_dst (N:=3) rfl ?_);refine box_event ?hg (N:=3) ?hd (cs:=#[.int .i64 a2,.int .i64 a3]) (t:=30) ?hr ?_;(case hd=>rfl);(case hg=>rfl);(case hr=>first|(go_simp;done)|(go_simp;rfl));intro a1 hg e1 hbox hb;have a5:=zzm (zzp zzh1 hb);have a6:=zzm (hbox);have a7:=zzm ((by rw [hg];exact (zzo zzh1):w.heap.size≤a1));have a9:=zzm ((by rw [hg];exact (zzo zzh1):w.heap.size≤a1));clear HB;have HB:=a5;have a0:=a6;have c7:=a7;have c8:=a9;clear a5 a6 a7 a9 hb hbox hg))
   have a5:=zzm (zzg a0.out);have a6:=zzm (zzc HB.out);clear a0 HB;have a0:=a5;have HB:=a6;clear a5 a6;refine start_ (n:=6) (S:=fun w'=>w'.cell? ⟨a1,0,none⟩=some (.int .i64 a2)∧w'.cell? ⟨a1,1,none⟩=some (.int .i64 a3)) (ds:=[]) (zzB 6 0) (by kernel_rfl) rfl rfl ⟨(zzk a0.out 0).trans rfl,(zzk a0.out 1).trans rfl⟩ (fun b0=>?_);generalize e1.drew=e9 at a0 HB b0 ⊢;refine pure_ (i:=0) (N:=some 7) (v:=?_) (a':=?_) (zzB 6 1) rfl rfl (by kernel_rfl) (fun _ _ _ h=>h) (Or.inl ⟨by rfl,?_⟩) ?_ ?_;rotate_left
   ·
    intro w';go_simp;with_reducible rfl
   rotate_left
   ·
    simp only [zzJ];rfl
   refine take_ (i:=2) (N:=some 9) (v:=?_) (a':=?_) (zzB 6 5) rfl rfl (by kernel_rfl) (fun _ _ _ h=>h) (Or.inl ⟨by rfl,?_⟩) b0 ?_ ?_;rotate_left
   ·
    rintro w' ⟨s0,s1⟩;go_simp;with_reducible rfl
   rotate_left
   ·
    simp only [zzJ];rfl
   refine join_ (σ:=Value×Value) 2 (zzB 6 15) (fun s_=>[(8,s_.1),(10,s_.2)]) (fun s_ w'=>(w'.cell? ⟨a1,0,none⟩=some (.int .i64 a2)∧w'.cell? ⟨a1,1,none⟩=some (.int .i64 a3))∧(Kd.R k30 30 w' w.heap.size (fun k_=>(w.heap.size≤k_)∧some k_≠(s_.2:Value).ownBlock∧k_≠a1) s_.1 b2)∧(Kd.R k30 30 w' w.heap.size (fun k_=>(w.heap.size≤k_)∧some k_≠(s_.1:Value).ownBlock∧k_≠a1) s_.2 y144)∧(w'.heap[a1]? = some (.cells #[.int .i64 a2,.int .i64 a3] 30 (0,0)))∧(Below w.heap.size w w')) ?_ ?_;rotate_left
   ·
    intro hCont;refine two_ (i:=1) (j:=3) (Ni:=some 8) (Nj:=some 10) (zzB 6 7) (zzB 6 13) rfl rfl rfl rfl (by kernel_rfl) (by decide) (by decide) (fun K hK=>?_) (fun K hK=>?_)
    ·
     skip;refine goes_ Try.func13 (by kernel_rfl) rfl #[.slice A0 l0.length c0] (by rfl) rfl rfl zzM2 ?_;with_reducible refine (Ql.calls _ _ l0 b2 _ ?side1 ?side2 A3.out).mono ?_
     (case side1=>exact zzcb c3 HB)
     (case side2=>exact c5.out);rintro e e2 ⟨b3,rfl,ho0,hb⟩;refine ⟨_,rfl,?_⟩;have a5:=zzm (Kd.R_lower (Kd.R_newB (Kd.R_newM (M:=fun k_=>(w.heap.size≤k_)) ho0 (zzo zzh2) (fun k_ h_=>h_)) (g:=a1) (o:=.cells #[.int .i64 a2,.int .i64 a3] 30 (0,0)) (zzE a0.out)) (zzo zzh2));have a6:=zzm (zzh (g:=a1) (o:=.cells #[.int .i64 a2,.int .i64 a3] 30 (0,0)) (zzE a0.out) hb);have a7:=zzm (zzp zzh2 hb);clear a0 HB;have a8:=a5;have a0:=a6;have HB:=a7;clear a5 a6 a7
     (try clear hb)
     (try clear hb2)
     (try clear hk)
     (try clear hi)
     (try clear ho0);refine hK.out _ _ ⟨(zzk a0.out 0).trans rfl,(zzk a0.out 1).trans rfl⟩ (fun b0=>?_);clear hK K;refine zzO 8 ?_
     refine one_ (i:=3) (N:=some 10) (zzB 6 15) rfl rfl (by kernel_rfl) (by decide) (fun K hK=>?_);refine Kd.R_lit_step k30 _ 30 ?hg (N:=10) ?hd (xs:=([(⟨a2,a3⟩:S30)]:List (S30))) (inner:=[.int .i64 a2,.int .i64 a3]) (ok:=fun _=>True) (okp:=fun _=>True) ?hr ?hp (fun _ hk=>hk) trivial (Below.refl _ _) (Nat.le_refl _) (by simp) ?_;(case hd=>rfl);(case hg=>rfl);(case hr=>first|(go_simp;done)|(go_simp;rfl));(case hp=>exact (Reps.c2 (show Kd.M k30 _ _ _ (⟨a2,a3⟩:S30) [.int .i64 a2,.int .i64 a3] from (k30_mkM _ _ _ (⟨a2,a3⟩:S30))) (Reps.none _ _)));intro b4 g0 ho23 hb hg_ hnew_;clear hg_ hnew_
     (first|rw [← Ny144.out] at ho23|(simp only [Int.reduceToNat] at ho23;rw [← Ny144.out] at ho23));have a5:=zzm (Kd.R_elder' (by (with_reducible repeat (first|apply Kd.R_alloc|apply Kd.R_drewN|apply Kd.R_drew));exact a8.out) (Kd.R_base ho23) hb);have a6:=zzm (Kd.R_lower (Kd.R_newB (Kd.R_new' (Kd.R_newM (M:=fun k_=>(w.heap.size≤k_)) ho23 (zzo zzh2) (fun k_ h_=>h_)) (Kd.R_lt (by (with_reducible repeat (first|apply Kd.R_alloc|apply Kd.R_drewN|apply Kd.R_drew));exact a8.out))) (g:=a1) (o:=.cells #[.int .i64 a2,.int .i64 a3] 30 (0,0)) (zzE a0.out)) (zzo zzh2));have a7:=zzm (zzh (g:=a1) (o:=.cells #[.int .i64 a2,.int .i64 a3] 30 (0,0)) (zzE a0.out) hb);have a9:=zzm (zzp zzh2 hb);clear a8 a0 HB;have a8:=a5;have a4:=a6;have a0:=a7;have HB:=a9;clear a5 a6 a7 a9;clear hb ho23;refine hK.out _ _ ⟨(zzk a0.out 0).trans rfl,(zzk a0.out 1).trans rfl⟩ (fun b0=>?_);clear hK K;refine zzO 10 ?_
     exact norm_ (by simp only [putAll,Act.put,zzq,zzr,zzs]) (hCont (b3,b4) _ ⟨b0,(by (with_reducible repeat (first|apply Kd.R_alloc|apply Kd.R_drewN|apply Kd.R_drew));exact Kd.R_mono a8.out (fun _ hk=>⟨hk.1.1.1,⟨hk.2,hk.1.2⟩⟩)),(by (with_reducible repeat (first|apply Kd.R_alloc|apply Kd.R_drewN|apply Kd.R_drew));exact Kd.R_mono a4.out (fun _ hk=>⟨hk.1.1.1,⟨hk.1.2,hk.2⟩⟩)),(zzE a0.out),zzh2⟩)
    ·
     skip;refine Kd.R_lit_step k30 _ 30 ?hg (N:=10) ?hd (xs:=([(⟨a2,a3⟩:S30)]:List (S30))) (inner:=[.int .i64 a2,.int .i64 a3]) (ok:=fun _=>True) (okp:=fun _=>True) ?hr ?hp (fun _ hk=>hk) trivial (Below.refl _ _) (Nat.le_refl _) (by simp) ?_;(case hd=>rfl);(case hg=>rfl);(case hr=>first|(go_simp;done)|(go_simp;rfl));(case hp=>exact (Reps.c2 (show Kd.M k30 _ _ _ (⟨a2,a3⟩:S30) [.int .i64 a2,.int .i64 a3] from (k30_mkM _ _ _ (⟨a2,a3⟩:S30))) (Reps.none _ _)));intro b4 e2 ho22 hb hg_ hnew_;clear hg_ hnew_
     (first|rw [← Ny144.out] at ho22|(simp only [Int.reduceToNat] at ho22;rw [← Ny144.out] at ho22));have a5:=zzm (Kd.R_lower (Kd.R_newB (Kd.R_newM (M:=fun k_=>(w.heap.size≤k_)) ho22 (zzo zzh2) (fun k_ h_=>h_)) (g:=a1) (o:=.cells #[.int .i64 a2,.int .i64 a3] 30 (0,0)) (zzE a0.out)) (zzo zzh2));have a6:=zzm (zzh (g:=a1) (o:=.cells #[.int .i64 a2,.int .i64 a3] 30 (0,0)) (zzE a0.out) hb);have a7:=zzm (zzp zzh2 hb);clear a0 HB;have a4:=a5;have a0:=a6;have HB:=a7;clear a5 a6 a7;clear hb ho22;refine hK.out _ _ ⟨(zzk a0.out 0).trans rfl,(zzk a0.out 1).trans rfl⟩ (fun b0=>?_);clear hK K;refine zzO 10 ?_
     refine one_ (i:=1) (N:=some 8) (zzB 6 15) rfl rfl (by kernel_rfl) (by decide) (fun K hK=>?_);refine goes_ Try.func13 (by kernel_rfl) rfl #[.slice A0 l0.length c0] (by rfl) rfl rfl zzM2 ?_;with_reducible refine (Ql.calls _ _ l0 b2 _ ?side1 ?side2 A3.out).mono ?_
     (case side1=>exact zzcb c3 HB)
     (case side2=>exact c5.out);rintro e g1 ⟨b3,rfl,ho0,hb⟩;refine ⟨_,rfl,?_⟩;have a5:=zzm (Kd.R_elder' (by (with_reducible repeat (first|apply Kd.R_alloc|apply Kd.R_drewN|apply Kd.R_drew));exact a4.out) (Kd.R_base ho0) hb);have a6:=zzm (Kd.R_lower (Kd.R_newB (Kd.R_new' (Kd.R_newM (M:=fun k_=>(w.heap.size≤k_)) ho0 (zzo zzh2) (fun k_ h_=>h_)) (Kd.R_lt (by (with_reducible repeat (first|apply Kd.R_alloc|apply Kd.R_drewN|apply Kd.R_drew));exact a4.out))) (g:=a1) (o:=.cells #[.int .i64 a2,.int .i64 a3] 30 (0,0)) (zzE a0.out)) (zzo zzh2));have a7:=zzm (zzh (g:=a1) (o:=.cells #[.int .i64 a2,.int .i64 a3] 30 (0,0)) (zzE a0.out) hb);have a9:=zzm (zzp zzh2 hb);clear a4 a0 HB;have a4:=a5;have a8:=a6;have a0:=a7;have HB:=a9;clear a5 a6 a7 a9
     (try clear hb)
     (try clear hb2)
     (try clear hk)
     (try clear hi)
     (try clear ho0);refine hK.out _ _ ⟨(zzk a0.out 0).trans rfl,(zzk a0.out 1).trans rfl⟩ (fun b0=>?_);clear hK K;refine zzO 8 ?_
     exact norm_ (by simp only [putAll,Act.put,zzq,zzr,zzs]) (hCont (b3,b4) _ ⟨b0,(by (with_reducible repeat (first|apply Kd.R_alloc|apply Kd.R_drewN|apply Kd.R_drew));exact Kd.R_mono a8.out (fun _ hk=>⟨hk.1.1.1,⟨hk.1.2,hk.2⟩⟩)),(by (with_reducible repeat (first|apply Kd.R_alloc|apply Kd.R_drewN|apply Kd.R_drew));exact Kd.R_mono a4.out (fun _ hk=>⟨hk.1.1.1,⟨hk.2,hk.1.2⟩⟩)),(zzE a0.out),zzh2⟩)
   rintro ⟨b3,b4⟩ b8 ⟨hS_,h0_,h1_,h2_,h3_⟩;have a5:Aside0 (Kd.R k30 30 b8 w.heap.size (fun k_=>(w.heap.size≤k_)∧some k_≠(b4:Value).ownBlock∧k_≠a1) b3 b2):=⟨h0_⟩;have a6:Aside0 (Kd.R k30 30 b8 w.heap.size (fun k_=>(w.heap.size≤k_)∧some k_≠(b3:Value).ownBlock∧k_≠a1) b4 y144):=⟨h1_⟩;have a7:Aside0 (b8.heap[a1]? = some (.cells #[.int .i64 a2,.int .i64 a3] 30 (0,0))):=⟨h2_⟩;have a9:Aside0 (Below w.heap.size w b8):=⟨h3_⟩;clear a0 HB;clear h0_ h1_ h2_ h3_;have a8:=a5;have a4:=a6;have a0:=a7;have HB:=a9;clear a5 a6 a7 a9;have b0:b8.cell? ⟨a1,0,none⟩=some (.int .i64 a2)∧b8.cell? ⟨a1,1,none⟩=some (.int .i64 a3):=hS_;obtain ⟨d6,d7,eo26⟩:=Kd.R_slice a4.out
   (first|subst eo26|(injection eo26 with f1_ f2_ f3_;have f4_:=f1_.symm;have f5_:=f3_.symm;clear f1_ f2_ f3_;subst f4_;subst f5_));refine norm_ (a':=?_) ?_ ?_;rotate_left
   ·
    simp only [putAll,Act.put,zzq,zzr,zzs];rfl
   refine one_ (i:=4) (N:=some 11) (zzB 6 31) rfl rfl (by kernel_rfl) (by decide) (fun K hK=>?_);refine Kd.R_append_rows_step k30 (w0:=w) w.heap.size (by rfl) (.tmp 8) (.tmp 10) 26 30 (.agg #[(.int .i64 0),(.int .i64 0)]) 16 rfl Try.underlying26 info30 rfl (by decide) (by omega) b3 b2 y144 _ _ _ (fun k_=>(w.heap.size≤k_)∧some k_≠(.slice d6 y144.length d7:Value).ownBlock∧k_≠a1) (fun _=>False) rfl rfl ?aO ?aR (fun _ _ h=>h) (fun _ h=>h.elim) ?aF ?aB ?aS ?aL ?_
   (case aR=>repeat (first|exact (Kd.R_reads' a4.out).2.2|(with_reducible refine Kd.C_alloc ?_ _)|(with_reducible refine Kd.C_drewN ?_ _)|(with_reducible refine Kd.C_drew ?_)))
   (case aB=>exact zzh2)
   (case aF=>exact (fun k_ hk=>⟨(Nat.le_trans (zzo zzh2) hk),Kd.fresh' (Kd.R_lt (by (with_reducible repeat (first|apply Kd.R_alloc|apply Kd.R_drewN|apply Kd.R_drew));exact a4.out)) k_ hk,Kd.freshB (g:=a1) (o:=.cells #[.int .i64 a2,.int .i64 a3] 30 (0,0)) (zzE a0.out) k_ hk⟩))
   (case aO=>exact (by (with_reducible repeat (first|apply Kd.R_alloc|apply Kd.R_drewN|apply Kd.R_drew));exact a8.out))
   (case aS=>exact (zzo zzh2))
   (case aL=>have:=LMc4.out;omega);intro d5 g2 ho hb hg hat;rw [← Ny147.out] at ho;have a5:=zzm (blk_grown (g:=a1) (o:=.cells #[.int .i64 a2,.int .i64 a3] 30 (0,0)) (zzE a0.out) hg (Kd.R_away a8.out (fun _ hk=>hk.2.2)));have a6:=zzm (Kd.R_after (ok:=(fun k_=>(w.heap.size≤k_)∧k_≠a1)) (by (with_reducible repeat (first|apply Kd.R_alloc|apply Kd.R_drewN|apply Kd.R_drew));exact Kd.R_mono a4.out (fun _ hk=>⟨⟨hk.1,hk.2.2⟩,hk.2.1⟩)) hg hat);have a7:=zzm (hb);have a9:=zzm (ho);clear a0 a4 HB a8;have a0:=a5;have a4:=a6;have HB:=a7;have b1:=a9;clear a5 a6 a7 a9;clear ho hb hg hat;refine hK.out _ _ ⟨(zzk a0.out 0).trans rfl,(zzk a0.out 1).trans rfl⟩ (fun b0=>?_);clear hK K;refine zzO 11 ?_
   refine pure_ (i:=5) (N:=some 6) (v:=?_) (a':=?_) (zzB 6 63) rfl rfl (by kernel_rfl) (fun _ _ _ h=>h) (Or.inl ⟨by rfl,?_⟩) ?_ ?_;rotate_left
   ·
    intro w';go_simp;with_reducible rfl
   rotate_left
   ·
    simp only [zzJ];rfl
   refine done_ (by kernel_rfl) ?_;obtain ⟨d8,d9,eo27⟩:=Kd.R_slice b1.out;subst eo27;try go_wp2_with (first|((with_reducible refine gate_callee (f:=14) rfl ?_);refine goesL_ (some 13) rfl rfl Try.func14 (by kernel_rfl) rfl #[.slice d8 y147.length d9] rfl zzM2 ?_;(with_reducible refine (Qc.calls k _ _ y147 false _ ?side1 ?side2 A5.out).mono ?_);(case side1=>repeat (first|exact (Kd.R_reads' b1.out).2.2|(with_reducible refine Kd.C_alloc ?_ _)|(with_reducible refine Kd.C_drewN ?_ _)|(with_reducible refine Kd.C_drew ?_)));(case side2=>exact (Kd.R_reads' b1.out).2.1);rintro e g3 ⟨rfl,hb⟩;refine ⟨_,rfl,?_⟩;have a5:=zzm (Kd.R_below (by (with_reducible repeat (first|apply Kd.R_alloc|apply Kd.R_drewN|apply Kd.R_drew));exact a4.out) hb);have a6:=zzm (Kd.R_below (by (with_reducible repeat (first|apply Kd.R_alloc|apply Kd.R_drewN|apply Kd.R_drew));exact b1.out) hb);have a7:=zzm (zzh (g:=a1) (o:=.cells #[.int .i64 a2,.int .i64 a3] 30 (0,0)) (zzE a0.out) hb);have a9:=zzm (zzp zzh2 hb);clear a4 b1 a0 HB;have a4:=a5;have b1:=a6;have a0:=a7;have HB:=a9;clear a5 a6 a7 a9;(try clear hb);(try clear hb2);(try clear hk);(try clear hi)))
   go_ret2;exact ⟨.slice none 0 0,zzR,Kd.R_nil _ _ _ _ _,zzh3⟩
 ·
  rw [if_neg c4] at H;exact absurd H (by simp)

set_option linter.unusedVariables false
set_option linter.unusedSimpArgs false
def Qs.f (a0_0:Int) (a0_1:Int) (a1_0:Int) (a1_1:Int):Option (Bool):=if a0_0=a1_0 then (if a0_1=a1_1 then (some true) else (some false)) else (some false)
set_option maxHeartbeats 8000000 in
theorem Qs.calls (a3:Int) (a4:Int) (b1:Int) (b2:Int) (r:Bool) (w:World) (h:Qs.f a3 a4 b1 b2=some r) :
  Calls Try.prog 16 #[.agg #[.int .i64 a3,.int .i64 a4],.agg #[.int .i64 b1,.int .i64 b2]] w fun e w'=>e = .returned (.bool r)∧Below w.heap.size w w':=by
 have hu30:=Try.underlying30;have HB:=zzm (Below.refl w.heap.size w);have H:(if a3=b1 then (if a4=b2 then (some true) else (some false)) else (some false))=some r:=h;clear h;by_cases c3:a3=b1
 ·
  rw [if_pos c3] at H;obtain ⟨c1,c5⟩:=zzQ c3;clear c3;by_cases c4:a4=b2
  ·
   rw [if_pos c4] at H;obtain ⟨c6,c7⟩:=zzQ c4;clear c4;obtain rfl:=Option.some.inj H;go_enter Try.func16,Try.ntmps16;go_wp2_with (first|((with_reducible refine gate_dst (N:=2) rfl ?_);refine box_event ?hg (N:=2) ?hd (cs:=#[.int .i64 a3,.int .i64 a4]) (t:=30) ?hr ?_;(case hd=>rfl);(case hg=>rfl);(case hr=>first|(go_simp;done)|(go_simp;rfl));intro a0 hg w5 hbox hb;have a5:=zzm (zzp zzh1 hb);have a6:=zzm (hbox);have a7:=zzm ((by rw [hg];exact (zzo zzh1):w.heap.size≤a0));have a8:=zzm ((by rw [hg];exact (zzo zzh1):w.heap.size≤a0));clear HB;have HB:=a5;have a1:=a6;have b7:=a7;have b8:=a8;clear a5 a6 a7 a8 hb hbox hg)|((with_reducible refine gate_dst (N:=3) rfl ?_);refine box_event ?hg (N:=3) ?hd (cs:=#[.int .i64 b1,.int .i64 b2]) (t:=30) ?hr ?_;(case hd=>rfl);(case hg=>rfl);(case hr=>first|(go_simp;done)|(go_simp;rfl));intro a2 hg w6 hbox hb;have a5:=zzm (zzh (g:=a0) (o:=.cells #[.int .i64 a3,.int .i64 a4] 30 (0,0)) (zzE a1.out) hb);have a6:=zzm (zzp zzh2 hb);have a7:=zzm (hbox);have a8:=zzm ((by rw [hg];exact (zzo zzh2):w.heap.size≤a2));have b4:=zzm ((by rw [hg];exact (zzo zzh2):w.heap.size≤a2));have b5:=zzm ((by rw [hg];exact Nat.ne_of_lt (blk_lt (g:=a0) (o:=.cells #[.int .i64 a3,.int .i64 a4] 30 (0,0)) (zzE a1.out)):a0≠a2));have b6:=zzm ((by rw [hg];exact Nat.ne_of_gt (blk_lt (g:=a0) (o:=.cells #[.int .i64 a3,.int .i64 a4] 30 (0,0)) (zzE a1.out)):a2≠a0));clear a1 HB;have a1:=a5;have HB:=a6;have b3:=a7;have b9:=a8;have c0:=b4;have a9:=b5;have b0:=b6;clear a5 a6 a7 a8 b4 b5 b6 hb hbox hg;have g6:=a9.out;have g7:=b0.out;obtain ⟨e4,e5,e6,e7⟩:=zzc2 a1.out;obtain ⟨e8,e9,g0,g1⟩:=zzc2 b3.out));go_ret;exact ⟨zzR,zzh3⟩
  ·
   rw [if_neg c4] at H;obtain ⟨c6,c7⟩:=zzY c4;obtain rfl:=Option.some.inj H;go_enter Try.func16,Try.ntmps16;go_wp2_with (first|((with_reducible refine gate_dst (N:=2) rfl ?_);refine box_event ?hg (N:=2) ?hd (cs:=#[.int .i64 a3,.int .i64 a4]) (t:=30) ?hr ?_;(case hd=>rfl);(case hg=>rfl);(case hr=>first|(go_simp;done)|(go_simp;rfl));intro a0 hg g8 hbox hb;have a5:=zzm (zzp zzh1 hb);have a6:=zzm (hbox);have a7:=zzm ((by rw [hg];exact (zzo zzh1):w.heap.size≤a0));have a8:=zzm ((by rw [hg];exact (zzo zzh1):w.heap.size≤a0));clear HB;have HB:=a5;have a1:=a6;have b7:=a7;have b8:=a8;clear a5 a6 a7 a8 hb hbox hg)|((with_reducible refine gate_dst (N:=3) rfl ?_);refine box_event ?hg (N:=3) ?hd (cs:=#[.int .i64 b1,.int .i64 b2]) (t:=30) ?hr ?_;(case hd=>rfl);(case hg=>rfl);(case hr=>first|(go_simp;done)|(go_simp;rfl));intro a2 hg g9 hbox hb;have a5:=zzm (zzh (g:=a0) (o:=.cells #[.int .i64 a3,.int .i64 a4] 30 (0,0)) (zzE a1.out) hb);have a6:=zzm (zzp zzh2 hb);have a7:=zzm (hbox);have a8:=zzm ((by rw [hg];exact (zzo zzh2):w.heap.size≤a2));have b4:=zzm ((by rw [hg];exact (zzo zzh2):w.heap.size≤a2));have b5:=zzm ((by rw [hg];exact Nat.ne_of_lt (blk_lt (g:=a0) (o:=.cells #[.int .i64 a3,.int .i64 a4] 30 (0,0)) (zzE a1.out)):a0≠a2));have b6:=zzm ((by rw [hg];exact Nat.ne_of_gt (blk_lt (g:=a0) (o:=.cells #[.int .i64 a3,.int .i64 a4] 30 (0,0)) (zzE a1.out)):a2≠a0));clear a1 HB;have a1:=a5;have HB:=a6;have b3:=a7;have b9:=a8;have c0:=b4;have a9:=b5;have b0:=b6;clear a5 a6 a7 a8 b4 b5 b6 hb hbox hg;have g2:=a9.out;have g3:=b0.out;obtain ⟨c8,c9,d0,d1⟩:=zzc2 a1.out;obtain ⟨d2,d3,d4,d5⟩:=zzc2 b3.out));go_ret;exact ⟨zzR,zzh3⟩
 ·
  rw [if_neg c3] at H;obtain ⟨c1,c5⟩:=zzY c3;obtain rfl:=Option.some.inj H;go_enter Try.func16,Try.ntmps16;go_wp2_with (first|((with_reducible refine gate_dst (N:=2) rfl ?_);refine box_event ?hg (N:=2) ?hd (cs:=#[.int .i64 a3,.int .i64 a4]) (t:=30) ?hr ?_;(case hd=>rfl);(case hg=>rfl);(case hr=>first|(go_simp;done)|(go_simp;rfl));intro a0 hg h0 hbox hb;have a5:=zzm (zzp zzh1 hb);have a6:=zzm (hbox);have a7:=zzm ((by rw [hg];exact (zzo zzh1):w.heap.size≤a0));have a8:=zzm ((by rw [hg];exact (zzo zzh1):w.heap.size≤a0));clear HB;have HB:=a5;have a1:=a6;have b7:=a7;have b8:=a8;clear a5 a6 a7 a8 hb hbox hg)|((with_reducible refine gate_dst (N:=3) rfl ?_);refine box_event ?hg (N:=3) ?hd (cs:=#[.int .i64 b1,.int .i64 b2]) (t:=30) ?hr ?_;(case hd=>rfl);(case hg=>rfl);(case hr=>first|(go_simp;done)|(go_simp;rfl));intro a2 hg h1 hbox hb;have a5:=zzm (zzh (g:=a0) (o:=.cells #[.int .i64 a3,.int .i64 a4] 30 (0,0)) (zzE a1.out) hb);have a6:=zzm (zzp zzh2 hb);have a7:=zzm (hbox);have a8:=zzm ((by rw [hg];exact (zzo zzh2):w.heap.size≤a2));have b4:=zzm ((by rw [hg];exact (zzo zzh2):w.heap.size≤a2));have b5:=zzm ((by rw [hg];exact Nat.ne_of_lt (blk_lt (g:=a0) (o:=.cells #[.int .i64 a3,.int .i64 a4] 30 (0,0)) (zzE a1.out)):a0≠a2));have b6:=zzm ((by rw [hg];exact Nat.ne_of_gt (blk_lt (g:=a0) (o:=.cells #[.int .i64 a3,.int .i64 a4] 30 (0,0)) (zzE a1.out)):a2≠a0));clear a1 HB;have a1:=a5;have HB:=a6;have b3:=a7;have b9:=a8;have c0:=b4;have a9:=b5;have b0:=b6;clear a5 a6 a7 a8 b4 b5 b6 hb hbox hg;have g4:=a9.out;have g5:=b0.out;obtain ⟨d6,d7,d8,d9⟩:=zzc2 a1.out;obtain ⟨e0,e1,e2,e3⟩:=zzc2 b3.out));go_ret;exact ⟨zzR,zzh3⟩

set_option linter.unusedVariables false
set_option linter.unusedSimpArgs false
def Qd.l0:Nat→List (S30)→List (S30)→Int→Option (Bool)
 | 0,_,_,_=>none
 | k+1,x0,x1,x5=>if x5 < (x0.length:Int) then (if 0≤x5 then (if x5 < (x1.length:Int) then ((Qs.f ((Qa x0 x5).f0) ((Qa x0 x5).f1) ((Qa x1 x5).f0) ((Qa x1 x5).f1)).bind fun t158=>(if t158=true then (Qd.l0 k x0 x1 (wrap64 (x5+1))) else (some false))) else (none)) else (none)) else (some true)
def Qd.f (k:Nat) (l0:List (S30)) (l1:List (S30)):Option (Bool):=if (l0.length:Int)=(l1.length:Int) then (Qd.l0 k l0 l1 0) else (some false)
def Qd.T6:Bool×List (List Nat×List Nat):=(true,[([],[]),([],[]),([0,1],[0,1]),([2],[2]),([],[]),([],[]),([4,5],[4,5]),([6],[6]),([3,7],[3,7]),([8],[8])])
def Qd.B6:List Nat:=[0,0,3,7,0,0,48,112,255,511]
theorem Qd.tab6:rtab .any (opsOf Try.f9 6)=Qd.T6:=by kernel_rfl
theorem Qd.bits6:waitsOk Qd.T6.2 Qd.B6=true:=by kernel_rfl
set_option maxHeartbeats 8000000 in
theorem Qd.calls (k:Nat) (A0:Option Addr) (c0:Nat) (l0:List (S30)) (A1:Option Addr) (c1:Nat) (l1:List (S30)) (r:Bool) (w:World) (d2:Kd.C k30 w A0 l0.length l0) (d3:l0.length≤c0) (d4:Kd.C k30 w A1 l1.length l1) (d5:l1.length≤c1) (h:Qd.f k l0 l1=some r) :
  Calls Try.prog 9 #[.slice A0 l0.length c0,.slice A1 l1.length c1] w fun e w'=>e = .returned (.bool r)∧Below w.heap.size w w':=by
 have hu30:=Try.underlying30;have d6:=zzm d2;have e2:=zzm d3;clear d2 d3;have d7:=zzm d4;have e3:=zzm d5;clear d4 d5;have HB:=zzm (Below.refl w.heap.size w);have H:(if (l0.length:Int)=(l1.length:Int) then (Qd.l0 k l0 l1 0) else (some false))=some r:=h;clear h;by_cases c3:(l0.length:Int)=(l1.length:Int)
 ·
  rw [if_pos c3] at H;obtain ⟨c9,d0⟩:=zzQ c3;have d1:(l0.length==l1.length)=true:=by first|simpa using c3|(simp at c3 ⊢;omega)
  clear c3;have H':=zzm H;clear H;go_enter Try.func9,Try.ntmps9;go_wp2;go_loopg [5] k (fun kq v5 w'=>∃ (a0:Int),v5 = .int .i64 a0∧Aside0 (Qd.l0 kq l0 l1 a0=some r)∧Aside0 (kq≤k)∧Aside0 (Below w.heap.size w w'))
  case atStart=>exact ⟨(0),(by first|rfl|(simp;done)|(simp [*];done)),H',⟨Nat.le_refl _⟩,⟨zzh1⟩⟩
  case round=>
   clear H';try clear c1
   try clear p2
   try clear c3
   try clear c9
   try clear d0
   try clear d1
   obtain ⟨a0,rfl,HA,HK1,HB⟩:=hrel;cases gk with
   | zero=>exact absurd HA.out (by simp [Qd.l0])
   | succ k1=>
    have H:=HA.out;clear HA;simp only [Qd.l0] at H;by_cases c4:a0 < (l0.length:Int)
    ·
     rw [if_pos c4] at H;have d8:decide (a0 < (l0.length:Int))=true:=decide_eq_true c4;clear c4;by_cases c5 : 0≤a0
     ·
      rw [if_pos c5] at H;have e0:decide (0≤a0)=true:=decide_eq_true c5;clear c5;by_cases c6:a0 < (l1.length:Int)
      ·
       rw [if_pos c6] at H;have e1:decide (a0 < (l1.length:Int))=true:=decide_eq_true c6;clear c6;obtain ⟨d9,A7,H⟩:=zzG H;by_cases c8:d9=true
       ·
        subst c8;replace H:=zzIt H;have H':=zzm H;clear H;try go_wp2
        have b3:=zzm (zzc HB.out);clear HB;have HB:=b3;clear b3;have b4 : 0≤(a0:Int):=zzt;have b5:a0 < (l0.length:Int):=zzt;obtain ⟨b1,b9,a2,a3⟩:=Qm d6.out a0 b4 b5;have a7:=a3;have a8:=a2;cases b9;replace a2:=zzx HB.out a2;replace a3:=zzx HB.out a3;replace b4:=eq_true b4;replace b5:=eq_true b5;have b6 : 0≤(a0:Int):=zzt;have b7:a0 < (l1.length:Int):=zzt;obtain ⟨b2,c7,a4,a5⟩:=Qm d7.out a0 b6 b7;have a9:=a5;have b0:=a4;cases c7;replace a4:=zzx HB.out a4;replace a5:=zzx HB.out a5;replace b6:=eq_true b6;replace b7:=eq_true b7;refine start_ (n:=10) (S:=fun w'=>w'.cell? (b1.add ((a0).toNat * 2))=some (.int .i64 ((Qa l0 a0).f0))∧w'.cell? ⟨(b1.add ((a0).toNat * 2)).block,(b1.add ((a0).toNat * 2)).off+1,none⟩=some (.int .i64 ((Qa l0 a0).f1))∧w'.cell? (b2.add ((a0).toNat * 2))=some (.int .i64 ((Qa l1 a0).f0))∧w'.cell? ⟨(b2.add ((a0).toNat * 2)).block,(b2.add ((a0).toNat * 2)).off+1,none⟩=some (.int .i64 ((Qa l1 a0).f1))) (ds:=[]) (zzB 10 0) (by kernel_rfl) rfl rfl ⟨(zzx HB.out a8 :),(zzx HB.out a7 :),(zzx HB.out b0 :),(zzx HB.out a9 :)⟩ (fun a6=>?_);refine with_tabW Qd.tab6 Qd.bits6 (fun a1 b8=>?_);generalize wr.drew=w9 at HB a2 a3 a4 a5 a6 ⊢;refine zzP 0 17 10 1 a1 ?_
        refine zzP 1 18 10 3 a1 ?_
        refine zzP 2 19 10 7 a1 ?_
        refine zzP 4 21 10 23 a1 ?_
        refine zzP 5 22 10 55 a1 ?_
        refine zzP 6 23 10 119 a1 ?_
        refine zzT 3 20 10 127 a1 b8 a6 ?_
        refine zzT 7 24 10 255 a1 b8 a6 ?_
        refine one_ (i:=8) (N:=some 25) (zzB 10 511) rfl rfl (one_of a1.out (by kernel_rfl)) (by decide) (fun K hK=>?_);refine goes_ Try.func16 (by kernel_rfl) rfl #[.agg #[.int .i64 ((Qa l0 a0).f0),.int .i64 ((Qa l0 a0).f1)],.agg #[.int .i64 ((Qa l1 a0).f0),.int .i64 ((Qa l1 a0).f1)]] (by rfl) rfl rfl zzM2 ?_;with_reducible refine (Qs.calls ((Qa l0 a0).f0) ((Qa l0 a0).f1) ((Qa l1 a0).f0) ((Qa l1 a0).f1) true _ A7.out).mono ?_
        rintro e e4 ⟨rfl,hb⟩;refine ⟨_,rfl,?_⟩;have b3:=zzm (zzp zzh1 hb);clear HB;have HB:=b3;clear b3
        (try clear hb)
        (try clear hb2)
        (try clear hk)
        (try clear hi);refine hK.out _ _ ⟨(zzx HB.out a8 :),(zzx HB.out a7 :),(zzx HB.out b0 :),(zzx HB.out a9 :)⟩ (fun a6=>?_);clear hK K;refine zzO 25 ?_
        refine zzP 9 26 10 1023 a1 ?_
        refine done_ (done_of a1.out (by kernel_rfl)) ?_;try go_wp2
        go_roundg k1
        case measure=>have:=HK1.out;omega
        case rel=>exact ⟨(wrap64 (a0+1)),(by first|rfl|(simp;done)|(simp [*];done)),H',⟨by have:=HK1.out;omega⟩,⟨zzh1⟩⟩
       ·
        replace c8:=Bool.eq_false_iff.mpr c8;subst c8;replace H:=zzIf H;obtain rfl:=Option.some.inj H;try go_wp2
        have b3:=zzm (zzc HB.out);clear HB;have HB:=b3;clear b3;have b4 : 0≤(a0:Int):=zzt;have b5:a0 < (l0.length:Int):=zzt;obtain ⟨b1,b9,a2,a3⟩:=Qm d6.out a0 b4 b5;have a7:=a3;have a8:=a2;cases b9;replace a2:=zzx HB.out a2;replace a3:=zzx HB.out a3;replace b4:=eq_true b4;replace b5:=eq_true b5;have b6 : 0≤(a0:Int):=zzt;have b7:a0 < (l1.length:Int):=zzt;obtain ⟨b2,c7,a4,a5⟩:=Qm d7.out a0 b6 b7;have a9:=a5;have b0:=a4;cases c7;replace a4:=zzx HB.out a4;replace a5:=zzx HB.out a5;replace b6:=eq_true b6;replace b7:=eq_true b7;refine start_ (n:=10) (S:=fun w'=>w'.cell? (b1.add ((a0).toNat * 2))=some (.int .i64 ((Qa l0 a0).f0))∧w'.cell? ⟨(b1.add ((a0).toNat * 2)).block,(b1.add ((a0).toNat * 2)).off+1,none⟩=some (.int .i64 ((Qa l0 a0).f1))∧w'.cell? (b2.add ((a0).toNat * 2))=some (.int .i64 ((Qa l1 a0).f0))∧w'.cell? ⟨(b2.add ((a0).toNat * 2)).block,(b2.add ((a0).toNat * 2)).off+1,none⟩=some (.int .i64 ((Qa l1 a0).f1))) (ds:=[]) (zzB 10 0) (by kernel_rfl) rfl rfl ⟨(zzx HB.out a8 :),(zzx HB.out a7 :),(zzx HB.out b0 :),(zzx HB.out a9 :)⟩ (fun a6=>?_);refine with_tabW Qd.tab6 Qd.bits6 (fun a1 b8=>?_);generalize wr.drew=e5 at HB a2 a3 a4 a5 a6 ⊢;refine zzP 0 17 10 1 a1 ?_
        refine zzP 1 18 10 3 a1 ?_
        refine zzP 2 19 10 7 a1 ?_
        refine zzP 4 21 10 23 a1 ?_
        refine zzP 5 22 10 55 a1 ?_
        refine zzP 6 23 10 119 a1 ?_
        refine zzT 3 20 10 127 a1 b8 a6 ?_
        refine zzT 7 24 10 255 a1 b8 a6 ?_
        refine one_ (i:=8) (N:=some 25) (zzB 10 511) rfl rfl (one_of a1.out (by kernel_rfl)) (by decide) (fun K hK=>?_);refine goes_ Try.func16 (by kernel_rfl) rfl #[.agg #[.int .i64 ((Qa l0 a0).f0),.int .i64 ((Qa l0 a0).f1)],.agg #[.int .i64 ((Qa l1 a0).f0),.int .i64 ((Qa l1 a0).f1)]] (by rfl) rfl rfl zzM2 ?_;with_reducible refine (Qs.calls ((Qa l0 a0).f0) ((Qa l0 a0).f1) ((Qa l1 a0).f0) ((Qa l1 a0).f1) false _ A7.out).mono ?_
        rintro e e6 ⟨rfl,hb⟩;refine ⟨_,rfl,?_⟩;have b3:=zzm (zzp zzh1 hb);clear HB;have HB:=b3;clear b3
        (try clear hb)
        (try clear hb2)
        (try clear hk)
        (try clear hi);refine hK.out _ _ ⟨(zzx HB.out a8 :),(zzx HB.out a7 :),(zzx HB.out b0 :),(zzx HB.out a9 :)⟩ (fun a6=>?_);clear hK K;refine zzO 25 ?_
        refine zzP 9 26 10 1023 a1 ?_
        refine done_ (done_of a1.out (by kernel_rfl)) ?_;try go_wp2
        go_ret;exact ⟨zzR,zzh1⟩
      ·
       rw [if_neg c6] at H;exact absurd H (by simp)
     ·
      rw [if_neg c5] at H;exact absurd H (by simp)
    ·
     rw [if_neg c4] at H;have d8:decide (a0 < (l0.length:Int))=false:=decide_eq_false c4;clear c4;obtain rfl:=Option.some.inj H;go_wp2;go_ret;exact ⟨zzR,zzh1⟩
 ·
  rw [if_neg c3] at H;obtain ⟨c9,d0⟩:=zzY c3;have d1:(l0.length==l1.length)=false:=by first|simpa using c3|(simp at c3 ⊢;omega)
  obtain rfl:=Option.some.inj H;go_enter Try.func9,Try.ntmps9;go_wp2;go_ret;exact ⟨zzR,zzh1⟩

set_option linter.unusedVariables false
set_option linter.unusedSimpArgs false
def Qe.l0:Nat→List (S30)→Int→Int→Option (Int×(List (S30)))
 | 0,_,_,_=>none
 | k+1,x0,x1,x5=>if x5 < (x0.length:Int) then (if 0≤x5 then ((some (x0.set (x5:Int).toNat (⟨x1,(Qa x0 x5).f1⟩:S30):List (S30))).bind fun y159=>(Qe.l0 k (y159.set (x5:Int).toNat (⟨(Qa y159 x5).f0,wrap64 (x1+1)⟩:S30)) (wrap64 ((wrap64 (x1+1))+1)) (wrap64 (x5+1)))) else (none)) else (some (x1,x0))
def Qe.f (k:Nat) (l0:List (S30)) (a1:Int):Option (Int×(List (S30))):=Qe.l0 k l0 a1 0
set_option maxHeartbeats 8000000 in
theorem Qe.calls (k:Nat) (P0_:Nat→Prop) (u9000_:Value) (l0:List (S30)) (a1:Int) (r1:Int) (r2:List (S30)) (w0 w:World) (hB:Below w0.heap.size w0 w) (ho0:Kd.R k30 30 w w0.heap.size P0_ u9000_ l0) (h:Qe.f k l0 a1=some (r1,r2)) :
  Calls Try.prog 10 #[u9000_,.int .i64 a1] w fun e w'=>e = .returned (.int .i64 r1)∧Kd.R k30 30 w' w0.heap.size (fun k_=>(P0_ k_∨w.heap.size≤k_)) u9000_ r2∧Below w0.heap.size w0 w'∧Kept w w' (fun k_=>P0_ k_):=by
 have b8:=zzm (show Kd.R k30 30 w w0.heap.size (fun k_=>(P0_ k_∨w.heap.size≤k_)) u9000_ l0 from Kd.R_mono ho0 (fun k_ hk=>(.inl hk)));have HK:=zzm (Kept.refl w (fun k_=>P0_ k_));have HW0:=zzm hB.size;have HB:=zzm hB;clear hB;have H:(Qe.l0 k l0 a1 0)=some (r1,r2):=h;clear h;have H':=zzm H;clear H;go_enter Try.func10,Try.ntmps10;go_wp2;go_loopg [1,5] k (fun kq v1 v5 w'=>∃ (a2:List (S30)) (a4:Int) (a0:Int),v1 = .int .i64 a4∧v5 = .int .i64 a0∧Aside0 (Qe.l0 kq a2 a4 a0=some (r1,r2))∧Aside0 (kq≤k)∧Aside0 (Kd.R k30 30 w' w0.heap.size (fun k_=>(P0_ k_∨w.heap.size≤k_)) u9000_ a2)∧Aside0 (Kept w w' (fun k_=>P0_ k_))∧Aside0 (Below w0.heap.size w0 w'))
 case atStart=>exact ⟨(l0),(a1),(0),(by first|rfl|(simp;done)|(simp [*];done)),(by first|rfl|(simp;done)|(simp [*];done)),H',⟨Nat.le_refl _⟩,⟨by (with_reducible repeat (first|apply Kd.R_alloc|apply Kd.R_drewN|apply Kd.R_drew));exact b8.out⟩,⟨by repeat (first|(with_reducible first|exact HK.out|apply Kept.alloc|apply Kept.drewN|apply Kept.drew)|exact HK.out)⟩,⟨zzh1⟩⟩
 case round=>
  clear H';try clear c1
  try clear p2
  obtain ⟨a2,a4,a0,rfl,rfl,HA,HK1,a3,HK,HB⟩:=hrel;cases gk with
  | zero=>exact absurd HA.out (by simp [Qe.l0])
  | succ k1=>
   have H:=HA.out;clear HA;simp only [Qe.l0] at H;by_cases c3:a0 < (a2.length:Int)
   ·
    rw [if_pos c3] at H;have b7:decide (a0 < (a2.length:Int))=true:=decide_eq_true c3;clear c3;by_cases c4 : 0≤a0
    ·
     rw [if_pos c4] at H;have c7:decide (0≤a0)=true:=decide_eq_true c4;clear c4;obtain ⟨y159,hy159⟩:∃ y_:List (S30),y_=(a2.set (a0:Int).toNat (⟨a4,(Qa a2 a0).f1⟩:S30)):=⟨_,rfl⟩;replace H:(Qe.l0 k1 (y159.set (a0:Int).toNat (⟨(Qa y159 a0).f0,wrap64 (a4+1)⟩:S30)) (wrap64 ((wrap64 (a4+1))+1)) (wrap64 (a0+1)))=some (r1,r2):=by first|(rw [hy159];with_reducible exact H)|(have H2_:=(Option.bind_some _ _).symm.trans H;rw [hy159];with_reducible exact H2_)|(have H2_:=(Option.bind_some _ _).symm.trans H;with_reducible exact H2_)|with_reducible exact H|(rw [hy159];exact H)|exact H
     have Ny159:=zzm hy159;clear hy159;obtain ⟨y160,hy160⟩:∃ y_:List (S30),y_=(y159.set (a0:Int).toNat (⟨(Qa y159 a0).f0,wrap64 (a4+1)⟩:S30)):=⟨_,rfl⟩;replace H:(Qe.l0 k1 y160 (wrap64 ((wrap64 (a4+1))+1)) (wrap64 (a0+1)))=some (r1,r2):=by first|(rw [hy160];with_reducible exact H)|(have H2_:=(Option.bind_some _ _).symm.trans H;rw [hy160];with_reducible exact H2_)|(have H2_:=(Option.bind_some _ _).symm.trans H;with_reducible exact H2_)|with_reducible exact H|(rw [hy160];exact H)|exact H
     have Ny160:=zzm hy160;clear hy160;have H':=zzm H;clear H;obtain ⟨d1,b2,eo7⟩:=Kd.R_slice a3.out;subst eo7;have p5 : 0≤(a0:Int):=zzt;have q5:(a0:Int) < ((a2.length:Int):Int):=zzt;obtain ⟨go5,d2,eo5,b6,gl5,cl5,HG5⟩:=Kd.R_form a3.out (by omega)
     (first|cases eo5|(injection eo5 with ea_ en_ ec_;(first|subst ea_|(injection ea_ with ea_;subst ea_));subst ec_;clear en_));have GB5:=zzm b6;have GG5:=zzm HG5;clear b6 gl5 HG5;have HMgo5:=zzm (show (P0_ go5∨w.heap.size≤go5) from (a3.out.1 _ rfl));obtain ⟨d3,hcl5,hM5,a9,hfr5⟩:=Kd.R_elem a3.out z30 (a0:Int) p5 q5;obtain rfl:=k30_openM hM5;have b9:wr.cell? ⟨go5,(a0:Int).toNat * 2,none⟩=some (.int .i64 ((Qa a2 a0).f0)):=a9 0 _ rfl;have c0:wr.cell? ⟨go5,(a0:Int).toNat * 2+1,none⟩=some (.int .i64 ((Qa a2 a0).f1)):=a9 1 _ rfl;have hf5_0:wr.frozen? ⟨go5,(a0:Int).toNat * 2,none⟩=false:=hfr5 0;have hf5_1:wr.frozen? ⟨go5,(a0:Int).toNat * 2+1,none⟩=false:=hfr5 1;clear hcl5 a9 hfr5 hM5;replace p5:=eq_true p5;replace q5:=eq_true q5;have HX8:=zzm (show Kd.R k30 30 wr w0.heap.size (fun k_=>(P0_ k_∨w.heap.size≤k_)) (.slice (some ⟨go5,0,none⟩) a2.length b2) a2 from (by (with_reducible repeat (first|apply Kd.R_alloc|apply Kd.R_drewN|apply Kd.R_drew));exact a3.out));obtain ⟨d4,hcl8,hM8,b0,hfr8⟩:=Kd.R_elem HX8.out z30 (a0:Int) (zzt) (by have h_:(a0:Int) < ((a2.length:Int):Int):=zzt;first|exact h_|(have e_:=(Kd.R_reads' a3.out).1;omega)|simpa using h_);obtain rfl:=k30_openM hM8;have HP8:=Kd.R_seg HX8.out (a0:Int) (zzt) (by have h_:(a0:Int) < ((a2.length:Int):Int):=zzt;first|exact h_|(have e_:=(Kd.R_reads' a3.out).1;omega)|simpa using h_) (seg:=[.int .i64 a4]) (j:=0) hcl8 b0 (show 1≤2 from by decide) (x':=(⟨a4,(Qa a2 a0).f1⟩:S30)) (k30_mkM _ _ _ (⟨a4,(Qa a2 a0).f1⟩:S30)) (fun _ hk=>hk);have b5:=b0 0 _ rfl
     (try simp only [show (k30).sz=2 from rfl,Nat.mul_one,Nat.add_zero] at b5);have hf8_0:=hfr8 0
     (try simp only [show (k30).sz=2 from rfl,Nat.mul_one,Nat.add_zero] at hf8_0);clear hcl8 b0 hfr8 hM8;go_wp2_with (first|((with_reducible refine gate_store (t:=3) (p:=16) rfl ?_);refine store_event (t:=3) (p:=16) (v:=?vo_w9) (w1:=(wr.setCell ⟨go5,(a0:Int).toNat * 2,none⟩ (.int .i64 a4))) ?hg ?ho ?hn ?hr ?_;(case ho=>rfl);(case hg=>rfl);(case hn=>rfl);(case hr=>first|(go_simp;done)|(go_simp;rfl));intro w9 hw;have hg:wr.grownBy w9 (some go5):=(by rw [hw];exact HP8.2);have hp_:Kd.R k30 30 w9 w0.heap.size (fun k_=>(P0_ k_∨w.heap.size≤k_)) (.slice (some ⟨go5,0,none⟩) a2.length b2) y159:=(by rw [hw,Ny159.out];exact HP8.1);clear HP8;have a6:=zzm (hp_);have a7:=zzm ((by rw [hw];exact zzd (HB.out) GB5.out:Below w0.heap.size w0 w9));have a8:=zzm (Kept.of_grown (S:=(fun k_=>P0_ k_)) hg (by repeat (first|(with_reducible first|exact HK.out|apply Kept.alloc|apply Kept.drewN|apply Kept.drew)|exact HK.out)) (fun k_ e_=>(a3.out.1 k_ e_)));clear a3 HB HK;have a3:=a6;have HB:=a7;have HK:=a8;clear a6 a7 a8 hg hw hp_;have p6 : 0≤(a0:Int):=zzt;have q6:(a0:Int) < ((a2.length:Int):Int):=zzt;obtain ⟨d5,hcl6,hM6,b1,hfr6⟩:=Kd.R_elem a3.out z30 (a0:Int) p6 q6;obtain rfl:=k30_openM hM6;have c5:w9.cell? ⟨go5,(a0:Int).toNat * 2,none⟩=some (.int .i64 ((Qa y159 a0).f0)):=b1 0 _ rfl;have c6:w9.cell? ⟨go5,(a0:Int).toNat * 2+1,none⟩=some (.int .i64 ((Qa y159 a0).f1)):=b1 1 _ rfl;have hf6_0:w9.frozen? ⟨go5,(a0:Int).toNat * 2,none⟩=false:=hfr6 0;have hf6_1:w9.frozen? ⟨go5,(a0:Int).toNat * 2+1,none⟩=false:=hfr6 1;clear hcl6 b1 hfr6 hM6;replace p6:=eq_true p6;replace q6:=eq_true q6;have HX10:=zzm (show Kd.R k30 30 w9 w0.heap.size (fun k_=>(P0_ k_∨w.heap.size≤k_)) (.slice (some ⟨go5,0,none⟩) a2.length b2) y159 from (by (with_reducible repeat (first|apply Kd.R_alloc|apply Kd.R_drewN|apply Kd.R_drew));exact a3.out));obtain ⟨c8,hcl10,hM10,a5,hfr10⟩:=Kd.R_elem HX10.out z30 (a0:Int) (zzt) (by have h_:(a0:Int) < ((a2.length:Int):Int):=zzt;first|exact h_|(have e_:=(Kd.R_reads' a3.out).1;omega)|simpa using h_);obtain rfl:=k30_openM hM10;have HP10:=Kd.R_seg HX10.out (a0:Int) (zzt) (by have h_:(a0:Int) < ((a2.length:Int):Int):=zzt;first|exact h_|(have e_:=(Kd.R_reads' a3.out).1;omega)|simpa using h_) (seg:=[.int .i64 (wrap64 (a4+1))]) (j:=1) hcl10 a5 (show 2≤2 from by decide) (x':=(⟨(Qa y159 a0).f0,wrap64 (a4+1)⟩:S30)) (k30_mkM _ _ _ (⟨(Qa y159 a0).f0,wrap64 (a4+1)⟩:S30)) (fun _ hk=>hk);have b3:=a5 1 _ rfl;(try simp only [show (k30).sz=2 from rfl,Nat.mul_one,Nat.add_zero] at b3);have hf10_1:=hfr10 1;(try simp only [show (k30).sz=2 from rfl,Nat.mul_one,Nat.add_zero] at hf10_1);clear hcl10 a5 hfr10 hM10)|((with_reducible refine gate_store (t:=3) (p:=23) rfl ?_);refine store_event (t:=3) (p:=23) (v:=?vo_w11) (w1:=(w9.setCell ⟨go5,(a0:Int).toNat * 2+1,none⟩ (.int .i64 (wrap64 (a4+1))))) ?hg ?ho ?hn ?hr ?_;(case ho=>rfl);(case hg=>rfl);(case hn=>rfl);(case hr=>first|(go_simp;done)|(go_simp;rfl));intro b4 hw;have hg:w9.grownBy b4 (some go5):=(by rw [hw];exact HP10.2);have hp_:Kd.R k30 30 b4 w0.heap.size (fun k_=>(P0_ k_∨w.heap.size≤k_)) (.slice (some ⟨go5,0,none⟩) a2.length b2) y160:=(by rw [hw,Ny160.out];exact HP10.1);clear HP10;have a6:=zzm (hp_);have a7:=zzm ((by rw [hw];exact zzd (HB.out) GB5.out:Below w0.heap.size w0 b4));have a8:=zzm (Kept.of_grown (S:=(fun k_=>P0_ k_)) hg (by repeat (first|(with_reducible first|exact HK.out|apply Kept.alloc|apply Kept.drewN|apply Kept.drew)|exact HK.out)) (fun k_ e_=>(a3.out.1 k_ e_)));clear a3 HB HK;have a3:=a6;have HB:=a7;have HK:=a8;clear a6 a7 a8 hg hw hp_));go_roundg k1
     case measure=>have:=HK1.out;omega
     case rel=>exact ⟨(y160),(wrap64 ((wrap64 (a4+1))+1)),(wrap64 (a0+1)),(by first|rfl|(simp;done)|(simp [*];done)),(by first|rfl|(simp;done)|(simp [*];done)),H',⟨by have:=HK1.out;omega⟩,⟨by (with_reducible repeat (first|apply Kd.R_alloc|apply Kd.R_drewN|apply Kd.R_drew));exact a3.out⟩,⟨by repeat (first|(with_reducible first|exact HK.out|apply Kept.alloc|apply Kept.drewN|apply Kept.drew)|exact HK.out)⟩,⟨zzh1⟩⟩
    ·
     rw [if_neg c4] at H;exact absurd H (by simp)
   ·
    rw [if_neg c3] at H;have b7:decide (a0 < (a2.length:Int))=false:=decide_eq_false c3;clear c3;simp only [Option.some.injEq,Prod.mk.injEq] at H;obtain ⟨rfl,rfl⟩:=H;obtain ⟨c9,d0,eo12⟩:=Kd.R_slice a3.out;subst eo12;go_wp2;go_ret;exact ⟨zzR,by (with_reducible repeat (first|apply Kd.R_alloc|apply Kd.R_drewN|apply Kd.R_drew));exact a3.out,zzh1,by repeat (first|(with_reducible first|exact HK.out|apply Kept.alloc|apply Kept.drewN|apply Kept.drew)|exact HK.out)⟩
set_option maxHeartbeats 8000000 in
theorem Qe.calls2 (k:Nat) (P0_:Nat→Prop) (u9000_:Value) (l0:List (S30)) (a1:Int) (r1:Int) (r2:List (S30)) (w0 w:World) (hB:Below w0.heap.size w0 w) (ho0:Kd.R k30 30 w w0.heap.size P0_ u9000_ l0) (h:Qe.f k l0 a1=some (r1,r2)) :
  Calls Try.prog 10 #[cl u9000_,.int .i64 a1] w fun e w'=>e = .returned (.int .i64 r1)∧Kd.R k30 30 w' w0.heap.size (fun k_=>(P0_ k_∨w.heap.size≤k_)) u9000_ r2∧Below w0.heap.size w0 w'∧Kept w w' (fun k_=>P0_ k_):=by
 have b8:=zzm (show Kd.R k30 30 w w0.heap.size (fun k_=>(P0_ k_∨w.heap.size≤k_)) u9000_ l0 from Kd.R_mono ho0 (fun k_ hk=>(.inl hk)));have HK:=zzm (Kept.refl w (fun k_=>P0_ k_));have HW0:=zzm hB.size;have HB:=zzm hB;clear hB;have H:(Qe.l0 k l0 a1 0)=some (r1,r2):=h;clear h;have H':=zzm H;clear H;go_enter Try.func10,Try.ntmps10;go_wp2;go_loopg [1,5] k (fun kq v1 v5 w'=>∃ (a2:List (S30)) (a4:Int) (a0:Int),v1 = .int .i64 a4∧v5 = .int .i64 a0∧Aside0 (Qe.l0 kq a2 a4 a0=some (r1,r2))∧Aside0 (kq≤k)∧Aside0 (Kd.R k30 30 w' w0.heap.size (fun k_=>(P0_ k_∨w.heap.size≤k_)) u9000_ a2)∧Aside0 (Kept w w' (fun k_=>P0_ k_))∧Aside0 (Below w0.heap.size w0 w'))
 case atStart=>exact ⟨(l0),(a1),(0),(by first|rfl|(simp;done)|(simp [*];done)),(by first|rfl|(simp;done)|(simp [*];done)),H',⟨Nat.le_refl _⟩,⟨by (with_reducible repeat (first|apply Kd.R_alloc|apply Kd.R_drewN|apply Kd.R_drew));exact b8.out⟩,⟨by repeat (first|(with_reducible first|exact HK.out|apply Kept.alloc|apply Kept.drewN|apply Kept.drew)|exact HK.out)⟩,⟨zzh1⟩⟩
 case round=>
  clear H';try clear c1
  try clear p2
  obtain ⟨a2,a4,a0,rfl,rfl,HA,HK1,a3,HK,HB⟩:=hrel;cases gk with
  | zero=>exact absurd HA.out (by simp [Qe.l0])
  | succ k1=>
   have H:=HA.out;clear HA;simp only [Qe.l0] at H;by_cases c3:a0 < (a2.length:Int)
   ·
    rw [if_pos c3] at H;have b7:decide (a0 < (a2.length:Int))=true:=decide_eq_true c3;clear c3;by_cases c4 : 0≤a0
    ·
     rw [if_pos c4] at H;have c7:decide (0≤a0)=true:=decide_eq_true c4;clear c4;obtain ⟨y159,hy159⟩:∃ y_:List (S30),y_=(a2.set (a0:Int).toNat (⟨a4,(Qa a2 a0).f1⟩:S30)):=⟨_,rfl⟩;replace H:(Qe.l0 k1 (y159.set (a0:Int).toNat (⟨(Qa y159 a0).f0,wrap64 (a4+1)⟩:S30)) (wrap64 ((wrap64 (a4+1))+1)) (wrap64 (a0+1)))=some (r1,r2):=by first|(rw [hy159];with_reducible exact H)|(have H2_:=(Option.bind_some _ _).symm.trans H;rw [hy159];with_reducible exact H2_)|(have H2_:=(Option.bind_some _ _).symm.trans H;with_reducible exact H2_)|with_reducible exact H|(rw [hy159];exact H)|exact H
     have Ny159:=zzm hy159;clear hy159;obtain ⟨y160,hy160⟩:∃ y_:List (S30),y_=(y159.set (a0:Int).toNat (⟨(Qa y159 a0).f0,wrap64 (a4+1)⟩:S30)):=⟨_,rfl⟩;replace H:(Qe.l0 k1 y160 (wrap64 ((wrap64 (a4+1))+1)) (wrap64 (a0+1)))=some (r1,r2):=by first|(rw [hy160];with_reducible exact H)|(have H2_:=(Option.bind_some _ _).symm.trans H;rw [hy160];with_reducible exact H2_)|(have H2_:=(Option.bind_some _ _).symm.trans H;with_reducible exact H2_)|with_reducible exact H|(rw [hy160];exact H)|exact H
     have Ny160:=zzm hy160;clear hy160;have H':=zzm H;clear H;obtain ⟨d1,b2,eo7⟩:=Kd.R_slice a3.out;subst eo7;(try rw [cl_slice]);have p5 : 0≤(a0:Int):=zzt;have q5:(a0:Int) < ((a2.length:Int):Int):=zzt;obtain ⟨go5,d2,eo5,b6,gl5,cl5,HG5⟩:=Kd.R_form a3.out (by omega)
     (first|cases eo5|(injection eo5 with ea_ en_ ec_;(first|subst ea_|(injection ea_ with ea_;subst ea_));subst ec_;clear en_));have GB5:=zzm b6;have GG5:=zzm HG5;clear b6 gl5 HG5;have HMgo5:=zzm (show (P0_ go5∨w.heap.size≤go5) from (a3.out.1 _ rfl));obtain ⟨d3,hcl5,hM5,a9,hfr5⟩:=Kd.R_elem a3.out z30 (a0:Int) p5 q5;obtain rfl:=k30_openM hM5;have b9:wr.cell? ⟨go5,(a0:Int).toNat * 2,none⟩=some (.int .i64 ((Qa a2 a0).f0)):=a9 0 _ rfl;have c0:wr.cell? ⟨go5,(a0:Int).toNat * 2+1,none⟩=some (.int .i64 ((Qa a2 a0).f1)):=a9 1 _ rfl;have hf5_0:wr.frozen? ⟨go5,(a0:Int).toNat * 2,none⟩=false:=hfr5 0;have hf5_1:wr.frozen? ⟨go5,(a0:Int).toNat * 2+1,none⟩=false:=hfr5 1;clear hcl5 a9 hfr5 hM5;replace p5:=eq_true p5;replace q5:=eq_true q5;have HX8:=zzm (show Kd.R k30 30 wr w0.heap.size (fun k_=>(P0_ k_∨w.heap.size≤k_)) (.slice (some ⟨go5,0,none⟩) a2.length b2) a2 from (by (with_reducible repeat (first|apply Kd.R_alloc|apply Kd.R_drewN|apply Kd.R_drew));exact a3.out));obtain ⟨d4,hcl8,hM8,b0,hfr8⟩:=Kd.R_elem HX8.out z30 (a0:Int) (zzt) (by have h_:(a0:Int) < ((a2.length:Int):Int):=zzt;first|exact h_|(have e_:=(Kd.R_reads' a3.out).1;omega)|simpa using h_);obtain rfl:=k30_openM hM8;have HP8:=Kd.R_seg HX8.out (a0:Int) (zzt) (by have h_:(a0:Int) < ((a2.length:Int):Int):=zzt;first|exact h_|(have e_:=(Kd.R_reads' a3.out).1;omega)|simpa using h_) (seg:=[.int .i64 a4]) (j:=0) hcl8 b0 (show 1≤2 from by decide) (x':=(⟨a4,(Qa a2 a0).f1⟩:S30)) (k30_mkM _ _ _ (⟨a4,(Qa a2 a0).f1⟩:S30)) (fun _ hk=>hk);have b5:=b0 0 _ rfl
     (try simp only [show (k30).sz=2 from rfl,Nat.mul_one,Nat.add_zero] at b5);have hf8_0:=hfr8 0
     (try simp only [show (k30).sz=2 from rfl,Nat.mul_one,Nat.add_zero] at hf8_0);clear hcl8 b0 hfr8 hM8;go_wp2_with (first|((with_reducible refine gate_store (t:=3) (p:=16) rfl ?_);refine store_event (t:=3) (p:=16) (v:=?vo_w9) (w1:=(wr.setCell ⟨go5,(a0:Int).toNat * 2,none⟩ (.int .i64 a4))) ?hg ?ho ?hn ?hr ?_;(case ho=>rfl);(case hg=>rfl);(case hn=>rfl);(case hr=>first|(go_simp;done)|(go_simp;rfl));intro w9 hw;have hg:wr.grownBy w9 (some go5):=(by rw [hw];exact HP8.2);have hp_:Kd.R k30 30 w9 w0.heap.size (fun k_=>(P0_ k_∨w.heap.size≤k_)) (.slice (some ⟨go5,0,none⟩) a2.length b2) y159:=(by rw [hw,Ny159.out];exact HP8.1);clear HP8;have a6:=zzm (hp_);have a7:=zzm ((by rw [hw];exact zzd (HB.out) GB5.out:Below w0.heap.size w0 w9));have a8:=zzm (Kept.of_grown (S:=(fun k_=>P0_ k_)) hg (by repeat (first|(with_reducible first|exact HK.out|apply Kept.alloc|apply Kept.drewN|apply Kept.drew)|exact HK.out)) (fun k_ e_=>(a3.out.1 k_ e_)));clear a3 HB HK;have a3:=a6;have HB:=a7;have HK:=a8;clear a6 a7 a8 hg hw hp_;have p6 : 0≤(a0:Int):=zzt;have q6:(a0:Int) < ((a2.length:Int):Int):=zzt;obtain ⟨d5,hcl6,hM6,b1,hfr6⟩:=Kd.R_elem a3.out z30 (a0:Int) p6 q6;obtain rfl:=k30_openM hM6;have c5:w9.cell? ⟨go5,(a0:Int).toNat * 2,none⟩=some (.int .i64 ((Qa y159 a0).f0)):=b1 0 _ rfl;have c6:w9.cell? ⟨go5,(a0:Int).toNat * 2+1,none⟩=some (.int .i64 ((Qa y159 a0).f1)):=b1 1 _ rfl;have hf6_0:w9.frozen? ⟨go5,(a0:Int).toNat * 2,none⟩=false:=hfr6 0;have hf6_1:w9.frozen? ⟨go5,(a0:Int).toNat * 2+1,none⟩=false:=hfr6 1;clear hcl6 b1 hfr6 hM6;replace p6:=eq_true p6;replace q6:=eq_true q6;have HX10:=zzm (show Kd.R k30 30 w9 w0.heap.size (fun k_=>(P0_ k_∨w.heap.size≤k_)) (.slice (some ⟨go5,0,none⟩) a2.length b2) y159 from (by (with_reducible repeat (first|apply Kd.R_alloc|apply Kd.R_drewN|apply Kd.R_drew));exact a3.out));obtain ⟨c8,hcl10,hM10,a5,hfr10⟩:=Kd.R_elem HX10.out z30 (a0:Int) (zzt) (by have h_:(a0:Int) < ((a2.length:Int):Int):=zzt;first|exact h_|(have e_:=(Kd.R_reads' a3.out).1;omega)|simpa using h_);obtain rfl:=k30_openM hM10;have HP10:=Kd.R_seg HX10.out (a0:Int) (zzt) (by have h_:(a0:Int) < ((a2.length:Int):Int):=zzt;first|exact h_|(have e_:=(Kd.R_reads' a3.out).1;omega)|simpa using h_) (seg:=[.int .i64 (wrap64 (a4+1))]) (j:=1) hcl10 a5 (show 2≤2 from by decide) (x':=(⟨(Qa y159 a0).f0,wrap64 (a4+1)⟩:S30)) (k30_mkM _ _ _ (⟨(Qa y159 a0).f0,wrap64 (a4+1)⟩:S30)) (fun _ hk=>hk);have b3:=a5 1 _ rfl;(try simp only [show (k30).sz=2 from rfl,Nat.mul_one,Nat.add_zero] at b3);have hf10_1:=hfr10 1;(try simp only [show (k30).sz=2 from rfl,Nat.mul_one,Nat.add_zero] at hf10_1);clear hcl10 a5 hfr10 hM10)|((with_reducible refine gate_store (t:=3) (p:=23) rfl ?_);refine store_event (t:=3) (p:=23) (v:=?vo_w11) (w1:=(w9.setCell ⟨go5,(a0:Int).toNat * 2+1,none⟩ (.int .i64 (wrap64 (a4+1))))) ?hg ?ho ?hn ?hr ?_;(case ho=>rfl);(case hg=>rfl);(case hn=>rfl);(case hr=>first|(go_simp;done)|(go_simp;rfl));intro b4 hw;have hg:w9.grownBy b4 (some go5):=(by rw [hw];exact HP10.2);have hp_:Kd.R k30 30 b4 w0.heap.size (fun k_=>(P0_ k_∨w.heap.size≤k_)) (.slice (some ⟨go5,0,none⟩) a2.length b2) y160:=(by rw [hw,Ny160.out];exact HP10.1);clear HP10;have a6:=zzm (hp_);have a7:=zzm ((by rw [hw];exact zzd (HB.out) GB5.out:Below w0.heap.size w0 b4));have a8:=zzm (Kept.of_grown (S:=(fun k_=>P0_ k_)) hg (by repeat (first|(with_reducible first|exact HK.out|apply Kept.alloc|apply Kept.drewN|apply Kept.drew)|exact HK.out)) (fun k_ e_=>(a3.out.1 k_ e_)));clear a3 HB HK;have a3:=a6;have HB:=a7;have HK:=a8;clear a6 a7 a8 hg hw hp_));go_roundg k1
     case measure=>have:=HK1.out;omega
     case rel=>exact ⟨(y160),(wrap64 ((wrap64 (a4+1))+1)),(wrap64 (a0+1)),(by first|rfl|(simp;done)|(simp [*];done)),(by first|rfl|(simp;done)|(simp [*];done)),H',⟨by have:=HK1.out;omega⟩,⟨by (with_reducible repeat (first|apply Kd.R_alloc|apply Kd.R_drewN|apply Kd.R_drew));exact a3.out⟩,⟨by repeat (first|(with_reducible first|exact HK.out|apply Kept.alloc|apply Kept.drewN|apply Kept.drew)|exact HK.out)⟩,⟨zzh1⟩⟩
    ·
     rw [if_neg c4] at H;exact absurd H (by simp)
   ·
    rw [if_neg c3] at H;have b7:decide (a0 < (a2.length:Int))=false:=decide_eq_false c3;clear c3;simp only [Option.some.injEq,Prod.mk.injEq] at H;obtain ⟨rfl,rfl⟩:=H;obtain ⟨c9,d0,eo12⟩:=Kd.R_slice a3.out;subst eo12;(try rw [cl_slice]);go_wp2;go_ret;exact ⟨zzR,by (with_reducible repeat (first|apply Kd.R_alloc|apply Kd.R_drewN|apply Kd.R_drew));exact a3.out,zzh1,by repeat (first|(with_reducible first|exact HK.out|apply Kept.alloc|apply Kept.drewN|apply Kept.drew)|exact HK.out)⟩

set_option linter.unusedVariables false
set_option linter.unusedSimpArgs false
def Qg.l0:Nat→List (S30)→Int→Int→Option (Int)
 | 0,_,_,_=>none
 | k+1,x0,x1,x5=>if x5 < (x0.length:Int) then (if 0≤x5 then (if ((Qa x0 x5).f0)=x1 then (if ((Qa x0 x5).f1)=(wrap64 (x1+1)) then (Qg.l0 k x0 (wrap64 ((wrap64 (x1+1))+1)) (wrap64 (x5+1))) else (some (-1))) else (some (-1))) else (none)) else (some x1)
def Qg.f (k:Nat) (l0:List (S30)) (a1:Int):Option (Int):=Qg.l0 k l0 a1 0
set_option maxHeartbeats 8000000 in
theorem Qg.calls (k:Nat) (A0:Option Addr) (c0:Nat) (l0:List (S30)) (a1:Int) (r:Int) (w:World) (b6:Kd.C k30 w A0 l0.length l0) (b7:l0.length≤c0) (h:Qg.f k l0 a1=some r) :
  Calls Try.prog 11 #[.slice A0 l0.length c0,.int .i64 a1] w fun e w'=>e = .returned (.int .i64 r)∧Drawn0 w w':=by
 have b2:=zzm b6;have d1:=zzm b7;clear b6 b7;have H:(Qg.l0 k l0 a1 0)=some r:=h;clear h;have H':=zzm H;clear H;go_enter Try.func11,Try.ntmps11;go_wp2;go_loopg [1,5] k (fun kq v1 v5 w'=>∃ (a6:Int) (a0:Int),v1 = .int .i64 a6∧v5 = .int .i64 a0∧Aside0 (Qg.l0 kq l0 a6 a0=some r)∧Aside0 (kq≤k)∧Drawn0 w w')
 case atStart=>exact ⟨(a1),(0),(by first|rfl|(simp;done)|(simp [*];done)),(by first|rfl|(simp;done)|(simp [*];done)),H',⟨Nat.le_refl _⟩,by repeat (first|exact Drawn0.refl _|apply Drawn0.step)⟩
 case round=>
  clear H';try clear c1
  try clear p2
  obtain ⟨a6,a0,rfl,rfl,HA,HK1,⟨m1,rfl⟩⟩:=hrel;cases gk with
  | zero=>exact absurd HA.out (by simp [Qg.l0])
  | succ k1=>
   have H:=HA.out;clear HA;simp only [Qg.l0] at H;by_cases c3:a0 < (l0.length:Int)
   ·
    rw [if_pos c3] at H;have b8:decide (a0 < (l0.length:Int))=true:=decide_eq_true c3;clear c3;by_cases c4 : 0≤a0
    ·
     rw [if_pos c4] at H;have d0:decide (0≤a0)=true:=decide_eq_true c4;clear c4;by_cases c5:((Qa l0 a0).f0)=a6
     ·
      rw [if_pos c5] at H;obtain ⟨b9,c7⟩:=zzQ c5;clear c5;by_cases c6:((Qa l0 a0).f1)=(wrap64 (a6+1))
      ·
       rw [if_pos c6] at H;obtain ⟨c8,c9⟩:=zzQ c6;clear c6;have H':=zzm H;clear H;have a2 : 0≤(a0:Int):=zzt;have a3:a0 < (l0.length:Int):=zzt;obtain ⟨a7,a8,a9,b0⟩:=Qm b2.out a0 a2 a3;cases a8;replace a2:=eq_true a2;replace a3:=eq_true a3;have a4 : 0≤(a0:Int):=zzt;have a5:a0 < (l0.length:Int):=zzt;obtain ⟨b1,b3,b4,b5⟩:=Qm b2.out a0 a4 a5;obtain rfl:a7=b1:=(by injection b3);replace a4:=eq_true a4;replace a5:=eq_true a5;go_wp2;go_roundg k1
       case measure=>have:=HK1.out;omega
       case rel=>exact ⟨(wrap64 ((wrap64 (a6+1))+1)),(wrap64 (a0+1)),(by first|rfl|(simp;done)|(simp [*];done)),(by first|rfl|(simp;done)|(simp [*];done)),H',⟨by have:=HK1.out;omega⟩,by repeat (first|exact Drawn0.refl _|apply Drawn0.step)⟩
      ·
       rw [if_neg c6] at H;obtain ⟨c8,c9⟩:=zzY c6;obtain rfl:=Option.some.inj H;have a2 : 0≤(a0:Int):=zzt;have a3:a0 < (l0.length:Int):=zzt;obtain ⟨a7,a8,a9,b0⟩:=Qm b2.out a0 a2 a3;cases a8;replace a2:=eq_true a2;replace a3:=eq_true a3;have a4 : 0≤(a0:Int):=zzt;have a5:a0 < (l0.length:Int):=zzt;obtain ⟨b1,b3,b4,b5⟩:=Qm b2.out a0 a4 a5;obtain rfl:a7=b1:=(by injection b3);replace a4:=eq_true a4;replace a5:=eq_true a5;go_wp2;go_ret;exact ⟨by first|rfl|(simp;done)|(simp [*];done),by repeat (first|exact Drawn0.refl _|apply Drawn0.step)⟩
     ·
      rw [if_neg c5] at H;obtain ⟨b9,c7⟩:=zzY c5;obtain rfl:=Option.some.inj H;have a2 : 0≤(a0:Int):=zzt;have a3:a0 < (l0.length:Int):=zzt;obtain ⟨a7,a8,a9,b0⟩:=Qm b2.out a0 a2 a3;cases a8;replace a2:=eq_true a2;replace a3:=eq_true a3;go_wp2;go_ret;exact ⟨by first|rfl|(simp;done)|(simp [*];done),by repeat (first|exact Drawn0.refl _|apply Drawn0.step)⟩
    ·
     rw [if_neg c4] at H;exact absurd H (by simp)
   ·
    rw [if_neg c3] at H;have b8:decide (a0 < (l0.length:Int))=false:=decide_eq_false c3;clear c3;obtain rfl:=Option.some.inj H;go_wp2;go_ret;exact ⟨by first|rfl|(simp;done)|(simp [*];done),by repeat (first|exact Drawn0.refl _|apply Drawn0.step)⟩
end Go.Proofs.Ytelicmnacflblaa.T
