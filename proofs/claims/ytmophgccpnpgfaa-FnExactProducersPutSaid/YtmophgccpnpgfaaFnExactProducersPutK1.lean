/- The law FnExactProducersPut holds (part 2 of 5; merged by pack2.py). -/
import Derived.Test.YtmophgccpnpgfaaRows
import Derived.JoinedOf
import Derived.Test.YtmophgccpnpgfaaProg
import Derived.IntWalk
import Derived.RegionTactic
import Derived.Test.YtmophgccpnpgfaaFnExactProducersPutK0
set_option maxRecDepth 1000000
open List (setIfInBounds_toArray set_cons_zero set_cons_succ map_toArray map_cons map_nil length_drop length_take)
namespace Go.Proofs.YtmophgccpnpgfaaW.PrintWords
open Go.RowKit Go.Proofs.YtmophgccpnpgfaaW.PrintLast
inductive Grew (W : World) : World → Prop
  | refl : Grew W W
  | alloc {V : World} (h : Grew W V) (o : Obj) : Grew W (V.alloc o)
  | drewN {V : World} (h : Grew W V) (n : Nat) : Grew W (V.drewN n)
  | drew {V : World} (h : Grew W V) : Grew W V.drew
theorem zzS {α : Type} {d : Kd α} {e base : Nat} {W W' : World} {ok : Nat → Prop} {v : Value} {xs : List α} (h : Kd.S d e W base ok v xs) (g : Grew W W' := by with_reducible repeat (first | exact Grew.refl | refine Grew.alloc ?_ _ | refine Grew.drewN ?_ _ | refine Grew.drew ?_)) : Kd.S d e W' base ok v xs := by
  induction g with
  | refl => exact h
  | alloc _ _ ih => exact Kd.S_alloc ih _
  | drewN _ _ ih => exact Kd.S_drewN ih _
  | drew _ ih => exact Kd.S_drew ih
theorem zzE {W W' : World} {b : Nat} {o : Obj} (h : W.heap[b]? = some o) (g : Grew W W' := by with_reducible repeat (first | exact Grew.refl | refine Grew.alloc ?_ _ | refine Grew.drewN ?_ _ | refine Grew.drew ?_)) : W'.heap[b]? = some o := by
  induction g with
  | refl => exact h
  | alloc _ _ ih => exact blk_alloc ih _
  | drewN _ _ ih => exact blk_drewN ih _
  | drew _ ih => exact blk_drew ih
theorem zzh2 {w W : World} (h : Below w.heap.size w W := by repeat (first | (with_reducible first | exact HB.out | apply zza | apply zzb | apply zzc | refine zzd ?_ (Aside0.out (by with_reducible assumption))) | exact HB.out)) : Below w.heap.size w W := h
theorem zzJ : (∀ {α : Type} {l : List α} {i : Nat} {a : α}, l.toArray.setIfInBounds i a = (l.set i a).toArray) ∧ (∀ {α : Type} {xs : List α} {a b : α}, (a :: xs).set 0 b = b :: xs) ∧ (∀ {α : Type} {xs : List α} {i : Nat} {a b : α}, (a :: xs).set (i + 1) b = a :: xs.set i b) ∧ (∀ n : Int, IntKind.i64.wrap n = Go.RowKit.wrap64 n) ∧ (∀ n : Int, IntKind.i32.wrap n = Go.RowKit.wrap32 n) ∧ (∀ (a : Act) (d : Tmp) (v : Value), a.put (some d) v = { a with tmps := a.tmps.setIfInBounds d v }) ∧ ∀ (a : Act) (v : Value), a.put none v = a := ⟨zzq, zzr, zzs, i64_w, i32_w, fun _ _ _ => rfl, fun _ _ => rfl⟩
theorem zzH {α β : Type} {o : Option α} {f : α → Option β} {b : β} (h : o.bind f = some b) : ∃ a, o = some a ∧ f a = some b := Option.bind_eq_some_iff.mp h
theorem zzR {α : Sort _} {x y : α} (h : x = y := by first | rfl | (simp [errW_none, errW_some] <;> rfl) | (simp [*, errW_none, errW_some] <;> rfl)) : x = y := h
theorem zzM2 {α : Type} {x y : α} (h : x = y := by (try simp only [List.map_toArray, List.map_cons, List.map_nil]); first | done | rfl | (simp only [List.length_drop, List.length_take]; rfl)) : x = y := h
theorem zzA2 {md : Region.Mode} {ops : Array Oper} {T : Bool × List (List Nat × List Nat)} {l l' : Array Bool} {i : Nat} (hT : rtab md ops = T) (h : anyT T l.toList l'.toList i = true := by kernel_rfl) : anyB md ops l l' i = true := any_of hT h
end Go.Proofs.YtmophgccpnpgfaaW.PrintWords
namespace Go.Proofs.YtmophgccpnpgfaaW.PrintWords
open Go.RowKit Go.Proofs.YtmophgccpnpgfaaW.PrintLast
theorem zzC {α : Type} {d : Kd α} {W W' : World} {A : Option Addr} {n : Nat} {xs : List α} (h : Kd.C d W A n xs) (g : Grew W W' := by with_reducible repeat (first | exact Grew.refl | refine Grew.alloc ?_ _ | refine Grew.drewN ?_ _ | refine Grew.drew ?_)) : Kd.C d W' A n xs := by
  induction g with
  | refl => exact h
  | alloc _ _ ih => exact Kd.C_alloc ih _
  | drewN _ _ ih => exact Kd.C_drewN ih _
  | drew _ ih => exact Kd.C_drew ih
end Go.Proofs.YtmophgccpnpgfaaW.PrintWords
namespace Go.Proofs.YtmophgccpnpgfaaW.PrintWords
open Go.RowKit Go.Proofs.YtmophgccpnpgfaaW.PrintLast
section
variable {P:Program} {md:Region.Mode} {ops:Array Oper} {ds:List Nat} {T:Bool×List (List Nat×List Nat)} {B:List Nat} {Q:Exit→Act→World→Prop} {S:World→Prop} {oi:Oper} {v:Value} {fuel:Nat} {l:Array Bool} {a a':Act} {w:World}
theorem zzP (i N c m:Nat) (HT:Aside0 (rtab md ops=T)) (h:wpAnyLast P md ops Q S ds fuel (zzB c m) a' w) (hi:ops[i]?=some oi:=by exact rfl) (hN:oi.dst=some N:=by exact rfl) (hc:anyT T l.toList (zzB c m).toList i=true:=by kernel_rfl) (hw:Region.wanted oi (yielded ops a.tmps)=true:=by rfl) (hy:∀ w,(execOp a.eval oi).run P w=.ok (.value v) w:=by intro w';go_simp;with_reducible rfl) (ha:a.put (some N) v=a':=by simp only [zzJ];rfl) (hQ:∀ c a w,Q (.panic c) (a.put oi.dst v) w→Q (.panic c) a w:=by exact fun _ _ _ h=>h):wpAnyLast P md ops Q S ds (fuel+1) l a w:=pure_ (zzB c m) hi hN (any_of HT.out hc) hQ (Or.inl ⟨hw,hy⟩) ha h
theorem zzU (i N c m:Nat) (HT:Aside0 (rtab md ops=T)) (h:wpAnyLast P md ops Q S ds fuel (zzB c m) a' w) (hi:ops[i]?=some oi:=by exact rfl) (hN:oi.dst=some N:=by exact rfl) (hc:anyT T l.toList (zzB c m).toList i=true:=by kernel_rfl) (hw:Region.wanted oi (yielded ops a.tmps)=false:=by rfl) (ha:a.put (some N) undef=a':=by simp only [zzJ];rfl) (hQ:∀ c a w,Q (.panic c) (a.put oi.dst undef) w→Q (.panic c) a w:=by exact fun _ _ _ h=>h):wpAnyLast P md ops Q S ds (fuel+1) l a w:=pure_ (zzB c m) hi hN (any_of HT.out hc) hQ (Or.inr ⟨hw,rfl⟩) ha h
theorem zzT (i N c m:Nat) (HT:Aside0 (rtab md ops=T)) (HW:Aside0 (waitsOk T.2 B=true)) (hS:S w) (h:wpAnyLast P md ops Q S ds fuel (zzB c m) a' w) (hi:ops[i]?=some oi:=by exact rfl) (hN:oi.dst=some N:=by exact rfl) (hc:takeW T B ds l.toList (zzB c m).toList i=true:=by kernel_rfl) (hw:Region.wanted oi (yielded ops a.tmps)=true:=by rfl) (hy:∀ w,S w→(execOp a.eval oi).run P w=.ok (.value v) w:=by intro w';(try simp only [and_imp]);intros;go_simp;with_reducible rfl) (ha:a.put (some N) v=a':=by simp only [zzJ];rfl) (hQ:∀ c a w,Q (.panic c) (a.put oi.dst v) w→Q (.panic c) a w:=by exact fun _ _ _ h=>h):wpAnyLast P md ops Q S ds (fuel+1) l a w:=take_ (zzB c m) hi hN (take_ofW HT.out HW.out hc) hQ (Or.inl ⟨hw,hy⟩) hS ha h
theorem zzO (N:Nat) {a0:Act} (h:wpAnyLast P md ops Q S ds fuel l a' w) (e:a=a0.put (some N) v:=by exact rfl) (ha:a0.put (some N) v=a':=by simp only [zzJ];rfl):wpAnyLast P md ops Q S ds fuel l a w:=norm_ (e.trans ha) h
end
theorem zzIt {α:Type} {a b c:α} {i:Decidable (true=true)} (h:(@ite α (true=true) i a b)=c):a=c:=by rw [if_pos rfl] at h;exact h
theorem zzIf {α:Type} {a b c:α} {i:Decidable (false=true)} (h:(@ite α (false=true) i a b)=c):b=c:=by rw [if_neg (fun e=>Bool.noConfusion e)] at h;exact h
theorem zzG {α β:Type} {o:Option α} {f:α→Option β} {b:β} (h:o.bind f=some b):∃ a,Aside0 (o=some a)∧f a=some b:=let ⟨a,x,y⟩:=Option.bind_eq_some_iff.mp h;⟨a,⟨x⟩,y⟩
theorem zzQ {α:Type} [BEq α] [LawfulBEq α] {a b:α} (h:a=b):(a==b)=true∧(a != b)=false:=⟨beq_iff_eq.mpr h,bne_eq_false_iff_eq.mpr h⟩
theorem zzY {α:Type} [BEq α] [LawfulBEq α] {a b:α} (h:¬ a=b):(a==b)=false∧(a != b)=true:=⟨beq_eq_false_iff_ne.mpr h,bne_iff_ne.mpr h⟩
theorem zzh3 {w W:World} (h:Below w.heap.size w W:=by repeat (first|(with_reducible first|exact HB.out|apply zza|apply zzb|apply zzc|refine zzd ?_ (Aside0.out (by with_reducible assumption)))|exact HB.out)):Below w.heap.size w W:=h
theorem zzcb {α:Type} {d:Kd α} {W V W':World} {A:Option Addr} {n:Nat} {xs:List α} (h:Aside0 (Kd.C d W A n xs)) (HB:Aside0 (Below W.heap.size W V)) (g:Grew V W':=by with_reducible repeat (first|exact Grew.refl|refine Grew.alloc ?_ _|refine Grew.drewN ?_ _|refine Grew.drew ?_)):Kd.C d W' A n xs:=zzC (Kd.C_below h.out HB.out) g
end Go.Proofs.YtmophgccpnpgfaaW.PrintWords
namespace Go.Proofs.Ytmophgccpnpgfaa.Head
open Go
theorem make_of (P : Program) (w : List Char) (R : List (List Char)) (h : behindMainWord (wordsSigns P.initOrder.toList) = w :: R) (h1 : (w == "gc".toList || w == "spec".toList) = false) (h2 : (w == "cut".toList) = true) : P.make = some .cut := by
 unfold Program.make
 rw [h]
 simp only [h1,h2,Bool.true_or,if_true,Bool.false_eq_true,if_false]
theorem enter_of (P : Program) (w : List Char) (R : List (List Char)) (h : behindMainWord (wordsSigns P.initOrder.toList) = w :: R) (h2 : stripLifts liftWords (w :: R) = ([], w :: R)) (h3 : ((w :: R).head? == some "cut".toList) = true)
  (h4:P.laysLater=false) (h5:P.bearsReflect=false) (h6:P.doorFits []=true):P.mayEnter=true:=by
 unfold Program.mayEnter
 rw [h]
 simp only [h2,h3,h4,h5,h6,List.contains_nil,Bool.not_false,Bool.and_self,Bool.or_true]
theorem lifts_of (P : Program) (w : List Char) (R : List (List Char)) (h : behindMainWord (wordsSigns P.initOrder.toList) = w :: R) (h2 : stripLifts liftWords (w :: R) = ([], w :: R)) (h3 : ((w :: R).head? == some "carried".toList) = false) : P.liftsFinal = false := by
 unfold Program.liftsFinal Program.headLifts
 rw [h]
 simp only [h2,h3,Bool.false_and,Bool.false_or,List.contains_nil,ite_self]
def chs (l:List Nat):List Char:=l.map Char.ofNat
theorem wordsSigns_word:∀ (w r:List Char),(∀ c∈w,c≠Char.ofNat 32)→wordsSigns (w++Char.ofNat 32::r)=w::wordsSigns r
 | [],r,_=>rfl
 | c::w,r,h=>by
  have ih:=wordsSigns_word w r (fun x hx=>h x (List.mem_cons_of_mem _ hx))
  have hc:c≠Char.ofNat 32:=h c List.mem_cons_self
  rw [List.cons_append,wordsSigns,ih]
  exact hc
def word1:List Nat:=[104,97,114,110,101,115,115]
def word2:List Nat:=[98,48,101,99,50,57,56,52,100,53,49,48,56,99,55,98,101,99,98,99,53,100,51,53,51,51,102,99,101,54,48,48,97,49,52,51,55,57,99,56,54,52,49,102,97,50,98,50,52,48,48,50,97,48,99,53,51,56,55,51,97,51,100,54]
def word3:List Nat:=[99,117,116]
def signs:List Nat:=[97,116,32,108,111,111,112,46,101,120,97,109,112,108,101,47,114,101,99,111,114,100,98,97,116,99,104,101,115,47,108,97,119,115,46,70,110,80,117,116,78,101,120,116,32,108,111,111,112,46,101,120,97,109,112,108,101,47,114,101,99,111,114,100,98,97,116,99,104,101,115,47,108,97,119,115,46,70,110,69,120,97,99,116,80,114,111,100,117,99,101,114,115,80,117,116,32,108,111,111,112,46,101,120,97,109,112,108,101,47,114,101,99,111,114,100,98,97,116,99,104,101,115,47,108,97,119,115,46,70,110,69,120,97,99,116,80,114,111,100,117,99,101,114,115,82,117,110]
theorem init_is:Try.prog.initOrder=String.ofList (chs word1++Char.ofNat 32::(chs word2++Char.ofNat 32::(chs word3++Char.ofNat 32::chs signs))):=by kernel_rfl
theorem init_words:wordsSigns Try.prog.initOrder.toList=chs word1::chs word2::chs word3::wordsSigns (chs signs):=by
 rw [init_is,String.toList_ofList,wordsSigns_word _ _ (by decide +kernel),wordsSigns_word _ _ (by decide +kernel),wordsSigns_word _ _ (by decide +kernel)]
theorem behind_is:∃ R,behindMainWord (wordsSigns Try.prog.initOrder.toList)=chs word3::R:=by
 rw [init_words]
 generalize wordsSigns (chs signs)=R
 exact ⟨R,by kernel_rfl⟩
theorem strip_is (R:List (List Char)):stripLifts liftWords (chs word3::R)=([],chs word3::R):=by kernel_rfl
theorem make_is:Try.prog.make=some .cut:=by
 obtain ⟨R,h⟩:=behind_is
 exact make_of _ _ R h (by kernel_rfl) (by kernel_rfl)
theorem lays_later:Try.prog.laysLater=false:=by kernel_rfl
theorem bears_reflect:Try.prog.bearsReflect=false:=by kernel_rfl
theorem door_fits:Try.prog.doorFits []=true:=by kernel_rfl
theorem may_enter:Try.prog.mayEnter=true:=by
 obtain ⟨R,h⟩:=behind_is
 exact enter_of _ _ R h (strip_is R) (by kernel_rfl) lays_later bears_reflect door_fits
theorem lifts_final:Try.prog.liftsFinal=false:=by
 obtain ⟨R,h⟩:=behind_is
 exact lifts_of _ _ R h (strip_is R) (by kernel_rfl)
theorem and2 {a b:Bool} (h:a=true) (h2:b=true):(a&&b)=true:=by rw [h,h2];rfl
theorem closed_of (P:Program) (f:FuncId) (fn:Func) (s:ChangeSpec) (c:OpenClaim) (k0:(c.wf (OpenSpec.ofChange s))=true) (k1:(laidOutB P)=true) (k2:(mapsRowed P)=true) (k3:(fn.params.all (P.readableRec ·))=true) (k4:(namedTie P c.named s.vars)=true) (k5:((c.stops == []))=true) (k6:((P.stops == []))=true) (k7:((c.knobs == []))=true) (k8:((P.stopKnobs == []))=true) (k9:((c.inPlace==P.inPlace f))=true) (k10:((c.unfollowed==P.unfollowed f))=true) (k11:((c.recurses==P.recurses f))=true) (k12:((c.named==P.varsNamed f))=true) (k13:((c.maps==(fn.params.toList++s.plain.varTypes P).any (P.mapsRec ·)))=true) (k14:((c.ifaces==(fn.params.toList++s.plain.varTypes P).any (P.ifacesRec ·)))=true) (k15:((c.mapsOut==P.mapsAmong fn.resultTypes.toList))=true) (k16:((c.loops==(fn.params.toList++s.plain.varTypes P).any (P.loopsFrom ·)))=true) (k17:((c.wideKeys==(fn.params.toList++s.plain.varTypes P++fn.resultTypes.toList).any (P.wideKeysFrom ·)))=true) (k18:(s.vars.all (P.varReadable ·))=true) (k19:(fn.resultTypes.all (fun t=>P.readableRec t&&decide (t < P.types.size)))=true) (k20:((c.ifacesOut==fn.resultTypes.toList.any (P.ifacesRec ·)))=true) (k21:((c.loopsOut==fn.resultTypes.toList.any (P.loopsFrom ·)))=true) (k22:((c.plainKeys==P.plainKeys))=true) (k23:(c.shortTexts.isNone)=true) (k24:(P.stopsHeard)=true) (k25:(P.mayEnter)=true) (k26:((c.lifted==P.liftsFinal))=true) (k27:((P.make==some c.make))=true) (k28:((c.kinds==(if c.domain.isEmpty then [] else fn.params.toList.map fun t=>match P.underlying t with|some (.int k)=>some k|_=>none)))=true) (k29:((c.pinned==c.pinnedBy))=true) (k30:((c.veiled==(fn.params.toList++s.plain.varTypes P++fn.resultTypes.toList).any (P.veiledRec ·)))=true) (k31:(c.veiledFits P fn.params.toList (fn.params.toList++s.plain.varTypes P++fn.resultTypes.toList))=true):joinedFacts P f fn s c=true:=by
 unfold joinedFacts
 exact (and2 (and2 (and2 (and2 (and2 (and2 (and2 (and2 (and2 (and2 (and2 (and2 (and2 (and2 (and2 (and2 (and2 (and2 (and2 (and2 (and2 (and2 (and2 (and2 (and2 (and2 (and2 (and2 (and2 (and2 (and2 k0 k1) k2) k3) k4) k5) k6) k7) k8) k9) k10) k11) k12) k13) k14) k15) k16) k17) k18) k19) k20) k21) k22) k23) k24) k25) k26) k27) k28) k29) k30) k31)
end Go.Proofs.Ytmophgccpnpgfaa.Head
namespace Go.Proofs.Ytmophgccpnpgfaa.T
open Go.RowKit Go.Proofs.YtmophgccpnpgfaaW.PrintWords Go.Proofs.YtmophgccpnpgfaaW.PrintLast Go.Proofs.YtmophgccpnpgfaaW.PrintMore

set_option linter.unusedVariables false
set_option linter.unusedSimpArgs false
def errW:Option Int→Value
 | none=>.nilIface
 | some c=>.iface 0 (.int .i64 c)
theorem errW_none:errW none = .nilIface:=rfl
theorem errW_some (c:Int):errW (some c) = .iface 0 (.int .i64 c):=rfl
theorem info3:(Try.prog.info? 3).map (fun i=>(i.zero,i.size,i.bytes))=some (some (.int .i64 0),1,8):=by kernel_rfl
theorem info67:(Try.prog.info? 67).map (fun i=>(i.zero,i.size,i.bytes))=some (some (.agg #[(.int .i64 0),(.int .i64 0),(.int .i64 0)]),3,24):=by kernel_rfl
theorem info75:(Try.prog.info? 75).map (fun i=>(i.zero,i.size,i.bytes))=some (some (.agg #[(.int .i64 0),(.int .i64 0),(.bool false),(.slice none 0 0),(.bool false),(.slice none 0 0)]),6,80):=by kernel_rfl
structure S67 where
 f0:Int
 f1:Int
 f2:Int
def z67:S67:=⟨(0:Int),(0:Int),(0:Int)⟩
def k67:Kd S67:=Kd.iso (Kd.pair (Kd.int .i64) (Kd.pair (Kd.int .i64) (Kd.int .i64))) (fun x:S67=>(x.f0,x.f1,x.f2))
theorem k67_open {w:World} {x:S67} {cs:List Value} (h:k67.K w x cs):cs = [.int .i64 x.f0,.int .i64 x.f1,.int .i64 x.f2]:=by
 obtain ⟨_,_,rfl,rfl,⟨_,_,rfl,rfl,rfl⟩⟩:=h;exact rfl
theorem k67_openM {w:World} {base:Nat} {ok:Nat→Prop} {x:S67} {cs:List Value} (h:k67.M w base ok x cs):cs = [.int .i64 x.f0,.int .i64 x.f1,.int .i64 x.f2]:=by
 obtain ⟨_,_,rfl,rfl,⟨_,_,rfl,rfl,rfl⟩⟩:=h;exact rfl
theorem k67_mkM (w:World) (base:Nat) (ok:Nat→Prop) (x:S67)  : k67.M w base ok x [.int .i64 x.f0,.int .i64 x.f1,.int .i64 x.f2]:=⟨[.int .i64 x.f0],[.int .i64 x.f1,.int .i64 x.f2],rfl,rfl,⟨[.int .i64 x.f1],[.int .i64 x.f2],rfl,rfl,rfl⟩⟩
def Qb (xs:List S67) (i:Int):S67:=xs.getD i.toNat z67
theorem Q2 {w:World} {A:Option Addr} {n:Nat} {xs:List S67} (h:Kd.C k67 w A n xs) (i:Int) (h0 : 0≤i) (h1:i < n):∃ ad,A=some ad∧w.cell? (ad.add (i.toNat * 3))=some (.int .i64 (Qb xs i).f0)∧w.cell? ⟨(ad.add (i.toNat * 3)).block,(ad.add (i.toNat * 3)).off+1,none⟩=some (.int .i64 (Qb xs i).f1)∧w.cell? ⟨(ad.add (i.toNat * 3)).block,(ad.add (i.toNat * 3)).off+2,none⟩=some (.int .i64 (Qb xs i).f2):=by
 obtain ⟨ad,c,e,_,hK,hc0⟩:=Kd.C_get h z67 i h0 h1;have hc:∀ j u,c[j]? = some u→w.cell? (ad.add (i.toNat * 3+j))=some u:=hc0;obtain rfl:=k67_open hK;exact ⟨ad,e,hc 0 _ rfl,by rw [← add_field _ _ 1 (by omega)];exact hc 1 _ rfl,by rw [← add_field _ _ 2 (by omega)];exact hc 2 _ rfl⟩
structure S75 where
 f0:Int
 f1:Int
 f2:Bool
 f3:(List Int)
 f4:Bool
 f5:(List Int)
def z75:S75:=⟨(0:Int),(0:Int),false,([]:List Int),false,([]:List Int)⟩
def k75:Kd S75:=Kd.iso (Kd.pair (Kd.int .i64) (Kd.pair (Kd.int .i64) (Kd.pair Kd.bool (Kd.pair (Kd.slice 3 (Kd.int .i64)) (Kd.pair Kd.bool (Kd.slice 3 (Kd.int .i64))))))) (fun x:S75=>(x.f0,x.f1,x.f2,x.f3,x.f4,x.f5))
theorem k75_open {w:World} {x:S75} {cs:List Value} (h:k75.K w x cs):∃ A3 c3 A5 c5,cs = [.int .i64 x.f0,.int .i64 x.f1,.bool x.f2,.slice A3 x.f3.length c3,.bool x.f4,.slice A5 x.f5.length c5]∧x.f3.length≤c3∧(Kd.int .i64).C w A3 x.f3.length x.f3∧x.f5.length≤c5∧(Kd.int .i64).C w A5 x.f5.length x.f5:=by
 obtain ⟨_,_,rfl,rfl,⟨_,_,rfl,rfl,⟨_,_,rfl,rfl,⟨_,_,rfl,⟨A3,c3,rfl,l3,g3⟩,⟨_,_,rfl,rfl,⟨A5,c5,rfl,l5,g5⟩⟩⟩⟩⟩⟩:=h;exact ⟨A3,c3,A5,c5,rfl,l3,g3,l5,g5⟩
theorem k75_openM {w:World} {base:Nat} {ok:Nat→Prop} {x:S75} {cs:List Value} (h:k75.M w base ok x cs):∃ v3 v5,cs = [.int .i64 x.f0,.int .i64 x.f1,.bool x.f2,v3,.bool x.f4,v5]∧(Kd.int .i64).R 3 w base ok v3 x.f3∧(Kd.int .i64).R 3 w base ok v5 x.f5:=by
 obtain ⟨_,_,rfl,rfl,⟨_,_,rfl,rfl,⟨_,_,rfl,rfl,⟨_,_,rfl,⟨v3,rfl,g3⟩,⟨_,_,rfl,rfl,⟨v5,rfl,g5⟩⟩⟩⟩⟩⟩:=h;exact ⟨v3,v5,rfl,g3,g5⟩
theorem k75_mkM (w:World) (base:Nat) (ok:Nat→Prop) (x:S75) {v3:Value} (g3:(Kd.int .i64).R 3 w base ok v3 x.f3) {v5:Value} (g5:(Kd.int .i64).R 3 w base ok v5 x.f5):k75.M w base ok x [.int .i64 x.f0,.int .i64 x.f1,.bool x.f2,v3,.bool x.f4,v5]:=⟨[.int .i64 x.f0],[.int .i64 x.f1,.bool x.f2,v3,.bool x.f4,v5],rfl,rfl,⟨[.int .i64 x.f1],[.bool x.f2,v3,.bool x.f4,v5],rfl,rfl,⟨[.bool x.f2],[v3,.bool x.f4,v5],rfl,rfl,⟨[v3],[.bool x.f4,v5],rfl,⟨v3,rfl,g3⟩,⟨[.bool x.f4],[v5],rfl,rfl,⟨v5,rfl,g5⟩⟩⟩⟩⟩⟩
def Qa (xs:List S75) (i:Int):S75:=xs.getD i.toNat z75
theorem Rk {w:World} {A:Option Addr} {n:Nat} {xs:List S75} (h:Kd.C k75 w A n xs) (i:Int) (h0 : 0≤i) (h1:i < n):∃ ad A3 c3 A5 c5,A=some ad∧w.cell? (ad.add (i.toNat * 6))=some (.int .i64 (Qa xs i).f0)∧w.cell? ⟨(ad.add (i.toNat * 6)).block,(ad.add (i.toNat * 6)).off+1,none⟩=some (.int .i64 (Qa xs i).f1)∧w.cell? ⟨(ad.add (i.toNat * 6)).block,(ad.add (i.toNat * 6)).off+2,none⟩=some (.bool (Qa xs i).f2)∧w.cell? ⟨(ad.add (i.toNat * 6)).block,(ad.add (i.toNat * 6)).off+3,none⟩=some (.slice A3 (Qa xs i).f3.length c3)∧w.cell? ⟨(ad.add (i.toNat * 6)).block,(ad.add (i.toNat * 6)).off+4,none⟩=some (.bool (Qa xs i).f4)∧w.cell? ⟨(ad.add (i.toNat * 6)).block,(ad.add (i.toNat * 6)).off+5,none⟩=some (.slice A5 (Qa xs i).f5.length c5)∧(Qa xs i).f3.length≤c3∧(Kd.int .i64).C w A3 (Qa xs i).f3.length (Qa xs i).f3∧(Qa xs i).f5.length≤c5∧(Kd.int .i64).C w A5 (Qa xs i).f5.length (Qa xs i).f5:=by
 obtain ⟨ad,c,e,_,hK,hc0⟩:=Kd.C_get h z75 i h0 h1;have hc:∀ j u,c[j]? = some u→w.cell? (ad.add (i.toNat * 6+j))=some u:=hc0;obtain ⟨A3,c3,A5,c5,rfl,l3,g3,l5,g5⟩:=k75_open hK;exact ⟨ad,A3,c3,A5,c5,e,hc 0 _ rfl,by rw [← add_field _ _ 1 (by omega)];exact hc 1 _ rfl,by rw [← add_field _ _ 2 (by omega)];exact hc 2 _ rfl,by rw [← add_field _ _ 3 (by omega)];exact hc 3 _ rfl,by rw [← add_field _ _ 4 (by omega)];exact hc 4 _ rfl,by rw [← add_field _ _ 5 (by omega)];exact hc 5 _ rfl,l3,g3,l5,g5⟩
structure S26 where
 f0:Bool
 f1:Bool
 f2:Int
 f3:Int
 f4:Int
 f5:(List S75)
def k26:Kd S26:=Kd.iso (Kd.pair Kd.bool (Kd.pair Kd.bool (Kd.pair (Kd.int .i64) (Kd.pair (Kd.int .i64) (Kd.pair (Kd.int .i64) (Kd.slice 75 k75)))))) (fun x:S26=>(x.f0,x.f1,x.f2,x.f3,x.f4,x.f5))
structure S79 where
 f0:Int
 f1:Int
 f2:Int
def z79:S79:=⟨(0:Int),(0:Int),(0:Int)⟩
def k79:Kd S79:=Kd.iso (Kd.pair (Kd.int .i64) (Kd.pair (Kd.int .i64) (Kd.int .i64))) (fun x:S79=>(x.f0,x.f1,x.f2))
theorem k79_open {w:World} {x:S79} {cs:List Value} (h:k79.K w x cs):cs = [.int .i64 x.f0,.int .i64 x.f1,.int .i64 x.f2]:=by
 obtain ⟨_,_,rfl,rfl,⟨_,_,rfl,rfl,rfl⟩⟩:=h;exact rfl
def Ro (xs:List S79) (i:Int):S79:=xs.getD i.toNat z79
theorem at_T79 {w:World} {A:Option Addr} {n:Nat} {xs:List S79} (h:Kd.C k79 w A n xs) (i:Int) (h0 : 0≤i) (h1:i < n):∃ ad,A=some ad∧w.cell? (ad.add (i.toNat * 3))=some (.int .i64 (Ro xs i).f0)∧w.cell? ⟨(ad.add (i.toNat * 3)).block,(ad.add (i.toNat * 3)).off+1,none⟩=some (.int .i64 (Ro xs i).f1)∧w.cell? ⟨(ad.add (i.toNat * 3)).block,(ad.add (i.toNat * 3)).off+2,none⟩=some (.int .i64 (Ro xs i).f2):=by
 obtain ⟨ad,c,e,_,hK,hc0⟩:=Kd.C_get h z79 i h0 h1;have hc:∀ j u,c[j]? = some u→w.cell? (ad.add (i.toNat * 3+j))=some u:=hc0;obtain rfl:=k79_open hK;exact ⟨ad,e,hc 0 _ rfl,by rw [← add_field _ _ 1 (by omega)];exact hc 1 _ rfl,by rw [← add_field _ _ 2 (by omega)];exact hc 2 _ rfl⟩
structure S94 where
 f0:Int
 f1:Int
 f2:Bool
 f3:(List Int)
 f4:Bool
 f5:(List Int)
def z94:S94:=⟨(0:Int),(0:Int),false,([]:List Int),false,([]:List Int)⟩
def k94:Kd S94:=Kd.iso (Kd.pair (Kd.int .i64) (Kd.pair (Kd.int .i64) (Kd.pair Kd.bool (Kd.pair (Kd.slice 3 (Kd.int .i64)) (Kd.pair Kd.bool (Kd.slice 3 (Kd.int .i64))))))) (fun x:S94=>(x.f0,x.f1,x.f2,x.f3,x.f4,x.f5))
theorem k94_open {w:World} {x:S94} {cs:List Value} (h:k94.K w x cs):∃ A3 c3 A5 c5,cs = [.int .i64 x.f0,.int .i64 x.f1,.bool x.f2,.slice A3 x.f3.length c3,.bool x.f4,.slice A5 x.f5.length c5]∧x.f3.length≤c3∧(Kd.int .i64).C w A3 x.f3.length x.f3∧x.f5.length≤c5∧(Kd.int .i64).C w A5 x.f5.length x.f5:=by
 obtain ⟨_,_,rfl,rfl,⟨_,_,rfl,rfl,⟨_,_,rfl,rfl,⟨_,_,rfl,⟨A3,c3,rfl,l3,g3⟩,⟨_,_,rfl,rfl,⟨A5,c5,rfl,l5,g5⟩⟩⟩⟩⟩⟩:=h;exact ⟨A3,c3,A5,c5,rfl,l3,g3,l5,g5⟩
def Qp (xs:List S94) (i:Int):S94:=xs.getD i.toNat z94
theorem at_T94 {w:World} {A:Option Addr} {n:Nat} {xs:List S94} (h:Kd.C k94 w A n xs) (i:Int) (h0 : 0≤i) (h1:i < n):∃ ad A3 c3 A5 c5,A=some ad∧w.cell? (ad.add (i.toNat * 6))=some (.int .i64 (Qp xs i).f0)∧w.cell? ⟨(ad.add (i.toNat * 6)).block,(ad.add (i.toNat * 6)).off+1,none⟩=some (.int .i64 (Qp xs i).f1)∧w.cell? ⟨(ad.add (i.toNat * 6)).block,(ad.add (i.toNat * 6)).off+2,none⟩=some (.bool (Qp xs i).f2)∧w.cell? ⟨(ad.add (i.toNat * 6)).block,(ad.add (i.toNat * 6)).off+3,none⟩=some (.slice A3 (Qp xs i).f3.length c3)∧w.cell? ⟨(ad.add (i.toNat * 6)).block,(ad.add (i.toNat * 6)).off+4,none⟩=some (.bool (Qp xs i).f4)∧w.cell? ⟨(ad.add (i.toNat * 6)).block,(ad.add (i.toNat * 6)).off+5,none⟩=some (.slice A5 (Qp xs i).f5.length c5)∧(Qp xs i).f3.length≤c3∧(Kd.int .i64).C w A3 (Qp xs i).f3.length (Qp xs i).f3∧(Qp xs i).f5.length≤c5∧(Kd.int .i64).C w A5 (Qp xs i).f5.length (Qp xs i).f5:=by
 obtain ⟨ad,c,e,_,hK,hc0⟩:=Kd.C_get h z94 i h0 h1;have hc:∀ j u,c[j]? = some u→w.cell? (ad.add (i.toNat * 6+j))=some u:=hc0;obtain ⟨A3,c3,A5,c5,rfl,l3,g3,l5,g5⟩:=k94_open hK;exact ⟨ad,A3,c3,A5,c5,e,hc 0 _ rfl,by rw [← add_field _ _ 1 (by omega)];exact hc 1 _ rfl,by rw [← add_field _ _ 2 (by omega)];exact hc 2 _ rfl,by rw [← add_field _ _ 3 (by omega)];exact hc 3 _ rfl,by rw [← add_field _ _ 4 (by omega)];exact hc 4 _ rfl,by rw [← add_field _ _ 5 (by omega)];exact hc 5 _ rfl,l3,g3,l5,g5⟩
structure S38 where
 f0:Bool
 f1:Bool
 f2:Int
 f3:Int
 f4:Int
 f5:(List S94)
def k38:Kd S38:=Kd.iso (Kd.pair Kd.bool (Kd.pair Kd.bool (Kd.pair (Kd.int .i64) (Kd.pair (Kd.int .i64) (Kd.pair (Kd.int .i64) (Kd.slice 94 k94)))))) (fun x:S38=>(x.f0,x.f1,x.f2,x.f3,x.f4,x.f5))
theorem k38_open {w:World} {x:S38} {cs:List Value} (h:k38.K w x cs):∃ A5 c5,cs = [.bool x.f0,.bool x.f1,.int .i64 x.f2,.int .i64 x.f3,.int .i64 x.f4,.slice A5 x.f5.length c5]∧x.f5.length≤c5∧k94.C w A5 x.f5.length x.f5:=by
 obtain ⟨_,_,rfl,rfl,⟨_,_,rfl,rfl,⟨_,_,rfl,rfl,⟨_,_,rfl,rfl,⟨_,_,rfl,rfl,⟨A5,c5,rfl,l5,g5⟩⟩⟩⟩⟩⟩:=h;exact ⟨A5,c5,rfl,l5,g5⟩
end Go.Proofs.Ytmophgccpnpgfaa.T
namespace Go.Proofs.Ytmophgccpnpgfaa.T
open Go.RowKit Go.Proofs.YtmophgccpnpgfaaW.PrintWords Go.Proofs.YtmophgccpnpgfaaW.PrintLast Go.Proofs.YtmophgccpnpgfaaW.PrintMore

set_option linter.unusedVariables false
set_option linter.unusedSimpArgs false

set_option linter.unusedVariables false
set_option linter.unusedSimpArgs false

set_option linter.unusedVariables false
set_option linter.unusedSimpArgs false

set_option linter.unusedVariables false
set_option linter.unusedSimpArgs false

set_option linter.unusedVariables false
set_option linter.unusedSimpArgs false

set_option linter.unusedVariables false
set_option linter.unusedSimpArgs false

set_option linter.unusedVariables false
set_option linter.unusedSimpArgs false
def Qm.f (a0:Int) (a1:Int) (a2:Int):Option (Bool):=if a0 ≥ a1 then (some (decide (a0≤a2))) else (some false)
set_option maxHeartbeats 8000000 in
theorem Qm.calls (a0:Int) (a1:Int) (a2:Int) (r:Bool) (w:World) (h:Qm.f a0 a1 a2=some r) :
  Calls Try.prog 40 #[.int .i64 a0,.int .i64 a1,.int .i64 a2] w fun e w'=>e = .returned (.bool r)∧Drawn0 w w':=by
 have H:(if a0 ≥ a1 then (some (decide (a0≤a2))) else (some false))=some r:=h;clear h;by_cases c4:a0 ≥ a1
 ·
  rw [if_pos c4] at H;have c4b0:decide (a1≤a0)=true:=decide_eq_true c4;clear c4;obtain rfl:=Option.some.inj H;go_enter Try.func40,Try.ntmps40;go_wp2;go_ret;exact ⟨by first|rfl|(simp;done)|(simp [*];done),by repeat (first|exact Drawn0.refl _|apply Drawn0.step)⟩
 ·
  rw [if_neg c4] at H;have c4b0:decide (a1≤a0)=false:=decide_eq_false c4;clear c4;obtain rfl:=Option.some.inj H;go_enter Try.func40,Try.ntmps40;go_wp2;go_ret;exact ⟨by first|rfl|(simp;done)|(simp [*];done),by repeat (first|exact Drawn0.refl _|apply Drawn0.step)⟩
def Qz.f (a0:Int):Option (Bool):=(Qm.f a0 0 254).bind fun t282=>(some t282)
set_option maxHeartbeats 8000000 in
theorem Qz.calls (a0:Int) (r:Bool) (w:World) (h:Qz.f a0=some r) :
  Calls Try.prog 39 #[.int .i64 a0] w fun e w'=>e = .returned (.bool r)∧Drawn0 w w':=by
 have H:((Qm.f a0 0 254).bind fun a1=>(some a1))=some r:=h;clear h;obtain ⟨a1,A2,H⟩:=zzG H;obtain rfl:=Option.some.inj H;go_enter Try.func39,Try.ntmps39;go_wp2_with (first|((with_reducible refine gate_callee (f:=40) rfl ?_);refine goesL_ (some 4) rfl rfl Try.func40 (by kernel_rfl) rfl #[.int .i64 a0,.int .i64 0,.int .i64 254] rfl zzM2 ?_;(with_reducible refine (Qm.calls a0 0 254 a1 _ A2.out).mono ?_);rintro e w' ⟨rfl,⟨nd,rfl⟩⟩;refine ⟨_,rfl,?_⟩));go_ret;exact ⟨by first|rfl|(simp;done)|(simp [*];done),by repeat (first|exact Drawn0.refl _|apply Drawn0.step)⟩
def Ra.f (a0:Int) (a1:Int):Option (Bool):=(Qm.f a0 0 99999).bind fun t283=>(if t283=true then ((Qm.f a1 0 99999).bind fun t284=>(some t284)) else (some false))
set_option maxHeartbeats 8000000 in
theorem Ra.calls (a0:Int) (a1:Int) (r:Bool) (w:World) (h:Ra.f a0 a1=some r) :
  Calls Try.prog 54 #[.int .i64 a0,.int .i64 a1] w fun e w'=>e = .returned (.bool r)∧Drawn0 w w':=by
 have H:((Qm.f a0 0 99999).bind fun a2=>(if a2=true then ((Qm.f a1 0 99999).bind fun a3=>(some a3)) else (some false)))=some r:=h;clear h;obtain ⟨a2,A3,H⟩:=zzG H;by_cases c4:a2=true
 ·
  subst c4;replace H:=zzIt H;obtain ⟨a3,A5,H⟩:=zzG H;obtain rfl:=Option.some.inj H;go_enter Try.func54,Try.ntmps54;go_wp2_with (first|((with_reducible refine gate_callee (f:=40) rfl ?_);refine goesL_ (some 6) rfl rfl Try.func40 (by kernel_rfl) rfl #[.int .i64 a0,.int .i64 0,.int .i64 99999] rfl zzM2 ?_;(with_reducible refine (Qm.calls a0 0 99999 true _ A3.out).mono ?_);rintro e w' ⟨rfl,⟨nd,rfl⟩⟩;refine ⟨_,rfl,?_⟩)|(go_at_call 40;(with_reducible refine (Qm.calls a1 0 99999 a3 _ A5.out).mono ?_);rintro e w' ⟨rfl,⟨nd,rfl⟩⟩));go_ret;exact ⟨by first|rfl|(simp;done)|(simp [*];done),by repeat (first|exact Drawn0.refl _|apply Drawn0.step)⟩
 ·
  replace c4:=Bool.eq_false_iff.mpr c4;subst c4;replace H:=zzIf H;obtain rfl:=Option.some.inj H;go_enter Try.func54,Try.ntmps54;go_wp2_with (first|((with_reducible refine gate_callee (f:=40) rfl ?_);refine goesL_ (some 6) rfl rfl Try.func40 (by kernel_rfl) rfl #[.int .i64 a0,.int .i64 0,.int .i64 99999] rfl zzM2 ?_;(with_reducible refine (Qm.calls a0 0 99999 false _ A3.out).mono ?_);rintro e w' ⟨rfl,⟨nd,rfl⟩⟩;refine ⟨_,rfl,?_⟩));go_ret;exact ⟨by first|rfl|(simp;done)|(simp [*];done),by repeat (first|exact Drawn0.refl _|apply Drawn0.step)⟩
def Rm.f (a0:Int):Option (Bool):=if a0 ≥ 0 then (some (decide (a0≤255))) else (some false)
set_option maxHeartbeats 8000000 in
theorem Rm.calls (a0:Int) (r:Bool) (w:World) (h:Rm.f a0=some r) :
  Calls Try.prog 67 #[.int .i64 a0] w fun e w'=>e = .returned (.bool r)∧Drawn0 w w':=by
 have H:(if a0 ≥ 0 then (some (decide (a0≤255))) else (some false))=some r:=h;clear h;by_cases c2:a0 ≥ 0
 ·
  rw [if_pos c2] at H;have c2b0:decide (0≤a0)=true:=decide_eq_true c2;clear c2;obtain rfl:=Option.some.inj H;go_enter Try.func67,Try.ntmps67;go_wp2;go_ret;exact ⟨by first|rfl|(simp;done)|(simp [*];done),by repeat (first|exact Drawn0.refl _|apply Drawn0.step)⟩
 ·
  rw [if_neg c2] at H;have c2b0:decide (0≤a0)=false:=decide_eq_false c2;clear c2;obtain rfl:=Option.some.inj H;go_enter Try.func67,Try.ntmps67;go_wp2;go_ret;exact ⟨by first|rfl|(simp;done)|(simp [*];done),by repeat (first|exact Drawn0.refl _|apply Drawn0.step)⟩

set_option linter.unusedVariables false
set_option linter.unusedSimpArgs false
def Qx.l0:Nat→List Int→Int→Int→Option (Bool)
 | 0,_,_,_=>none
 | k+1,x5,x6,x7=>if x7 < x6 then (if 0≤x7 then (if x7 < (x5.length:Int) then ((Rm.f (rd x5 x7)).bind fun t286=>(if t286=true then (Qx.l0 k x5 x6 (wrap64 (x7+1))) else (some false))) else (none)) else (none)) else (some true)
def Qx.f (k:Nat) (l0:List Int):Option (Bool):=Qx.l0 k l0 (l0.length:Int) 0
set_option maxHeartbeats 8000000 in
theorem Qx.calls (k:Nat) (A0:Option Addr) (c0:Nat) (l0:List Int) (r:Bool) (w:World) (a6:Kd.C (Kd.int .i64) w A0 l0.length l0) (a7:l0.length≤c0) (h:Qx.f k l0=some r) :
  Calls Try.prog 62 #[.slice A0 l0.length c0] w fun e w'=>e = .returned (.bool r)∧Drawn0 w w':=by
 have a8:=zzm a6;have b3:=zzm a7;clear a6 a7;have H:(Qx.l0 k l0 (l0.length:Int) 0)=some r:=h;clear h;have H':=zzm H;clear H;go_enter Try.func62,Try.ntmps62;go_wp2;go_loopg [7] k (fun kq v7 w'=>∃ (a0:Int),v7 = .int .i64 a0∧Aside0 (Qx.l0 kq l0 (l0.length:Int) a0=some r)∧Aside0 (kq≤k)∧Drawn0 w w')
 case atStart=>exact ⟨(0),(by first|rfl|(simp;done)|(simp [*];done)),H',⟨Nat.le_refl _⟩,by repeat (first|exact Drawn0.refl _|apply Drawn0.step)⟩
 case round=>
  clear H';obtain ⟨a0,rfl,HA,HK1,⟨m1,rfl⟩⟩:=hrel;cases gk with
  | zero=>exact absurd HA.out (by simp [Qx.l0])
  | succ k1=>
   have H:=HA.out;clear HA;simp only [Qx.l0] at H;by_cases c2:a0 < (l0.length:Int)
   ·
    rw [if_pos c2] at H;have a9:decide (a0 < (l0.length:Int))=true:=decide_eq_true c2;clear c2;by_cases c3 : 0≤a0
    ·
     rw [if_pos c3] at H;have b1:decide (0≤a0)=true:=decide_eq_true c3;clear c3;by_cases c4:a0 < (l0.length:Int)
     ·
      rw [if_pos c4] at H;have b2:decide (a0 < (l0.length:Int))=true:=decide_eq_true c4;clear c4;obtain ⟨b0,A5,H⟩:=zzG H;by_cases c6:b0=true
      ·
       subst c6;replace H:=zzIt H;have H':=zzm H;clear H;have a1 : 0≤(a0:Int):=zzt;have a2:a0 < (l0.length:Int):=zzt;obtain ⟨a5,a3,a4⟩:=Kd.at_int a8.out a0 a1 a2;cases a3;replace a1:=eq_true a1;replace a2:=eq_true a2;go_wp2_with (first|((with_reducible refine gate_callee (f:=67) rfl ?_);refine goesL_ (some 12) rfl rfl Try.func67 (by kernel_rfl) rfl #[.int .i64 (rd l0 a0)] rfl zzM2 ?_;(with_reducible refine (Rm.calls (rd l0 a0) true _ A5.out).mono ?_);rintro e w' ⟨rfl,⟨nd,rfl⟩⟩;refine ⟨_,rfl,?_⟩));go_roundg k1
       case measure=>have:=HK1.out;omega
       case rel=>exact ⟨(wrap64 (a0+1)),(by first|rfl|(simp;done)|(simp [*];done)),H',⟨by have:=HK1.out;omega⟩,by repeat (first|exact Drawn0.refl _|apply Drawn0.step)⟩
      ·
       replace c6:=Bool.eq_false_iff.mpr c6;subst c6;replace H:=zzIf H;obtain rfl:=Option.some.inj H;have a1 : 0≤(a0:Int):=zzt;have a2:a0 < (l0.length:Int):=zzt;obtain ⟨a5,a3,a4⟩:=Kd.at_int a8.out a0 a1 a2;cases a3;replace a1:=eq_true a1;replace a2:=eq_true a2;go_wp2_with (first|((with_reducible refine gate_callee (f:=67) rfl ?_);refine goesL_ (some 12) rfl rfl Try.func67 (by kernel_rfl) rfl #[.int .i64 (rd l0 a0)] rfl zzM2 ?_;(with_reducible refine (Rm.calls (rd l0 a0) false _ A5.out).mono ?_);rintro e w' ⟨rfl,⟨nd,rfl⟩⟩;refine ⟨_,rfl,?_⟩));go_ret;exact ⟨by first|rfl|(simp;done)|(simp [*];done),by repeat (first|exact Drawn0.refl _|apply Drawn0.step)⟩
     ·
      rw [if_neg c4] at H;exact absurd H (by simp)
    ·
     rw [if_neg c3] at H;exact absurd H (by simp)
   ·
    rw [if_neg c2] at H;have a9:decide (a0 < (l0.length:Int))=false:=decide_eq_false c2;clear c2;obtain rfl:=Option.some.inj H;go_wp2;go_ret;exact ⟨by first|rfl|(simp;done)|(simp [*];done),by repeat (first|exact Drawn0.refl _|apply Drawn0.step)⟩
def Q4.f (k:Nat) (a0:Bool) (l1:List Int):Option (Bool):=if a0=true then (if (l1.length:Int)≤12 then ((Qx.f k l1).bind fun t287=>(some t287)) else (some false)) else (some ((l1.length:Int)==0))
set_option maxHeartbeats 8000000 in
theorem Q4.calls (k:Nat) (a0:Bool) (A1:Option Addr) (c1:Nat) (l1:List Int) (r:Bool) (w:World) (a2:Kd.C (Kd.int .i64) w A1 l1.length l1) (a3:l1.length≤c1) (h:Q4.f k a0 l1=some r) :
  Calls Try.prog 55 #[.bool a0,.slice A1 l1.length c1] w fun e w'=>e = .returned (.bool r)∧Drawn0 w w':=by
 have a6:=zzm a2;have a7:=zzm a3;clear a2 a3;have H:(if a0=true then (if (l1.length:Int)≤12 then ((Qx.f k l1).bind fun a1=>(some a1)) else (some false)) else (some ((l1.length:Int)==0)))=some r:=h;clear h;by_cases c3:a0=true
 ·
  subst c3;replace H:=zzIt H;by_cases c4:(l1.length:Int)≤12
  ·
   rw [if_pos c4] at H;have a4:decide ((l1.length:Int)≤12)=true:=decide_eq_true c4;have a5:decide (l1.length≤12)=true:=decide_eq_true (by omega);clear c4;obtain ⟨a1,A5,H⟩:=zzG H;obtain rfl:=Option.some.inj H;go_enter Try.func55,Try.ntmps55;go_wp2_with (first|(go_at_call 62;(with_reducible refine (Qx.calls k _ _ l1 a1 _ ?side1 ?side2 A5.out).mono ?_);(case side1=>repeat (first|exact a6.out|(with_reducible refine Kd.C_alloc ?_ _)|(with_reducible refine Kd.C_drewN ?_ _)|(with_reducible refine Kd.C_drew ?_)));(case side2=>exact a7.out);rintro e w' ⟨rfl,⟨nd,rfl⟩⟩));go_ret;exact ⟨by first|rfl|(simp;done)|(simp [*];done),by repeat (first|exact Drawn0.refl _|apply Drawn0.step)⟩
  ·
   rw [if_neg c4] at H;have a4:decide ((l1.length:Int)≤12)=false:=decide_eq_false c4;have a5:decide (l1.length≤12)=false:=decide_eq_false (by omega);clear c4;obtain rfl:=Option.some.inj H;go_enter Try.func55,Try.ntmps55;go_wp2;go_ret;exact ⟨by first|rfl|(simp;done)|(simp [*];done),by repeat (first|exact Drawn0.refl _|apply Drawn0.step)⟩
 ·
  replace c3:=Bool.eq_false_iff.mpr c3;subst c3;replace H:=zzIf H;obtain rfl:=Option.some.inj H;go_enter Try.func55,Try.ntmps55;go_wp2;go_ret;exact ⟨by first|rfl|(simp;done)|(simp [*];done),by repeat (first|exact Drawn0.refl _|apply Drawn0.step)⟩

set_option linter.unusedVariables false
set_option linter.unusedSimpArgs false
def Q5.f (k:Nat) (a0_0:Int) (a0_1:Int) (a0_2:Bool) (l0_3:List Int) (a0_4:Bool) (l0_5:List Int):Option (Bool):=(Ra.f a0_0 a0_1).bind fun t289=>(if t289=true then ((Q4.f k a0_2 l0_3).bind fun t290=>(if t290=true then ((Q4.f k a0_4 l0_5).bind fun t291=>(some t291)) else (some false))) else (some false))
set_option maxHeartbeats 8000000 in
theorem Q5.calls (k:Nat) (a0:Int) (a1:Int) (a5:Bool) (b2:Option Addr) (b3:Nat) (a2:List Int) (a6:Bool) (b4:Option Addr) (b5:Nat) (a4:List Int) (r:Bool) (w:World) (b9:Kd.C (Kd.int .i64) w b2 a2.length a2) (c0:a2.length≤b3) (c1:Kd.C (Kd.int .i64) w b4 a4.length a4) (c2:a4.length≤b5) (h:Q5.f k a0 a1 a5 a2 a6 a4=some r) :
  Calls Try.prog 41 #[.agg #[.int .i64 a0,.int .i64 a1,.bool a5,.slice b2 a2.length b3,.bool a6,.slice b4 a4.length b5]] w fun e w'=>e = .returned (.bool r)∧Below w.heap.size w w':=by
 have hu75:=Try.underlying75;have c4:=zzm b9;have c6:=zzm c0;clear b9 c0;have c9:=zzm c1;have d0:=zzm c2;clear c1 c2;have HB:=zzm (Below.refl w.heap.size w);have H:((Ra.f a0 a1).bind fun b6=>(if b6=true then ((Q4.f k a5 a2).bind fun b7=>(if b7=true then ((Q4.f k a6 a4).bind fun b8=>(some b8)) else (some false))) else (some false)))=some r:=h;clear h;obtain ⟨b6,A2,H⟩:=zzG H;by_cases c3:b6=true
 ·
  subst c3;replace H:=zzIt H;obtain ⟨b7,A4,H⟩:=zzG H;by_cases c5:b7=true
  ·
   subst c5;replace H:=zzIt H;obtain ⟨b8,A6,H⟩:=zzG H;obtain rfl:=Option.some.inj H;go_enter Try.func41,Try.ntmps41;go_wp2_with (first|((with_reducible refine gate_dst (N:=1) rfl ?_);refine box_event ?hg (N:=1) ?hd (cs:=#[.int .i64 a0,.int .i64 a1,.bool a5,.slice b2 a2.length b3,.bool a6,.slice b4 a4.length b5]) (t:=75) ?hr ?_;(case hd=>rfl);(case hg=>rfl);(case hr=>first|(go_simp;done)|(go_simp;rfl));intro a3 hg w7 hbox hb;have a8:=zzm (zzp zzh1 hb);have a9:=zzm (hbox);have b0:=zzm ((by rw [hg];exact (zzo zzh1):w.heap.size≤a3));have b1:=zzm ((by rw [hg];exact (zzo zzh1):w.heap.size≤a3));clear HB;have HB:=a8;have a7:=a9;have c7:=b0;have c8:=b1;clear a8 a9 b0 b1 hb hbox hg;obtain ⟨g5,g6,g7,g8,g9,h0,h1,h2,h3,h4,h5,h6⟩:=zzc6 a7.out)|((with_reducible refine gate_callee (f:=54) rfl ?_);refine goesL_ (some 7) rfl rfl Try.func54 (by kernel_rfl) rfl #[.int .i64 a0,.int .i64 a1] rfl zzM2 ?_;(with_reducible refine (Ra.calls a0 a1 true _ A2.out).mono ?_);rintro e w' ⟨rfl,⟨nd,rfl⟩⟩;refine ⟨_,rfl,?_⟩)|(go_at_call 55;(with_reducible refine (Q4.calls k a5 _ _ a2 true _ ?side1 ?side2 A4.out).mono ?_);(case side1=>repeat (first|exact (Kd.C_below c4.out zzh2)|(with_reducible refine Kd.C_alloc ?_ _)|(with_reducible refine Kd.C_drewN ?_ _)|(with_reducible refine Kd.C_drew ?_)));(case side2=>exact c6.out);rintro e w' ⟨rfl,⟨nd,rfl⟩⟩)|(go_at_call 55;(with_reducible refine (Q4.calls k a6 _ _ a4 b8 _ ?side1 ?side2 A6.out).mono ?_);(case side1=>repeat (first|exact (Kd.C_below c9.out zzh2)|(with_reducible refine Kd.C_alloc ?_ _)|(with_reducible refine Kd.C_drewN ?_ _)|(with_reducible refine Kd.C_drew ?_)));(case side2=>exact d0.out);rintro e w' ⟨rfl,⟨nd,rfl⟩⟩));go_ret;exact ⟨zzR,zzh3⟩
  ·
   replace c5:=Bool.eq_false_iff.mpr c5;subst c5;replace H:=zzIf H;obtain rfl:=Option.some.inj H;go_enter Try.func41,Try.ntmps41;go_wp2_with (first|((with_reducible refine gate_dst (N:=1) rfl ?_);refine box_event ?hg (N:=1) ?hd (cs:=#[.int .i64 a0,.int .i64 a1,.bool a5,.slice b2 a2.length b3,.bool a6,.slice b4 a4.length b5]) (t:=75) ?hr ?_;(case hd=>rfl);(case hg=>rfl);(case hr=>first|(go_simp;done)|(go_simp;rfl));intro a3 hg w9 hbox hb;have a8:=zzm (zzp zzh1 hb);have a9:=zzm (hbox);have b0:=zzm ((by rw [hg];exact (zzo zzh1):w.heap.size≤a3));have b1:=zzm ((by rw [hg];exact (zzo zzh1):w.heap.size≤a3));clear HB;have HB:=a8;have a7:=a9;have c7:=b0;have c8:=b1;clear a8 a9 b0 b1 hb hbox hg;obtain ⟨d1,d2,d3,d4,d5,d6,d7,d8,d9,e0,e1,e2⟩:=zzc6 a7.out)|((with_reducible refine gate_callee (f:=54) rfl ?_);refine goesL_ (some 7) rfl rfl Try.func54 (by kernel_rfl) rfl #[.int .i64 a0,.int .i64 a1] rfl zzM2 ?_;(with_reducible refine (Ra.calls a0 a1 true _ A2.out).mono ?_);rintro e w' ⟨rfl,⟨nd,rfl⟩⟩;refine ⟨_,rfl,?_⟩)|(go_at_call 55;(with_reducible refine (Q4.calls k a5 _ _ a2 false _ ?side1 ?side2 A4.out).mono ?_);(case side1=>repeat (first|exact (Kd.C_below c4.out zzh2)|(with_reducible refine Kd.C_alloc ?_ _)|(with_reducible refine Kd.C_drewN ?_ _)|(with_reducible refine Kd.C_drew ?_)));(case side2=>exact c6.out);rintro e w' ⟨rfl,⟨nd,rfl⟩⟩));go_ret;exact ⟨zzR,zzh3⟩
 ·
  replace c3:=Bool.eq_false_iff.mpr c3;subst c3;replace H:=zzIf H;obtain rfl:=Option.some.inj H;go_enter Try.func41,Try.ntmps41;go_wp2_with (first|((with_reducible refine gate_dst (N:=1) rfl ?_);refine box_event ?hg (N:=1) ?hd (cs:=#[.int .i64 a0,.int .i64 a1,.bool a5,.slice b2 a2.length b3,.bool a6,.slice b4 a4.length b5]) (t:=75) ?hr ?_;(case hd=>rfl);(case hg=>rfl);(case hr=>first|(go_simp;done)|(go_simp;rfl));intro a3 hg h7 hbox hb;have a8:=zzm (zzp zzh1 hb);have a9:=zzm (hbox);have b0:=zzm ((by rw [hg];exact (zzo zzh1):w.heap.size≤a3));have b1:=zzm ((by rw [hg];exact (zzo zzh1):w.heap.size≤a3));clear HB;have HB:=a8;have a7:=a9;have c7:=b0;have c8:=b1;clear a8 a9 b0 b1 hb hbox hg;obtain ⟨e3,e4,e5,e6,e7,e8,e9,g0,g1,g2,g3,g4⟩:=zzc6 a7.out)|((with_reducible refine gate_callee (f:=54) rfl ?_);refine goesL_ (some 7) rfl rfl Try.func54 (by kernel_rfl) rfl #[.int .i64 a0,.int .i64 a1] rfl zzM2 ?_;(with_reducible refine (Ra.calls a0 a1 false _ A2.out).mono ?_);rintro e w' ⟨rfl,⟨nd,rfl⟩⟩;refine ⟨_,rfl,?_⟩));go_ret;exact ⟨zzR,zzh3⟩

set_option linter.unusedVariables false
set_option linter.unusedSimpArgs false
mutual
def Qc.j0:Nat→Bool→Bool→Int→Int→Int→List (S75)→Option (Bool)
 | 0,_,_,_,_,_,_=>none
 | k+1,x293000,x293001,x293002,x293003,x293004,x293005=>(Qm.f (x293005.length:Int) 1 6).bind fun t296=>(if t296=true then (if x293001=true then (Qc.j1 k ((x293005.length:Int) != 1) x293000 x293001 x293002 x293003 x293004 x293005) else (Qc.j1 k false x293000 x293001 x293002 x293003 x293004 x293005)) else (Qc.j1 k true x293000 x293001 x293002 x293003 x293004 x293005))
def Qc.j1:Nat→Bool→Bool→Bool→Int→Int→Int→List (S75)→Option (Bool)
 | 0,_,_,_,_,_,_,_=>none
 | k+1,x50,x293000,x293001,x293002,x293003,x293004,x293005=>if x50=true then (some false) else (Qc.l0 k x293005 (x293005.length:Int) 0 x293000 x293001 x293002 x293003 x293004 x293005)
def Qc.l0:Nat→List (S75)→Int→Int→Bool→Bool→Int→Int→Int→List (S75)→Option (Bool)
 | 0,_,_,_,_,_,_,_,_,_=>none
 | k+1,x52,x53,x54,x293000,x293001,x293002,x293003,x293004,x293005=>if x54 < x53 then (if 0≤x54 then (if x54 < (x52.length:Int) then ((Q5.f k ((Qa x52 x54).f0) ((Qa x52 x54).f1) ((Qa x52 x54).f2) ((Qa x52 x54).f3) ((Qa x52 x54).f4) ((Qa x52 x54).f5)).bind fun t299=>(if t299=true then (if x54 > 0 then (if 0≤(wrap64 (x54 - 1)) then (if (wrap64 (x54 - 1)) < (x293005.length:Int) then (if ((Qa x293005 (wrap64 (x54 - 1))).f0) ≥ ((Qa x52 x54).f0) then (some false) else (Qc.l0 k x52 x53 (wrap64 (x54+1)) x293000 x293001 x293002 x293003 x293004 x293005)) else (none)) else (none)) else (Qc.l0 k x52 x53 (wrap64 (x54+1)) x293000 x293001 x293002 x293003 x293004 x293005)) else (some false))) else (none)) else (none)) else (some true)
end
def Qc.f (k:Nat) (a0_0:Bool) (a0_1:Bool) (a0_2:Int) (a0_3:Int) (a0_4:Int) (l0_5:List (S75)):Option (Bool):=if a0_2=255 then (if a0_3=0 then (if a0_4=0 then (if a0_1=true then (some false) else (Qc.j0 k a0_0 a0_1 a0_2 a0_3 a0_4 l0_5)) else (some false)) else (some false)) else ((Qz.f a0_2).bind fun t293=>(if t293=true then ((Qm.f a0_3 0 99).bind fun t294=>(if t294=true then ((Qm.f a0_4 0 9999).bind fun t295=>(if t295=true then (Qc.j0 k a0_0 a0_1 a0_2 a0_3 a0_4 l0_5) else (some false))) else (some false))) else (some false)))
def Qc.T11:Bool×List (List Nat×List Nat):=(true,[([],[]),([0],[0]),([1],[1]),([2,1],[2]),([3],[3]),([4,3],[3,4]),([5,3,3],[3,5]),([6],[6]),([7,6],[6,7]),([6],[6]),([9,6],[6,9]),([8,10,6],[6,8,10]),([11,6],[6,11]),([12,6],[6,12]),([6],[6]),([14,6],[6,14]),([13,15,6],[6,13,15]),([6,16,3],[3,6,16]),([3,17],[3,17])])
def Qc.B11:List Nat:=[0,1,3,7,15,31,63,127,255,127,639,2047,4095,8191,127,16511,65535,131071,262143]
theorem Qc.tab11:rtab .any (opsOf Try.f10 11)=Qc.T11:=by kernel_rfl
theorem Qc.bits11:waitsOk Qc.T11.2 Qc.B11=true:=by kernel_rfl
set_option maxHeartbeats 8000000 in
theorem Qc.calls (k:Nat) (c9:Bool) (c0:Bool) (b4:Int) (b8:Int) (b9:Int) (j9:Option Addr) (d0:Nat) (a1:List (S75)) (r:Bool) (w:World) (D0:Kd.C k75 w j9 a1.length a1) (D1:a1.length≤d0) (h:Qc.f k c9 c0 b4 b8 b9 a1=some r) :
  Calls Try.prog 10 #[.agg #[.bool c9,.bool c0,.int .i64 b4,.int .i64 b8,.int .i64 b9,.slice j9 a1.length d0]] w fun e w'=>e = .returned (.bool r)∧Below w.heap.size w w':=by
 have hu26:=Try.underlying26;have hu75:=Try.underlying75;have j4:=zzm D0;have M2:=zzm D1;clear D0 D1;have HB:=zzm (Below.refl w.heap.size w);have H:(if b4=255 then (if b8=0 then (if b9=0 then (if c0=true then (some false) else (Qc.j0 k c9 c0 b4 b8 b9 a1)) else (some false)) else (some false)) else ((Qz.f b4).bind fun C5=>(if C5=true then ((Qm.f b8 0 99).bind fun C6=>(if C6=true then ((Qm.f b9 0 9999).bind fun C7=>(if C7=true then (Qc.j0 k c9 c0 b4 b8 b9 a1) else (some false))) else (some false))) else (some false))))=some r:=h;clear h;have F6:=zzm H;clear H;go_enter Try.func10,Try.ntmps10;go_upto_if 7 with (first|((with_reducible refine gate_dst (N:=1) rfl ?_);(try (refine gate_guard (by rfl) ?_;dsimp only));refine box_event ?hg (N:=1) ?hd (cs:=#[.bool c9,.bool c0,.int .i64 b4,.int .i64 b8,.int .i64 b9,.slice j9 a1.length d0]) (t:=26) ?hr ?_;(case hd=>rfl);(case hg=>rfl);(case hr=>first|(go_simp;done)|(go_simp;rfl));intro b0 hg w3 hbox hb;have b5:=zzm (zzp zzh1 hb);have b6:=zzm (hbox);have b7:=zzm ((by rw [hg];exact (zzo zzh1):w.heap.size≤b0));have g5:=zzm ((by rw [hg];exact (zzo zzh1):w.heap.size≤b0));clear HB;have HB:=b5;have a3:=b6;have M3:=b7;have M4:=g5;clear b5 b6 b7 g5 hb hbox hg;obtain ⟨s9,t0,t1,t2,t3,t4,t5,t6,t7,t8,t9,v0⟩:=zzc6 a3.out))
 (try simp only [Act.put,zzq,zzr,zzs]);go_cut [] (fun wc=>∃ (kq:Nat),Aside0 (Qc.j0 kq c9 c0 b4 b8 b9 a1=some r)∧Aside0 (kq≤k)∧Aside0 (wc.heap[b0]? = some (.cells #[.bool c9,.bool c0,.int .i64 b4,.int .i64 b8,.int .i64 b9,(.slice j9 a1.length d0)] 26 (0,0)))∧Aside0 (Below w.heap.size w wc))
 case first=>
  have H:=F6.out;clear F6;by_cases c5:b4=255
  ·
   rw [if_pos c5] at H;obtain ⟨h7,B2⟩:=zzQ c5;clear c5
   (first|rw [h7]|(simp only [i64_w,i32_w];rw [h7])|skip);by_cases c6:b8=0
   ·
    rw [if_pos c6] at H;obtain ⟨B3,B5⟩:=zzQ c6;clear c6;by_cases c7:b9=0
    ·
     rw [if_pos c7] at H;obtain ⟨B7,B9⟩:=zzQ c7;clear c7;by_cases c8:c0=true
     ·
      subst c8;replace H:=zzIt H;obtain rfl:=Option.some.inj H;obtain ⟨v1,v2,v3,v4,v5,v6,v7,v8,v9,w0,w1,w2⟩:=zzc6 a3.out;go_wp2;go_ret;exact ⟨zzR,zzh3⟩
     ·
      replace c8:=Bool.eq_false_iff.mpr c8;subst c8;replace H:=zzIf H;have H':=zzm H;clear H;obtain ⟨k0,k1,k2,k4,k5,k6,k7,k8,k9,l1,l2,l3⟩:=zzc6 a3.out;go_wp2;go_meet
      case rel=>exact ⟨_,H',⟨by first|omega|exact Nat.le_refl _⟩,⟨zzE a3.out⟩,⟨zzh3⟩⟩
    ·
     rw [if_neg c7] at H;obtain ⟨B7,B9⟩:=zzY c7;obtain rfl:=Option.some.inj H;obtain ⟨l4,l5,l6,l7,l8,l9,m0,m1,m2,m3,m4,m5⟩:=zzc6 a3.out;go_wp2;go_ret;exact ⟨zzR,zzh3⟩
   ·
    rw [if_neg c6] at H;obtain ⟨B3,B5⟩:=zzY c6;obtain rfl:=Option.some.inj H;obtain ⟨m6,m7,m8,m9,n0,n1,n2,n3,n4,n5,n6,n7⟩:=zzc6 a3.out;go_wp2;go_ret;exact ⟨zzR,zzh3⟩
  ·
   rw [if_neg c5] at H;obtain ⟨h7,B2⟩:=zzY c5
   (first|rw [h7]|(simp only [i64_w,i32_w];rw [h7])|skip);obtain ⟨C5,D2,H⟩:=zzG H;by_cases w4:C5=true
   ·
    subst w4;replace H:=zzIt H;obtain ⟨C6,F7,H⟩:=zzG H;by_cases w5:C6=true
    ·
     subst w5;replace H:=zzIt H;obtain ⟨C7,G3,H⟩:=zzG H;by_cases w6:C7=true
     ·
      subst w6;replace H:=zzIt H;have H':=zzm H;clear H;obtain ⟨n8,n9,o0,o1,o2,o3,o4,o5,o6,o7,o8,o9⟩:=zzc6 a3.out;go_wp2_with (first|((with_reducible refine gate_callee (f:=39) rfl ?_);refine goesL_ (some 22) rfl rfl Try.func39 (by kernel_rfl) rfl #[.int .i64 b4] rfl zzM2 ?_;(with_reducible refine (Qz.calls b4 true _ D2.out).mono ?_);rintro e w' ⟨rfl,⟨nd,rfl⟩⟩;refine ⟨_,rfl,?_⟩)|(go_at_call 40;(with_reducible refine (Qm.calls b8 0 99 true _ F7.out).mono ?_);rintro e w' ⟨rfl,⟨nd,rfl⟩⟩)|(go_at_call 40;(with_reducible refine (Qm.calls b9 0 9999 true _ G3.out).mono ?_);rintro e w' ⟨rfl,⟨nd,rfl⟩⟩));go_meet
      case rel=>exact ⟨_,H',⟨by first|omega|exact Nat.le_refl _⟩,⟨zzE a3.out⟩,⟨zzh3⟩⟩
     ·
      replace w6:=Bool.eq_false_iff.mpr w6;subst w6;replace H:=zzIf H;obtain rfl:=Option.some.inj H;obtain ⟨p0,p1,p3,p4,p5,p6,p7,p8,p9,q0,q1,q2⟩:=zzc6 a3.out;go_wp2_with (first|((with_reducible refine gate_callee (f:=39) rfl ?_);refine goesL_ (some 22) rfl rfl Try.func39 (by kernel_rfl) rfl #[.int .i64 b4] rfl zzM2 ?_;(with_reducible refine (Qz.calls b4 true _ D2.out).mono ?_);rintro e w' ⟨rfl,⟨nd,rfl⟩⟩;refine ⟨_,rfl,?_⟩)|(go_at_call 40;(with_reducible refine (Qm.calls b8 0 99 true _ F7.out).mono ?_);rintro e w' ⟨rfl,⟨nd,rfl⟩⟩)|(go_at_call 40;(with_reducible refine (Qm.calls b9 0 9999 false _ G3.out).mono ?_);rintro e w' ⟨rfl,⟨nd,rfl⟩⟩));go_ret;exact ⟨zzR,zzh3⟩
    ·
     replace w5:=Bool.eq_false_iff.mpr w5;subst w5;replace H:=zzIf H;obtain rfl:=Option.some.inj H;obtain ⟨q3,q4,q5,q6,q7,q8,q9,r0,r1,r2,r3,r4⟩:=zzc6 a3.out;go_wp2_with (first|((with_reducible refine gate_callee (f:=39) rfl ?_);refine goesL_ (some 22) rfl rfl Try.func39 (by kernel_rfl) rfl #[.int .i64 b4] rfl zzM2 ?_;(with_reducible refine (Qz.calls b4 true _ D2.out).mono ?_);rintro e w' ⟨rfl,⟨nd,rfl⟩⟩;refine ⟨_,rfl,?_⟩)|(go_at_call 40;(with_reducible refine (Qm.calls b8 0 99 false _ F7.out).mono ?_);rintro e w' ⟨rfl,⟨nd,rfl⟩⟩));go_ret;exact ⟨zzR,zzh3⟩
   ·
    replace w4:=Bool.eq_false_iff.mpr w4;subst w4;replace H:=zzIf H;obtain rfl:=Option.some.inj H;obtain ⟨r5,r6,r7,r8,r9,s0,s1,s2,s3,s4,s5,s6⟩:=zzc6 a3.out;go_wp2_with (first|((with_reducible refine gate_callee (f:=39) rfl ?_);refine goesL_ (some 22) rfl rfl Try.func39 (by kernel_rfl) rfl #[.int .i64 b4] rfl zzM2 ?_;(with_reducible refine (Qz.calls b4 false _ D2.out).mono ?_);rintro e w' ⟨rfl,⟨nd,rfl⟩⟩;refine ⟨_,rfl,?_⟩));go_ret;exact ⟨zzR,zzh3⟩
 case rest=>
  clear F6;try clear c1
  try clear p2
  try clear c3
  try clear c5
  try clear h7
  try clear B2
  try clear c6
  try clear B3
  try clear B5
  try clear c7
  try clear B7
  try clear B9
  try clear c8
  try clear G4
  try clear w4
  try clear w5
  try clear w6
  try clear k0
  try clear k1
  try clear k2
  try clear k4
  try clear k5
  try clear k6
  try clear l4
  try clear l5
  try clear l6
  try clear l7
  try clear l8
  try clear l9
  try clear m6
  try clear m7
  try clear m8
  try clear m9
  try clear n0
  try clear n1
  try clear n8
  try clear n9
  try clear o0
  try clear o1
  try clear o2
  try clear o3
  try clear p0
  try clear p1
  try clear p3
  try clear p4
  try clear p5
  try clear p6
  try clear q3
  try clear q4
  try clear q5
  try clear q6
  try clear q7
  try clear q8
  try clear r5
  try clear r6
  try clear r7
  try clear r8
  try clear r9
  try clear s0
  try clear s9
  try clear t0
  try clear t1
  try clear t2
  try clear t3
  try clear t4
  try clear v1
  try clear v2
  try clear v3
  try clear v4
  try clear v5
  try clear v6
  try clear k7
  try clear k8
  try clear k9
  try clear l1
  try clear l2
  try clear l3
  try clear m0
  try clear m1
  try clear m2
  try clear m3
  try clear m4
  try clear m5
  try clear n2
  try clear n3
  try clear n4
  try clear n5
  try clear n6
  try clear n7
  try clear o4
  try clear o5
  try clear o6
  try clear o7
  try clear o8
  try clear o9
  try clear p7
  try clear p8
  try clear p9
  try clear q0
  try clear q1
  try clear q2
  try clear q9
  try clear r0
  try clear r1
  try clear r2
  try clear r3
  try clear r4
  try clear s1
  try clear s2
  try clear s3
  try clear s4
  try clear s5
  try clear s6
  try clear t5
  try clear t6
  try clear t7
  try clear t8
  try clear t9
  try clear v0
  try clear v7
  try clear v8
  try clear v9
  try clear w0
  try clear w1
  try clear w2
  obtain ⟨kq,HA,HJ1,a3,HB⟩:=hcut;cases kq with
  | zero=>exact absurd HA.out (by simp [Qc.j0])
  | succ L5=>
   have H:=HA.out;clear HA;simp only [Qc.j0] at H;have C8:=zzm H;clear H;go_upto_region 6 with (fail);go_cut [50] (fun L6 wc=>∃ (kq:Nat) (j8:Bool),L6 = .bool j8∧Aside0 (Qc.j1 kq j8 c9 c0 b4 b8 b9 a1=some r)∧Aside0 (kq≤L5)∧Aside0 (wc.heap[b0]? = some (.cells #[.bool c9,.bool c0,.int .i64 b4,.int .i64 b8,.int .i64 b9,(.slice j9 a1.length d0)] 26 (0,0)))∧Aside0 (Below w.heap.size w wc))
   case first=>
    have H:=C8.out;clear C8;obtain ⟨G5,F8,H⟩:=zzG H;by_cases x1:G5=true
    ·
     subst x1;replace H:=zzIt H;by_cases x2:c0=true
     ·
      subst x2;replace H:=zzIt H;have H':=zzm H;clear H;obtain ⟨x3,x4,x5,x6,x7,x8,x9,y0,y1,y2,y3,y4⟩:=zzc6 a3.out;go_wp2_with (first|((with_reducible refine gate_callee (f:=40) rfl ?_);refine goesL_ (some 39) rfl rfl Try.func40 (by kernel_rfl) rfl #[.int .i64 (a1.length:Int),.int .i64 1,.int .i64 6] rfl zzM2 ?_;(with_reducible refine (Qm.calls (a1.length:Int) 1 6 true _ F8.out).mono ?_);rintro e w' ⟨rfl,⟨nd,rfl⟩⟩;refine ⟨_,rfl,?_⟩));go_meet
      case rel=>exact ⟨_,(((a1.length:Int) != 1)),(by first|rfl|(simp;done)|(simp [*];done)),H',⟨by have:=HJ1.out;first|omega|exact Nat.le_refl _⟩,⟨zzE a3.out⟩,⟨zzh3⟩⟩
     ·
      replace x2:=Bool.eq_false_iff.mpr x2;subst x2;replace H:=zzIf H;have H':=zzm H;clear H;obtain ⟨y5,y6,y7,y8,y9,z0,z1,z2,z3,z4,z5,z6⟩:=zzc6 a3.out;go_wp2_with (first|((with_reducible refine gate_callee (f:=40) rfl ?_);refine goesL_ (some 39) rfl rfl Try.func40 (by kernel_rfl) rfl #[.int .i64 (a1.length:Int),.int .i64 1,.int .i64 6] rfl zzM2 ?_;(with_reducible refine (Qm.calls (a1.length:Int) 1 6 true _ F8.out).mono ?_);rintro e w' ⟨rfl,⟨nd,rfl⟩⟩;refine ⟨_,rfl,?_⟩));go_meet
      case rel=>exact ⟨_,(false),(by first|rfl|(simp;done)|(simp [*];done)),H',⟨by have:=HJ1.out;first|omega|exact Nat.le_refl _⟩,⟨zzE a3.out⟩,⟨zzh3⟩⟩
    ·
     replace x1:=Bool.eq_false_iff.mpr x1;subst x1;replace H:=zzIf H;have H':=zzm H;clear H;obtain ⟨z7,z8,z9,A0,A1,A2,A3,A4,A5,A6,A7,A8⟩:=zzc6 a3.out;go_wp2_with (first|((with_reducible refine gate_callee (f:=40) rfl ?_);refine goesL_ (some 39) rfl rfl Try.func40 (by kernel_rfl) rfl #[.int .i64 (a1.length:Int),.int .i64 1,.int .i64 6] rfl zzM2 ?_;(with_reducible refine (Qm.calls (a1.length:Int) 1 6 false _ F8.out).mono ?_);rintro e w' ⟨rfl,⟨nd,rfl⟩⟩;refine ⟨_,rfl,?_⟩));go_meet
     case rel=>exact ⟨_,(true),(by first|rfl|(simp;done)|(simp [*];done)),H',⟨by have:=HJ1.out;first|omega|exact Nat.le_refl _⟩,⟨zzE a3.out⟩,⟨zzh3⟩⟩
   case rest=>
    clear C8;try clear c1
    try clear c2
    try clear p2
    try clear c3
    try clear c4
    try clear c5
    try clear h7
    try clear B2
    try clear c6
    try clear B3
    try clear B5
    try clear c7
    try clear B7
    try clear B9
    try clear c8
    try clear G4
    try clear w4
    try clear w5
    try clear w6
    try clear x1
    try clear x2
    try clear k0
    try clear k1
    try clear k2
    try clear k4
    try clear k5
    try clear k6
    try clear l4
    try clear l5
    try clear l6
    try clear l7
    try clear l8
    try clear l9
    try clear m6
    try clear m7
    try clear m8
    try clear m9
    try clear n0
    try clear n1
    try clear n8
    try clear n9
    try clear o0
    try clear o1
    try clear o2
    try clear o3
    try clear p0
    try clear p1
    try clear p3
    try clear p4
    try clear p5
    try clear p6
    try clear q3
    try clear q4
    try clear q5
    try clear q6
    try clear q7
    try clear q8
    try clear r5
    try clear r6
    try clear r7
    try clear r8
    try clear r9
    try clear s0
    try clear x3
    try clear x4
    try clear x5
    try clear x6
    try clear x7
    try clear x8
    try clear y5
    try clear y6
    try clear y7
    try clear y8
    try clear y9
    try clear z0
    try clear z7
    try clear z8
    try clear z9
    try clear A0
    try clear A1
    try clear A2
    try clear s9
    try clear t0
    try clear t1
    try clear t2
    try clear t3
    try clear t4
    try clear v1
    try clear v2
    try clear v3
    try clear v4
    try clear v5
    try clear v6
    try clear k7
    try clear k8
    try clear k9
    try clear l1
    try clear l2
    try clear l3
    try clear m0
    try clear m1
    try clear m2
    try clear m3
    try clear m4
    try clear m5
    try clear n2
    try clear n3
    try clear n4
    try clear n5
    try clear n6
    try clear n7
    try clear o4
    try clear o5
    try clear o6
    try clear o7
    try clear o8
    try clear o9
    try clear p7
    try clear p8
    try clear p9
    try clear q0
    try clear q1
    try clear q2
    try clear q9
    try clear r0
    try clear r1
    try clear r2
    try clear r3
    try clear r4
    try clear s1
    try clear s2
    try clear s3
    try clear s4
    try clear s5
    try clear s6
    try clear x9
    try clear y0
    try clear y1
    try clear y2
    try clear y3
    try clear y4
    try clear z1
    try clear z2
    try clear z3
    try clear z4
    try clear z5
    try clear z6
    try clear A3
    try clear A4
    try clear A5
    try clear A6
    try clear A7
    try clear A8
    try clear t5
    try clear t6
    try clear t7
    try clear t8
    try clear t9
    try clear v0
    try clear v7
    try clear v8
    try clear v9
    try clear w0
    try clear w1
    try clear w2
    try clear p2
    obtain ⟨kq,j8,rfl,HA,HJ22,a3,HB⟩:=hcut;cases kq with
    | zero=>exact absurd HA.out (by simp [Qc.j1])
    | succ F9=>
     have H:=HA.out;clear HA;simp only [Qc.j1] at H;by_cases C3:j8=true
     ·
      subst C3;replace H:=zzIt H;obtain rfl:=Option.some.inj H;go_wp2;go_ret;exact ⟨zzR,zzh3⟩
     ·
      replace C3:=Bool.eq_false_iff.mpr C3;subst C3;replace H:=zzIf H;have H':=zzm H;clear H;obtain ⟨E2,E3,E4,E5,E6,E7,E8,E9,F0,F1,F2,F3⟩:=zzc6 a3.out;go_wp2;go_loopg [54] F9 (fun kq L7 w'=>∃ (a0:Int),L7 = .int .i64 a0∧Aside0 (Qc.l0 kq a1 (a1.length:Int) a0 c9 c0 b4 b8 b9 a1=some r)∧Aside0 (kq≤F9)∧Aside0 (w'.heap[b0]? = some (.cells #[.bool c9,.bool c0,.int .i64 b4,.int .i64 b8,.int .i64 b9,(.slice j9 a1.length d0)] 26 (0,0)))∧Aside0 (Below w.heap.size w w'))
      case atStart=>exact ⟨(0),(by first|rfl|(simp;done)|(simp [*];done)),H',⟨Nat.le_refl _⟩,⟨zzE a3.out⟩,⟨zzh3⟩⟩
      case round=>
       clear H';try clear c1
       try clear c2
       try clear p2
       try clear c3
       try clear c4
       try clear c5
       try clear h7
       try clear B2
       try clear c6
       try clear B3
       try clear B5
       try clear c7
       try clear B7
       try clear B9
       try clear c8
       try clear G4
       try clear w4
       try clear w5
       try clear w6
       try clear x1
       try clear x2
       try clear C3
       try clear k0
       try clear k1
       try clear k2
       try clear k4
       try clear k5
       try clear k6
       try clear l4
       try clear l5
       try clear l6
       try clear l7
       try clear l8
       try clear l9
       try clear m6
       try clear m7
       try clear m8
       try clear m9
       try clear n0
       try clear n1
       try clear n8
       try clear n9
       try clear o0
       try clear o1
       try clear o2
       try clear o3
       try clear p0
       try clear p1
       try clear p3
       try clear p4
       try clear p5
       try clear p6
       try clear q3
       try clear q4
       try clear q5
       try clear q6
       try clear q7
       try clear q8
       try clear r5
       try clear r6
       try clear r7
       try clear r8
       try clear r9
       try clear s0
       try clear x3
       try clear x4
       try clear x5
       try clear x6
       try clear x7
       try clear x8
       try clear y5
       try clear y6
       try clear y7
       try clear y8
       try clear y9
       try clear z0
       try clear z7
       try clear z8
       try clear z9
       try clear A0
       try clear A1
       try clear A2
       try clear E2
       try clear E3
       try clear E4
       try clear E5
       try clear E6
       try clear E7
       try clear s9
       try clear t0
       try clear t1
       try clear t2
       try clear t3
       try clear t4
       try clear v1
       try clear v2
       try clear v3
       try clear v4
       try clear v5
       try clear v6
       try clear k7
       try clear k8
       try clear k9
       try clear l1
       try clear l2
       try clear l3
       try clear m0
       try clear m1
       try clear m2
       try clear m3
       try clear m4
       try clear m5
       try clear n2
       try clear n3
       try clear n4
       try clear n5
       try clear n6
       try clear n7
       try clear o4
       try clear o5
       try clear o6
       try clear o7
       try clear o8
       try clear o9
       try clear p7
       try clear p8
       try clear p9
       try clear q0
       try clear q1
       try clear q2
       try clear q9
       try clear r0
       try clear r1
       try clear r2
       try clear r3
       try clear r4
       try clear s1
       try clear s2
       try clear s3
       try clear s4
       try clear s5
       try clear s6
       try clear x9
       try clear y0
       try clear y1
       try clear y2
       try clear y3
       try clear y4
       try clear z1
       try clear z2
       try clear z3
       try clear z4
       try clear z5
       try clear z6
       try clear A3
       try clear A4
       try clear A5
       try clear A6
       try clear A7
       try clear A8
       try clear E8
       try clear E9
       try clear F0
       try clear F1
       try clear F2
       try clear F3
       try clear t5
       try clear t6
       try clear t7
       try clear t8
       try clear t9
       try clear v0
       try clear v7
       try clear v8
       try clear v9
       try clear w0
       try clear w1
       try clear w2
       try clear p2
       obtain ⟨a0,rfl,HA,HK3,a3,HB⟩:=hrel;cases gk with
       | zero=>exact absurd HA.out (by simp [Qc.l0])
       | succ k3=>
        have H:=HA.out;clear HA;simp only [Qc.l0] at H;by_cases A9:a0 < (a1.length:Int)
        ·
         rw [if_pos A9] at H;have G0:decide (a0 < (a1.length:Int))=true:=decide_eq_true A9;clear A9;by_cases D3 : 0≤a0
         ·
          rw [if_pos D3] at H;have M5:decide (0≤a0)=true:=decide_eq_true D3;clear D3;by_cases D4:a0 < (a1.length:Int)
          ·
           rw [if_pos D4] at H;have M6:decide (a0 < (a1.length:Int))=true:=decide_eq_true D4;clear D4;obtain ⟨G6,C4,H⟩:=zzG H;by_cases D5:G6=true
           ·
            subst D5;replace H:=zzIt H;by_cases B0:a0 > 0
            ·
             rw [if_pos B0] at H;have G1:decide (0 < a0)=true:=decide_eq_true B0;clear B0;obtain ⟨b3,hji38⟩:∃ j_:Int,(wrap64 (a0 - 1))=j_:=⟨_,rfl⟩;replace H:(if 0≤(b3) then (if (b3) < (a1.length:Int) then (if ((Qa a1 (b3)).f0) ≥ ((Qa a1 a0).f0) then (some false) else (Qc.l0 k3 a1 (a1.length:Int) (wrap64 (a0+1)) c9 c0 b4 b8 b9 a1)) else (none)) else (none))=some r:=by first|(rw [hji38] at H;exact H)|(simp only [hji38] at H ⊢;exact H)
             (try rw [hji38] at C4);have hji38w:(IntKind.i64.wrap (a0 - 1))=b3:=(i64_w _).trans hji38;by_cases D6 : 0≤(b3)
             ·
              rw [if_pos D6] at H;have M7:decide (0≤(b3))=true:=decide_eq_true D6;clear D6;by_cases D7:(b3) < (a1.length:Int)
              ·
               rw [if_pos D7] at H;have M8:decide ((b3) < (a1.length:Int))=true:=decide_eq_true D7;clear D7;by_cases B1:((Qa a1 (b3)).f0) ≥ ((Qa a1 a0).f0)
               ·
                rw [if_pos B1] at H;have G2:decide (((Qa a1 a0).f0)≤((Qa a1 (b3)).f0))=true:=decide_eq_true B1;clear B1;obtain rfl:=Option.some.inj H;have e9 : 0≤(a0:Int):=zzt;have g0:a0 < (a1.length:Int):=zzt;obtain ⟨a9,a6,a7,b1,b2,j5,d2,d3,d4,d5,d6,d7,d8,d9,e0,e1⟩:=Rk j4.out a0 e9 g0;cases j5;replace d2:=zzx HB.out d2;replace d3:=zzx HB.out d3;replace d4:=zzx HB.out d4;replace d5:=zzx HB.out d5;replace d6:=zzx HB.out d6;replace d7:=zzx HB.out d7;have g1:=zzm d9;have g2:=zzm d8;clear d9 d8;have g3:=zzm e1;have g4:=zzm e0;clear e1 e0;replace e9:=eq_true e9;replace g0:=eq_true g0;try go_wp2_with (first|((with_reducible refine gate_dst (N:=4) rfl ?_);(try (refine gate_guard (by rfl) ?_;dsimp only));refine box_event ?hg (N:=4) ?hd (cs:=#[.int .i64 0,.int .i64 0,.bool false,.slice none 0 0,.bool false,.slice none 0 0]) (t:=75) ?hr ?_;(case hd=>rfl);(case hg=>rfl);(case hr=>first|(go_simp;done)|(go_simp;rfl));intro a2 hg D8 hbox hb;have b5:=zzm (zzh (g:=b0) (o:=.cells #[.bool c9,.bool c0,.int .i64 b4,.int .i64 b8,.int .i64 b9,.slice (some a9) a1.length d0] 26 (0,0)) (zzE a3.out) hb);have b6:=zzm (zzp zzh2 hb);have b7:=zzm (hbox);have g5:=zzm ((by rw [hg];exact (zzo zzh2):w.heap.size≤a2));have h8:=zzm ((by rw [hg];exact (zzo zzh2):w.heap.size≤a2));have h9:=zzm ((by rw [hg];exact Nat.ne_of_lt (blk_lt (g:=b0) (o:=.cells #[.bool c9,.bool c0,.int .i64 b4,.int .i64 b8,.int .i64 b9,.slice (some a9) a1.length d0] 26 (0,0)) (zzE a3.out)):b0≠a2));have j3:=zzm ((by rw [hg];exact Nat.ne_of_gt (blk_lt (g:=b0) (o:=.cells #[.bool c9,.bool c0,.int .i64 b4,.int .i64 b8,.int .i64 b9,.slice (some a9) a1.length d0] 26 (0,0)) (zzE a3.out)):a2≠b0));clear a3 HB;have a3:=b5;have HB:=b6;have a4:=b7;have C0:=g5;have C1:=h8;have a5:=h9;have e2:=j3;clear b5 b6 b7 g5 h8 h9 j3 hb hbox hg;have M9:=e2.out;have N0:=a5.out;obtain ⟨G7,G8,G9,H0,H1,H2,H3,H4,H5,H6,H7,H8⟩:=zzc6 a4.out))
                have b5:Aside0 (((((((D8.setCell ⟨a2,0,none⟩ (.int .i64 ((Qa a1 a0).f0))).setCell ⟨a2,1,none⟩ (.int .i64 ((Qa a1 a0).f1))).setCell ⟨a2,2,none⟩ (.bool ((Qa a1 a0).f2))).setCell ⟨a2,3,none⟩ (.slice a6 ((Qa a1 a0).f3).length a7)).setCell ⟨a2,4,none⟩ (.bool ((Qa a1 a0).f4))).setCell ⟨a2,5,none⟩ (.slice b1 ((Qa a1 a0).f5).length b2)).heap[b0]? = some (.cells #[.bool c9,.bool c0,.int .i64 b4,.int .i64 b8,.int .i64 b9,.slice (some a9) a1.length d0] 26 (0,0))):=⟨by (with_reducible repeat (first|apply zzf|apply zzg|apply zze));refine zzj ?_ a5.out _;(with_reducible repeat (first|apply zzf|apply zzg|apply zze));refine zzj ?_ a5.out _;(with_reducible repeat (first|apply zzf|apply zzg|apply zze));refine zzj ?_ a5.out _;(with_reducible repeat (first|apply zzf|apply zzg|apply zze));refine zzj ?_ a5.out _;(with_reducible repeat (first|apply zzf|apply zzg|apply zze));refine zzj ?_ a5.out _;(with_reducible repeat (first|apply zzf|apply zzg|apply zze));refine zzj ?_ a5.out _;(with_reducible repeat (first|apply zzf|apply zzg|apply zze));exact a3.out⟩;have b6:Aside0 (((((((D8.setCell ⟨a2,0,none⟩ (.int .i64 ((Qa a1 a0).f0))).setCell ⟨a2,1,none⟩ (.int .i64 ((Qa a1 a0).f1))).setCell ⟨a2,2,none⟩ (.bool ((Qa a1 a0).f2))).setCell ⟨a2,3,none⟩ (.slice a6 ((Qa a1 a0).f3).length a7)).setCell ⟨a2,4,none⟩ (.bool ((Qa a1 a0).f4))).setCell ⟨a2,5,none⟩ (.slice b1 ((Qa a1 a0).f5).length b2)).heap[a2]? = some (.cells #[.int .i64 ((Qa a1 a0).f0),.int .i64 ((Qa a1 a0).f1),.bool ((Qa a1 a0).f2),.slice a6 ((Qa a1 a0).f3).length a7,.bool ((Qa a1 a0).f4),.slice b1 ((Qa a1 a0).f5).length b2] 75 (0,0))):=⟨by (with_reducible repeat (first|apply zzf|apply zzg|apply zze));refine zzi (cs:=#[.int .i64 ((Qa a1 a0).f0),.int .i64 ((Qa a1 a0).f1),.bool ((Qa a1 a0).f2),.slice a6 ((Qa a1 a0).f3).length a7,.bool ((Qa a1 a0).f4),.slice none 0 0]) ?_ 5 _ rfl;refine zzi (cs:=#[.int .i64 ((Qa a1 a0).f0),.int .i64 ((Qa a1 a0).f1),.bool ((Qa a1 a0).f2),.slice a6 ((Qa a1 a0).f3).length a7,.bool false,.slice none 0 0]) ?_ 4 _ rfl;refine zzi (cs:=#[.int .i64 ((Qa a1 a0).f0),.int .i64 ((Qa a1 a0).f1),.bool ((Qa a1 a0).f2),.slice none 0 0,.bool false,.slice none 0 0]) ?_ 3 _ rfl;refine zzi (cs:=#[.int .i64 ((Qa a1 a0).f0),.int .i64 ((Qa a1 a0).f1),.bool false,.slice none 0 0,.bool false,.slice none 0 0]) ?_ 2 _ rfl;refine zzi (cs:=#[.int .i64 ((Qa a1 a0).f0),.int .i64 0,.bool false,.slice none 0 0,.bool false,.slice none 0 0]) ?_ 1 _ rfl;refine zzi (cs:=#[.int .i64 0,.int .i64 0,.bool false,.slice none 0 0,.bool false,.slice none 0 0]) ?_ 0 _ rfl;(with_reducible repeat (first|apply zzf|apply zzg|apply zze));exact a4.out⟩;have b7:Aside0 (Below w.heap.size w ((((((D8.setCell ⟨a2,0,none⟩ (.int .i64 ((Qa a1 a0).f0))).setCell ⟨a2,1,none⟩ (.int .i64 ((Qa a1 a0).f1))).setCell ⟨a2,2,none⟩ (.bool ((Qa a1 a0).f2))).setCell ⟨a2,3,none⟩ (.slice a6 ((Qa a1 a0).f3).length a7)).setCell ⟨a2,4,none⟩ (.bool ((Qa a1 a0).f4))).setCell ⟨a2,5,none⟩ (.slice b1 ((Qa a1 a0).f5).length b2))):=⟨zzh3⟩
                (try clear a3)
                (try clear a4)
                (try clear HB);generalize ((((((D8.setCell ⟨a2,0,none⟩ (.int .i64 ((Qa a1 a0).f0))).setCell ⟨a2,1,none⟩ (.int .i64 ((Qa a1 a0).f1))).setCell ⟨a2,2,none⟩ (.bool ((Qa a1 a0).f2))).setCell ⟨a2,3,none⟩ (.slice a6 ((Qa a1 a0).f3).length a7)).setCell ⟨a2,4,none⟩ (.bool ((Qa a1 a0).f4))).setCell ⟨a2,5,none⟩ (.slice b1 ((Qa a1 a0).f5).length b2))=L8 at b5 b6 b7 ⊢;have a3:=b5;have a4:=b6;have HB:=b7;clear b5 b6 b7;have b5:=zzm (zzg a3.out);have b6:=zzm (zzg a4.out);have b7:=zzm (zzc HB.out);clear a3 a4 HB;have a3:=b5;have a4:=b6;have HB:=b7;clear b5 b6 b7;have j6 : 0≤((b3):Int):=zzt;have j7:(b3) < (a1.length:Int):=zzt;obtain ⟨C2,w7,w8,w9,x0,C9,e3,e4,e5,e6,e7,e8,g6,g7,g8,g9⟩:=Rk j4.out (b3) j6 j7;have h0:=e8;have h1:=e7;have h2:=e6;have h3:=e5;have h4:=e4;have h5:=e3;obtain rfl:a9=C2:=(by injection C9);replace e3:=zzx HB.out e3;replace e4:=zzx HB.out e4;replace e5:=zzx HB.out e5;replace e6:=zzx HB.out e6;replace e7:=zzx HB.out e7;replace e8:=zzx HB.out e8;have s7:=zzm g7;have F4:=zzm g6;clear g7 g6;have s8:=zzm g9;have F5:=zzm g8;clear g9 g8;replace j6:=eq_true j6;replace j7:=eq_true j7;refine start_ (n:=19) (S:=fun w'=>w'.cell? ⟨a2,0,none⟩=some (.int .i64 ((Qa a1 a0).f0))∧w'.cell? ⟨a2,1,none⟩=some (.int .i64 ((Qa a1 a0).f1))∧w'.cell? ⟨a2,2,none⟩=some (.bool ((Qa a1 a0).f2))∧w'.cell? ⟨a2,3,none⟩=some (.slice a6 ((Qa a1 a0).f3).length a7)∧w'.cell? ⟨a2,4,none⟩=some (.bool ((Qa a1 a0).f4))∧w'.cell? ⟨a2,5,none⟩=some (.slice b1 ((Qa a1 a0).f5).length b2)∧w'.cell? ⟨b0,0,none⟩=some (.bool c9)∧w'.cell? ⟨b0,1,none⟩=some (.bool c0)∧w'.cell? ⟨b0,2,none⟩=some (.int .i64 b4)∧w'.cell? ⟨b0,3,none⟩=some (.int .i64 b8)∧w'.cell? ⟨b0,4,none⟩=some (.int .i64 b9)∧w'.cell? ⟨b0,5,none⟩=some (.slice (some a9) a1.length d0)∧w'.cell? (a9.add (((b3)).toNat * 6))=some (.int .i64 ((Qa a1 (b3)).f0))∧w'.cell? ⟨(a9.add (((b3)).toNat * 6)).block,(a9.add (((b3)).toNat * 6)).off+1,none⟩=some (.int .i64 ((Qa a1 (b3)).f1))∧w'.cell? ⟨(a9.add (((b3)).toNat * 6)).block,(a9.add (((b3)).toNat * 6)).off+2,none⟩=some (.bool ((Qa a1 (b3)).f2))∧w'.cell? ⟨(a9.add (((b3)).toNat * 6)).block,(a9.add (((b3)).toNat * 6)).off+3,none⟩=some (.slice w7 ((Qa a1 (b3)).f3).length w8)∧w'.cell? ⟨(a9.add (((b3)).toNat * 6)).block,(a9.add (((b3)).toNat * 6)).off+4,none⟩=some (.bool ((Qa a1 (b3)).f4))∧w'.cell? ⟨(a9.add (((b3)).toNat * 6)).block,(a9.add (((b3)).toNat * 6)).off+5,none⟩=some (.slice w9 ((Qa a1 (b3)).f5).length x0)) (ds:=[]) (zzB 19 0) (by kernel_rfl) rfl rfl ⟨(zzk a4.out 0).trans rfl,(zzk a4.out 1).trans rfl,(zzk a4.out 2).trans rfl,(zzk a4.out 3).trans rfl,(zzk a4.out 4).trans rfl,(zzk a4.out 5).trans rfl,(zzk a3.out 0).trans rfl,(zzk a3.out 1).trans rfl,(zzk a3.out 2).trans rfl,(zzk a3.out 3).trans rfl,(zzk a3.out 4).trans rfl,(zzk a3.out 5).trans rfl,(zzx HB.out h5),(zzx HB.out h4),(zzx HB.out h3),(zzx HB.out h2),(zzx HB.out h1),(zzx HB.out h0)⟩ (fun d1=>?_);refine with_tabW Qc.tab11 Qc.bits11 (fun a8 h6=>?_);generalize L8.drew=N7 at a3 a4 HB s7 s8 e3 e4 e5 e6 e7 e8 d1 ⊢;refine zzT 0 59 19 1 a8 h6 d1 ?_
                refine one_ (i:=1) (N:=some 60) (zzB 19 3) rfl rfl (one_of a8.out (by kernel_rfl)) (by decide) (fun K hK=>?_);refine goes_ Try.func41 (by kernel_rfl) rfl #[.agg #[.int .i64 ((Qa a1 a0).f0),.int .i64 ((Qa a1 a0).f1),.bool ((Qa a1 a0).f2),.slice a6 ((Qa a1 a0).f3).length a7,.bool ((Qa a1 a0).f4),.slice b1 ((Qa a1 a0).f5).length b2]] (by rfl) rfl rfl zzM2 ?_;with_reducible refine (Q5.calls k3 ((Qa a1 a0).f0) ((Qa a1 a0).f1) ((Qa a1 a0).f2) _ _ ((Qa a1 a0).f3) ((Qa a1 a0).f4) _ _ ((Qa a1 a0).f5) true _ ?side1 ?side2 ?side3 ?side4 C4.out).mono ?_
                (case side1=>exact zzcb g1 HB)
                (case side2=>exact g2.out)
                (case side3=>exact zzcb g3 HB)
                (case side4=>exact g4.out);rintro e N8 ⟨rfl,hb⟩;refine ⟨_,rfl,?_⟩;have b5:=zzm (zzh (g:=b0) (o:=.cells #[.bool c9,.bool c0,.int .i64 b4,.int .i64 b8,.int .i64 b9,.slice (some a9) a1.length d0] 26 (0,0)) (zzE a3.out) hb);have b6:=zzm (zzh (g:=a2) (o:=.cells #[.int .i64 ((Qa a1 a0).f0),.int .i64 ((Qa a1 a0).f1),.bool ((Qa a1 a0).f2),.slice a6 ((Qa a1 a0).f3).length a7,.bool ((Qa a1 a0).f4),.slice b1 ((Qa a1 a0).f5).length b2] 75 (0,0)) (zzE a4.out) hb);have b7:=zzm (zzp zzh2 hb);clear a3 a4 HB;have a3:=b5;have a4:=b6;have HB:=b7;clear b5 b6 b7
                (try clear hb)
                (try clear hb2)
                (try clear hk)
                (try clear hi);refine hK.out _ _ ⟨(zzk a4.out 0).trans rfl,(zzk a4.out 1).trans rfl,(zzk a4.out 2).trans rfl,(zzk a4.out 3).trans rfl,(zzk a4.out 4).trans rfl,(zzk a4.out 5).trans rfl,(zzk a3.out 0).trans rfl,(zzk a3.out 1).trans rfl,(zzk a3.out 2).trans rfl,(zzk a3.out 3).trans rfl,(zzk a3.out 4).trans rfl,(zzk a3.out 5).trans rfl,(zzx HB.out h5),(zzx HB.out h4),(zzx HB.out h3),(zzx HB.out h2),(zzx HB.out h1),(zzx HB.out h0)⟩ (fun d1=>?_);clear hK K;refine zzO 60 ?_
                refine zzP 2 61 19 7 a8 ?_
                refine zzP 3 62 19 15 a8 ?_
                refine zzP 4 63 19 31 a8 ?_
                refine zzP 5 64 19 63 a8 ?_
                refine zzP 6 65 19 127 a8 ?_
                refine zzP 7 66 19 255 a8 ?_
                refine zzP 9 68 19 767 a8 ?_
                refine zzP 10 69 19 1791 a8 ?_
                refine zzP 14 73 19 18175 a8 ?_
                refine zzT 8 67 19 18431 a8 h6 d1 ?_
                refine zzP 11 70 19 20479 a8 ?_
                refine zzP 12 71 19 24575 a8 ?_
                refine zzT 13 72 19 32767 a8 h6 d1 ?_
                refine zzT 15 74 19 65535 a8 h6 d1 ?_
                refine zzP 16 75 19 131071 a8 ?_
                refine zzP 17 76 19 262143 a8 ?_
                refine zzP 18 77 19 524287 a8 ?_
                refine done_ (done_of a8.out (by kernel_rfl)) ?_;try go_wp2
                go_ret;exact ⟨by first|rfl|(simp [errW_none,errW_some] <;> rfl)|(simp only [← hji38];first|rfl|(simp [errW_none,errW_some] <;> rfl))|(simp [*,errW_none,errW_some] <;> rfl),zzh3⟩
               ·
                rw [if_neg B1] at H;have G2:decide (((Qa a1 a0).f0)≤((Qa a1 (b3)).f0))=false:=decide_eq_false B1;clear B1;have H':=zzm H;clear H;have e9 : 0≤(a0:Int):=zzt;have g0:a0 < (a1.length:Int):=zzt;obtain ⟨a9,a6,a7,b1,b2,j5,d2,d3,d4,d5,d6,d7,d8,d9,e0,e1⟩:=Rk j4.out a0 e9 g0;cases j5;replace d2:=zzx HB.out d2;replace d3:=zzx HB.out d3;replace d4:=zzx HB.out d4;replace d5:=zzx HB.out d5;replace d6:=zzx HB.out d6;replace d7:=zzx HB.out d7;have g1:=zzm d9;have g2:=zzm d8;clear d9 d8;have g3:=zzm e1;have g4:=zzm e0;clear e1 e0;replace e9:=eq_true e9;replace g0:=eq_true g0;try go_wp2_with (first|((with_reducible refine gate_dst (N:=4) rfl ?_);(try (refine gate_guard (by rfl) ?_;dsimp only));refine box_event ?hg (N:=4) ?hd (cs:=#[.int .i64 0,.int .i64 0,.bool false,.slice none 0 0,.bool false,.slice none 0 0]) (t:=75) ?hr ?_;(case hd=>rfl);(case hg=>rfl);(case hr=>first|(go_simp;done)|(go_simp;rfl));intro a2 hg D9 hbox hb;have b5:=zzm (zzh (g:=b0) (o:=.cells #[.bool c9,.bool c0,.int .i64 b4,.int .i64 b8,.int .i64 b9,.slice (some a9) a1.length d0] 26 (0,0)) (zzE a3.out) hb);have b6:=zzm (zzp zzh2 hb);have b7:=zzm (hbox);have g5:=zzm ((by rw [hg];exact (zzo zzh2):w.heap.size≤a2));have h8:=zzm ((by rw [hg];exact (zzo zzh2):w.heap.size≤a2));have h9:=zzm ((by rw [hg];exact Nat.ne_of_lt (blk_lt (g:=b0) (o:=.cells #[.bool c9,.bool c0,.int .i64 b4,.int .i64 b8,.int .i64 b9,.slice (some a9) a1.length d0] 26 (0,0)) (zzE a3.out)):b0≠a2));have j3:=zzm ((by rw [hg];exact Nat.ne_of_gt (blk_lt (g:=b0) (o:=.cells #[.bool c9,.bool c0,.int .i64 b4,.int .i64 b8,.int .i64 b9,.slice (some a9) a1.length d0] 26 (0,0)) (zzE a3.out)):a2≠b0));clear a3 HB;have a3:=b5;have HB:=b6;have a4:=b7;have C0:=g5;have C1:=h8;have a5:=h9;have e2:=j3;clear b5 b6 b7 g5 h8 h9 j3 hb hbox hg;have N1:=e2.out;have N2:=a5.out;obtain ⟨H9,I0,I1,I2,I3,I4,I5,I6,I7,I8,I9,J0⟩:=zzc6 a4.out))
                have b5:Aside0 (((((((D9.setCell ⟨a2,0,none⟩ (.int .i64 ((Qa a1 a0).f0))).setCell ⟨a2,1,none⟩ (.int .i64 ((Qa a1 a0).f1))).setCell ⟨a2,2,none⟩ (.bool ((Qa a1 a0).f2))).setCell ⟨a2,3,none⟩ (.slice a6 ((Qa a1 a0).f3).length a7)).setCell ⟨a2,4,none⟩ (.bool ((Qa a1 a0).f4))).setCell ⟨a2,5,none⟩ (.slice b1 ((Qa a1 a0).f5).length b2)).heap[b0]? = some (.cells #[.bool c9,.bool c0,.int .i64 b4,.int .i64 b8,.int .i64 b9,.slice (some a9) a1.length d0] 26 (0,0))):=⟨by (with_reducible repeat (first|apply zzf|apply zzg|apply zze));refine zzj ?_ a5.out _;(with_reducible repeat (first|apply zzf|apply zzg|apply zze));refine zzj ?_ a5.out _;(with_reducible repeat (first|apply zzf|apply zzg|apply zze));refine zzj ?_ a5.out _;(with_reducible repeat (first|apply zzf|apply zzg|apply zze));refine zzj ?_ a5.out _;(with_reducible repeat (first|apply zzf|apply zzg|apply zze));refine zzj ?_ a5.out _;(with_reducible repeat (first|apply zzf|apply zzg|apply zze));refine zzj ?_ a5.out _;(with_reducible repeat (first|apply zzf|apply zzg|apply zze));exact a3.out⟩;have b6:Aside0 (((((((D9.setCell ⟨a2,0,none⟩ (.int .i64 ((Qa a1 a0).f0))).setCell ⟨a2,1,none⟩ (.int .i64 ((Qa a1 a0).f1))).setCell ⟨a2,2,none⟩ (.bool ((Qa a1 a0).f2))).setCell ⟨a2,3,none⟩ (.slice a6 ((Qa a1 a0).f3).length a7)).setCell ⟨a2,4,none⟩ (.bool ((Qa a1 a0).f4))).setCell ⟨a2,5,none⟩ (.slice b1 ((Qa a1 a0).f5).length b2)).heap[a2]? = some (.cells #[.int .i64 ((Qa a1 a0).f0),.int .i64 ((Qa a1 a0).f1),.bool ((Qa a1 a0).f2),.slice a6 ((Qa a1 a0).f3).length a7,.bool ((Qa a1 a0).f4),.slice b1 ((Qa a1 a0).f5).length b2] 75 (0,0))):=⟨by (with_reducible repeat (first|apply zzf|apply zzg|apply zze));refine zzi (cs:=#[.int .i64 ((Qa a1 a0).f0),.int .i64 ((Qa a1 a0).f1),.bool ((Qa a1 a0).f2),.slice a6 ((Qa a1 a0).f3).length a7,.bool ((Qa a1 a0).f4),.slice none 0 0]) ?_ 5 _ rfl;refine zzi (cs:=#[.int .i64 ((Qa a1 a0).f0),.int .i64 ((Qa a1 a0).f1),.bool ((Qa a1 a0).f2),.slice a6 ((Qa a1 a0).f3).length a7,.bool false,.slice none 0 0]) ?_ 4 _ rfl;refine zzi (cs:=#[.int .i64 ((Qa a1 a0).f0),.int .i64 ((Qa a1 a0).f1),.bool ((Qa a1 a0).f2),.slice none 0 0,.bool false,.slice none 0 0]) ?_ 3 _ rfl;refine zzi (cs:=#[.int .i64 ((Qa a1 a0).f0),.int .i64 ((Qa a1 a0).f1),.bool false,.slice none 0 0,.bool false,.slice none 0 0]) ?_ 2 _ rfl;refine zzi (cs:=#[.int .i64 ((Qa a1 a0).f0),.int .i64 0,.bool false,.slice none 0 0,.bool false,.slice none 0 0]) ?_ 1 _ rfl;refine zzi (cs:=#[.int .i64 0,.int .i64 0,.bool false,.slice none 0 0,.bool false,.slice none 0 0]) ?_ 0 _ rfl;(with_reducible repeat (first|apply zzf|apply zzg|apply zze));exact a4.out⟩;have b7:Aside0 (Below w.heap.size w ((((((D9.setCell ⟨a2,0,none⟩ (.int .i64 ((Qa a1 a0).f0))).setCell ⟨a2,1,none⟩ (.int .i64 ((Qa a1 a0).f1))).setCell ⟨a2,2,none⟩ (.bool ((Qa a1 a0).f2))).setCell ⟨a2,3,none⟩ (.slice a6 ((Qa a1 a0).f3).length a7)).setCell ⟨a2,4,none⟩ (.bool ((Qa a1 a0).f4))).setCell ⟨a2,5,none⟩ (.slice b1 ((Qa a1 a0).f5).length b2))):=⟨zzh3⟩
                (try clear a3)
                (try clear a4)
                (try clear HB);generalize ((((((D9.setCell ⟨a2,0,none⟩ (.int .i64 ((Qa a1 a0).f0))).setCell ⟨a2,1,none⟩ (.int .i64 ((Qa a1 a0).f1))).setCell ⟨a2,2,none⟩ (.bool ((Qa a1 a0).f2))).setCell ⟨a2,3,none⟩ (.slice a6 ((Qa a1 a0).f3).length a7)).setCell ⟨a2,4,none⟩ (.bool ((Qa a1 a0).f4))).setCell ⟨a2,5,none⟩ (.slice b1 ((Qa a1 a0).f5).length b2))=L9 at b5 b6 b7 ⊢;have a3:=b5;have a4:=b6;have HB:=b7;clear b5 b6 b7;have b5:=zzm (zzg a3.out);have b6:=zzm (zzg a4.out);have b7:=zzm (zzc HB.out);clear a3 a4 HB;have a3:=b5;have a4:=b6;have HB:=b7;clear b5 b6 b7;have j6 : 0≤((b3):Int):=zzt;have j7:(b3) < (a1.length:Int):=zzt;obtain ⟨C2,w7,w8,w9,x0,C9,e3,e4,e5,e6,e7,e8,g6,g7,g8,g9⟩:=Rk j4.out (b3) j6 j7;have h0:=e8;have h1:=e7;have h2:=e6;have h3:=e5;have h4:=e4;have h5:=e3;obtain rfl:a9=C2:=(by injection C9);replace e3:=zzx HB.out e3;replace e4:=zzx HB.out e4;replace e5:=zzx HB.out e5;replace e6:=zzx HB.out e6;replace e7:=zzx HB.out e7;replace e8:=zzx HB.out e8;have s7:=zzm g7;have F4:=zzm g6;clear g7 g6;have s8:=zzm g9;have F5:=zzm g8;clear g9 g8;replace j6:=eq_true j6;replace j7:=eq_true j7;refine start_ (n:=19) (S:=fun w'=>w'.cell? ⟨a2,0,none⟩=some (.int .i64 ((Qa a1 a0).f0))∧w'.cell? ⟨a2,1,none⟩=some (.int .i64 ((Qa a1 a0).f1))∧w'.cell? ⟨a2,2,none⟩=some (.bool ((Qa a1 a0).f2))∧w'.cell? ⟨a2,3,none⟩=some (.slice a6 ((Qa a1 a0).f3).length a7)∧w'.cell? ⟨a2,4,none⟩=some (.bool ((Qa a1 a0).f4))∧w'.cell? ⟨a2,5,none⟩=some (.slice b1 ((Qa a1 a0).f5).length b2)∧w'.cell? ⟨b0,0,none⟩=some (.bool c9)∧w'.cell? ⟨b0,1,none⟩=some (.bool c0)∧w'.cell? ⟨b0,2,none⟩=some (.int .i64 b4)∧w'.cell? ⟨b0,3,none⟩=some (.int .i64 b8)∧w'.cell? ⟨b0,4,none⟩=some (.int .i64 b9)∧w'.cell? ⟨b0,5,none⟩=some (.slice (some a9) a1.length d0)∧w'.cell? (a9.add (((b3)).toNat * 6))=some (.int .i64 ((Qa a1 (b3)).f0))∧w'.cell? ⟨(a9.add (((b3)).toNat * 6)).block,(a9.add (((b3)).toNat * 6)).off+1,none⟩=some (.int .i64 ((Qa a1 (b3)).f1))∧w'.cell? ⟨(a9.add (((b3)).toNat * 6)).block,(a9.add (((b3)).toNat * 6)).off+2,none⟩=some (.bool ((Qa a1 (b3)).f2))∧w'.cell? ⟨(a9.add (((b3)).toNat * 6)).block,(a9.add (((b3)).toNat * 6)).off+3,none⟩=some (.slice w7 ((Qa a1 (b3)).f3).length w8)∧w'.cell? ⟨(a9.add (((b3)).toNat * 6)).block,(a9.add (((b3)).toNat * 6)).off+4,none⟩=some (.bool ((Qa a1 (b3)).f4))∧w'.cell? ⟨(a9.add (((b3)).toNat * 6)).block,(a9.add (((b3)).toNat * 6)).off+5,none⟩=some (.slice w9 ((Qa a1 (b3)).f5).length x0)) (ds:=[]) (zzB 19 0) (by kernel_rfl) rfl rfl ⟨(zzk a4.out 0).trans rfl,(zzk a4.out 1).trans rfl,(zzk a4.out 2).trans rfl,(zzk a4.out 3).trans rfl,(zzk a4.out 4).trans rfl,(zzk a4.out 5).trans rfl,(zzk a3.out 0).trans rfl,(zzk a3.out 1).trans rfl,(zzk a3.out 2).trans rfl,(zzk a3.out 3).trans rfl,(zzk a3.out 4).trans rfl,(zzk a3.out 5).trans rfl,(zzx HB.out h5),(zzx HB.out h4),(zzx HB.out h3),(zzx HB.out h2),(zzx HB.out h1),(zzx HB.out h0)⟩ (fun d1=>?_);refine with_tabW Qc.tab11 Qc.bits11 (fun a8 h6=>?_);generalize L9.drew=N9 at a3 a4 HB s7 s8 e3 e4 e5 e6 e7 e8 d1 ⊢;refine zzT 0 59 19 1 a8 h6 d1 ?_
                refine one_ (i:=1) (N:=some 60) (zzB 19 3) rfl rfl (one_of a8.out (by kernel_rfl)) (by decide) (fun K hK=>?_);refine goes_ Try.func41 (by kernel_rfl) rfl #[.agg #[.int .i64 ((Qa a1 a0).f0),.int .i64 ((Qa a1 a0).f1),.bool ((Qa a1 a0).f2),.slice a6 ((Qa a1 a0).f3).length a7,.bool ((Qa a1 a0).f4),.slice b1 ((Qa a1 a0).f5).length b2]] (by rfl) rfl rfl zzM2 ?_;with_reducible refine (Q5.calls k3 ((Qa a1 a0).f0) ((Qa a1 a0).f1) ((Qa a1 a0).f2) _ _ ((Qa a1 a0).f3) ((Qa a1 a0).f4) _ _ ((Qa a1 a0).f5) true _ ?side1 ?side2 ?side3 ?side4 C4.out).mono ?_
                (case side1=>exact zzcb g1 HB)
                (case side2=>exact g2.out)
                (case side3=>exact zzcb g3 HB)
                (case side4=>exact g4.out);rintro e O0 ⟨rfl,hb⟩;refine ⟨_,rfl,?_⟩;have b5:=zzm (zzh (g:=b0) (o:=.cells #[.bool c9,.bool c0,.int .i64 b4,.int .i64 b8,.int .i64 b9,.slice (some a9) a1.length d0] 26 (0,0)) (zzE a3.out) hb);have b6:=zzm (zzh (g:=a2) (o:=.cells #[.int .i64 ((Qa a1 a0).f0),.int .i64 ((Qa a1 a0).f1),.bool ((Qa a1 a0).f2),.slice a6 ((Qa a1 a0).f3).length a7,.bool ((Qa a1 a0).f4),.slice b1 ((Qa a1 a0).f5).length b2] 75 (0,0)) (zzE a4.out) hb);have b7:=zzm (zzp zzh2 hb);clear a3 a4 HB;have a3:=b5;have a4:=b6;have HB:=b7;clear b5 b6 b7
                (try clear hb)
                (try clear hb2)
                (try clear hk)
                (try clear hi);refine hK.out _ _ ⟨(zzk a4.out 0).trans rfl,(zzk a4.out 1).trans rfl,(zzk a4.out 2).trans rfl,(zzk a4.out 3).trans rfl,(zzk a4.out 4).trans rfl,(zzk a4.out 5).trans rfl,(zzk a3.out 0).trans rfl,(zzk a3.out 1).trans rfl,(zzk a3.out 2).trans rfl,(zzk a3.out 3).trans rfl,(zzk a3.out 4).trans rfl,(zzk a3.out 5).trans rfl,(zzx HB.out h5),(zzx HB.out h4),(zzx HB.out h3),(zzx HB.out h2),(zzx HB.out h1),(zzx HB.out h0)⟩ (fun d1=>?_);clear hK K;refine zzO 60 ?_
                refine zzP 2 61 19 7 a8 ?_
                refine zzP 3 62 19 15 a8 ?_
                refine zzP 4 63 19 31 a8 ?_
                refine zzP 5 64 19 63 a8 ?_
                refine zzP 6 65 19 127 a8 ?_
                refine zzP 7 66 19 255 a8 ?_
                refine zzP 9 68 19 767 a8 ?_
                refine zzP 10 69 19 1791 a8 ?_
                refine zzP 14 73 19 18175 a8 ?_
                refine zzT 8 67 19 18431 a8 h6 d1 ?_
                refine zzP 11 70 19 20479 a8 ?_
                refine zzP 12 71 19 24575 a8 ?_
                refine zzT 13 72 19 32767 a8 h6 d1 ?_
                refine zzT 15 74 19 65535 a8 h6 d1 ?_
                refine zzP 16 75 19 131071 a8 ?_
                refine zzP 17 76 19 262143 a8 ?_
                refine zzP 18 77 19 524287 a8 ?_
                refine done_ (done_of a8.out (by kernel_rfl)) ?_;try go_wp2
                go_roundg k3
                case measure=>have:=HJ1.out;have:=HJ22.out;have:=HK3.out;omega
                case rel=>exact ⟨(wrap64 (a0+1)),(by first|rfl|(simp;done)|(simp [*];done)),H',⟨by have:=HJ1.out;have:=HJ22.out;have:=HK3.out;omega⟩,⟨zzE a3.out⟩,⟨zzh3⟩⟩
              ·
               rw [if_neg D7] at H;exact absurd H (by simp)
             ·
              rw [if_neg D6] at H;exact absurd H (by simp)
            ·
             rw [if_neg B0] at H;have G1:decide (0 < a0)=false:=decide_eq_false B0;clear B0;have H':=zzm H;clear H;have e9 : 0≤(a0:Int):=zzt;have g0:a0 < (a1.length:Int):=zzt;obtain ⟨a9,a6,a7,b1,b2,j5,d2,d3,d4,d5,d6,d7,d8,d9,e0,e1⟩:=Rk j4.out a0 e9 g0;cases j5;replace d2:=zzx HB.out d2;replace d3:=zzx HB.out d3;replace d4:=zzx HB.out d4;replace d5:=zzx HB.out d5;replace d6:=zzx HB.out d6;replace d7:=zzx HB.out d7;have g1:=zzm d9;have g2:=zzm d8;clear d9 d8;have g3:=zzm e1;have g4:=zzm e0;clear e1 e0;replace e9:=eq_true e9;replace g0:=eq_true g0;try go_wp2_with (first|((with_reducible refine gate_dst (N:=4) rfl ?_);(try (refine gate_guard (by rfl) ?_;dsimp only));refine box_event ?hg (N:=4) ?hd (cs:=#[.int .i64 0,.int .i64 0,.bool false,.slice none 0 0,.bool false,.slice none 0 0]) (t:=75) ?hr ?_;(case hd=>rfl);(case hg=>rfl);(case hr=>first|(go_simp;done)|(go_simp;rfl));intro a2 hg E0 hbox hb;have b5:=zzm (zzh (g:=b0) (o:=.cells #[.bool c9,.bool c0,.int .i64 b4,.int .i64 b8,.int .i64 b9,.slice (some a9) a1.length d0] 26 (0,0)) (zzE a3.out) hb);have b6:=zzm (zzp zzh2 hb);have b7:=zzm (hbox);have g5:=zzm ((by rw [hg];exact (zzo zzh2):w.heap.size≤a2));have h8:=zzm ((by rw [hg];exact (zzo zzh2):w.heap.size≤a2));have h9:=zzm ((by rw [hg];exact Nat.ne_of_lt (blk_lt (g:=b0) (o:=.cells #[.bool c9,.bool c0,.int .i64 b4,.int .i64 b8,.int .i64 b9,.slice (some a9) a1.length d0] 26 (0,0)) (zzE a3.out)):b0≠a2));have j3:=zzm ((by rw [hg];exact Nat.ne_of_gt (blk_lt (g:=b0) (o:=.cells #[.bool c9,.bool c0,.int .i64 b4,.int .i64 b8,.int .i64 b9,.slice (some a9) a1.length d0] 26 (0,0)) (zzE a3.out)):a2≠b0));clear a3 HB;have a3:=b5;have HB:=b6;have a4:=b7;have C0:=g5;have C1:=h8;have a5:=h9;have e2:=j3;clear b5 b6 b7 g5 h8 h9 j3 hb hbox hg;have N3:=e2.out;have N4:=a5.out;obtain ⟨J1,J2,J3,J4,J5,J6,J7,J8,J9,K0,K1,K2⟩:=zzc6 a4.out))
             have b5:Aside0 (((((((E0.setCell ⟨a2,0,none⟩ (.int .i64 ((Qa a1 a0).f0))).setCell ⟨a2,1,none⟩ (.int .i64 ((Qa a1 a0).f1))).setCell ⟨a2,2,none⟩ (.bool ((Qa a1 a0).f2))).setCell ⟨a2,3,none⟩ (.slice a6 ((Qa a1 a0).f3).length a7)).setCell ⟨a2,4,none⟩ (.bool ((Qa a1 a0).f4))).setCell ⟨a2,5,none⟩ (.slice b1 ((Qa a1 a0).f5).length b2)).heap[b0]? = some (.cells #[.bool c9,.bool c0,.int .i64 b4,.int .i64 b8,.int .i64 b9,.slice (some a9) a1.length d0] 26 (0,0))):=⟨by (with_reducible repeat (first|apply zzf|apply zzg|apply zze));refine zzj ?_ a5.out _;(with_reducible repeat (first|apply zzf|apply zzg|apply zze));refine zzj ?_ a5.out _;(with_reducible repeat (first|apply zzf|apply zzg|apply zze));refine zzj ?_ a5.out _;(with_reducible repeat (first|apply zzf|apply zzg|apply zze));refine zzj ?_ a5.out _;(with_reducible repeat (first|apply zzf|apply zzg|apply zze));refine zzj ?_ a5.out _;(with_reducible repeat (first|apply zzf|apply zzg|apply zze));refine zzj ?_ a5.out _;(with_reducible repeat (first|apply zzf|apply zzg|apply zze));exact a3.out⟩;have b6:Aside0 (((((((E0.setCell ⟨a2,0,none⟩ (.int .i64 ((Qa a1 a0).f0))).setCell ⟨a2,1,none⟩ (.int .i64 ((Qa a1 a0).f1))).setCell ⟨a2,2,none⟩ (.bool ((Qa a1 a0).f2))).setCell ⟨a2,3,none⟩ (.slice a6 ((Qa a1 a0).f3).length a7)).setCell ⟨a2,4,none⟩ (.bool ((Qa a1 a0).f4))).setCell ⟨a2,5,none⟩ (.slice b1 ((Qa a1 a0).f5).length b2)).heap[a2]? = some (.cells #[.int .i64 ((Qa a1 a0).f0),.int .i64 ((Qa a1 a0).f1),.bool ((Qa a1 a0).f2),.slice a6 ((Qa a1 a0).f3).length a7,.bool ((Qa a1 a0).f4),.slice b1 ((Qa a1 a0).f5).length b2] 75 (0,0))):=⟨by (with_reducible repeat (first|apply zzf|apply zzg|apply zze));refine zzi (cs:=#[.int .i64 ((Qa a1 a0).f0),.int .i64 ((Qa a1 a0).f1),.bool ((Qa a1 a0).f2),.slice a6 ((Qa a1 a0).f3).length a7,.bool ((Qa a1 a0).f4),.slice none 0 0]) ?_ 5 _ rfl;refine zzi (cs:=#[.int .i64 ((Qa a1 a0).f0),.int .i64 ((Qa a1 a0).f1),.bool ((Qa a1 a0).f2),.slice a6 ((Qa a1 a0).f3).length a7,.bool false,.slice none 0 0]) ?_ 4 _ rfl;refine zzi (cs:=#[.int .i64 ((Qa a1 a0).f0),.int .i64 ((Qa a1 a0).f1),.bool ((Qa a1 a0).f2),.slice none 0 0,.bool false,.slice none 0 0]) ?_ 3 _ rfl;refine zzi (cs:=#[.int .i64 ((Qa a1 a0).f0),.int .i64 ((Qa a1 a0).f1),.bool false,.slice none 0 0,.bool false,.slice none 0 0]) ?_ 2 _ rfl;refine zzi (cs:=#[.int .i64 ((Qa a1 a0).f0),.int .i64 0,.bool false,.slice none 0 0,.bool false,.slice none 0 0]) ?_ 1 _ rfl;refine zzi (cs:=#[.int .i64 0,.int .i64 0,.bool false,.slice none 0 0,.bool false,.slice none 0 0]) ?_ 0 _ rfl;(with_reducible repeat (first|apply zzf|apply zzg|apply zze));exact a4.out⟩;have b7:Aside0 (Below w.heap.size w ((((((E0.setCell ⟨a2,0,none⟩ (.int .i64 ((Qa a1 a0).f0))).setCell ⟨a2,1,none⟩ (.int .i64 ((Qa a1 a0).f1))).setCell ⟨a2,2,none⟩ (.bool ((Qa a1 a0).f2))).setCell ⟨a2,3,none⟩ (.slice a6 ((Qa a1 a0).f3).length a7)).setCell ⟨a2,4,none⟩ (.bool ((Qa a1 a0).f4))).setCell ⟨a2,5,none⟩ (.slice b1 ((Qa a1 a0).f5).length b2))):=⟨zzh3⟩
             (try clear a3)
             (try clear a4)
             (try clear HB);generalize ((((((E0.setCell ⟨a2,0,none⟩ (.int .i64 ((Qa a1 a0).f0))).setCell ⟨a2,1,none⟩ (.int .i64 ((Qa a1 a0).f1))).setCell ⟨a2,2,none⟩ (.bool ((Qa a1 a0).f2))).setCell ⟨a2,3,none⟩ (.slice a6 ((Qa a1 a0).f3).length a7)).setCell ⟨a2,4,none⟩ (.bool ((Qa a1 a0).f4))).setCell ⟨a2,5,none⟩ (.slice b1 ((Qa a1 a0).f5).length b2))=M0 at b5 b6 b7 ⊢;have a3:=b5;have a4:=b6;have HB:=b7;clear b5 b6 b7;have b5:=zzm (zzg a3.out);have b6:=zzm (zzg a4.out);have b7:=zzm (zzc HB.out);clear a3 a4 HB;have a3:=b5;have a4:=b6;have HB:=b7;clear b5 b6 b7;refine start_ (n:=19) (S:=fun w'=>w'.cell? ⟨a2,0,none⟩=some (.int .i64 ((Qa a1 a0).f0))∧w'.cell? ⟨a2,1,none⟩=some (.int .i64 ((Qa a1 a0).f1))∧w'.cell? ⟨a2,2,none⟩=some (.bool ((Qa a1 a0).f2))∧w'.cell? ⟨a2,3,none⟩=some (.slice a6 ((Qa a1 a0).f3).length a7)∧w'.cell? ⟨a2,4,none⟩=some (.bool ((Qa a1 a0).f4))∧w'.cell? ⟨a2,5,none⟩=some (.slice b1 ((Qa a1 a0).f5).length b2)) (ds:=[]) (zzB 19 0) (by kernel_rfl) rfl rfl ⟨(zzk a4.out 0).trans rfl,(zzk a4.out 1).trans rfl,(zzk a4.out 2).trans rfl,(zzk a4.out 3).trans rfl,(zzk a4.out 4).trans rfl,(zzk a4.out 5).trans rfl⟩ (fun d1=>?_);refine with_tabW Qc.tab11 Qc.bits11 (fun a8 h6=>?_);generalize M0.drew=O1 at a3 a4 HB d1 ⊢;refine zzT 0 59 19 1 a8 h6 d1 ?_
             refine one_ (i:=1) (N:=some 60) (zzB 19 3) rfl rfl (one_of a8.out (by kernel_rfl)) (by decide) (fun K hK=>?_);refine goes_ Try.func41 (by kernel_rfl) rfl #[.agg #[.int .i64 ((Qa a1 a0).f0),.int .i64 ((Qa a1 a0).f1),.bool ((Qa a1 a0).f2),.slice a6 ((Qa a1 a0).f3).length a7,.bool ((Qa a1 a0).f4),.slice b1 ((Qa a1 a0).f5).length b2]] (by rfl) rfl rfl zzM2 ?_;with_reducible refine (Q5.calls k3 ((Qa a1 a0).f0) ((Qa a1 a0).f1) ((Qa a1 a0).f2) _ _ ((Qa a1 a0).f3) ((Qa a1 a0).f4) _ _ ((Qa a1 a0).f5) true _ ?side1 ?side2 ?side3 ?side4 C4.out).mono ?_
             (case side1=>exact zzcb g1 HB)
             (case side2=>exact g2.out)
             (case side3=>exact zzcb g3 HB)
             (case side4=>exact g4.out);rintro e O2 ⟨rfl,hb⟩;refine ⟨_,rfl,?_⟩;have b5:=zzm (zzh (g:=b0) (o:=.cells #[.bool c9,.bool c0,.int .i64 b4,.int .i64 b8,.int .i64 b9,.slice (some a9) a1.length d0] 26 (0,0)) (zzE a3.out) hb);have b6:=zzm (zzh (g:=a2) (o:=.cells #[.int .i64 ((Qa a1 a0).f0),.int .i64 ((Qa a1 a0).f1),.bool ((Qa a1 a0).f2),.slice a6 ((Qa a1 a0).f3).length a7,.bool ((Qa a1 a0).f4),.slice b1 ((Qa a1 a0).f5).length b2] 75 (0,0)) (zzE a4.out) hb);have b7:=zzm (zzp zzh2 hb);clear a3 a4 HB;have a3:=b5;have a4:=b6;have HB:=b7;clear b5 b6 b7
             (try clear hb)
             (try clear hb2)
             (try clear hk)
             (try clear hi);refine hK.out _ _ ⟨(zzk a4.out 0).trans rfl,(zzk a4.out 1).trans rfl,(zzk a4.out 2).trans rfl,(zzk a4.out 3).trans rfl,(zzk a4.out 4).trans rfl,(zzk a4.out 5).trans rfl⟩ (fun d1=>?_);clear hK K;refine zzO 60 ?_
             refine zzP 2 61 19 7 a8 ?_
             refine zzP 3 62 19 15 a8 ?_
             refine zzP 4 63 19 31 a8 ?_
             refine zzP 5 64 19 63 a8 ?_
             refine zzP 6 65 19 127 a8 ?_
             refine zzU 7 66 19 255 a8 ?_
             refine zzU 8 67 19 511 a8 ?_
             refine zzU 9 68 19 1023 a8 ?_
             refine zzU 10 69 19 2047 a8 ?_
             refine zzU 11 70 19 4095 a8 ?_
             refine zzU 12 71 19 8191 a8 ?_
             refine zzU 13 72 19 16383 a8 ?_
             refine zzU 14 73 19 32767 a8 ?_
             refine zzU 15 74 19 65535 a8 ?_
             refine zzU 16 75 19 131071 a8 ?_
             refine zzP 17 76 19 262143 a8 ?_
             refine zzP 18 77 19 524287 a8 ?_
             refine done_ (done_of a8.out (by kernel_rfl)) ?_;try go_wp2
             go_roundg k3
             case measure=>have:=HJ1.out;have:=HJ22.out;have:=HK3.out;omega
             case rel=>exact ⟨(wrap64 (a0+1)),(by first|rfl|(simp;done)|(simp [*];done)),H',⟨by have:=HJ1.out;have:=HJ22.out;have:=HK3.out;omega⟩,⟨zzE a3.out⟩,⟨zzh3⟩⟩
           ·
            replace D5:=Bool.eq_false_iff.mpr D5;subst D5;replace H:=zzIf H;obtain rfl:=Option.some.inj H;have e9 : 0≤(a0:Int):=zzt;have g0:a0 < (a1.length:Int):=zzt;obtain ⟨a9,a6,a7,b1,b2,j5,d2,d3,d4,d5,d6,d7,d8,d9,e0,e1⟩:=Rk j4.out a0 e9 g0;cases j5;replace d2:=zzx HB.out d2;replace d3:=zzx HB.out d3;replace d4:=zzx HB.out d4;replace d5:=zzx HB.out d5;replace d6:=zzx HB.out d6;replace d7:=zzx HB.out d7;have g1:=zzm d9;have g2:=zzm d8;clear d9 d8;have g3:=zzm e1;have g4:=zzm e0;clear e1 e0;replace e9:=eq_true e9;replace g0:=eq_true g0;try go_wp2_with (first|((with_reducible refine gate_dst (N:=4) rfl ?_);(try (refine gate_guard (by rfl) ?_;dsimp only));refine box_event ?hg (N:=4) ?hd (cs:=#[.int .i64 0,.int .i64 0,.bool false,.slice none 0 0,.bool false,.slice none 0 0]) (t:=75) ?hr ?_;(case hd=>rfl);(case hg=>rfl);(case hr=>first|(go_simp;done)|(go_simp;rfl));intro a2 hg E1 hbox hb;have b5:=zzm (zzh (g:=b0) (o:=.cells #[.bool c9,.bool c0,.int .i64 b4,.int .i64 b8,.int .i64 b9,.slice (some a9) a1.length d0] 26 (0,0)) (zzE a3.out) hb);have b6:=zzm (zzp zzh2 hb);have b7:=zzm (hbox);have g5:=zzm ((by rw [hg];exact (zzo zzh2):w.heap.size≤a2));have h8:=zzm ((by rw [hg];exact (zzo zzh2):w.heap.size≤a2));have h9:=zzm ((by rw [hg];exact Nat.ne_of_lt (blk_lt (g:=b0) (o:=.cells #[.bool c9,.bool c0,.int .i64 b4,.int .i64 b8,.int .i64 b9,.slice (some a9) a1.length d0] 26 (0,0)) (zzE a3.out)):b0≠a2));have j3:=zzm ((by rw [hg];exact Nat.ne_of_gt (blk_lt (g:=b0) (o:=.cells #[.bool c9,.bool c0,.int .i64 b4,.int .i64 b8,.int .i64 b9,.slice (some a9) a1.length d0] 26 (0,0)) (zzE a3.out)):a2≠b0));clear a3 HB;have a3:=b5;have HB:=b6;have a4:=b7;have C0:=g5;have C1:=h8;have a5:=h9;have e2:=j3;clear b5 b6 b7 g5 h8 h9 j3 hb hbox hg;have N5:=e2.out;have N6:=a5.out;obtain ⟨K3,K4,K5,K6,K7,K8,K9,L0,L1,L2,L3,L4⟩:=zzc6 a4.out))
            have b5:Aside0 (((((((E1.setCell ⟨a2,0,none⟩ (.int .i64 ((Qa a1 a0).f0))).setCell ⟨a2,1,none⟩ (.int .i64 ((Qa a1 a0).f1))).setCell ⟨a2,2,none⟩ (.bool ((Qa a1 a0).f2))).setCell ⟨a2,3,none⟩ (.slice a6 ((Qa a1 a0).f3).length a7)).setCell ⟨a2,4,none⟩ (.bool ((Qa a1 a0).f4))).setCell ⟨a2,5,none⟩ (.slice b1 ((Qa a1 a0).f5).length b2)).heap[b0]? = some (.cells #[.bool c9,.bool c0,.int .i64 b4,.int .i64 b8,.int .i64 b9,.slice (some a9) a1.length d0] 26 (0,0))):=⟨by (with_reducible repeat (first|apply zzf|apply zzg|apply zze));refine zzj ?_ a5.out _;(with_reducible repeat (first|apply zzf|apply zzg|apply zze));refine zzj ?_ a5.out _;(with_reducible repeat (first|apply zzf|apply zzg|apply zze));refine zzj ?_ a5.out _;(with_reducible repeat (first|apply zzf|apply zzg|apply zze));refine zzj ?_ a5.out _;(with_reducible repeat (first|apply zzf|apply zzg|apply zze));refine zzj ?_ a5.out _;(with_reducible repeat (first|apply zzf|apply zzg|apply zze));refine zzj ?_ a5.out _;(with_reducible repeat (first|apply zzf|apply zzg|apply zze));exact a3.out⟩;have b6:Aside0 (((((((E1.setCell ⟨a2,0,none⟩ (.int .i64 ((Qa a1 a0).f0))).setCell ⟨a2,1,none⟩ (.int .i64 ((Qa a1 a0).f1))).setCell ⟨a2,2,none⟩ (.bool ((Qa a1 a0).f2))).setCell ⟨a2,3,none⟩ (.slice a6 ((Qa a1 a0).f3).length a7)).setCell ⟨a2,4,none⟩ (.bool ((Qa a1 a0).f4))).setCell ⟨a2,5,none⟩ (.slice b1 ((Qa a1 a0).f5).length b2)).heap[a2]? = some (.cells #[.int .i64 ((Qa a1 a0).f0),.int .i64 ((Qa a1 a0).f1),.bool ((Qa a1 a0).f2),.slice a6 ((Qa a1 a0).f3).length a7,.bool ((Qa a1 a0).f4),.slice b1 ((Qa a1 a0).f5).length b2] 75 (0,0))):=⟨by (with_reducible repeat (first|apply zzf|apply zzg|apply zze));refine zzi (cs:=#[.int .i64 ((Qa a1 a0).f0),.int .i64 ((Qa a1 a0).f1),.bool ((Qa a1 a0).f2),.slice a6 ((Qa a1 a0).f3).length a7,.bool ((Qa a1 a0).f4),.slice none 0 0]) ?_ 5 _ rfl;refine zzi (cs:=#[.int .i64 ((Qa a1 a0).f0),.int .i64 ((Qa a1 a0).f1),.bool ((Qa a1 a0).f2),.slice a6 ((Qa a1 a0).f3).length a7,.bool false,.slice none 0 0]) ?_ 4 _ rfl;refine zzi (cs:=#[.int .i64 ((Qa a1 a0).f0),.int .i64 ((Qa a1 a0).f1),.bool ((Qa a1 a0).f2),.slice none 0 0,.bool false,.slice none 0 0]) ?_ 3 _ rfl;refine zzi (cs:=#[.int .i64 ((Qa a1 a0).f0),.int .i64 ((Qa a1 a0).f1),.bool false,.slice none 0 0,.bool false,.slice none 0 0]) ?_ 2 _ rfl;refine zzi (cs:=#[.int .i64 ((Qa a1 a0).f0),.int .i64 0,.bool false,.slice none 0 0,.bool false,.slice none 0 0]) ?_ 1 _ rfl;refine zzi (cs:=#[.int .i64 0,.int .i64 0,.bool false,.slice none 0 0,.bool false,.slice none 0 0]) ?_ 0 _ rfl;(with_reducible repeat (first|apply zzf|apply zzg|apply zze));exact a4.out⟩;have b7:Aside0 (Below w.heap.size w ((((((E1.setCell ⟨a2,0,none⟩ (.int .i64 ((Qa a1 a0).f0))).setCell ⟨a2,1,none⟩ (.int .i64 ((Qa a1 a0).f1))).setCell ⟨a2,2,none⟩ (.bool ((Qa a1 a0).f2))).setCell ⟨a2,3,none⟩ (.slice a6 ((Qa a1 a0).f3).length a7)).setCell ⟨a2,4,none⟩ (.bool ((Qa a1 a0).f4))).setCell ⟨a2,5,none⟩ (.slice b1 ((Qa a1 a0).f5).length b2))):=⟨zzh3⟩
            (try clear a3)
            (try clear a4)
            (try clear HB);generalize ((((((E1.setCell ⟨a2,0,none⟩ (.int .i64 ((Qa a1 a0).f0))).setCell ⟨a2,1,none⟩ (.int .i64 ((Qa a1 a0).f1))).setCell ⟨a2,2,none⟩ (.bool ((Qa a1 a0).f2))).setCell ⟨a2,3,none⟩ (.slice a6 ((Qa a1 a0).f3).length a7)).setCell ⟨a2,4,none⟩ (.bool ((Qa a1 a0).f4))).setCell ⟨a2,5,none⟩ (.slice b1 ((Qa a1 a0).f5).length b2))=M1 at b5 b6 b7 ⊢;have a3:=b5;have a4:=b6;have HB:=b7;clear b5 b6 b7;have b5:=zzm (zzg a3.out);have b6:=zzm (zzg a4.out);have b7:=zzm (zzc HB.out);clear a3 a4 HB;have a3:=b5;have a4:=b6;have HB:=b7;clear b5 b6 b7;refine start_ (n:=19) (S:=fun w'=>w'.cell? ⟨a2,0,none⟩=some (.int .i64 ((Qa a1 a0).f0))∧w'.cell? ⟨a2,1,none⟩=some (.int .i64 ((Qa a1 a0).f1))∧w'.cell? ⟨a2,2,none⟩=some (.bool ((Qa a1 a0).f2))∧w'.cell? ⟨a2,3,none⟩=some (.slice a6 ((Qa a1 a0).f3).length a7)∧w'.cell? ⟨a2,4,none⟩=some (.bool ((Qa a1 a0).f4))∧w'.cell? ⟨a2,5,none⟩=some (.slice b1 ((Qa a1 a0).f5).length b2)) (ds:=[]) (zzB 19 0) (by kernel_rfl) rfl rfl ⟨(zzk a4.out 0).trans rfl,(zzk a4.out 1).trans rfl,(zzk a4.out 2).trans rfl,(zzk a4.out 3).trans rfl,(zzk a4.out 4).trans rfl,(zzk a4.out 5).trans rfl⟩ (fun d1=>?_);refine with_tabW Qc.tab11 Qc.bits11 (fun a8 h6=>?_);generalize M1.drew=O3 at a3 a4 HB d1 ⊢;refine zzT 0 59 19 1 a8 h6 d1 ?_
            refine one_ (i:=1) (N:=some 60) (zzB 19 3) rfl rfl (one_of a8.out (by kernel_rfl)) (by decide) (fun K hK=>?_);refine goes_ Try.func41 (by kernel_rfl) rfl #[.agg #[.int .i64 ((Qa a1 a0).f0),.int .i64 ((Qa a1 a0).f1),.bool ((Qa a1 a0).f2),.slice a6 ((Qa a1 a0).f3).length a7,.bool ((Qa a1 a0).f4),.slice b1 ((Qa a1 a0).f5).length b2]] (by rfl) rfl rfl zzM2 ?_;with_reducible refine (Q5.calls k3 ((Qa a1 a0).f0) ((Qa a1 a0).f1) ((Qa a1 a0).f2) _ _ ((Qa a1 a0).f3) ((Qa a1 a0).f4) _ _ ((Qa a1 a0).f5) false _ ?side1 ?side2 ?side3 ?side4 C4.out).mono ?_
            (case side1=>exact zzcb g1 HB)
            (case side2=>exact g2.out)
            (case side3=>exact zzcb g3 HB)
            (case side4=>exact g4.out);rintro e O4 ⟨rfl,hb⟩;refine ⟨_,rfl,?_⟩;have b5:=zzm (zzh (g:=b0) (o:=.cells #[.bool c9,.bool c0,.int .i64 b4,.int .i64 b8,.int .i64 b9,.slice (some a9) a1.length d0] 26 (0,0)) (zzE a3.out) hb);have b6:=zzm (zzh (g:=a2) (o:=.cells #[.int .i64 ((Qa a1 a0).f0),.int .i64 ((Qa a1 a0).f1),.bool ((Qa a1 a0).f2),.slice a6 ((Qa a1 a0).f3).length a7,.bool ((Qa a1 a0).f4),.slice b1 ((Qa a1 a0).f5).length b2] 75 (0,0)) (zzE a4.out) hb);have b7:=zzm (zzp zzh2 hb);clear a3 a4 HB;have a3:=b5;have a4:=b6;have HB:=b7;clear b5 b6 b7
            (try clear hb)
            (try clear hb2)
            (try clear hk)
            (try clear hi);refine hK.out _ _ ⟨(zzk a4.out 0).trans rfl,(zzk a4.out 1).trans rfl,(zzk a4.out 2).trans rfl,(zzk a4.out 3).trans rfl,(zzk a4.out 4).trans rfl,(zzk a4.out 5).trans rfl⟩ (fun d1=>?_);clear hK K;refine zzO 60 ?_
            refine zzP 2 61 19 7 a8 ?_
            refine zzP 3 62 19 15 a8 ?_
            refine zzU 4 63 19 31 a8 ?_
            refine zzU 5 64 19 63 a8 ?_
            refine zzU 6 65 19 127 a8 ?_
            refine zzU 7 66 19 255 a8 ?_
            refine zzU 8 67 19 511 a8 ?_
            refine zzU 9 68 19 1023 a8 ?_
            refine zzU 10 69 19 2047 a8 ?_
            refine zzU 11 70 19 4095 a8 ?_
            refine zzU 12 71 19 8191 a8 ?_
            refine zzU 13 72 19 16383 a8 ?_
            refine zzU 14 73 19 32767 a8 ?_
            refine zzU 15 74 19 65535 a8 ?_
            refine zzU 16 75 19 131071 a8 ?_
            refine zzU 17 76 19 262143 a8 ?_
            refine zzP 18 77 19 524287 a8 ?_
            refine done_ (done_of a8.out (by kernel_rfl)) ?_;try go_wp2
            go_ret;exact ⟨zzR,zzh3⟩
          ·
           rw [if_neg D4] at H;exact absurd H (by simp)
         ·
          rw [if_neg D3] at H;exact absurd H (by simp)
        ·
         rw [if_neg A9] at H;have G0:decide (a0 < (a1.length:Int))=false:=decide_eq_false A9;clear A9;obtain rfl:=Option.some.inj H;go_wp2;go_ret;exact ⟨zzR,zzh3⟩

set_option linter.unusedVariables false
set_option linter.unusedSimpArgs false
theorem quiet_drawn {P:Program} {f:FuncId} {args:Array Value} {w:World} {n:Nat} {v:Value} (h:Calls P f args (w.drewN n) fun e w'=>e = .returned v∧Drawn0 (w.drewN n) w'):Calls P f args (w.drewN n) fun e w''=>e = .returned v∧∃ m,w'' = w.drewN m:=Calls.quiet_of (h.mono fun _ _ h_=>⟨h_.1,h_.2.out⟩)
def prodAt (l:List S67) (i:Nat):Bool:=decide (((0≤(Qb l (i:Int)).f0∧(Qb l (i:Int)).f0≤254)∧(0≤(Qb l (i:Int)).f1∧(Qb l (i:Int)).f1≤99)∧(0≤(Qb l (i:Int)).f2∧(Qb l (i:Int)).f2≤99999))∧(0 < i→(Qb l ((i:Int) - 1)).f0 < (Qb l (i:Int)).f0))
def prodsAll (l:List S67):Bool:=decide (l.length≤20)&&decide (∀ i,i < l.length→prodAt l i=true)
theorem prodsAll_no {l:List S67} {k:Nat} (hk:k < l.length) (h:prodAt l k=false):prodsAll l=false:=by
 unfold prodsAll;rw [Bool.and_eq_false_iff];exact .inr (by rw [decide_eq_false_iff_not];intro h2;rw [h2 k hk] at h;cases h)
theorem prodsAll_long {l:List S67} (h : 20 < l.length):prodsAll l=false:=by
 unfold prodsAll;rw [decide_eq_false (by omega),Bool.false_and]
theorem within_eqT (a b c:Int) (r:Bool) (h:decide (b≤a∧a≤c)=r):Qm.f a b c=some r:=by
 subst h;unfold Qm.f;by_cases h:a ≥ b
 ·
  rw [if_pos h];have:(b≤a∧a≤c)↔a≤c:=⟨fun h=>h.2,fun h'=>⟨h,h'⟩⟩;simp [this]
 ·
  rw [if_neg h];have:¬ (b≤a∧a≤c):=fun h'=>h h'.1;simp [this]
theorem idValid_eqT (a:Int) (r:Bool) (h:decide (0≤a∧a≤254)=r):Qz.f a=some r:=by
 unfold Qz.f;rw [within_eqT a 0 254 r h];rfl
def Qo.f (k:Nat) (l0:List S67):Option Bool:=some (prodsAll l0)
set_option maxHeartbeats 8000000 in
theorem Qo.calls (k:Nat) (A0:Option Addr) (c0:Nat) (l0:List (S67)) (r:Bool) (w:World) (a4:Kd.C k67 w A0 l0.length l0) (b5:l0.length≤c0) (h:Qo.f k l0=some r) :
  Calls Try.prog 32 #[.slice A0 l0.length c0] w fun e w'=>e = .returned (.bool r)∧Below w.heap.size w w':=by
 obtain rfl:=Option.some.inj h;clear h;have hmax:l0.length≤9223372036854775807:=a4.2.1;have HR:=zzm a4;have HB:=zzm (Below.refl w.heap.size w);clear a4;by_cases hlen : 20 < l0.length
 ·
  have HF:=zzm (prodsAll_long hlen);have hlen2:decide (20 < (l0.length:Int))=true:=decide_eq_true (by omega);go_enter Try.func32,Try.ntmps32;go_wp2;go_ret;exact ⟨by rw [HF.out];rfl,HB.out⟩
 ·
  have hlen2:decide (20 < (l0.length:Int))=false:=decide_eq_false (by omega);have hlen3:decide (20 < l0.length)=false:=decide_eq_false hlen;go_enter Try.func32,Try.ntmps32;go_wp2;go_loopw [10,3,4] (fun i i3 i4 W=>∃ k:Nat,k≤l0.length∧i = .int .i64 k∧Aside0 (∀ j,j < k→prodAt l0 j=true)∧Aside0 (Below w.heap.size w W)) (fun i _ _ _=>l0.length - (intOf i).toNat)
  case atStart=>exact ⟨0,Nat.zero_le _,rfl,⟨fun j hj=>by omega⟩,HB⟩
  case round=>
   clear HB;obtain ⟨k,hk,rfl,HN,HB⟩:=hrel;by_cases hlt:k < l0.length
   ·
    obtain ⟨ad,he,a0,a1,a2⟩:=Q2 HR.out (k:Int) (by omega) (by omega);subst he;replace a0:=zzx HB.out a0;replace a1:=zzx HB.out a1;replace a2:=zzx HB.out a2;simp only [Int.toNat_natCast] at a0 a1 a2;have HP:Aside0 (prodAt l0 k=decide (((0≤(Qb l0 (k:Int)).f0∧(Qb l0 (k:Int)).f0≤254)∧(0≤(Qb l0 (k:Int)).f1∧(Qb l0 (k:Int)).f1≤99)∧(0≤(Qb l0 (k:Int)).f2∧(Qb l0 (k:Int)).f2≤99999))∧(0 < k→(Qb l0 ((k:Int) - 1)).f0 < (Qb l0 (k:Int)).f0))):=⟨rfl⟩;obtain ⟨p,hp⟩:∃ p,p=Qb l0 (k:Int):=⟨_,rfl⟩;simp only [← hp] at a0 a1 a2;rw [← hp] at HP;clear hp;obtain ⟨x,y,z⟩:=p;have HNO:=zzm (fun h=>prodsAll_no (l:=l0) hlt h);go_wp2_with ((with_reducible refine gate_dst (N:=4) rfl ?_);refine box_event ?hg (N:=4) ?hd (cs:=#[.int .i64 0,.int .i64 0,.int .i64 0]) (t:=67) ?hr ?_;(case hd=>rfl);(case hg=>rfl);(case hr=>first|(go_simp;done)|(go_simp;rfl));intro gb hg a9 hbox hb;have HB13:=zzm (zzp HB.out hb);have BK:=zzm hbox;have GE:=zzm (show w.heap.size≤gb by rw [hg];exact HB.out.size);clear hb hbox hg;have a6:=(zzk BK.out 0).trans rfl;have a7:=(zzk BK.out 1).trans rfl;have a8:=(zzk BK.out 2).trans rfl;have hf0:=zzl BK.out 0;have hf1:=zzl BK.out 1;have hf2:=zzl BK.out 2);have a3:=zzm (blk_set (blk_set (blk_set BK.out 0 (.int .i64 x)) 1 (.int .i64 y)) 2 (.int .i64 z));have HB2:=zzm (zzd (zzd (zzd HB13.out GE.out (j:=0) (v:=.int .i64 x)) GE.out (j:=1) (v:=.int .i64 y)) GE.out (j:=2) (v:=.int .i64 z));clear a6 a7 a8 hf0 hf1 hf2 BK HB13 a0 a1 a2 HB;generalize ((a9.setCell ⟨gb,0,none⟩ (.int .i64 x)).setCell ⟨gb,1,none⟩ (.int .i64 y)).setCell ⟨gb,2,none⟩ (.int .i64 z)=a5 at a3 HB2 ⊢;have d0:a5.cell? ⟨gb,0,none⟩=some (.int .i64 x):=(zzk a3.out 0).trans rfl;have d1:a5.cell? ⟨gb,1,none⟩=some (.int .i64 y):=(zzk a3.out 1).trans rfl;have d2:a5.cell? ⟨gb,2,none⟩=some (.int .i64 z):=(zzk a3.out 2).trans rfl;by_cases k0 : 0≤x∧x≤254
    ·
     have e0:=idValid_eqT x true (decide_eq_true k0);by_cases k1 : 0≤y∧y≤99
     ·
      have e1:=within_eqT y 0 99 true (decide_eq_true k1);by_cases k2 : 0≤z∧z≤99999
      ·
       have e2:=within_eqT z 0 99999 true (decide_eq_true k2);by_cases h0 : 0 < k
       ·
        obtain ⟨ad',he,hy0,_,_⟩:=Q2 HR.out ((k:Int) - 1) (by omega) (by omega);injection he with he;subst he;replace hy0:=(HB2.out.cell (zzn w _ hy0)).trans hy0;rw [show ((k:Int) - 1).toNat=k - 1 by omega] at hy0;generalize (Qb l0 ((k:Int) - 1)).f0=q at hy0 HP;have hk0:decide (0 < (k:Int))=true:=decide_eq_true (by omega);have hk1:decide (0 < k)=true:=decide_eq_true h0;have b0:IntKind.i64.wrap ((k:Int) - 1)=(k:Int) - 1:=IntWalk.i64_in _ (by omega);have b1:((k:Int) - 1).toNat=k - 1:=by omega
        have b2:(0≤(k:Int) - 1)=True:=eq_true (by omega);have b3:(1≤(k:Int))=True:=eq_true (by omega);have b4:((k:Int) - 1 < (l0.length:Int))=True:=eq_true (by omega);by_cases hge:x≤q
        ·
         have hge2:decide (x≤q)=true:=decide_eq_true hge;have HF:=zzm (HNO.out (by rw [HP.out];exact decide_eq_false (fun h=>by have:=h.2 h0;omega)));clear HNO HP k0 k1 k2;go_quiet ((first|(go_at_call 39;with_reducible exact quiet_drawn (Qz.calls x true _ e0))|(go_at_call 40;with_reducible exact quiet_drawn (Qm.calls y 0 99 true _ e1))|(go_at_call 40;with_reducible exact quiet_drawn (Qm.calls z 0 99999 true _ e2))))
         go_wp2;go_ret;exact ⟨by rw [HF.out];rfl,zzb HB2.out _⟩
        ·
         have hge2:decide (x≤q)=false:=decide_eq_false hge;have HY:=zzm (show prodAt l0 k=true by rw [HP.out];exact decide_eq_true ⟨⟨k0,k1,k2⟩,fun _=>by omega⟩);clear HNO HP k0 k1 k2;go_quiet ((first|(go_at_call 39;with_reducible exact quiet_drawn (Qz.calls x true _ e0))|(go_at_call 40;with_reducible exact quiet_drawn (Qm.calls y 0 99 true _ e1))|(go_at_call 40;with_reducible exact quiet_drawn (Qm.calls z 0 99999 true _ e2))))
         clear b0 b1 b2 b4 b3;go_wp2;go_roundw
         case rel=>exact ⟨k+1,by omega,by go_num,⟨fun j hj=>by by_cases e:j=k;(subst e;exact HY.out);exact HN.out j (by omega)⟩,⟨zzb HB2.out _⟩⟩
         case measure=>simp [intOf];omega
       ·
        have hk0:decide (0 < (k:Int))=false:=decide_eq_false (by omega);have hk1:decide (0 < k)=false:=decide_eq_false h0;have HY:=zzm (show prodAt l0 k=true by rw [HP.out];exact decide_eq_true ⟨⟨k0,k1,k2⟩,fun h=>absurd h h0⟩);clear HNO HP k0 k1 k2;go_quiet ((first|(go_at_call 39;with_reducible exact quiet_drawn (Qz.calls x true _ e0))|(go_at_call 40;with_reducible exact quiet_drawn (Qm.calls y 0 99 true _ e1))|(go_at_call 40;with_reducible exact quiet_drawn (Qm.calls z 0 99999 true _ e2))))
        go_wp2;go_roundw
        case rel=>exact ⟨k+1,by omega,by go_num,⟨fun j hj=>by by_cases e:j=k;(subst e;exact HY.out);exact HN.out j (by omega)⟩,⟨zzb HB2.out _⟩⟩
        case measure=>simp [intOf];omega
      ·
       have e2:=within_eqT z 0 99999 false (decide_eq_false k2);have HF:=zzm (HNO.out (by rw [HP.out];exact decide_eq_false (fun h=>k2 h.1.2.2)));clear HNO HP k0 k1 k2;go_quiet ((first|(go_at_call 39;with_reducible exact quiet_drawn (Qz.calls x true _ e0))|(go_at_call 40;with_reducible exact quiet_drawn (Qm.calls y 0 99 true _ e1))|(go_at_call 40;with_reducible exact quiet_drawn (Qm.calls z 0 99999 false _ e2))))
       go_wp2;go_ret;exact ⟨by rw [HF.out];rfl,zzb HB2.out _⟩
     ·
      have e1:=within_eqT y 0 99 false (decide_eq_false k1);have HF:=zzm (HNO.out (by rw [HP.out];exact decide_eq_false (fun h=>k1 h.1.2.1)));clear HNO HP k0 k1;go_quiet ((first|(go_at_call 39;with_reducible exact quiet_drawn (Qz.calls x true _ e0))|(go_at_call 40;with_reducible exact quiet_drawn (Qm.calls y 0 99 false _ e1))))
      go_wp2;go_ret;exact ⟨by rw [HF.out];rfl,zzb HB2.out _⟩
    ·
     have e0:=idValid_eqT x false (decide_eq_false k0);have HF:=zzm (HNO.out (by rw [HP.out];exact decide_eq_false (fun h=>k0 h.1.1)));clear HNO HP k0;go_quiet ((go_at_call 39;with_reducible exact quiet_drawn (Qz.calls x false _ e0)))
     go_wp2;go_ret;exact ⟨by rw [HF.out];rfl,zzb HB2.out _⟩
   ·
    have hk2:k=l0.length:=by omega
    have HF:=zzm (show prodsAll l0=true by unfold prodsAll;rw [decide_eq_true (show l0.length≤20 by omega),Bool.true_and];exact decide_eq_true (fun i hi=>HN.out i (by omega)));go_wp2;go_ret;exact ⟨by rw [HF.out];rfl,HB.out⟩

set_option linter.unusedVariables false
set_option linter.unusedSimpArgs false
structure SlotV where
 u:Bool
 a:Int
 b:Int
 c:Int
def slot0:SlotV:=⟨false,0,0,0⟩
def HasSlots (w:World) (g:Nat) (f:Nat→SlotV):Prop:=∃ cells:Array Value,w.heap[g]? = some (.cells cells 90 (0,0))∧cells.size=1020 ∧
 ∀ i,i < 255→cells[i * 4]? = some (.bool (f i).u)∧cells[i * 4+1]? = some (.int .i64 (f i).a)∧cells[i * 4+2]? = some (.int .i64 (f i).b)∧cells[i * 4+3]? = some (.int .i64 (f i).c)
theorem HasSlots.lt {w:World} {g:Nat} {f:Nat→SlotV} (h:HasSlots w g f):g < w.heap.size:=by
 obtain ⟨cells,h1,_⟩:=h;exact blk_lt h1
theorem HasSlots.below {w w1:World} {g:Nat} {f:Nat→SlotV} (h:HasSlots w g f) (hb:Below w.heap.size w w1):HasSlots w1 g f:=by
 obtain ⟨cells,h1,h2⟩:=h;exact ⟨cells,zzh h1 hb,h2⟩
theorem HasSlots.at_ {w:World} {g:Nat} {f:Nat→SlotV} (h:HasSlots w g f) (i:Nat) (hi:i < 255) :
  w.cell? ⟨g,i * 4,none⟩=some (.bool (f i).u)∧w.cell? ⟨g,i * 4+1,none⟩=some (.int .i64 (f i).a)∧w.cell? ⟨g,i * 4+2,none⟩=some (.int .i64 (f i).b)∧w.cell? ⟨g,i * 4+3,none⟩=some (.int .i64 (f i).c):=by
 obtain ⟨cells,h1,_,h3⟩:=h;obtain ⟨k0,k1,k2,k3⟩:=h3 i hi;exact ⟨(zzk h1 _).trans k0,(zzk h1 _).trans k1,(zzk h1 _).trans k2,(zzk h1 _).trans k3⟩
theorem HasSlots.free {w:World} {g:Nat} {f:Nat→SlotV} (h:HasSlots w g f) (j:Nat):w.frozen? ⟨g,j,none⟩=false:=by
 obtain ⟨cells,h1,_⟩:=h;exact zzl h1 j
theorem HasSlots.put {w:World} {g:Nat} {f:Nat→SlotV} (h:HasSlots w g f) (i:Nat) (hi:i < 255) (u:Bool) (a b c:Int) :
  HasSlots ((((w.setCell ⟨g,i * 4,none⟩ (.bool u)).setCell ⟨g,i * 4+1,none⟩ (.int .i64 a)).setCell ⟨g,i * 4+2,none⟩ (.int .i64 b)).setCell ⟨g,i * 4+3,none⟩ (.int .i64 c)) g (fun k=>if k=i then ⟨u,a,b,c⟩ else f k):=by
 obtain ⟨cells,h1,h2,h3⟩:=h;refine ⟨(((cells.setIfInBounds (i * 4) (.bool u)).setIfInBounds (i * 4+1) (.int .i64 a)).setIfInBounds (i * 4+2) (.int .i64 b)).setIfInBounds (i * 4+3) (.int .i64 c),blk_set (blk_set (blk_set (blk_set h1 _ _) _ _) _ _) _ _,by simp [h2],?_⟩;intro j hj;by_cases hji:j=i
 ·
  subst hji;simp only [if_true];refine ⟨?_,?_,?_,?_⟩
  ·
   rw [Array.getElem?_setIfInBounds_ne (by omega),Array.getElem?_setIfInBounds_ne (by omega),Array.getElem?_setIfInBounds_ne (by omega),Array.getElem?_setIfInBounds_self_of_lt (by omega)]
  ·
   rw [Array.getElem?_setIfInBounds_ne (by omega),Array.getElem?_setIfInBounds_ne (by omega),Array.getElem?_setIfInBounds_self_of_lt (by simp;omega)]
  ·
   rw [Array.getElem?_setIfInBounds_ne (by omega),Array.getElem?_setIfInBounds_self_of_lt (by simp;omega)]
  ·
   rw [Array.getElem?_setIfInBounds_self_of_lt (by simp;omega)]
 ·
  simp only [if_neg hji];obtain ⟨k0,k1,k2,k3⟩:=h3 j hj;refine ⟨?_,?_,?_,?_⟩
  ·
   rw [Array.getElem?_setIfInBounds_ne (by omega),Array.getElem?_setIfInBounds_ne (by omega),Array.getElem?_setIfInBounds_ne (by omega),Array.getElem?_setIfInBounds_ne (by omega)];exact k0
  ·
   rw [Array.getElem?_setIfInBounds_ne (by omega),Array.getElem?_setIfInBounds_ne (by omega),Array.getElem?_setIfInBounds_ne (by omega),Array.getElem?_setIfInBounds_ne (by omega)];exact k1
  ·
   rw [Array.getElem?_setIfInBounds_ne (by omega),Array.getElem?_setIfInBounds_ne (by omega),Array.getElem?_setIfInBounds_ne (by omega),Array.getElem?_setIfInBounds_ne (by omega)];exact k2
  ·
   rw [Array.getElem?_setIfInBounds_ne (by omega),Array.getElem?_setIfInBounds_ne (by omega),Array.getElem?_setIfInBounds_ne (by omega),Array.getElem?_setIfInBounds_ne (by omega)];exact k3
def zeroSlots:Array Value:=(List.flatten (List.replicate 255 [Value.bool false,.int .i64 0,.int .i64 0,.int .i64 0])).toArray
theorem flat_at {x0 x1 x2 x3:Value} : ∀ (n i:Nat),i < n→(List.flatten (List.replicate n [x0,x1,x2,x3]))[i * 4]? = some x0∧(List.flatten (List.replicate n [x0,x1,x2,x3]))[i * 4+1]? = some x1∧(List.flatten (List.replicate n [x0,x1,x2,x3]))[i * 4+2]? = some x2∧(List.flatten (List.replicate n [x0,x1,x2,x3]))[i * 4+3]? = some x3
 | 0,i,h=>by omega
 | n+1,0,h=>by
  rw [List.replicate_succ,List.flatten_cons]
  exact ⟨rfl,rfl,rfl,rfl⟩
 | n+1,i+1,h=>by
  obtain ⟨k0,k1,k2,k3⟩:=flat_at (x0:=x0) (x1:=x1) (x2:=x2) (x3:=x3) n i (by omega)
  rw [List.replicate_succ,List.flatten_cons]
  refine ⟨?_,?_,?_,?_⟩
  ·
   rw [List.getElem?_append_right (by simp;omega),show (i+1) * 4 - [x0,x1,x2,x3].length=i * 4 by simp;omega];exact k0
  ·
   rw [List.getElem?_append_right (by simp;omega),show (i+1) * 4+1 - [x0,x1,x2,x3].length=i * 4+1 by simp;omega];exact k1
  ·
   rw [List.getElem?_append_right (by simp;omega),show (i+1) * 4+2 - [x0,x1,x2,x3].length=i * 4+2 by simp;omega];exact k2
  ·
   rw [List.getElem?_append_right (by simp;omega),show (i+1) * 4+3 - [x0,x1,x2,x3].length=i * 4+3 by simp;omega];exact k3
theorem flat_len {x0 x1 x2 x3:Value} : ∀ n:Nat,(List.flatten (List.replicate n [x0,x1,x2,x3])).length=n * 4
 | 0=>rfl
 | n+1=>by rw [List.replicate_succ,List.flatten_cons,List.length_append,flat_len n];simp;omega
theorem HasSlots.zero {w:World} {g:Nat} (h:w.heap[g]? = some (.cells zeroSlots 90 (0,0))):HasSlots w g (fun _=>slot0):=by
 refine ⟨zeroSlots,h,by unfold zeroSlots;rw [List.size_toArray,flat_len],fun i hi=>?_⟩;obtain ⟨k0,k1,k2,k3⟩:=flat_at (x0:=Value.bool false) (x1:=.int .i64 0) (x2:=.int .i64 0) (x3:=.int .i64 0) 255 i hi;unfold zeroSlots;simp only [List.getElem?_toArray];exact ⟨k0,k1,k2,k3⟩
def slotPut (f:Nat→SlotV) (p:S67):Nat→SlotV:=fun k=>if k=p.f0.toNat then ⟨true,p.f0,p.f1,p.f2⟩ else f k
def slotFn (l:List S67):Nat→SlotV:=l.foldl slotPut (fun _=>slot0)
theorem slotFn_snoc (l:List S67) (p:S67):slotFn (l ++ [p])=slotPut (slotFn l) p:=by simp [slotFn]
theorem slotFn_take (l:List S67) (k:Nat) (h:k < l.length):slotFn (l.take (k+1))=slotPut (slotFn (l.take k)) (Qb l (k:Int)):=by
 rw [List.take_succ_eq_append_getElem h,slotFn_snoc];congr 1;simp [Qb,List.getD_eq_getElem?_getD,List.getElem?_eq_getElem h]
theorem infoAT:(Try.prog.info? 90).map (fun i=>(i.zero,i.size,i.bytes))=some (some (.agg zeroSlots),1020,8160):=by kernel_rfl
theorem alloc_slots {o:Oper} (ρ:Operand→Value) (ho:o.op = .alloc 90) (W:World):(execOp ρ o).run Try.prog W = .ok (.value (.pointer (some ⟨W.heap.size,0,none⟩))) (W.alloc (.cells zeroSlots 90 (0,0))):=by
 obtain ⟨i0,hi,hz0,hz1,hz2⟩:=info_parts infoAT;have hz:(zeroValue 90).run Try.prog W = .ok (.agg zeroSlots) W:=by simp [zeroValue,typeInfo,hi,hz0,go_sem]
 obtain ⟨op,dst,guard,pos,x1,x2⟩:=o;subst ho;simp [execOp,Instr.alloc,hz,newVar,newRow,go_sem]
theorem HasSlots.far {w:World} {g:Nat} {f:Nat→SlotV} (h:HasSlots w g f) {p:Addr} (hp:g≠p.block) (v:Value):HasSlots (w.setCell p v) g f:=by
 obtain ⟨cells,h1,h2⟩:=h;exact ⟨cells,zzj h1 hp v,h2⟩
theorem HasSlots.drew {w:World} {g:Nat} {f:Nat→SlotV} (h:HasSlots w g f):HasSlots w.drew g f:=h
set_option maxHeartbeats 8000000 in
theorem impl_slotsOf.calls (A0:Option Addr) (c0:Nat) (l0:List S67) (w:World) (a6:Kd.C k67 w A0 l0.length l0) (hid:∀ j:Nat,j < l0.length→0≤(Qb l0 (j:Int)).f0∧(Qb l0 (j:Int)).f0 < 255) :
  Calls Try.prog 33 #[.slice A0 l0.length c0] w fun e w'=>∃ g:Nat,e = .returned (.pointer (some ⟨g,0,none⟩))∧w.heap.size≤g∧HasSlots w' g (slotFn l0)∧Below w.heap.size w w':=by
 have hmax:l0.length≤9223372036854775807:=a6.2.1;have HR:=zzm a6;have HI:=zzm hid;clear a6 hid;go_enter Try.func33,Try.ntmps33;go_wp2_with ((with_reducible refine gate_dst (N:=6) rfl ?_);refine box_event ?hg (N:=6) ?hd (cs:=zeroSlots) (t:=90) ?hr ?_;(case hd=>rfl);(case hg=>rfl);(case hr=>exact alloc_slots _ rfl _);intro g hg w1 hbox hb;have HS0:=zzm (HasSlots.zero hbox);have HB0:=zzm hb;have HG:=zzm (show w.heap.size≤g from Nat.le_of_eq hg.symm);clear hb hbox hg);go_loopw [9,5] (fun i i5 W=>∃ k:Nat,k≤l0.length∧i = .int .i64 k∧Aside0 (HasSlots W g (slotFn (l0.take k)))∧Aside0 (Below w.heap.size w W)) (fun i _ _=>l0.length - (intOf i).toNat)
 case atStart=>exact ⟨0,Nat.zero_le _,rfl,HS0,HB0⟩
 case round=>
  obtain ⟨k,hk,rfl,HS,HB⟩:=hrel;by_cases hlt:k < l0.length
  ·
   obtain ⟨ad,he,a1,a2,a3⟩:=Q2 HR.out (k:Int) (by omega) (by omega);subst he;replace a1:=zzx HB.out a1;replace a2:=zzx HB.out a2;replace a3:=zzx HB.out a3;simp only [Int.toNat_natCast] at a1 a2 a3;have HN:=zzm (slotFn_take l0 k hlt);obtain ⟨b0,b1⟩:=HI.out k hlt;obtain ⟨p,hp⟩:∃ p,p=Qb l0 (k:Int):=⟨_,rfl⟩;simp only [← hp] at a1 a2 a3 b0 b1;rw [← hp] at HN;clear hp;obtain ⟨m,hm⟩:∃ m:Nat,p.f0=(m:Int):=⟨p.f0.toNat,by omega⟩;have hm2:m < 255:=by omega
   go_wp2_with ((with_reducible refine gate_dst (N:=5) rfl ?_);refine box_event ?hg (N:=5) ?hd (cs:=#[.int .i64 0,.int .i64 0,.int .i64 0]) (t:=67) ?hr ?_;(case hd=>rfl);(case hg=>rfl);(case hr=>first|(go_simp;done)|(go_simp;rfl));intro gb hg a4 hbox hb;have HS13:=zzm (HS.out.below hb);have HB13:=zzm (zzp HB.out hb);have BK:=zzm hbox;have GE:=zzm (show w.heap.size≤gb by rw [hg];exact HB.out.size);have NE:=zzm (show g≠gb by have:=HS.out.lt;omega);clear hb hbox hg;have a7:a4.cell? ⟨gb,0,none⟩=some (.int .i64 0):=(zzk BK.out 0).trans rfl;have a8:a4.cell? ⟨gb,1,none⟩=some (.int .i64 0):=(zzk BK.out 1).trans rfl;have a9:a4.cell? ⟨gb,2,none⟩=some (.int .i64 0):=(zzk BK.out 2).trans rfl;have hf0:=zzl BK.out 0;have hf1:=zzl BK.out 1;have hf2:=zzl BK.out 2);have a5:=zzm (blk_set (blk_set (blk_set BK.out 0 (.int .i64 (m:Int))) 1 (.int .i64 p.f1)) 2 (.int .i64 p.f2));have HS2:=zzm (((HS13.out.far (p:=⟨gb,0,none⟩) NE.out (.int .i64 (m:Int))).far (p:=⟨gb,1,none⟩) NE.out (.int .i64 p.f1)).far (p:=⟨gb,2,none⟩) NE.out (.int .i64 p.f2));have HB2:=zzm (zzd (zzd (zzd HB13.out GE.out (j:=0) (v:=.int .i64 (m:Int))) GE.out (j:=1) (v:=.int .i64 p.f1)) GE.out (j:=2) (v:=.int .i64 p.f2));clear a7 a8 a9 hf0 hf1 hf2 BK HS13 HB13 a1 a2 a3;generalize ((a4.setCell ⟨gb,0,none⟩ (.int .i64 (m:Int))).setCell ⟨gb,1,none⟩ (.int .i64 p.f1)).setCell ⟨gb,2,none⟩ (.int .i64 p.f2)=a0 at a5 HS2 HB2 ⊢;have b2:a0.cell? ⟨gb,0,none⟩=some (.int .i64 (m:Int)):=(zzk a5.out 0).trans rfl;have b3:a0.cell? ⟨gb,1,none⟩=some (.int .i64 p.f1):=(zzk a5.out 1).trans rfl;have b4:a0.cell? ⟨gb,2,none⟩=some (.int .i64 p.f2):=(zzk a5.out 2).trans rfl;have fz:∀ j,a0.frozen? ⟨g,j,none⟩=false:=HS2.out.free;have fz0:=fz (m * 4);have fz1:=fz (m * 4+1);have fz2:=fz (m * 4+2);have fz3:=fz (m * 4+3);clear fz;obtain ⟨vz0,hz0⟩:∃ v,a0.cell? ⟨g,m * 4,none⟩=some v:=⟨_,(HS2.out.at_ m hm2).1⟩;obtain ⟨vz1,hz1⟩:∃ v,a0.cell? ⟨g,m * 4+1,none⟩=some v:=⟨_,(HS2.out.at_ m hm2).2.1⟩;obtain ⟨vz2,hz2⟩:∃ v,a0.cell? ⟨g,m * 4+2,none⟩=some v:=⟨_,(HS2.out.at_ m hm2).2.2.1⟩;obtain ⟨vz3,hz3⟩:∃ v,a0.cell? ⟨g,m * 4+3,none⟩=some v:=⟨_,(HS2.out.at_ m hm2).2.2.2⟩;have hmi:(m:Int) < 255:=by omega
   have hmi0 : 0≤(m:Int):=by omega
   go_region;have HSF:=HasSlots.drew (HS2.out.put m hm2 true (m:Int) p.f1 p.f2);have HBF:=zzc (zzd (zzd (zzd (zzd HB2.out HG.out (j:=m * 4) (v:=.bool true)) HG.out (j:=m * 4+1) (v:=.int .i64 (m:Int))) HG.out (j:=m * 4+2) (v:=.int .i64 p.f1)) HG.out (j:=m * 4+3) (v:=.int .i64 p.f2));have heq:slotFn (l0.take (k+1))=fun k'=>if k' = m then ⟨true,(m:Int),p.f1,p.f2⟩ else slotFn (l0.take k) k':=by
    rw [HN.out];unfold slotPut;rw [hm,Int.toNat_natCast]
   rw [← heq] at HSF;have HSF':=zzm HSF;have HBF':=zzm HBF;clear HSF HBF heq hz0 hz1 hz2 hz3 fz0 fz1 fz2 fz3 b2 b3 b4 hm;go_wp2;go_roundw
   case rel=>exact ⟨k+1,by omega,by go_num,HSF',HBF'⟩
   case measure=>simp [intOf];omega
  ·
   have hk2:k=l0.length:=by omega
   subst hk2;rw [List.take_length] at HS;go_wp2;go_ret;exact ⟨g,rfl,HG.out,HS.out,HB.out⟩
def seqCode (s n:Int):Int:=if s < n then 1 else if s > n then 2 else 0
def codeAt (f:Nat→SlotV) (p e s:Int):Int:=
 if p=255 then 4 else if (f p.toNat).u=true then (if (f p.toNat).b > e then 3 else if (f p.toNat).b=e then seqCode s (f p.toNat).c else seqCode s 0) else seqCode s 0
set_option maxHeartbeats 8000000 in
theorem impl_slots_check.calls (g:Nat) (f:Nat→SlotV) (b0 b1:Bool) (b2 b3 b4:Int) (v5:Value) (a8:v5.oneCell' = true) (w:World) (hs:HasSlots w g f) (hb0 : 0≤b2) (hb1:b2≤255) :
  Calls Try.prog 34 #[.pointer (some ⟨g,0,none⟩),.agg #[.bool b0,.bool b1,.int .i64 b2,.int .i64 b3,.int .i64 b4,v5]] w fun e w'=>e = .returned (.int .i64 (codeAt f b2 b3 b4))∧Below w.heap.size w w':=by
 have HS:=zzm hs;have HB:=zzm (Below.refl w.heap.size w);obtain ⟨m,rfl⟩:∃ m:Nat,b2=(m:Int):=⟨b2.toNat,by omega⟩;clear hs hb0;by_cases h255:m=255
 ·
  subst h255;have hcode:codeAt f ((255:Nat):Int) b3 b4=4:=rfl;have HC:=zzm hcode;clear hcode;go_enter Try.func34,Try.ntmps34;go_wp2_with ((with_reducible refine gate_dst (N:=3) rfl ?_);refine box_event ?hg (N:=3) ?hd (cs:=#[.bool b0,.bool b1,.int .i64 ((255:Nat):Int),.int .i64 b3,.int .i64 b4,v5]) (t:=26) ?hr ?_;(case hd=>rfl);(case hg=>rfl);(case hr=>first|(go_simp;done)|(go_simp;rfl));intro gb hg w8 hbox hb;have HB1:=zzm (zzp HB.out hb);have a2:w8.cell? ⟨gb,2,none⟩=some (.int .i64 255):=(zzk hbox 2).trans rfl;have hf2:=zzl hbox 2;clear hb hbox hg);go_ret;exact ⟨by rw [HC.out];rfl,HB1.out⟩
 ·
  have hm2:m < 255:=by omega
  have hne:((m:Int)==255)=false:=by simp;omega
  go_enter Try.func34,Try.ntmps34;go_wp2_with ((with_reducible refine gate_dst (N:=3) rfl ?_);refine box_event ?hg (N:=3) ?hd (cs:=#[.bool b0,.bool b1,.int .i64 (m:Int),.int .i64 b3,.int .i64 b4,v5]) (t:=26) ?hr ?_;(case hd=>rfl);(case hg=>rfl);(case hr=>first|(go_simp;done)|(go_simp;rfl));intro gb hg w8 hbox hb;have HB1:=zzm (zzp HB.out hb);have HS1:=zzm (HS.out.below hb);have BK:=zzm hbox;have a2:w8.cell? ⟨gb,2,none⟩=some (.int .i64 (m:Int)):=(zzk hbox 2).trans rfl;have hf2:=zzl hbox 2;clear hb hbox hg);obtain ⟨a4,a5,a6,a7⟩:=HS1.out.at_ m hm2;have hg8:=HS1.out.lt;have hgb:=blk_lt BK.out;have hmi:(m:Int) < 255:=by omega
  have hmi0 : 0≤(m:Int):=by omega
  go_region;have HB9:=zzm (zzc (zza HB1.out (.cells #[.bool (f m).u,.int .i64 (f m).a,.int .i64 (f m).b,.int .i64 (f m).c] 69)));have a1:=zzm (zzg (blk_new w8 (.cells #[.bool (f m).u,.int .i64 (f m).a,.int .i64 (f m).b,.int .i64 (f m).c] 69)));have BG9:=zzm (zzg (zzh BK.out (zza (Below.refl _ _) (.cells #[.bool (f m).u,.int .i64 (f m).a,.int .i64 (f m).b,.int .i64 (f m).c] 69))));clear a4 a5 a6 a7 a2 hf2 hg8 hgb HB1 HS1 BK;generalize (w8.alloc (.cells #[.bool (f m).u,.int .i64 (f m).a,.int .i64 (f m).b,.int .i64 (f m).c] 69)).drew=w9 at HB9 a1 BG9 ⊢;generalize w8.heap.size=gs at a1 ⊢;have HC:∀ r,codeAt f (m:Int) b3 b4=r→Aside0 (codeAt f (m:Int) b3 b4=r):=fun r h=>⟨h⟩;have HF:codeAt f (m:Int) b3 b4=if (f m).u=true then (if (f m).b > b3 then 3 else if (f m).b=b3 then seqCode b4 (f m).c else seqCode b4 0) else seqCode b4 0:=by
   unfold codeAt;rw [if_neg (by omega),Int.toNat_natCast]
  clear HC;obtain ⟨r,a3⟩:∃ r,r=codeAt f (m:Int) b3 b4:=⟨_,rfl⟩;rw [← a3] at HF;have a0:=zzm a3;clear a3;obtain ⟨x,hx⟩:∃ x,x=f m:=⟨_,rfl⟩;rw [← hx] at a1 HF;try rw [← hx]
  clear hx;obtain ⟨u,a,b,c⟩:=x;have HF':=zzm HF;clear HF;have d0:w9.cell? ⟨gs,0,none⟩=some (.bool u):=(zzk a1.out 0).trans rfl;have d2:w9.cell? ⟨gs,2,none⟩=some (.int .i64 b):=(zzk a1.out 2).trans rfl;have d3:w9.cell? ⟨gs,3,none⟩=some (.int .i64 c):=(zzk a1.out 3).trans rfl;have e3:w9.cell? ⟨gb,3,none⟩=some (.int .i64 b3):=(zzk BG9.out 3).trans rfl;have e4:w9.cell? ⟨gb,4,none⟩=some (.int .i64 b4):=(zzk BG9.out 4).trans rfl;have fin:∀ n:Int,seqCode b4 n=if b4 < n then 1 else if b4 > n then 2 else 0:=fun n=>rfl;cases u with
  | false=>
   have hr:r=if b4 < 0 then 1 else if b4 > 0 then 2 else 0:=by have:=HF'.out;simpa [seqCode] using this
   have HR:=zzm hr;clear hr HF' fin;rcases Int.lt_trichotomy b4 0 with h|h|h
   ·
    have HE:=zzm (show r=1 by have:=HR.out;rw [if_pos h] at this;exact this);go_wp2;go_ret;exact ⟨by rw [← a0.out,HE.out];rfl,HB9.out⟩
   ·
    subst h;have HE:=zzm (show r=0 by have:=HR.out;simpa using this);go_wp2;go_ret;exact ⟨by rw [← a0.out,HE.out];rfl,HB9.out⟩
   ·
    have HE:=zzm (show r=2 by have:=HR.out;rw [if_neg (by omega),if_pos h] at this;exact this);have h1:decide (b4 < 0)=false:=by simp;omega
    have h2:decide (0 < b4)=true:=by simp;omega
    go_wp2;go_ret;exact ⟨by rw [← a0.out,HE.out];rfl,HB9.out⟩
  | true=>
   by_cases hgt:b3 < b
   ·
    have HE:=zzm (show r=3 by have:=HF'.out;simpa [hgt] using this);clear HF' fin;go_wp2;go_ret;exact ⟨by rw [← a0.out,HE.out];rfl,HB9.out⟩
   ·
    have hgt' : decide (b3 < b)=false:=by simp;omega
    by_cases heq:b=b3
    ·
     subst heq;have hr:r=if b4 < c then 1 else if b4 > c then 2 else 0:=by have:=HF'.out;simpa [seqCode] using this
     have HR:=zzm hr;clear hr HF' fin hgt hgt';rcases Int.lt_trichotomy b4 c with h|h|h
     ·
      have HE:=zzm (show r=1 by have:=HR.out;rw [if_pos h] at this;exact this);go_wp2;go_ret;exact ⟨by rw [← a0.out,HE.out];rfl,HB9.out⟩
     ·
      subst h;have HE:=zzm (show r=0 by have:=HR.out;simpa using this);go_wp2;go_ret;exact ⟨by rw [← a0.out,HE.out];rfl,HB9.out⟩
     ·
      have HE:=zzm (show r=2 by have:=HR.out;rw [if_neg (by omega),if_pos h] at this;exact this);have h1:decide (b4 < c)=false:=by simp;omega
      have h2:decide (c < b4)=true:=by simp;omega
      go_wp2;go_ret;exact ⟨by rw [← a0.out,HE.out];rfl,HB9.out⟩
    ·
     have heq' : (b==b3)=false:=by simpa using heq
     have hr:r=if b4 < 0 then 1 else if b4 > 0 then 2 else 0:=by have:=HF'.out;simpa [seqCode,hgt,heq] using this
     have HR:=zzm hr;clear hr HF' fin heq;rcases Int.lt_trichotomy b4 0 with h|h|h
     ·
      have HE:=zzm (show r=1 by have:=HR.out;rw [if_pos h] at this;exact this);go_wp2;go_ret;exact ⟨by rw [← a0.out,HE.out];rfl,HB9.out⟩
     ·
      subst h;have HE:=zzm (show r=0 by have:=HR.out;simpa using this);go_wp2;go_ret;exact ⟨by rw [← a0.out,HE.out];rfl,HB9.out⟩
     ·
      have HE:=zzm (show r=2 by have:=HR.out;rw [if_neg (by omega),if_pos h] at this;exact this);have h1:decide (b4 < 0)=false:=by simp;omega
      have h2:decide (0 < b4)=true:=by simp;omega
      go_wp2;go_ret;exact ⟨by rw [← a0.out,HE.out];rfl,HB9.out⟩
def slotList (f:Nat→SlotV) (n:Nat):List S67:=(List.range n).filterMap fun i=>if (f i).u=true then some ⟨(f i).a,(f i).b,(f i).c⟩ else none
theorem slotList_no (f:Nat→SlotV) (n:Nat) (h:(f n).u=false):slotList f (n+1)=slotList f n:=by
 simp [slotList,List.range_succ,List.filterMap_append,h]
theorem slotList_yes (f:Nat→SlotV) (n:Nat) (h:(f n).u=true):slotList f (n+1)=slotList f n ++ [⟨(f n).a,(f n).b,(f n).c⟩]:=by
 simp [slotList,List.range_succ,List.filterMap_append,h]
theorem slotList_len (f:Nat→SlotV) (n:Nat):(slotList f n).length≤n:=by
 have:=List.length_filterMap_le (fun i=>if (f i).u=true then some (⟨(f i).a,(f i).b,(f i).c⟩:S67) else none) (List.range n);rw [List.length_range] at this;exact this
set_option maxHeartbeats 8000000 in
theorem Rn.calls (g:Nat) (f:Nat→SlotV) (w:World) (hs:HasSlots w g f) :
  Calls Try.prog 35 #[.pointer (some ⟨g,0,none⟩)] w fun e w'=>∃ a5:Value,e = .returned a5∧Kd.R k67 67 w' w.heap.size (fun _=>True) a5 (slotList f 255)∧Below w.heap.size w w':=by
 have HS:=zzm hs;have HB:=zzm (Below.refl w.heap.size w);clear hs;obtain ⟨y,hy⟩:∃ y:List S67,y = []:=⟨_,rfl⟩;have Ny:=zzm hy;clear hy;go_enter Try.func35,Try.ntmps35;go_wp2_with ((with_reducible refine gate_dst (N:=6) rfl ?_);refine Kd.R_lit k67 _ 67 ?hg (N:=6) ?hd (xs:=([]:List (S67))) (inner:=[]) (ok:=fun _=>True) (okp:=fun _=>True) ?hr ?hp (fun _ hk=>hk) trivial (Below.refl _ _) (Nat.le_refl _) (by simp) ?_;(case hd=>rfl);(case hg=>rfl);(case hr=>first|(go_simp;done)|(go_simp;rfl));(case hp=>exact (Reps.none _ _));intro v1 w1 ho1 hb hg_ hnew_;clear hg_ hnew_;rw [← Ny.out] at ho1;have a6:=zzm (zzp HB.out hb);have a7:=zzm ho1;clear HB;have HB:=a6;have HO:=a7;clear a6 a7 hb ho1);go_loopw [3,9,5] (fun v i i5 W=>∃ k:Nat,k≤255∧i = .int .i64 k∧Aside0 (Kd.R k67 67 W w.heap.size (fun _=>True) v (slotList f k))∧Aside0 (Below w.heap.size w W)) (fun _ i _ _=>255 - (intOf i).toNat)
 case atStart=>exact ⟨0,Nat.zero_le _,rfl,⟨by rw [Ny.out] at HO;exact HO.out⟩,HB⟩
 case round=>
  obtain ⟨k,hk,rfl,HO,HB⟩:=hrel;by_cases hlt:k < 255
  ·
   obtain ⟨a8,a9,b0,b1⟩:=(HS.out.below HB.out).at_ k hlt;have HY:=zzm (slotList_yes f k);have HN:=zzm (slotList_no f k);obtain ⟨x,hx⟩:∃ x,x=f k:=⟨_,rfl⟩;rw [← hx] at a8 a9 b0 b1 HY HN;clear hx;obtain ⟨u,a,b,c⟩:=x;have hki:(k:Int) < 255:=by omega
   have hki0 : 0≤(k:Int):=by omega
   go_upto_region 5 with ((with_reducible refine gate_dst (N:=5) rfl ?_);refine box_event ?hg (N:=5) ?hd (cs:=#[.bool false,.int .i64 0,.int .i64 0,.int .i64 0]) (t:=69) ?hr ?_;(case hd=>rfl);(case hg=>rfl);(case hr=>first|(go_simp;done)|(go_simp;rfl));intro gb hg a1 hbox hb;have a3:=zzm (Kd.R_below (Kd.R_elderB HO.out gb (Nat.le_of_eq hg.symm)) hb);have HB13:=zzm (zzp HB.out hb);have BK:=zzm hbox;have GE:=zzm (show w.heap.size≤gb by rw [hg];exact HB.out.size);clear hb hbox hg;have b2:a1.cell? ⟨gb,0,none⟩=some (.bool false):=(zzk BK.out 0).trans rfl;have b3:a1.cell? ⟨gb,1,none⟩=some (.int .i64 0):=(zzk BK.out 1).trans rfl;have b4:a1.cell? ⟨gb,2,none⟩=some (.int .i64 0):=(zzk BK.out 2).trans rfl;have b5:a1.cell? ⟨gb,3,none⟩=some (.int .i64 0):=(zzk BK.out 3).trans rfl;have hf0:=zzl BK.out 0;have hf1:=zzl BK.out 1;have hf2:=zzl BK.out 2;have hf3:=zzl BK.out 3);have a0:=zzm (blk_set (blk_set (blk_set (blk_set BK.out 0 (.bool u)) 1 (.int .i64 a)) 2 (.int .i64 b)) 3 (.int .i64 c));have a4:=zzm (Kd.R_far (p:=⟨gb,3,none⟩) (Kd.R_far (p:=⟨gb,2,none⟩) (Kd.R_far (p:=⟨gb,1,none⟩) (Kd.R_far (p:=⟨gb,0,none⟩) a3.out (fun _ hk=>hk.2) (.bool u)) (fun _ hk=>hk.2) (.int .i64 a)) (fun _ hk=>hk.2) (.int .i64 b)) (fun _ hk=>hk.2) (.int .i64 c));have HB2:=zzm (zzd (zzd (zzd (zzd HB13.out GE.out (j:=0) (v:=.bool u)) GE.out (j:=1) (v:=.int .i64 a)) GE.out (j:=2) (v:=.int .i64 b)) GE.out (j:=3) (v:=.int .i64 c));clear b2 b3 b4 b5 hf0 hf1 hf2 hf3 BK a3 HB13 a8 a9 b0 b1;generalize (((a1.setCell ⟨gb,0,none⟩ (.bool u)).setCell ⟨gb,1,none⟩ (.int .i64 a)).setCell ⟨gb,2,none⟩ (.int .i64 b)).setCell ⟨gb,3,none⟩ (.int .i64 c)=a2 at a0 a4 HB2 ⊢;have d0:a2.cell? ⟨gb,0,none⟩=some (.bool u):=(zzk a0.out 0).trans rfl;have d1:a2.cell? ⟨gb,1,none⟩=some (.int .i64 a):=(zzk a0.out 1).trans rfl;have d2:a2.cell? ⟨gb,2,none⟩=some (.int .i64 b):=(zzk a0.out 2).trans rfl;have d3:a2.cell? ⟨gb,3,none⟩=some (.int .i64 c):=(zzk a0.out 3).trans rfl;have HL:=zzm (show (slotList f k).length < 255 by have:=slotList_len f k;omega);cases u with
   | false=>
    have HE:=zzm (HN.out rfl);clear HN HY;go_wp2;go_roundw
    case rel=>exact ⟨k+1,by omega,by go_num,⟨by rw [HE.out];exact Kd.R_mono a4.out (fun _ _=>trivial)⟩,HB2⟩
    case measure=>simp [intOf];omega
   | true=>
    have HE:=zzm (HY.out rfl);clear HN HY;go_wp2_with ((with_reducible refine gate_builtin (b:=.append) (xs:=#[.tmp 16,.tmp 19]) rfl ?_);at_builtin;refine Kd.R_append k67 (w0:=w) w.heap.size rfl (.tmp 16) (.tmp 19) 23 67 (.agg #[(.int .i64 0),(.int .i64 0),(.int .i64 0)]) 24 rfl Try.underlying23 info67 rfl (by decide) (by omega) u3 (slotList f k) (⟨a,b,c⟩:S67) [.int .i64 a,.int .i64 b,.int .i64 c] (fun k_=>k_≠gb) (fun _=>False) rfl (by first|(go_simp;done)|(go_simp;rfl)) ?aP (fun _ hk=>hk.elim) ?aF ?aO ?aB ?aS ?aL ?_;(case aP=>exact k67_mkM _ _ _ (⟨a,b,c⟩:S67));(case aB=>exact (by repeat (first|exact HB2.out|apply zza|apply zzc)));(case aF=>exact (fun k_ hk=>Kd.freshB (g:=gb) (zzE a0.out) k_ hk));(case aO=>exact (by (with_reducible repeat (first|apply Kd.R_alloc|apply Kd.R_drewN|apply Kd.R_drew));exact Kd.R_mono a4.out (fun _ hk=>hk.2)));(case aS=>exact (zzo (by repeat (first|exact HB2.out|apply zza|apply zzc))));(case aL=>have:=HL.out;omega);intro b7 b8 ho hb hg hat;rw [← HE.out] at ho;have b6:=zzm ho;have HB3:=zzm hb;clear ho hb hg hat);go_roundw
    case rel=>exact ⟨k+1,by omega,by go_num,⟨Kd.R_mono b6.out (fun _ _=>trivial)⟩,HB3⟩
    case measure=>simp [intOf];omega
  ·
   have hk2:k=255:=by omega
   subst hk2;go_wp2;go_ret;exact ⟨_,rfl,HO.out,HB.out⟩
def idsOk (l:List S67):Bool:=l.all fun t=>decide (0≤t.f0∧t.f0 < 255)
theorem idsOk_at {l:List S67} (h:idsOk l=true) (j:Nat) (hj:j < l.length) : 0≤(Qb l (j:Int)).f0∧(Qb l (j:Int)).f0 < 255:=by
 have h1:=List.all_eq_true.mp h _ (List.getElem_mem hj);have h2:Qb l (j:Int)=l[j]:=by simp [Qb,List.getD_eq_getElem?_getD,List.getElem?_eq_getElem hj]
 rw [h2];simpa using h1
def prodOk (l:List S67) (p:Int):Bool:=idsOk l&&decide (0≤p∧p≤255)
theorem prodOk_at {l:List S67} {p:Int} (h:prodOk l p=true):idsOk l=true∧0≤p∧p≤255:=by
 simpa [prodOk] using h

set_option linter.unusedVariables false
set_option linter.unusedSimpArgs false
def slotSet (f:Nat→SlotV) (p e n:Int):Nat→SlotV:=fun k=>if k=p.toNat then ⟨true,p,e,n⟩ else f k
def putSlots (l0:List S67) (p e s n:Int):Nat→SlotV:=if codeAt (slotFn l0) p e s=0 then slotSet (slotFn l0) p e (wrap64 (s+n)) else slotFn l0
def Qr.f (k:Nat) (l0:List S67) (a1_0:Bool) (a1_1:Bool) (a1_2:Int) (a1_3:Int) (a1_4:Int) (l1_5:List S75):Option (List (S67)×Int):=(Qo.f k l0).bind fun t1=>(if t1=true then ((Qc.f k a1_0 a1_1 a1_2 a1_3 a1_4 l1_5).bind fun t2=>(if t2=true then (if prodOk l0 a1_2=true then ((Qo.f k (slotList (putSlots l0 a1_2 a1_3 a1_4 (l1_5.length:Int)) 255)).bind fun t3=>(if t3=true then some (slotList (putSlots l0 a1_2 a1_3 a1_4 (l1_5.length:Int)) 255,codeAt (slotFn l0) a1_2 a1_3 a1_4) else some ([],5))) else none) else some ([],5))) else some ([],5))
theorem codeAt_zero {f:Nat→SlotV} {p e s:Int} (h:codeAt f p e s=0):p≠255:=by
 rintro rfl;have h2:codeAt f 255 e s=4:=by unfold codeAt;rw [if_pos rfl]
 rw [h2] at h;omega
set_option maxHeartbeats 8000000 in
theorem Qr.calls (k:Nat) (A0:Option Addr) (c0:Nat) (l0:List (S67)) (a5:Bool) (a6:Bool) (a4:Int) (a1:Int) (a2:Int) (a8:Option Addr) (a9:Nat) (a3:List (S75)) (r1:List (S67)) (r2:Int) (w:World) (c6:Kd.C k67 w A0 l0.length l0) (c7:l0.length≤c0) (b7:Kd.C k75 w a8 a3.length a3) (c1:a3.length≤a9) (h:Qr.f k l0 a5 a6 a4 a1 a2 a3=some (r1,r2)) :
  Calls Try.prog 7 #[.slice A0 l0.length c0,.agg #[.bool a5,.bool a6,.int .i64 a4,.int .i64 a1,.int .i64 a2,.slice a8 a3.length a9]] w fun e w'=>∃ c8:Value,e = .returned (.tuple #[c8,.int .i64 r2])∧Kd.R k67 67 w' w.heap.size (fun _=>True) c8 r1∧Below w.heap.size w w':=by
 have b3:=zzm c6;have b8:=zzm c7;clear c6 c7;have b4:=zzm b7;have b5:=zzm c1;have HM:=zzm (show a3.length≤9223372036854775807 from b7.2.1);clear b7 c1;have HB:=zzm (Below.refl w.heap.size w);unfold Qr.f at h;replace h:=Option.bind_eq_some_iff.mp h;obtain ⟨t1,c9,h⟩:=h;have A3:=zzm c9;clear c9;cases t1 with
 | false=>
  obtain ⟨rfl,rfl⟩:r1 = []∧r2=5:=by simpa [eq_comm] using h
  clear h;go_enter Try.func7,Try.ntmps7;go_wp2_with (first|((with_reducible refine gate_dst (N:=3) rfl ?_);refine box_event ?hg (N:=3) ?hd (cs:=#[.bool a5,.bool a6,.int .i64 a4,.int .i64 a1,.int .i64 a2,.slice a8 a3.length a9]) (t:=26) ?hr ?_;(case hd=>rfl);(case hg=>rfl);(case hr=>first|(go_simp;done)|(go_simp;rfl));intro gb hg w8 hbox hb;have HB1:=zzm (zzp HB.out hb);have BK:=zzm hbox;have GE:=zzm (show w.heap.size≤gb from Nat.le_of_eq hg.symm);clear hb hbox hg)|((with_reducible refine gate_callee (f:=32) rfl ?_);refine goesL_ (some 10) rfl rfl Try.func32 (by kernel_rfl) rfl #[.slice A0 l0.length c0] rfl zzM2 ?_;(with_reducible refine (Qo.calls k _ _ l0 false _ ?side1 ?side2 A3.out).mono ?_);(case side1=>exact Kd.C_below b3.out HB1.out);(case side2=>exact b8.out);rintro e w9 ⟨rfl,hb⟩;refine ⟨_,rfl,?_⟩;have HB2:=zzm (zzp HB1.out hb);have a0:=zzm (zzh BK.out hb);clear hb;have z0:=(zzk a0.out 0).trans rfl;have z1:=(zzk a0.out 1).trans rfl;have z2:=(zzk a0.out 2).trans rfl;have z3:=(zzk a0.out 3).trans rfl;have z4:=(zzk a0.out 4).trans rfl;have z5:=(zzk a0.out 5).trans rfl));go_ret2;exact ⟨_,rfl,Kd.R_nil _ _ _ _ _,HB2.out⟩
 | true=>
  rw [if_pos rfl] at h;replace h:=Option.bind_eq_some_iff.mp h;obtain ⟨t2,d0,h⟩:=h;have A5:=zzm d0;clear d0;cases t2 with
  | false=>
   obtain ⟨rfl,rfl⟩:r1 = []∧r2=5:=by simpa [eq_comm] using h
   clear h;go_enter Try.func7,Try.ntmps7;go_wp2_with (first|((with_reducible refine gate_dst (N:=3) rfl ?_);refine box_event ?hg (N:=3) ?hd (cs:=#[.bool a5,.bool a6,.int .i64 a4,.int .i64 a1,.int .i64 a2,.slice a8 a3.length a9]) (t:=26) ?hr ?_;(case hd=>rfl);(case hg=>rfl);(case hr=>first|(go_simp;done)|(go_simp;rfl));intro gb hg w8 hbox hb;have HB1:=zzm (zzp HB.out hb);have BK:=zzm hbox;have GE:=zzm (show w.heap.size≤gb from Nat.le_of_eq hg.symm);clear hb hbox hg)|((with_reducible refine gate_callee (f:=32) rfl ?_);refine goesL_ (some 10) rfl rfl Try.func32 (by kernel_rfl) rfl #[.slice A0 l0.length c0] rfl zzM2 ?_;(with_reducible refine (Qo.calls k _ _ l0 true _ ?side1 ?side2 A3.out).mono ?_);(case side1=>exact Kd.C_below b3.out HB1.out);(case side2=>exact b8.out);rintro e w9 ⟨rfl,hb⟩;refine ⟨_,rfl,?_⟩;have HB2:=zzm (zzp HB1.out hb);have a0:=zzm (zzh BK.out hb);clear hb;have z0:=(zzk a0.out 0).trans rfl;have z1:=(zzk a0.out 1).trans rfl;have z2:=(zzk a0.out 2).trans rfl;have z3:=(zzk a0.out 3).trans rfl;have z4:=(zzk a0.out 4).trans rfl;have z5:=(zzk a0.out 5).trans rfl)|(go_at_call 10;(with_reducible refine (Qc.calls k a5 a6 a4 a1 a2 _ _ a3 false _ ?side1 ?side2 A5.out).mono ?_);(case side1=>exact Kd.C_below b4.out HB2.out);(case side2=>exact b5.out);rintro e c2 ⟨rfl,hb⟩;have HB3:=zzm (zzp HB2.out hb);have b2:=zzm (zzh a0.out hb);clear hb z0 z1 z2 z3 z4 z5));go_ret2;exact ⟨_,rfl,Kd.R_nil _ _ _ _ _,HB3.out⟩
  | true=>
   rw [if_pos rfl] at h;by_cases hok:prodOk l0 a4=true
   ·
    rw [if_pos hok] at h;obtain ⟨hids,hp0,hp1⟩:=prodOk_at hok;replace h:=Option.bind_eq_some_iff.mp h;obtain ⟨t3,c3,h⟩:=h;obtain ⟨F,hF⟩:∃ F,F=putSlots l0 a4 a1 a2 (a3.length:Int):=⟨_,rfl⟩;rw [← hF] at c3 h;have A7:=zzm c3;clear c3;have HI:=zzm hids;have HP0:=zzm hp0;have HP1:=zzm hp1;clear hok hids hp0 hp1;obtain ⟨cd,hcd⟩:∃ cd,codeAt (slotFn l0) a4 a1 a2=cd:=⟨_,rfl⟩;rw [hcd] at h;have HE:=zzm hcd;by_cases hz:cd=0
    ·
     have hp255:=codeAt_zero (hcd.trans hz);rw [putSlots,if_pos (hcd.trans hz)] at hF;clear hcd;subst hz;have HF:=zzm hF;clear hF;obtain ⟨m,rfl⟩:∃ m:Nat,a4=(m:Int):=⟨a4.toNat,by have:=HP0.out;omega⟩;have hm2:m < 255:=by have:=HP1.out;omega
     have HH:=zzm h;clear h;go_enter Try.func7,Try.ntmps7;go_wp2_with (first|((with_reducible refine gate_dst (N:=3) rfl ?_);refine box_event ?hg (N:=3) ?hd (cs:=#[.bool a5,.bool a6,.int .i64 (m:Int),.int .i64 a1,.int .i64 a2,.slice a8 a3.length a9]) (t:=26) ?hr ?_;(case hd=>rfl);(case hg=>rfl);(case hr=>first|(go_simp;done)|(go_simp;rfl));intro gb hg w8 hbox hb;have HB1:=zzm (zzp HB.out hb);have BK:=zzm hbox;have GE:=zzm (show w.heap.size≤gb from Nat.le_of_eq hg.symm);clear hb hbox hg)|((with_reducible refine gate_callee (f:=32) rfl ?_);refine goesL_ (some 10) rfl rfl Try.func32 (by kernel_rfl) rfl #[.slice A0 l0.length c0] rfl zzM2 ?_;(with_reducible refine (Qo.calls k _ _ l0 true _ ?side1 ?side2 A3.out).mono ?_);(case side1=>exact Kd.C_below b3.out HB1.out);(case side2=>exact b8.out);rintro e w9 ⟨rfl,hb⟩;refine ⟨_,rfl,?_⟩;have HB2:=zzm (zzp HB1.out hb);have a0:=zzm (zzh BK.out hb);clear hb;have z0:=(zzk a0.out 0).trans rfl;have z1:=(zzk a0.out 1).trans rfl;have z2:=(zzk a0.out 2).trans rfl;have z3:=(zzk a0.out 3).trans rfl;have z4:=(zzk a0.out 4).trans rfl;have z5:=(zzk a0.out 5).trans rfl)|(go_at_call 10;(with_reducible refine (Qc.calls k a5 a6 (m:Int) a1 a2 _ _ a3 true _ ?side1 ?side2 A5.out).mono ?_);(case side1=>exact Kd.C_below b4.out HB2.out);(case side2=>exact b5.out);rintro e c2 ⟨rfl,hb⟩;have HB3:=zzm (zzp HB2.out hb);have b2:=zzm (zzh a0.out hb);clear hb z0 z1 z2 z3 z4 z5)|((with_reducible refine gate_callee (f:=33) rfl ?_);refine goesL_ (some 18) rfl rfl Try.func33 (by kernel_rfl) rfl #[.slice A0 l0.length c0] rfl zzM2 ?_;(with_reducible refine (impl_slotsOf.calls _ _ l0 _ ?side1 ?side2).mono ?_);(case side1=>exact Kd.C_below b3.out HB3.out);(case side2=>exact fun j hj=>idsOk_at HI.out j hj);rintro e d1 ⟨g,rfl,hge,hs,hb⟩;refine ⟨_,rfl,?_⟩;have HG:=zzm (Nat.le_trans HB3.out.size hge);have HB4:=zzm (zzp HB3.out hb);have NE:=zzm (show g≠gb by have:=blk_lt b2.out;omega);have a7:=zzm (zzh b2.out hb);have HS4:=zzm hs;clear hb hge hs;have z0:=(zzk a7.out 0).trans rfl;have z1:=(zzk a7.out 1).trans rfl;have z2:=(zzk a7.out 2).trans rfl;have z3:=(zzk a7.out 3).trans rfl;have z4:=(zzk a7.out 4).trans rfl;have z5:=(zzk a7.out 5).trans rfl)|((with_reducible refine gate_callee (f:=34) rfl ?_);refine goesL_ (some 21) rfl rfl Try.func34 (by kernel_rfl) rfl #[.pointer (some ⟨g,0,none⟩),.agg #[.bool a5,.bool a6,.int .i64 (m:Int),.int .i64 a1,.int .i64 a2,.slice a8 a3.length a9]] rfl zzM2 ?_;(with_reducible refine (impl_slots_check.calls g _ a5 a6 (m:Int) a1 a2 _ rfl _ HS4.out HP0.out HP1.out).mono ?_);rintro e b1 ⟨rfl,hb⟩;refine ⟨_,rfl,?_⟩;have HB5:=zzm (zzp HB4.out hb);have b6:=zzm (zzh a7.out hb);have HS5:=zzm (HS4.out.below hb);clear hb z0 z1 z2 z3 z4 z5;try rw [HE.out]));have y2:b1.cell? ⟨gb,2,none⟩=some (.int .i64 (m:Int)):=(zzk b6.out 2).trans rfl;have y3:b1.cell? ⟨gb,3,none⟩=some (.int .i64 a1):=(zzk b6.out 3).trans rfl;have y4:b1.cell? ⟨gb,4,none⟩=some (.int .i64 a2):=(zzk b6.out 4).trans rfl;have y5:b1.cell? ⟨gb,5,none⟩=some (.slice a8 a3.length a9):=(zzk b6.out 5).trans rfl;have fz:∀ j,b1.frozen? ⟨g,j,none⟩=false:=HS5.out.free;have fz0:=fz (m * 4);have fz1:=fz (m * 4+1);have fz2:=fz (m * 4+2);have fz3:=fz (m * 4+3);clear fz;obtain ⟨vz0,hz0⟩:∃ v,b1.cell? ⟨g,m * 4,none⟩=some v:=⟨_,(HS5.out.at_ m hm2).1⟩;obtain ⟨vz1,hz1⟩:∃ v,b1.cell? ⟨g,m * 4+1,none⟩=some v:=⟨_,(HS5.out.at_ m hm2).2.1⟩;obtain ⟨vz2,hz2⟩:∃ v,b1.cell? ⟨g,m * 4+2,none⟩=some v:=⟨_,(HS5.out.at_ m hm2).2.2.1⟩;obtain ⟨vz3,hz3⟩:∃ v,b1.cell? ⟨g,m * 4+3,none⟩=some v:=⟨_,(HS5.out.at_ m hm2).2.2.2⟩;have hmi:(m:Int) < 255:=by omega
     have hmi0 : 0≤(m:Int):=by omega
     go_region;have heq:F=fun k'=>if k' = m then ⟨true,(m:Int),a1,wrap64 (a2+(a3.length:Int))⟩ else slotFn l0 k':=by
      rw [HF.out];funext k';simp only [slotSet,Int.toNat_natCast]
     have hsf:=HasSlots.drew (HS5.out.put m hm2 true (m:Int) a1 (wrap64 (a2+(a3.length:Int))));rw [← heq] at hsf;have HS6:=zzm hsf;have HB6:=zzm (zzc (zzd (zzd (zzd (zzd HB5.out HG.out (j:=m * 4) (v:=.bool true)) HG.out (j:=m * 4+1) (v:=.int .i64 (m:Int))) HG.out (j:=m * 4+2) (v:=.int .i64 a1)) HG.out (j:=m * 4+3) (v:=.int .i64 (wrap64 (a2+(a3.length:Int))))));clear hsf heq hz0 hz1 hz2 hz3 fz0 fz1 fz2 fz3 y2 y3 y4 y5 HS5 HB5 b6;generalize ((((b1.setCell ⟨g,m * 4,none⟩ (.bool true)).setCell ⟨g,m * 4+1,none⟩ (.int .i64 (m:Int))).setCell ⟨g,m * 4+2,none⟩ (.int .i64 a1)).setCell ⟨g,m * 4+3,none⟩ (.int .i64 (wrap64 (a2+(a3.length:Int))))).drew=d2 at HS6 HB6 ⊢;have h:=HH.out;cases t3 with
     | true=>
      obtain ⟨rfl,rfl⟩:r1=slotList F 255∧r2=0:=by simpa [eq_comm] using h
      clear h HH;go_wp2_with (first|((with_reducible refine gate_callee (f:=35) rfl ?_);refine goesL_ (some 42) rfl rfl Try.func35 (by kernel_rfl) rfl #[.pointer (some ⟨g,0,none⟩)] rfl zzM2 ?_;(with_reducible refine (Rn.calls g _ _ HS6.out).mono ?_);rintro e c4 ⟨v0,rfl,ho,hb⟩;refine ⟨_,rfl,?_⟩;obtain ⟨Ao,co,eo⟩:=Kd.R_slice ho;subst eo;have HB7:=zzm (zzp HB6.out hb);have b0:=zzm (Kd.R_lower ho HB6.out.size);clear hb ho)|((with_reducible refine gate_callee (f:=32) rfl ?_);refine goesL_ (some 44) rfl rfl Try.func32 (by kernel_rfl) rfl #[.slice Ao (slotList F 255).length co] rfl zzM2 ?_;(with_reducible refine (Qo.calls k _ _ (slotList F 255) true _ ?side1 ?side2 A7.out).mono ?_);(case side1=>exact (Kd.R_reads' b0.out).2.2);(case side2=>exact (Kd.R_reads' b0.out).2.1);rintro e c5 ⟨rfl,hb⟩;refine ⟨_,rfl,?_⟩;have HB8:=zzm (zzp HB7.out hb);have b9:=zzm (Kd.R_below b0.out hb);clear hb));go_ret2;exact ⟨_,rfl,b9.out,HB8.out⟩
     | false=>
      obtain ⟨rfl,rfl⟩:r1 = []∧r2=5:=by simpa [eq_comm] using h
      clear h HH;go_wp2_with (first|((with_reducible refine gate_callee (f:=35) rfl ?_);refine goesL_ (some 42) rfl rfl Try.func35 (by kernel_rfl) rfl #[.pointer (some ⟨g,0,none⟩)] rfl zzM2 ?_;(with_reducible refine (Rn.calls g _ _ HS6.out).mono ?_);rintro e c4 ⟨v0,rfl,ho,hb⟩;refine ⟨_,rfl,?_⟩;obtain ⟨Ao,co,eo⟩:=Kd.R_slice ho;subst eo;have HB7:=zzm (zzp HB6.out hb);have b0:=zzm (Kd.R_lower ho HB6.out.size);clear hb ho)|((with_reducible refine gate_callee (f:=32) rfl ?_);refine goesL_ (some 44) rfl rfl Try.func32 (by kernel_rfl) rfl #[.slice Ao (slotList F 255).length co] rfl zzM2 ?_;(with_reducible refine (Qo.calls k _ _ (slotList F 255) false _ ?side1 ?side2 A7.out).mono ?_);(case side1=>exact (Kd.R_reads' b0.out).2.2);(case side2=>exact (Kd.R_reads' b0.out).2.1);rintro e c5 ⟨rfl,hb⟩;refine ⟨_,rfl,?_⟩;have HB8:=zzm (zzp HB7.out hb);have b9:=zzm (Kd.R_below b0.out hb);clear hb));go_ret2;exact ⟨_,rfl,Kd.R_nil _ _ _ _ _,HB8.out⟩
    ·
     rw [putSlots,if_neg (by rw [hcd];exact hz)] at hF;clear hcd;have HF:=zzm hF;clear hF;have hne:(cd==0)=false:=by simpa using hz
     clear hz;cases t3 with
     | true=>
      obtain ⟨rfl,rfl⟩:r1=slotList F 255∧r2=cd:=by simpa [eq_comm] using h
      clear h;go_enter Try.func7,Try.ntmps7;go_wp2_with (first|((with_reducible refine gate_dst (N:=3) rfl ?_);refine box_event ?hg (N:=3) ?hd (cs:=#[.bool a5,.bool a6,.int .i64 a4,.int .i64 a1,.int .i64 a2,.slice a8 a3.length a9]) (t:=26) ?hr ?_;(case hd=>rfl);(case hg=>rfl);(case hr=>first|(go_simp;done)|(go_simp;rfl));intro gb hg w8 hbox hb;have HB1:=zzm (zzp HB.out hb);have BK:=zzm hbox;have GE:=zzm (show w.heap.size≤gb from Nat.le_of_eq hg.symm);clear hb hbox hg)|((with_reducible refine gate_callee (f:=32) rfl ?_);refine goesL_ (some 10) rfl rfl Try.func32 (by kernel_rfl) rfl #[.slice A0 l0.length c0] rfl zzM2 ?_;(with_reducible refine (Qo.calls k _ _ l0 true _ ?side1 ?side2 A3.out).mono ?_);(case side1=>exact Kd.C_below b3.out HB1.out);(case side2=>exact b8.out);rintro e w9 ⟨rfl,hb⟩;refine ⟨_,rfl,?_⟩;have HB2:=zzm (zzp HB1.out hb);have a0:=zzm (zzh BK.out hb);clear hb;have z0:=(zzk a0.out 0).trans rfl;have z1:=(zzk a0.out 1).trans rfl;have z2:=(zzk a0.out 2).trans rfl;have z3:=(zzk a0.out 3).trans rfl;have z4:=(zzk a0.out 4).trans rfl;have z5:=(zzk a0.out 5).trans rfl)|(go_at_call 10;(with_reducible refine (Qc.calls k a5 a6 a4 a1 a2 _ _ a3 true _ ?side1 ?side2 A5.out).mono ?_);(case side1=>exact Kd.C_below b4.out HB2.out);(case side2=>exact b5.out);rintro e c2 ⟨rfl,hb⟩;have HB3:=zzm (zzp HB2.out hb);have b2:=zzm (zzh a0.out hb);clear hb z0 z1 z2 z3 z4 z5)|((with_reducible refine gate_callee (f:=33) rfl ?_);refine goesL_ (some 18) rfl rfl Try.func33 (by kernel_rfl) rfl #[.slice A0 l0.length c0] rfl zzM2 ?_;(with_reducible refine (impl_slotsOf.calls _ _ l0 _ ?side1 ?side2).mono ?_);(case side1=>exact Kd.C_below b3.out HB3.out);(case side2=>exact fun j hj=>idsOk_at HI.out j hj);rintro e d1 ⟨g,rfl,hge,hs,hb⟩;refine ⟨_,rfl,?_⟩;have HG:=zzm (Nat.le_trans HB3.out.size hge);have HB4:=zzm (zzp HB3.out hb);have NE:=zzm (show g≠gb by have:=blk_lt b2.out;omega);have a7:=zzm (zzh b2.out hb);have HS4:=zzm hs;clear hb hge hs;have z0:=(zzk a7.out 0).trans rfl;have z1:=(zzk a7.out 1).trans rfl;have z2:=(zzk a7.out 2).trans rfl;have z3:=(zzk a7.out 3).trans rfl;have z4:=(zzk a7.out 4).trans rfl;have z5:=(zzk a7.out 5).trans rfl)|((with_reducible refine gate_callee (f:=34) rfl ?_);refine goesL_ (some 21) rfl rfl Try.func34 (by kernel_rfl) rfl #[.pointer (some ⟨g,0,none⟩),.agg #[.bool a5,.bool a6,.int .i64 a4,.int .i64 a1,.int .i64 a2,.slice a8 a3.length a9]] rfl zzM2 ?_;(with_reducible refine (impl_slots_check.calls g _ a5 a6 a4 a1 a2 _ rfl _ HS4.out HP0.out HP1.out).mono ?_);rintro e b1 ⟨rfl,hb⟩;refine ⟨_,rfl,?_⟩;have HB5:=zzm (zzp HB4.out hb);have b6:=zzm (zzh a7.out hb);have HS5:=zzm (HS4.out.below hb);have HB6:=HB5;have HS6:=zzm (show HasSlots _ g F by rw [HF.out];exact HS5.out);clear hb z0 z1 z2 z3 z4 z5;try rw [HE.out])|((with_reducible refine gate_callee (f:=35) rfl ?_);refine goesL_ (some 42) rfl rfl Try.func35 (by kernel_rfl) rfl #[.pointer (some ⟨g,0,none⟩)] rfl zzM2 ?_;(with_reducible refine (Rn.calls g _ _ HS6.out).mono ?_);rintro e c4 ⟨v0,rfl,ho,hb⟩;refine ⟨_,rfl,?_⟩;obtain ⟨Ao,co,eo⟩:=Kd.R_slice ho;subst eo;have HB7:=zzm (zzp HB6.out hb);have b0:=zzm (Kd.R_lower ho HB6.out.size);clear hb ho)|((with_reducible refine gate_callee (f:=32) rfl ?_);refine goesL_ (some 44) rfl rfl Try.func32 (by kernel_rfl) rfl #[.slice Ao (slotList F 255).length co] rfl zzM2 ?_;(with_reducible refine (Qo.calls k _ _ (slotList F 255) true _ ?side1 ?side2 A7.out).mono ?_);(case side1=>exact (Kd.R_reads' b0.out).2.2);(case side2=>exact (Kd.R_reads' b0.out).2.1);rintro e c5 ⟨rfl,hb⟩;refine ⟨_,rfl,?_⟩;have HB8:=zzm (zzp HB7.out hb);have b9:=zzm (Kd.R_below b0.out hb);clear hb));go_ret2;exact ⟨_,rfl,b9.out,HB8.out⟩
     | false=>
      obtain ⟨rfl,rfl⟩:r1 = []∧r2=5:=by simpa [eq_comm] using h
      clear h;go_enter Try.func7,Try.ntmps7;go_wp2_with (first|((with_reducible refine gate_dst (N:=3) rfl ?_);refine box_event ?hg (N:=3) ?hd (cs:=#[.bool a5,.bool a6,.int .i64 a4,.int .i64 a1,.int .i64 a2,.slice a8 a3.length a9]) (t:=26) ?hr ?_;(case hd=>rfl);(case hg=>rfl);(case hr=>first|(go_simp;done)|(go_simp;rfl));intro gb hg w8 hbox hb;have HB1:=zzm (zzp HB.out hb);have BK:=zzm hbox;have GE:=zzm (show w.heap.size≤gb from Nat.le_of_eq hg.symm);clear hb hbox hg)|((with_reducible refine gate_callee (f:=32) rfl ?_);refine goesL_ (some 10) rfl rfl Try.func32 (by kernel_rfl) rfl #[.slice A0 l0.length c0] rfl zzM2 ?_;(with_reducible refine (Qo.calls k _ _ l0 true _ ?side1 ?side2 A3.out).mono ?_);(case side1=>exact Kd.C_below b3.out HB1.out);(case side2=>exact b8.out);rintro e w9 ⟨rfl,hb⟩;refine ⟨_,rfl,?_⟩;have HB2:=zzm (zzp HB1.out hb);have a0:=zzm (zzh BK.out hb);clear hb;have z0:=(zzk a0.out 0).trans rfl;have z1:=(zzk a0.out 1).trans rfl;have z2:=(zzk a0.out 2).trans rfl;have z3:=(zzk a0.out 3).trans rfl;have z4:=(zzk a0.out 4).trans rfl;have z5:=(zzk a0.out 5).trans rfl)|(go_at_call 10;(with_reducible refine (Qc.calls k a5 a6 a4 a1 a2 _ _ a3 true _ ?side1 ?side2 A5.out).mono ?_);(case side1=>exact Kd.C_below b4.out HB2.out);(case side2=>exact b5.out);rintro e c2 ⟨rfl,hb⟩;have HB3:=zzm (zzp HB2.out hb);have b2:=zzm (zzh a0.out hb);clear hb z0 z1 z2 z3 z4 z5)|((with_reducible refine gate_callee (f:=33) rfl ?_);refine goesL_ (some 18) rfl rfl Try.func33 (by kernel_rfl) rfl #[.slice A0 l0.length c0] rfl zzM2 ?_;(with_reducible refine (impl_slotsOf.calls _ _ l0 _ ?side1 ?side2).mono ?_);(case side1=>exact Kd.C_below b3.out HB3.out);(case side2=>exact fun j hj=>idsOk_at HI.out j hj);rintro e d1 ⟨g,rfl,hge,hs,hb⟩;refine ⟨_,rfl,?_⟩;have HG:=zzm (Nat.le_trans HB3.out.size hge);have HB4:=zzm (zzp HB3.out hb);have NE:=zzm (show g≠gb by have:=blk_lt b2.out;omega);have a7:=zzm (zzh b2.out hb);have HS4:=zzm hs;clear hb hge hs;have z0:=(zzk a7.out 0).trans rfl;have z1:=(zzk a7.out 1).trans rfl;have z2:=(zzk a7.out 2).trans rfl;have z3:=(zzk a7.out 3).trans rfl;have z4:=(zzk a7.out 4).trans rfl;have z5:=(zzk a7.out 5).trans rfl)|((with_reducible refine gate_callee (f:=34) rfl ?_);refine goesL_ (some 21) rfl rfl Try.func34 (by kernel_rfl) rfl #[.pointer (some ⟨g,0,none⟩),.agg #[.bool a5,.bool a6,.int .i64 a4,.int .i64 a1,.int .i64 a2,.slice a8 a3.length a9]] rfl zzM2 ?_;(with_reducible refine (impl_slots_check.calls g _ a5 a6 a4 a1 a2 _ rfl _ HS4.out HP0.out HP1.out).mono ?_);rintro e b1 ⟨rfl,hb⟩;refine ⟨_,rfl,?_⟩;have HB5:=zzm (zzp HB4.out hb);have b6:=zzm (zzh a7.out hb);have HS5:=zzm (HS4.out.below hb);have HB6:=HB5;have HS6:=zzm (show HasSlots _ g F by rw [HF.out];exact HS5.out);clear hb z0 z1 z2 z3 z4 z5;try rw [HE.out])|((with_reducible refine gate_callee (f:=35) rfl ?_);refine goesL_ (some 42) rfl rfl Try.func35 (by kernel_rfl) rfl #[.pointer (some ⟨g,0,none⟩)] rfl zzM2 ?_;(with_reducible refine (Rn.calls g _ _ HS6.out).mono ?_);rintro e c4 ⟨v0,rfl,ho,hb⟩;refine ⟨_,rfl,?_⟩;obtain ⟨Ao,co,eo⟩:=Kd.R_slice ho;subst eo;have HB7:=zzm (zzp HB6.out hb);have b0:=zzm (Kd.R_lower ho HB6.out.size);clear hb ho)|((with_reducible refine gate_callee (f:=32) rfl ?_);refine goesL_ (some 44) rfl rfl Try.func32 (by kernel_rfl) rfl #[.slice Ao (slotList F 255).length co] rfl zzM2 ?_;(with_reducible refine (Qo.calls k _ _ (slotList F 255) false _ ?side1 ?side2 A7.out).mono ?_);(case side1=>exact (Kd.R_reads' b0.out).2.2);(case side2=>exact (Kd.R_reads' b0.out).2.1);rintro e c5 ⟨rfl,hb⟩;refine ⟨_,rfl,?_⟩;have HB8:=zzm (zzp HB7.out hb);have b9:=zzm (Kd.R_below b0.out hb);clear hb));go_ret2;exact ⟨_,rfl,Kd.R_nil _ _ _ _ _,HB8.out⟩
   ·
    rw [if_neg hok] at h;cases h
def Ql.f (a0:Int) (a1:Int) (a2:Int):Option (Bool):=if a0 ≥ a1 then (some (decide (a0≤a2))) else (some false)
set_option maxHeartbeats 8000000 in
theorem Ql.calls (a0:Int) (a1:Int) (a2:Int) (r:Bool) (w:World) (h:Ql.f a0 a1 a2=some r) :
  Calls Try.prog 53 #[.int .i64 a0,.int .i64 a1,.int .i64 a2] w fun e w'=>e = .returned (.bool r)∧Drawn0 w w':=by
 have H:(if a0 ≥ a1 then (some (decide (a0≤a2))) else (some false))=some r:=h;clear h;by_cases c4:a0 ≥ a1
 ·
  rw [if_pos c4] at H;have c4b0:decide (a1≤a0)=true:=decide_eq_true c4;clear c4;obtain rfl:=Option.some.inj H;go_enter Try.func53,Try.ntmps53;go_wp2;go_ret;exact ⟨by first|rfl|(simp;done)|(simp [*];done),by repeat (first|exact Drawn0.refl _|apply Drawn0.step)⟩
 ·
  rw [if_neg c4] at H;have c4b0:decide (a1≤a0)=false:=decide_eq_false c4;clear c4;obtain rfl:=Option.some.inj H;go_enter Try.func53,Try.ntmps53;go_wp2;go_ret;exact ⟨by first|rfl|(simp;done)|(simp [*];done),by repeat (first|exact Drawn0.refl _|apply Drawn0.step)⟩

set_option linter.unusedVariables false
set_option linter.unusedSimpArgs false
theorem l6In_eqT (a b c:Int) (r:Bool) (h:decide (b≤a∧a≤c)=r):Ql.f a b c=some r:=by
 subst h;unfold Ql.f;by_cases h:a ≥ b
 ·
  rw [if_pos h];have:(b≤a∧a≤c)↔a≤c:=⟨fun h=>h.2,fun h'=>⟨h,h'⟩⟩;simp [this]
 ·
  rw [if_neg h];have:¬ (b≤a∧a≤c):=fun h'=>h h'.1;simp [this]
theorem l6In_id (a:Int) (r:Bool) (h:decide (0≤a∧a≤254)=r):Ql.f a 0 254=some r:=l6In_eqT a 0 254 r h
def Qi.f (k:Nat) (l0:List S67):Option Bool:=some (prodsAll l0)
set_option maxHeartbeats 8000000 in
theorem Qi.calls (k:Nat) (A0:Option Addr) (c0:Nat) (l0:List (S67)) (r:Bool) (w:World) (a4:Kd.C k67 w A0 l0.length l0) (b5:l0.length≤c0) (h:Qi.f k l0=some r) :
  Calls Try.prog 38 #[.slice A0 l0.length c0] w fun e w'=>e = .returned (.bool r)∧Below w.heap.size w w':=by
 obtain rfl:=Option.some.inj h;clear h;have hmax:l0.length≤9223372036854775807:=a4.2.1;have HR:=zzm a4;have HB:=zzm (Below.refl w.heap.size w);clear a4;go_enter Try.func38,Try.ntmps38;go_wp2;go_loopw [3,4] (fun i i4 W=>∃ k:Nat,k≤l0.length∧i = .int .i64 k∧Aside0 (∀ j,j < k→prodAt l0 j=true)∧Aside0 (Below w.heap.size w W)) (fun i _ _=>l0.length - (intOf i).toNat)
 case atStart=>exact ⟨0,Nat.zero_le _,rfl,⟨fun j hj=>by omega⟩,HB⟩
 case round=>
  clear HB;obtain ⟨k,hk,rfl,HN,HB⟩:=hrel;by_cases hlt:k < l0.length
  ·
   obtain ⟨ad,he,a0,a1,a2⟩:=Q2 HR.out (k:Int) (by omega) (by omega);subst he;replace a0:=zzx HB.out a0;replace a1:=zzx HB.out a1;replace a2:=zzx HB.out a2;simp only [Int.toNat_natCast] at a0 a1 a2;have HP:Aside0 (prodAt l0 k=decide (((0≤(Qb l0 (k:Int)).f0∧(Qb l0 (k:Int)).f0≤254)∧(0≤(Qb l0 (k:Int)).f1∧(Qb l0 (k:Int)).f1≤99)∧(0≤(Qb l0 (k:Int)).f2∧(Qb l0 (k:Int)).f2≤99999))∧(0 < k→(Qb l0 ((k:Int) - 1)).f0 < (Qb l0 (k:Int)).f0))):=⟨rfl⟩;obtain ⟨p,hp⟩:∃ p,p=Qb l0 (k:Int):=⟨_,rfl⟩;simp only [← hp] at a0 a1 a2;rw [← hp] at HP;clear hp;obtain ⟨x,y,z⟩:=p;have HNO:=zzm (fun h=>prodsAll_no (l:=l0) hlt h);go_wp2_with ((with_reducible refine gate_dst (N:=4) rfl ?_);refine box_event ?hg (N:=4) ?hd (cs:=#[.int .i64 0,.int .i64 0,.int .i64 0]) (t:=67) ?hr ?_;(case hd=>rfl);(case hg=>rfl);(case hr=>first|(go_simp;done)|(go_simp;rfl));intro gb hg a9 hbox hb;have HB13:=zzm (zzp HB.out hb);have BK:=zzm hbox;have GE:=zzm (show w.heap.size≤gb by rw [hg];exact HB.out.size);clear hb hbox hg;have a6:=(zzk BK.out 0).trans rfl;have a7:=(zzk BK.out 1).trans rfl;have a8:=(zzk BK.out 2).trans rfl;have hf0:=zzl BK.out 0;have hf1:=zzl BK.out 1;have hf2:=zzl BK.out 2);have a3:=zzm (blk_set (blk_set (blk_set BK.out 0 (.int .i64 x)) 1 (.int .i64 y)) 2 (.int .i64 z));have HB2:=zzm (zzd (zzd (zzd HB13.out GE.out (j:=0) (v:=.int .i64 x)) GE.out (j:=1) (v:=.int .i64 y)) GE.out (j:=2) (v:=.int .i64 z));clear a6 a7 a8 hf0 hf1 hf2 BK HB13 a0 a1 a2 HB;generalize ((a9.setCell ⟨gb,0,none⟩ (.int .i64 x)).setCell ⟨gb,1,none⟩ (.int .i64 y)).setCell ⟨gb,2,none⟩ (.int .i64 z)=a5 at a3 HB2 ⊢;have d0:a5.cell? ⟨gb,0,none⟩=some (.int .i64 x):=(zzk a3.out 0).trans rfl;have d1:a5.cell? ⟨gb,1,none⟩=some (.int .i64 y):=(zzk a3.out 1).trans rfl;have d2:a5.cell? ⟨gb,2,none⟩=some (.int .i64 z):=(zzk a3.out 2).trans rfl;by_cases k0 : 0≤x∧x≤254
   ·
    have e0:=l6In_id x true (decide_eq_true k0);by_cases k1 : 0≤y∧y≤99
    ·
     have e1:=l6In_eqT y 0 99 true (decide_eq_true k1);by_cases k2 : 0≤z∧z≤99999
     ·
      have e2:=l6In_eqT z 0 99999 true (decide_eq_true k2);by_cases h0 : 0 < k
      ·
       obtain ⟨ad',he,hy0,_,_⟩:=Q2 HR.out ((k:Int) - 1) (by omega) (by omega);injection he with he;subst he;replace hy0:=(HB2.out.cell (zzn w _ hy0)).trans hy0;rw [show ((k:Int) - 1).toNat=k - 1 by omega] at hy0;generalize (Qb l0 ((k:Int) - 1)).f0=q at hy0 HP;have hk0:decide (0 < (k:Int))=true:=decide_eq_true (by omega);have hk1:decide (0 < k)=true:=decide_eq_true h0;have b0:IntKind.i64.wrap ((k:Int) - 1)=(k:Int) - 1:=IntWalk.i64_in _ (by omega);have b1:((k:Int) - 1).toNat=k - 1:=by omega
       have b2:(0≤(k:Int) - 1)=True:=eq_true (by omega);have b3:(1≤(k:Int))=True:=eq_true (by omega);have b4:((k:Int) - 1 < (l0.length:Int))=True:=eq_true (by omega);by_cases hge:x≤q
       ·
        have hge2:decide (x≤q)=true:=decide_eq_true hge;have HF:=zzm (HNO.out (by rw [HP.out];exact decide_eq_false (fun h=>by have:=h.2 h0;omega)));clear HNO HP k0 k1 k2;go_quiet ((first|(go_at_call 53;with_reducible exact quiet_drawn (Ql.calls x 0 254 true _ e0))|(go_at_call 53;with_reducible exact quiet_drawn (Ql.calls y 0 99 true _ e1))|(go_at_call 53;with_reducible exact quiet_drawn (Ql.calls z 0 99999 true _ e2))))
        go_wp2;go_ret;exact ⟨by rw [HF.out];rfl,zzb HB2.out _⟩
       ·
        have hge2:decide (x≤q)=false:=decide_eq_false hge;have HY:=zzm (show prodAt l0 k=true by rw [HP.out];exact decide_eq_true ⟨⟨k0,k1,k2⟩,fun _=>by omega⟩);clear HNO HP k0 k1 k2;go_quiet ((first|(go_at_call 53;with_reducible exact quiet_drawn (Ql.calls x 0 254 true _ e0))|(go_at_call 53;with_reducible exact quiet_drawn (Ql.calls y 0 99 true _ e1))|(go_at_call 53;with_reducible exact quiet_drawn (Ql.calls z 0 99999 true _ e2))))
        clear b0 b1 b2 b4 b3;go_wp2;go_roundw
        case rel=>exact ⟨k+1,by omega,by go_num,⟨fun j hj=>by by_cases e:j=k;(subst e;exact HY.out);exact HN.out j (by omega)⟩,⟨zzb HB2.out _⟩⟩
        case measure=>simp [intOf];omega
      ·
       have hk0:decide (0 < (k:Int))=false:=decide_eq_false (by omega);have hk1:decide (0 < k)=false:=decide_eq_false h0;have HY:=zzm (show prodAt l0 k=true by rw [HP.out];exact decide_eq_true ⟨⟨k0,k1,k2⟩,fun h=>absurd h h0⟩);clear HNO HP k0 k1 k2;go_quiet ((first|(go_at_call 53;with_reducible exact quiet_drawn (Ql.calls x 0 254 true _ e0))|(go_at_call 53;with_reducible exact quiet_drawn (Ql.calls y 0 99 true _ e1))|(go_at_call 53;with_reducible exact quiet_drawn (Ql.calls z 0 99999 true _ e2))))
       go_wp2;go_roundw
       case rel=>exact ⟨k+1,by omega,by go_num,⟨fun j hj=>by by_cases e:j=k;(subst e;exact HY.out);exact HN.out j (by omega)⟩,⟨zzb HB2.out _⟩⟩
       case measure=>simp [intOf];omega
     ·
      have e2:=l6In_eqT z 0 99999 false (decide_eq_false k2);have HF:=zzm (HNO.out (by rw [HP.out];exact decide_eq_false (fun h=>k2 h.1.2.2)));clear HNO HP k0 k1 k2;go_quiet ((first|(go_at_call 53;with_reducible exact quiet_drawn (Ql.calls x 0 254 true _ e0))|(go_at_call 53;with_reducible exact quiet_drawn (Ql.calls y 0 99 true _ e1))|(go_at_call 53;with_reducible exact quiet_drawn (Ql.calls z 0 99999 false _ e2))))
      go_wp2;go_ret;exact ⟨by rw [HF.out];rfl,zzb HB2.out _⟩
    ·
     have e1:=l6In_eqT y 0 99 false (decide_eq_false k1);have HF:=zzm (HNO.out (by rw [HP.out];exact decide_eq_false (fun h=>k1 h.1.2.1)));clear HNO HP k0 k1;go_quiet ((first|(go_at_call 53;with_reducible exact quiet_drawn (Ql.calls x 0 254 true _ e0))|(go_at_call 53;with_reducible exact quiet_drawn (Ql.calls y 0 99 false _ e1))))
     go_wp2;go_ret;exact ⟨by rw [HF.out];rfl,zzb HB2.out _⟩
   ·
    have e0:=l6In_id x false (decide_eq_false k0);have HF:=zzm (HNO.out (by rw [HP.out];exact decide_eq_false (fun h=>k0 h.1.1)));clear HNO HP k0;go_quiet ((go_at_call 53;with_reducible exact quiet_drawn (Ql.calls x 0 254 false _ e0)))
    go_wp2;go_ret;exact ⟨by rw [HF.out];rfl,zzb HB2.out _⟩
  ·
   have hk2:k=l0.length:=by omega
   have HA:Aside0 (∀ i,i < l0.length→prodAt l0 i=true):=⟨fun i hi=>HN.out i (by omega)⟩;by_cases hlen:l0.length≤20
   ·
    have HF:=zzm (show prodsAll l0=true by unfold prodsAll;rw [decide_eq_true hlen,Bool.true_and];exact decide_eq_true HA.out);have hlen2:decide ((l0.length:Int)≤20)=true:=decide_eq_true (by omega);go_wp2;go_ret;exact ⟨by rw [HF.out];rfl,HB.out⟩
   ·
    have HF:=zzm (prodsAll_long (l:=l0) (by omega));have hlen2:decide ((l0.length:Int)≤20)=false:=decide_eq_false (by omega);go_wp2;go_ret;exact ⟨by rw [HF.out];rfl,HB.out⟩

set_option linter.unusedVariables false
set_option linter.unusedSimpArgs false
def Q1.l0:Nat→List Int→Int→Option (Bool)
 | 0,_,_=>none
 | k+1,x0,x3=>if x3 < (x0.length:Int) then (if 0≤x3 then ((Ql.f (rd x0 x3) 0 255).bind fun t302=>(if t302=true then (Q1.l0 k x0 (wrap64 (x3+1))) else (some false))) else (none)) else (some true)
def Q1.f (k:Nat) (l0:List Int):Option (Bool):=Q1.l0 k l0 0
set_option maxHeartbeats 8000000 in
theorem Q1.calls (k:Nat) (A0:Option Addr) (c0:Nat) (l0:List Int) (r:Bool) (w:World) (a6:Kd.C (Kd.int .i64) w A0 l0.length l0) (a7:l0.length≤c0) (h:Q1.f k l0=some r) :
  Calls Try.prog 69 #[.slice A0 l0.length c0] w fun e w'=>e = .returned (.bool r)∧Drawn0 w w':=by
 have a8:=zzm a6;have b2:=zzm a7;clear a6 a7;have H:(Q1.l0 k l0 0)=some r:=h;clear h;have H':=zzm H;clear H;go_enter Try.func69,Try.ntmps69;go_wp2;go_loopg [3] k (fun kq v3 w'=>∃ (a0:Int),v3 = .int .i64 a0∧Aside0 (Q1.l0 kq l0 a0=some r)∧Aside0 (kq≤k)∧Drawn0 w w')
 case atStart=>exact ⟨(0),(by first|rfl|(simp;done)|(simp [*];done)),H',⟨Nat.le_refl _⟩,by repeat (first|exact Drawn0.refl _|apply Drawn0.step)⟩
 case round=>
  clear H';obtain ⟨a0,rfl,HA,HK1,⟨m1,rfl⟩⟩:=hrel;cases gk with
  | zero=>exact absurd HA.out (by simp [Q1.l0])
  | succ k1=>
   have H:=HA.out;clear HA;simp only [Q1.l0] at H;by_cases c2:a0 < (l0.length:Int)
   ·
    rw [if_pos c2] at H;have a9:decide (a0 < (l0.length:Int))=true:=decide_eq_true c2;clear c2;by_cases c3 : 0≤a0
    ·
     rw [if_pos c3] at H;have b1:decide (0≤a0)=true:=decide_eq_true c3;clear c3;obtain ⟨b0,A4,H⟩:=zzG H;by_cases c5:b0=true
     ·
      subst c5;replace H:=zzIt H;have H':=zzm H;clear H;have a1 : 0≤(a0:Int):=zzt;have a2:a0 < (l0.length:Int):=zzt;obtain ⟨a5,a3,a4⟩:=Kd.at_int a8.out a0 a1 a2;cases a3;replace a1:=eq_true a1;replace a2:=eq_true a2;go_wp2_with (first|((with_reducible refine gate_callee (f:=53) rfl ?_);refine goesL_ (some 14) rfl rfl Try.func53 (by kernel_rfl) rfl #[.int .i64 (rd l0 a0),.int .i64 0,.int .i64 255] rfl zzM2 ?_;(with_reducible refine (Ql.calls (rd l0 a0) 0 255 true _ A4.out).mono ?_);rintro e w' ⟨rfl,⟨nd,rfl⟩⟩;refine ⟨_,rfl,?_⟩));go_roundg k1
      case measure=>have:=HK1.out;omega
      case rel=>exact ⟨(wrap64 (a0+1)),(by first|rfl|(simp;done)|(simp [*];done)),H',⟨by have:=HK1.out;omega⟩,by repeat (first|exact Drawn0.refl _|apply Drawn0.step)⟩
     ·
      replace c5:=Bool.eq_false_iff.mpr c5;subst c5;replace H:=zzIf H;obtain rfl:=Option.some.inj H;have a1 : 0≤(a0:Int):=zzt;have a2:a0 < (l0.length:Int):=zzt;obtain ⟨a5,a3,a4⟩:=Kd.at_int a8.out a0 a1 a2;cases a3;replace a1:=eq_true a1;replace a2:=eq_true a2;go_wp2_with (first|((with_reducible refine gate_callee (f:=53) rfl ?_);refine goesL_ (some 14) rfl rfl Try.func53 (by kernel_rfl) rfl #[.int .i64 (rd l0 a0),.int .i64 0,.int .i64 255] rfl zzM2 ?_;(with_reducible refine (Ql.calls (rd l0 a0) 0 255 false _ A4.out).mono ?_);rintro e w' ⟨rfl,⟨nd,rfl⟩⟩;refine ⟨_,rfl,?_⟩));go_ret;exact ⟨by first|rfl|(simp;done)|(simp [*];done),by repeat (first|exact Drawn0.refl _|apply Drawn0.step)⟩
    ·
     rw [if_neg c3] at H;exact absurd H (by simp)
   ·
    rw [if_neg c2] at H;have a9:decide (a0 < (l0.length:Int))=false:=decide_eq_false c2;clear c2;obtain rfl:=Option.some.inj H;go_wp2;go_ret;exact ⟨by first|rfl|(simp;done)|(simp [*];done),by repeat (first|exact Drawn0.refl _|apply Drawn0.step)⟩

set_option linter.unusedVariables false
set_option linter.unusedSimpArgs false
def Rb.f (k:Nat) (a0:Bool) (l1:List Int):Option (Bool):=if a0=true then ((Q1.f k l1).bind fun t303=>(if t303=true then (some (decide ((l1.length:Int)≤12))) else (some false))) else (if (l1.length:Int)=0 then ((Q1.f k l1).bind fun t304=>(if t304=true then (some (decide ((l1.length:Int)≤12))) else (some false))) else (some false))
set_option maxHeartbeats 8000000 in
theorem Rb.calls (k:Nat) (a0:Bool) (A1:Option Addr) (c1:Nat) (l1:List Int) (r:Bool) (w:World) (a5:Kd.C (Kd.int .i64) w A1 l1.length l1) (a6:l1.length≤c1) (h:Rb.f k a0 l1=some r) :
  Calls Try.prog 68 #[.bool a0,.slice A1 l1.length c1] w fun e w'=>e = .returned (.bool r)∧Drawn0 w w':=by
 have a3:=zzm a5;have a4:=zzm a6;clear a5 a6;have H:(if a0=true then ((Q1.f k l1).bind fun a1=>(if a1=true then (some (decide ((l1.length:Int)≤12))) else (some false))) else (if (l1.length:Int)=0 then ((Q1.f k l1).bind fun a2=>(if a2=true then (some (decide ((l1.length:Int)≤12))) else (some false))) else (some false)))=some r:=h;clear h;by_cases c3:a0=true
 ·
  subst c3;replace H:=zzIt H;obtain ⟨a1,A4,H⟩:=zzG H;by_cases c5:a1=true
  ·
   subst c5;replace H:=zzIt H;obtain rfl:=Option.some.inj H;go_enter Try.func68,Try.ntmps68;go_wp2_with (first|(go_at_call 69;(with_reducible refine (Q1.calls k _ _ l1 true _ ?side1 ?side2 A4.out).mono ?_);(case side1=>repeat (first|exact a3.out|(with_reducible refine Kd.C_alloc ?_ _)|(with_reducible refine Kd.C_drewN ?_ _)|(with_reducible refine Kd.C_drew ?_)));(case side2=>exact a4.out);rintro e w' ⟨rfl,⟨nd,rfl⟩⟩));go_ret;exact ⟨by first|rfl|(simp;done)|(simp [*];done),by repeat (first|exact Drawn0.refl _|apply Drawn0.step)⟩
  ·
   replace c5:=Bool.eq_false_iff.mpr c5;subst c5;replace H:=zzIf H;obtain rfl:=Option.some.inj H;go_enter Try.func68,Try.ntmps68;go_wp2_with (first|(go_at_call 69;(with_reducible refine (Q1.calls k _ _ l1 false _ ?side1 ?side2 A4.out).mono ?_);(case side1=>repeat (first|exact a3.out|(with_reducible refine Kd.C_alloc ?_ _)|(with_reducible refine Kd.C_drewN ?_ _)|(with_reducible refine Kd.C_drew ?_)));(case side2=>exact a4.out);rintro e w' ⟨rfl,⟨nd,rfl⟩⟩));go_ret;exact ⟨by first|rfl|(simp;done)|(simp [*];done),by repeat (first|exact Drawn0.refl _|apply Drawn0.step)⟩
 ·
  replace c3:=Bool.eq_false_iff.mpr c3;subst c3;replace H:=zzIf H;by_cases c6:(l1.length:Int)=0
  ·
   rw [if_pos c6] at H;obtain ⟨a7,a8⟩:=zzQ c6;clear c6;obtain ⟨a2,A7,H⟩:=zzG H;by_cases c8:a2=true
   ·
    subst c8;replace H:=zzIt H;obtain rfl:=Option.some.inj H;go_enter Try.func68,Try.ntmps68;go_wp2_with (first|(go_at_call 69;(with_reducible refine (Q1.calls k _ _ l1 true _ ?side1 ?side2 A7.out).mono ?_);(case side1=>repeat (first|exact a3.out|(with_reducible refine Kd.C_alloc ?_ _)|(with_reducible refine Kd.C_drewN ?_ _)|(with_reducible refine Kd.C_drew ?_)));(case side2=>exact a4.out);rintro e w' ⟨rfl,⟨nd,rfl⟩⟩));go_ret;exact ⟨by first|rfl|(simp;done)|(simp [*];done),by repeat (first|exact Drawn0.refl _|apply Drawn0.step)⟩
   ·
    replace c8:=Bool.eq_false_iff.mpr c8;subst c8;replace H:=zzIf H;obtain rfl:=Option.some.inj H;go_enter Try.func68,Try.ntmps68;go_wp2_with (first|(go_at_call 69;(with_reducible refine (Q1.calls k _ _ l1 false _ ?side1 ?side2 A7.out).mono ?_);(case side1=>repeat (first|exact a3.out|(with_reducible refine Kd.C_alloc ?_ _)|(with_reducible refine Kd.C_drewN ?_ _)|(with_reducible refine Kd.C_drew ?_)));(case side2=>exact a4.out);rintro e w' ⟨rfl,⟨nd,rfl⟩⟩));go_ret;exact ⟨by first|rfl|(simp;done)|(simp [*];done),by repeat (first|exact Drawn0.refl _|apply Drawn0.step)⟩
  ·
   rw [if_neg c6] at H;obtain ⟨a7,a8⟩:=zzY c6;have a9:¬ (l1 = []):=fun h_=>c6 (by rw [h_];rfl);obtain rfl:=Option.some.inj H;go_enter Try.func68,Try.ntmps68;go_wp2;go_ret;exact ⟨by first|rfl|(simp;done)|(simp [*];done),by repeat (first|exact Drawn0.refl _|apply Drawn0.step)⟩

set_option linter.unusedVariables false
set_option linter.unusedSimpArgs false
def Q6.f (k:Nat) (a0_0:Int) (a0_1:Int) (a0_2:Bool) (l0_3:List Int) (a0_4:Bool) (l0_5:List Int):Option (Bool):=(Ql.f a0_0 0 99999).bind fun t306=>(if t306=true then ((Ql.f a0_1 0 99999).bind fun t307=>(if t307=true then ((Rb.f k a0_2 l0_3).bind fun t308=>(if t308=true then ((Rb.f k a0_4 l0_5).bind fun t309=>(some t309)) else (some false))) else (some false))) else (some false))
set_option maxHeartbeats 8000000 in
theorem Q6.calls (k:Nat) (a0:Int) (a4:Int) (a5:Bool) (b2:Option Addr) (b3:Nat) (a2:List Int) (a7:Bool) (b4:Option Addr) (b5:Nat) (a3:List Int) (r:Bool) (w:World) (c2:Kd.C (Kd.int .i64) w b2 a2.length a2) (c4:a2.length≤b3) (c6:Kd.C (Kd.int .i64) w b4 a3.length a3) (c8:a3.length≤b5) (h:Q6.f k a0 a4 a5 a2 a7 a3=some r) :
  Calls Try.prog 66 #[.agg #[.int .i64 a0,.int .i64 a4,.bool a5,.slice b2 a2.length b3,.bool a7,.slice b4 a3.length b5]] w fun e w'=>e = .returned (.bool r)∧Below w.heap.size w w':=by
 have hu75:=Try.underlying75;have c9:=zzm c2;have d0:=zzm c4;clear c2 c4;have d1:=zzm c6;have d2:=zzm c8;clear c6 c8;have HB:=zzm (Below.refl w.heap.size w);have H:((Ql.f a0 0 99999).bind fun b8=>(if b8=true then ((Ql.f a4 0 99999).bind fun b9=>(if b9=true then ((Rb.f k a5 a2).bind fun c0=>(if c0=true then ((Rb.f k a7 a3).bind fun c1=>(some c1)) else (some false))) else (some false))) else (some false)))=some r:=h;clear h;obtain ⟨b8,A2,H⟩:=zzG H;by_cases c3:b8=true
 ·
  subst c3;replace H:=zzIt H;obtain ⟨b9,A4,H⟩:=zzG H;by_cases c5:b9=true
  ·
   subst c5;replace H:=zzIt H;obtain ⟨c0,A6,H⟩:=zzG H;by_cases c7:c0=true
   ·
    subst c7;replace H:=zzIt H;obtain ⟨c1,A8,H⟩:=zzG H;obtain rfl:=Option.some.inj H;go_enter Try.func66,Try.ntmps66;go_wp2_with (first|((with_reducible refine gate_dst (N:=1) rfl ?_);refine box_event ?hg (N:=1) ?hd (cs:=#[.int .i64 a0,.int .i64 a4,.bool a5,.slice b2 a2.length b3,.bool a7,.slice b4 a3.length b5]) (t:=75) ?hr ?_;(case hd=>rfl);(case hg=>rfl);(case hr=>first|(go_simp;done)|(go_simp;rfl));intro a1 hg w9 hbox hb;have a8:=zzm (zzp zzh1 hb);have a9:=zzm (hbox);have b0:=zzm ((by rw [hg];exact (zzo zzh1):w.heap.size≤a1));have b1:=zzm ((by rw [hg];exact (zzo zzh1):w.heap.size≤a1));clear HB;have HB:=a8;have a6:=a9;have b6:=b0;have b7:=b1;clear a8 a9 b0 b1 hb hbox hg;obtain ⟨d3,d4,d5,d6,d7,d8,d9,e0,e1,e2,e3,e4⟩:=zzc6 a6.out)|((with_reducible refine gate_callee (f:=53) rfl ?_);refine goesL_ (some 5) rfl rfl Try.func53 (by kernel_rfl) rfl #[.int .i64 a0,.int .i64 0,.int .i64 99999] rfl zzM2 ?_;(with_reducible refine (Ql.calls a0 0 99999 true _ A2.out).mono ?_);rintro e w' ⟨rfl,⟨nd,rfl⟩⟩;refine ⟨_,rfl,?_⟩)|(go_at_call 53;(with_reducible refine (Ql.calls a4 0 99999 true _ A4.out).mono ?_);rintro e w' ⟨rfl,⟨nd,rfl⟩⟩)|(go_at_call 68;(with_reducible refine (Rb.calls k a5 _ _ a2 true _ ?side1 ?side2 A6.out).mono ?_);(case side1=>repeat (first|exact (Kd.C_below c9.out zzh2)|(with_reducible refine Kd.C_alloc ?_ _)|(with_reducible refine Kd.C_drewN ?_ _)|(with_reducible refine Kd.C_drew ?_)));(case side2=>exact d0.out);rintro e w' ⟨rfl,⟨nd,rfl⟩⟩)|(go_at_call 68;(with_reducible refine (Rb.calls k a7 _ _ a3 c1 _ ?side1 ?side2 A8.out).mono ?_);(case side1=>repeat (first|exact (Kd.C_below d1.out zzh2)|(with_reducible refine Kd.C_alloc ?_ _)|(with_reducible refine Kd.C_drewN ?_ _)|(with_reducible refine Kd.C_drew ?_)));(case side2=>exact d2.out);rintro e w' ⟨rfl,⟨nd,rfl⟩⟩));go_ret;exact ⟨zzR,zzh3⟩
   ·
    replace c7:=Bool.eq_false_iff.mpr c7;subst c7;replace H:=zzIf H;obtain rfl:=Option.some.inj H;go_enter Try.func66,Try.ntmps66;go_wp2_with (first|((with_reducible refine gate_dst (N:=1) rfl ?_);refine box_event ?hg (N:=1) ?hd (cs:=#[.int .i64 a0,.int .i64 a4,.bool a5,.slice b2 a2.length b3,.bool a7,.slice b4 a3.length b5]) (t:=75) ?hr ?_;(case hd=>rfl);(case hg=>rfl);(case hr=>first|(go_simp;done)|(go_simp;rfl));intro a1 hg k4 hbox hb;have a8:=zzm (zzp zzh1 hb);have a9:=zzm (hbox);have b0:=zzm ((by rw [hg];exact (zzo zzh1):w.heap.size≤a1));have b1:=zzm ((by rw [hg];exact (zzo zzh1):w.heap.size≤a1));clear HB;have HB:=a8;have a6:=a9;have b6:=b0;have b7:=b1;clear a8 a9 b0 b1 hb hbox hg;obtain ⟨e5,e6,e7,e8,e9,g0,g1,g2,g3,g4,g5,g6⟩:=zzc6 a6.out)|((with_reducible refine gate_callee (f:=53) rfl ?_);refine goesL_ (some 5) rfl rfl Try.func53 (by kernel_rfl) rfl #[.int .i64 a0,.int .i64 0,.int .i64 99999] rfl zzM2 ?_;(with_reducible refine (Ql.calls a0 0 99999 true _ A2.out).mono ?_);rintro e w' ⟨rfl,⟨nd,rfl⟩⟩;refine ⟨_,rfl,?_⟩)|(go_at_call 53;(with_reducible refine (Ql.calls a4 0 99999 true _ A4.out).mono ?_);rintro e w' ⟨rfl,⟨nd,rfl⟩⟩)|(go_at_call 68;(with_reducible refine (Rb.calls k a5 _ _ a2 false _ ?side1 ?side2 A6.out).mono ?_);(case side1=>repeat (first|exact (Kd.C_below c9.out zzh2)|(with_reducible refine Kd.C_alloc ?_ _)|(with_reducible refine Kd.C_drewN ?_ _)|(with_reducible refine Kd.C_drew ?_)));(case side2=>exact d0.out);rintro e w' ⟨rfl,⟨nd,rfl⟩⟩));go_ret;exact ⟨zzR,zzh3⟩
  ·
   replace c5:=Bool.eq_false_iff.mpr c5;subst c5;replace H:=zzIf H;obtain rfl:=Option.some.inj H;go_enter Try.func66,Try.ntmps66;go_wp2_with (first|((with_reducible refine gate_dst (N:=1) rfl ?_);refine box_event ?hg (N:=1) ?hd (cs:=#[.int .i64 a0,.int .i64 a4,.bool a5,.slice b2 a2.length b3,.bool a7,.slice b4 a3.length b5]) (t:=75) ?hr ?_;(case hd=>rfl);(case hg=>rfl);(case hr=>first|(go_simp;done)|(go_simp;rfl));intro a1 hg k5 hbox hb;have a8:=zzm (zzp zzh1 hb);have a9:=zzm (hbox);have b0:=zzm ((by rw [hg];exact (zzo zzh1):w.heap.size≤a1));have b1:=zzm ((by rw [hg];exact (zzo zzh1):w.heap.size≤a1));clear HB;have HB:=a8;have a6:=a9;have b6:=b0;have b7:=b1;clear a8 a9 b0 b1 hb hbox hg;obtain ⟨g7,g8,g9,h0,h1,h2,h3,h4,h5,h6,h7,h8⟩:=zzc6 a6.out)|((with_reducible refine gate_callee (f:=53) rfl ?_);refine goesL_ (some 5) rfl rfl Try.func53 (by kernel_rfl) rfl #[.int .i64 a0,.int .i64 0,.int .i64 99999] rfl zzM2 ?_;(with_reducible refine (Ql.calls a0 0 99999 true _ A2.out).mono ?_);rintro e w' ⟨rfl,⟨nd,rfl⟩⟩;refine ⟨_,rfl,?_⟩)|(go_at_call 53;(with_reducible refine (Ql.calls a4 0 99999 false _ A4.out).mono ?_);rintro e w' ⟨rfl,⟨nd,rfl⟩⟩));go_ret;exact ⟨zzR,zzh3⟩
 ·
  replace c3:=Bool.eq_false_iff.mpr c3;subst c3;replace H:=zzIf H;obtain rfl:=Option.some.inj H;go_enter Try.func66,Try.ntmps66;go_wp2_with (first|((with_reducible refine gate_dst (N:=1) rfl ?_);refine box_event ?hg (N:=1) ?hd (cs:=#[.int .i64 a0,.int .i64 a4,.bool a5,.slice b2 a2.length b3,.bool a7,.slice b4 a3.length b5]) (t:=75) ?hr ?_;(case hd=>rfl);(case hg=>rfl);(case hr=>first|(go_simp;done)|(go_simp;rfl));intro a1 hg k6 hbox hb;have a8:=zzm (zzp zzh1 hb);have a9:=zzm (hbox);have b0:=zzm ((by rw [hg];exact (zzo zzh1):w.heap.size≤a1));have b1:=zzm ((by rw [hg];exact (zzo zzh1):w.heap.size≤a1));clear HB;have HB:=a8;have a6:=a9;have b6:=b0;have b7:=b1;clear a8 a9 b0 b1 hb hbox hg;obtain ⟨h9,j3,j4,j5,j6,j7,j8,j9,k0,k1,k2,k3⟩:=zzc6 a6.out)|((with_reducible refine gate_callee (f:=53) rfl ?_);refine goesL_ (some 5) rfl rfl Try.func53 (by kernel_rfl) rfl #[.int .i64 a0,.int .i64 0,.int .i64 99999] rfl zzM2 ?_;(with_reducible refine (Ql.calls a0 0 99999 false _ A2.out).mono ?_);rintro e w' ⟨rfl,⟨nd,rfl⟩⟩;refine ⟨_,rfl,?_⟩));go_ret;exact ⟨zzR,zzh3⟩

set_option linter.unusedVariables false
set_option linter.unusedSimpArgs false
def Qf.l0:Nat→List (S75)→Int→Option (Bool)
 | 0,_,_=>none
 | k+1,x0,x3=>if x3 < (x0.length:Int) then (if 0≤x3 then ((Q6.f k ((Qa x0 x3).f0) ((Qa x0 x3).f1) ((Qa x0 x3).f2) ((Qa x0 x3).f3) ((Qa x0 x3).f4) ((Qa x0 x3).f5)).bind fun t311=>(if t311=true then (if x3 > 0 then (if 0≤(wrap64 (x3 - 1)) then (if (wrap64 (x3 - 1)) < (x0.length:Int) then (if ((Qa x0 (wrap64 (x3 - 1))).f0) ≥ ((Qa x0 x3).f0) then (some false) else (Qf.l0 k x0 (wrap64 (x3+1)))) else (none)) else (none)) else (Qf.l0 k x0 (wrap64 (x3+1)))) else (some false))) else (none)) else ((Ql.f (x0.length:Int) 1 6).bind fun t314=>(some t314))
def Qf.f (k:Nat) (l0:List (S75)):Option (Bool):=Qf.l0 k l0 0
def Qf.T4:Bool×List (List Nat×List Nat):=(true,[([],[]),([],[]),([0,1],[0,1]),([2],[2]),([3],[3]),([4],[4]),([5,4],[5]),([6],[6]),([7,6],[6,7]),([8,6,6],[6,8]),([9],[9]),([9],[9]),([11,9],[9,11]),([10,12,9],[9,10,12]),([13,9],[9,13]),([14,9],[9,14]),([9],[9]),([9],[9]),([16,17,9],[9,16,17]),([18,9],[9,18]),([19,9],[9,19]),([15,20,9],[9,15,20]),([9,21,6],[6,9,21]),([6,22],[6,22])])
def Qf.B4:List Nat:=[0,0,3,7,15,31,63,127,255,511,1023,1023,3071,8191,16383,32767,1023,1023,197631,459775,984063,2097151,4194303,8388607]
theorem Qf.tab4:rtab .any (opsOf Try.f60 4)=Qf.T4:=by kernel_rfl
theorem Qf.bits4:waitsOk Qf.T4.2 Qf.B4=true:=by kernel_rfl
set_option maxHeartbeats 8000000 in
theorem Qf.calls (k:Nat) (A0:Option Addr) (c0:Nat) (l0:List (S75)) (r:Bool) (w:World) (m5:Kd.C k75 w A0 l0.length l0) (m6:l0.length≤c0) (h:Qf.f k l0=some r) :
  Calls Try.prog 60 #[.slice A0 l0.length c0] w fun e w'=>e = .returned (.bool r)∧Below w.heap.size w w':=by
 have hu75:=Try.underlying75;have k5:=zzm m5;have n5:=zzm m6;clear m5 m6;have HB:=zzm (Below.refl w.heap.size w);have H:(Qf.l0 k l0 0)=some r:=h;clear h;have H':=zzm H;clear H;go_enter Try.func60,Try.ntmps60;go_wp2;go_loopg [3] k (fun kq v3 w'=>∃ (a0:Int),v3 = .int .i64 a0∧Aside0 (Qf.l0 kq l0 a0=some r)∧Aside0 (kq≤k)∧Aside0 (Below w.heap.size w w'))
 case atStart=>exact ⟨(0),(by first|rfl|(simp;done)|(simp [*];done)),H',⟨Nat.le_refl _⟩,⟨zzh1⟩⟩
 case round=>
  clear H';obtain ⟨a0,rfl,HA,HK1,HB⟩:=hrel;cases gk with
  | zero=>exact absurd HA.out (by simp [Qf.l0])
  | succ k1=>
   have H:=HA.out;clear HA;simp only [Qf.l0] at H;by_cases c2:a0 < (l0.length:Int)
   ·
    rw [if_pos c2] at H;have m7:decide (a0 < (l0.length:Int))=true:=decide_eq_true c2;clear c2;by_cases c3 : 0≤a0
    ·
     rw [if_pos c3] at H;have n2:decide (0≤a0)=true:=decide_eq_true c3;clear c3;obtain ⟨m8,A4,H⟩:=zzG H;by_cases c5:m8=true
     ·
      subst c5;replace H:=zzIt H;by_cases c6:a0 > 0
      ·
       rw [if_pos c6] at H;have m9:decide (0 < a0)=true:=decide_eq_true c6;clear c6;obtain ⟨a3,hji7⟩:∃ j_:Int,(wrap64 (a0 - 1))=j_:=⟨_,rfl⟩;replace H:(if 0≤(a3) then (if (a3) < (l0.length:Int) then (if ((Qa l0 (a3)).f0) ≥ ((Qa l0 a0).f0) then (some false) else (Qf.l0 k1 l0 (wrap64 (a0+1)))) else (none)) else (none))=some r:=by first|(rw [hji7] at H;exact H)|(simp only [hji7] at H ⊢;exact H)
       (try rw [hji7] at A4);have hji7w:(IntKind.i64.wrap (a0 - 1))=a3:=(i64_w _).trans hji7;by_cases c8 : 0≤(a3)
       ·
        rw [if_pos c8] at H;have n3:decide (0≤(a3))=true:=decide_eq_true c8;clear c8;by_cases c9:(a3) < (l0.length:Int)
        ·
         rw [if_pos c9] at H;have n4:decide ((a3) < (l0.length:Int))=true:=decide_eq_true c9;clear c9;by_cases l5:((Qa l0 (a3)).f0) ≥ ((Qa l0 a0).f0)
         ·
          rw [if_pos l5] at H;have m4:decide (((Qa l0 a0).f0)≤((Qa l0 (a3)).f0))=true:=decide_eq_true l5;clear l5;obtain rfl:=Option.some.inj H;try go_wp2
          have d0:=zzm (zzc HB.out);clear HB;have HB:=d0;clear d0;have e7 : 0≤(a0:Int):=zzt;have e8:a0 < (l0.length:Int):=zzt;obtain ⟨a1,d1,d2,d3,d4,j5,a4,a5,a6,a7,a8,a9,b1,b2,b3,b4⟩:=Rk k5.out a0 e7 e8;have b5:=a9;have b6:=a8;have b7:=a7;have b8:=a6;have b9:=a5;have c1:=a4;cases j5;replace a4:=zzx HB.out a4;replace a5:=zzx HB.out a5;replace a6:=zzx HB.out a6;replace a7:=zzx HB.out a7;replace a8:=zzx HB.out a8;replace a9:=zzx HB.out a9;have c4:=zzm b2;have e9:=zzm b1;clear b2 b1;have c7:=zzm b4;have g0:=zzm b3;clear b4 b3;replace e7:=eq_true e7;replace e8:=eq_true e8;have j6 : 0≤((a3):Int):=zzt;have j7:(a3) < (l0.length:Int):=zzt;obtain ⟨l6,k6,k7,k8,k9,l8,d5,d6,d7,d8,d9,e0,g1,g2,g3,g4⟩:=Rk k5.out (a3) j6 j7;have g5:=e0;have g6:=d9;have g7:=d8;have g8:=d7;have g9:=d6;have h0:=d5;obtain rfl:a1=l6:=(by injection l8);replace d5:=zzx HB.out d5;replace d6:=zzx HB.out d6;replace d7:=zzx HB.out d7;replace d8:=zzx HB.out d8;replace d9:=zzx HB.out d9;replace e0:=zzx HB.out e0;have k0:=zzm g2;have m0:=zzm g1;clear g2 g1;have k2:=zzm g4;have m1:=zzm g3;clear g4 g3;replace j6:=eq_true j6;replace j7:=eq_true j7;have j8 : 0≤(a0:Int):=zzt;have j9:a0 < (l0.length:Int):=zzt;obtain ⟨l7,l1,l2,l3,l4,l9,e1,e2,e3,e4,e5,e6,h1,h2,h3,h4⟩:=Rk k5.out a0 j8 j9;have h5:=e6;have h6:=e5;have h7:=e4;have h8:=e3;have h9:=e2;have j3:=e1;obtain rfl:a1=l7:=(by injection l9);replace e1:=zzx HB.out e1;replace e2:=zzx HB.out e2;replace e3:=zzx HB.out e3;replace e4:=zzx HB.out e4;replace e5:=zzx HB.out e5;replace e6:=zzx HB.out e6;have k3:=zzm h2;have m2:=zzm h1;clear h2 h1;have k4:=zzm h4;have m3:=zzm h3;clear h4 h3;replace j8:=eq_true j8;replace j9:=eq_true j9;refine start_ (n:=24) (S:=fun w'=>w'.cell? (a1.add ((a0).toNat * 6))=some (.int .i64 ((Qa l0 a0).f0))∧w'.cell? ⟨(a1.add ((a0).toNat * 6)).block,(a1.add ((a0).toNat * 6)).off+1,none⟩=some (.int .i64 ((Qa l0 a0).f1))∧w'.cell? ⟨(a1.add ((a0).toNat * 6)).block,(a1.add ((a0).toNat * 6)).off+2,none⟩=some (.bool ((Qa l0 a0).f2))∧w'.cell? ⟨(a1.add ((a0).toNat * 6)).block,(a1.add ((a0).toNat * 6)).off+3,none⟩=some (.slice d1 ((Qa l0 a0).f3).length d2)∧w'.cell? ⟨(a1.add ((a0).toNat * 6)).block,(a1.add ((a0).toNat * 6)).off+4,none⟩=some (.bool ((Qa l0 a0).f4))∧w'.cell? ⟨(a1.add ((a0).toNat * 6)).block,(a1.add ((a0).toNat * 6)).off+5,none⟩=some (.slice d3 ((Qa l0 a0).f5).length d4)∧w'.cell? (a1.add (((a3)).toNat * 6))=some (.int .i64 ((Qa l0 (a3)).f0))∧w'.cell? ⟨(a1.add (((a3)).toNat * 6)).block,(a1.add (((a3)).toNat * 6)).off+1,none⟩=some (.int .i64 ((Qa l0 (a3)).f1))∧w'.cell? ⟨(a1.add (((a3)).toNat * 6)).block,(a1.add (((a3)).toNat * 6)).off+2,none⟩=some (.bool ((Qa l0 (a3)).f2))∧w'.cell? ⟨(a1.add (((a3)).toNat * 6)).block,(a1.add (((a3)).toNat * 6)).off+3,none⟩=some (.slice k6 ((Qa l0 (a3)).f3).length k7)∧w'.cell? ⟨(a1.add (((a3)).toNat * 6)).block,(a1.add (((a3)).toNat * 6)).off+4,none⟩=some (.bool ((Qa l0 (a3)).f4))∧w'.cell? ⟨(a1.add (((a3)).toNat * 6)).block,(a1.add (((a3)).toNat * 6)).off+5,none⟩=some (.slice k8 ((Qa l0 (a3)).f5).length k9)∧w'.cell? (a1.add ((a0).toNat * 6))=some (.int .i64 ((Qa l0 a0).f0))∧w'.cell? ⟨(a1.add ((a0).toNat * 6)).block,(a1.add ((a0).toNat * 6)).off+1,none⟩=some (.int .i64 ((Qa l0 a0).f1))∧w'.cell? ⟨(a1.add ((a0).toNat * 6)).block,(a1.add ((a0).toNat * 6)).off+2,none⟩=some (.bool ((Qa l0 a0).f2))∧w'.cell? ⟨(a1.add ((a0).toNat * 6)).block,(a1.add ((a0).toNat * 6)).off+3,none⟩=some (.slice l1 ((Qa l0 a0).f3).length l2)∧w'.cell? ⟨(a1.add ((a0).toNat * 6)).block,(a1.add ((a0).toNat * 6)).off+4,none⟩=some (.bool ((Qa l0 a0).f4))∧w'.cell? ⟨(a1.add ((a0).toNat * 6)).block,(a1.add ((a0).toNat * 6)).off+5,none⟩=some (.slice l3 ((Qa l0 a0).f5).length l4)) (ds:=[]) (zzB 24 0) (by kernel_rfl) rfl rfl ⟨(zzx HB.out c1),(zzx HB.out b9),(zzx HB.out b8),(zzx HB.out b7),(zzx HB.out b6),(zzx HB.out b5),(zzx HB.out h0),(zzx HB.out g9),(zzx HB.out g8),(zzx HB.out g7),(zzx HB.out g6),(zzx HB.out g5),(zzx HB.out j3),(zzx HB.out h9),(zzx HB.out h8),(zzx HB.out h7),(zzx HB.out h6),(zzx HB.out h5)⟩ (fun b0=>?_);refine with_tabW Qf.tab4 Qf.bits4 (fun a2 j4=>?_);generalize wr.drew=n6 at HB c4 c7 k0 k2 k3 k4 a4 a5 a6 a7 a8 a9 d5 d6 d7 d8 d9 e0 e1 e2 e3 e4 e5 e6 b0 ⊢;refine zzP 0 10 24 1 a2 ?_
          refine zzP 1 11 24 3 a2 ?_
          refine zzP 2 12 24 7 a2 ?_
          refine zzT 3 13 24 15 a2 j4 b0 ?_
          refine one_ (i:=4) (N:=some 14) (zzB 24 31) rfl rfl (one_of a2.out (by kernel_rfl)) (by decide) (fun K hK=>?_);refine goes_ Try.func66 (by kernel_rfl) rfl #[.agg #[.int .i64 ((Qa l0 a0).f0),.int .i64 ((Qa l0 a0).f1),.bool ((Qa l0 a0).f2),.slice d1 ((Qa l0 a0).f3).length d2,.bool ((Qa l0 a0).f4),.slice d3 ((Qa l0 a0).f5).length d4]] (by rfl) rfl rfl zzM2 ?_;with_reducible refine (Q6.calls k1 ((Qa l0 a0).f0) ((Qa l0 a0).f1) ((Qa l0 a0).f2) _ _ ((Qa l0 a0).f3) ((Qa l0 a0).f4) _ _ ((Qa l0 a0).f5) true _ ?side1 ?side2 ?side3 ?side4 A4.out).mono ?_
          (case side1=>exact zzcb c4 HB)
          (case side2=>exact e9.out)
          (case side3=>exact zzcb c7 HB)
          (case side4=>exact g0.out);rintro e n7 ⟨rfl,hb⟩;refine ⟨_,rfl,?_⟩;have d0:=zzm (zzp zzh1 hb);clear HB;have HB:=d0;clear d0
          (try clear hb)
          (try clear hb2)
          (try clear hk)
          (try clear hi);refine hK.out _ _ ⟨(zzx HB.out c1),(zzx HB.out b9),(zzx HB.out b8),(zzx HB.out b7),(zzx HB.out b6),(zzx HB.out b5),(zzx HB.out h0),(zzx HB.out g9),(zzx HB.out g8),(zzx HB.out g7),(zzx HB.out g6),(zzx HB.out g5),(zzx HB.out j3),(zzx HB.out h9),(zzx HB.out h8),(zzx HB.out h7),(zzx HB.out h6),(zzx HB.out h5)⟩ (fun b0=>?_);clear hK K;refine zzO 14 ?_
          refine zzP 5 15 24 63 a2 ?_
          refine zzP 6 16 24 127 a2 ?_
          refine zzP 7 17 24 255 a2 ?_
          refine zzP 8 18 24 511 a2 ?_
          refine zzP 9 19 24 1023 a2 ?_
          refine zzP 10 20 24 2047 a2 ?_
          refine zzP 11 21 24 4095 a2 ?_
          refine zzP 12 22 24 8191 a2 ?_
          refine zzP 13 23 24 16383 a2 ?_
          refine zzP 14 24 24 32767 a2 ?_
          refine zzP 16 26 24 98303 a2 ?_
          refine zzP 17 27 24 229375 a2 ?_
          refine zzP 18 28 24 491519 a2 ?_
          refine zzP 19 29 24 1015807 a2 ?_
          refine zzT 15 25 24 1048575 a2 j4 b0 ?_
          refine zzT 20 30 24 2097151 a2 j4 b0 ?_
          refine zzP 21 31 24 4194303 a2 ?_
          refine zzP 22 32 24 8388607 a2 ?_
          refine zzP 23 33 24 16777215 a2 ?_
          refine done_ (done_of a2.out (by kernel_rfl)) ?_;try go_wp2
          go_ret;exact ⟨by first|rfl|(simp [errW_none,errW_some] <;> rfl)|(simp only [← hji7];first|rfl|(simp [errW_none,errW_some] <;> rfl))|(simp [*,errW_none,errW_some] <;> rfl),zzh1⟩
         ·
          rw [if_neg l5] at H;have m4:decide (((Qa l0 a0).f0)≤((Qa l0 (a3)).f0))=false:=decide_eq_false l5;clear l5;have H':=zzm H;clear H;try go_wp2
          have d0:=zzm (zzc HB.out);clear HB;have HB:=d0;clear d0;have e7 : 0≤(a0:Int):=zzt;have e8:a0 < (l0.length:Int):=zzt;obtain ⟨a1,d1,d2,d3,d4,j5,a4,a5,a6,a7,a8,a9,b1,b2,b3,b4⟩:=Rk k5.out a0 e7 e8;have b5:=a9;have b6:=a8;have b7:=a7;have b8:=a6;have b9:=a5;have c1:=a4;cases j5;replace a4:=zzx HB.out a4;replace a5:=zzx HB.out a5;replace a6:=zzx HB.out a6;replace a7:=zzx HB.out a7;replace a8:=zzx HB.out a8;replace a9:=zzx HB.out a9;have c4:=zzm b2;have e9:=zzm b1;clear b2 b1;have c7:=zzm b4;have g0:=zzm b3;clear b4 b3;replace e7:=eq_true e7;replace e8:=eq_true e8;have j6 : 0≤((a3):Int):=zzt;have j7:(a3) < (l0.length:Int):=zzt;obtain ⟨l6,k6,k7,k8,k9,l8,d5,d6,d7,d8,d9,e0,g1,g2,g3,g4⟩:=Rk k5.out (a3) j6 j7;have g5:=e0;have g6:=d9;have g7:=d8;have g8:=d7;have g9:=d6;have h0:=d5;obtain rfl:a1=l6:=(by injection l8);replace d5:=zzx HB.out d5;replace d6:=zzx HB.out d6;replace d7:=zzx HB.out d7;replace d8:=zzx HB.out d8;replace d9:=zzx HB.out d9;replace e0:=zzx HB.out e0;have k0:=zzm g2;have m0:=zzm g1;clear g2 g1;have k2:=zzm g4;have m1:=zzm g3;clear g4 g3;replace j6:=eq_true j6;replace j7:=eq_true j7;have j8 : 0≤(a0:Int):=zzt;have j9:a0 < (l0.length:Int):=zzt;obtain ⟨l7,l1,l2,l3,l4,l9,e1,e2,e3,e4,e5,e6,h1,h2,h3,h4⟩:=Rk k5.out a0 j8 j9;have h5:=e6;have h6:=e5;have h7:=e4;have h8:=e3;have h9:=e2;have j3:=e1;obtain rfl:a1=l7:=(by injection l9);replace e1:=zzx HB.out e1;replace e2:=zzx HB.out e2;replace e3:=zzx HB.out e3;replace e4:=zzx HB.out e4;replace e5:=zzx HB.out e5;replace e6:=zzx HB.out e6;have k3:=zzm h2;have m2:=zzm h1;clear h2 h1;have k4:=zzm h4;have m3:=zzm h3;clear h4 h3;replace j8:=eq_true j8;replace j9:=eq_true j9;refine start_ (n:=24) (S:=fun w'=>w'.cell? (a1.add ((a0).toNat * 6))=some (.int .i64 ((Qa l0 a0).f0))∧w'.cell? ⟨(a1.add ((a0).toNat * 6)).block,(a1.add ((a0).toNat * 6)).off+1,none⟩=some (.int .i64 ((Qa l0 a0).f1))∧w'.cell? ⟨(a1.add ((a0).toNat * 6)).block,(a1.add ((a0).toNat * 6)).off+2,none⟩=some (.bool ((Qa l0 a0).f2))∧w'.cell? ⟨(a1.add ((a0).toNat * 6)).block,(a1.add ((a0).toNat * 6)).off+3,none⟩=some (.slice d1 ((Qa l0 a0).f3).length d2)∧w'.cell? ⟨(a1.add ((a0).toNat * 6)).block,(a1.add ((a0).toNat * 6)).off+4,none⟩=some (.bool ((Qa l0 a0).f4))∧w'.cell? ⟨(a1.add ((a0).toNat * 6)).block,(a1.add ((a0).toNat * 6)).off+5,none⟩=some (.slice d3 ((Qa l0 a0).f5).length d4)∧w'.cell? (a1.add (((a3)).toNat * 6))=some (.int .i64 ((Qa l0 (a3)).f0))∧w'.cell? ⟨(a1.add (((a3)).toNat * 6)).block,(a1.add (((a3)).toNat * 6)).off+1,none⟩=some (.int .i64 ((Qa l0 (a3)).f1))∧w'.cell? ⟨(a1.add (((a3)).toNat * 6)).block,(a1.add (((a3)).toNat * 6)).off+2,none⟩=some (.bool ((Qa l0 (a3)).f2))∧w'.cell? ⟨(a1.add (((a3)).toNat * 6)).block,(a1.add (((a3)).toNat * 6)).off+3,none⟩=some (.slice k6 ((Qa l0 (a3)).f3).length k7)∧w'.cell? ⟨(a1.add (((a3)).toNat * 6)).block,(a1.add (((a3)).toNat * 6)).off+4,none⟩=some (.bool ((Qa l0 (a3)).f4))∧w'.cell? ⟨(a1.add (((a3)).toNat * 6)).block,(a1.add (((a3)).toNat * 6)).off+5,none⟩=some (.slice k8 ((Qa l0 (a3)).f5).length k9)∧w'.cell? (a1.add ((a0).toNat * 6))=some (.int .i64 ((Qa l0 a0).f0))∧w'.cell? ⟨(a1.add ((a0).toNat * 6)).block,(a1.add ((a0).toNat * 6)).off+1,none⟩=some (.int .i64 ((Qa l0 a0).f1))∧w'.cell? ⟨(a1.add ((a0).toNat * 6)).block,(a1.add ((a0).toNat * 6)).off+2,none⟩=some (.bool ((Qa l0 a0).f2))∧w'.cell? ⟨(a1.add ((a0).toNat * 6)).block,(a1.add ((a0).toNat * 6)).off+3,none⟩=some (.slice l1 ((Qa l0 a0).f3).length l2)∧w'.cell? ⟨(a1.add ((a0).toNat * 6)).block,(a1.add ((a0).toNat * 6)).off+4,none⟩=some (.bool ((Qa l0 a0).f4))∧w'.cell? ⟨(a1.add ((a0).toNat * 6)).block,(a1.add ((a0).toNat * 6)).off+5,none⟩=some (.slice l3 ((Qa l0 a0).f5).length l4)) (ds:=[]) (zzB 24 0) (by kernel_rfl) rfl rfl ⟨(zzx HB.out c1),(zzx HB.out b9),(zzx HB.out b8),(zzx HB.out b7),(zzx HB.out b6),(zzx HB.out b5),(zzx HB.out h0),(zzx HB.out g9),(zzx HB.out g8),(zzx HB.out g7),(zzx HB.out g6),(zzx HB.out g5),(zzx HB.out j3),(zzx HB.out h9),(zzx HB.out h8),(zzx HB.out h7),(zzx HB.out h6),(zzx HB.out h5)⟩ (fun b0=>?_);refine with_tabW Qf.tab4 Qf.bits4 (fun a2 j4=>?_);generalize wr.drew=n8 at HB c4 c7 k0 k2 k3 k4 a4 a5 a6 a7 a8 a9 d5 d6 d7 d8 d9 e0 e1 e2 e3 e4 e5 e6 b0 ⊢;refine zzP 0 10 24 1 a2 ?_
          refine zzP 1 11 24 3 a2 ?_
          refine zzP 2 12 24 7 a2 ?_
          refine zzT 3 13 24 15 a2 j4 b0 ?_
          refine one_ (i:=4) (N:=some 14) (zzB 24 31) rfl rfl (one_of a2.out (by kernel_rfl)) (by decide) (fun K hK=>?_);refine goes_ Try.func66 (by kernel_rfl) rfl #[.agg #[.int .i64 ((Qa l0 a0).f0),.int .i64 ((Qa l0 a0).f1),.bool ((Qa l0 a0).f2),.slice d1 ((Qa l0 a0).f3).length d2,.bool ((Qa l0 a0).f4),.slice d3 ((Qa l0 a0).f5).length d4]] (by rfl) rfl rfl zzM2 ?_;with_reducible refine (Q6.calls k1 ((Qa l0 a0).f0) ((Qa l0 a0).f1) ((Qa l0 a0).f2) _ _ ((Qa l0 a0).f3) ((Qa l0 a0).f4) _ _ ((Qa l0 a0).f5) true _ ?side1 ?side2 ?side3 ?side4 A4.out).mono ?_
          (case side1=>exact zzcb c4 HB)
          (case side2=>exact e9.out)
          (case side3=>exact zzcb c7 HB)
          (case side4=>exact g0.out);rintro e n9 ⟨rfl,hb⟩;refine ⟨_,rfl,?_⟩;have d0:=zzm (zzp zzh1 hb);clear HB;have HB:=d0;clear d0
          (try clear hb)
          (try clear hb2)
          (try clear hk)
          (try clear hi);refine hK.out _ _ ⟨(zzx HB.out c1),(zzx HB.out b9),(zzx HB.out b8),(zzx HB.out b7),(zzx HB.out b6),(zzx HB.out b5),(zzx HB.out h0),(zzx HB.out g9),(zzx HB.out g8),(zzx HB.out g7),(zzx HB.out g6),(zzx HB.out g5),(zzx HB.out j3),(zzx HB.out h9),(zzx HB.out h8),(zzx HB.out h7),(zzx HB.out h6),(zzx HB.out h5)⟩ (fun b0=>?_);clear hK K;refine zzO 14 ?_
          refine zzP 5 15 24 63 a2 ?_
          refine zzP 6 16 24 127 a2 ?_
          refine zzP 7 17 24 255 a2 ?_
          refine zzP 8 18 24 511 a2 ?_
          refine zzP 9 19 24 1023 a2 ?_
          refine zzP 10 20 24 2047 a2 ?_
          refine zzP 11 21 24 4095 a2 ?_
          refine zzP 12 22 24 8191 a2 ?_
          refine zzP 13 23 24 16383 a2 ?_
          refine zzP 14 24 24 32767 a2 ?_
          refine zzP 16 26 24 98303 a2 ?_
          refine zzP 17 27 24 229375 a2 ?_
          refine zzP 18 28 24 491519 a2 ?_
          refine zzP 19 29 24 1015807 a2 ?_
          refine zzT 15 25 24 1048575 a2 j4 b0 ?_
          refine zzT 20 30 24 2097151 a2 j4 b0 ?_
          refine zzP 21 31 24 4194303 a2 ?_
          refine zzP 22 32 24 8388607 a2 ?_
          refine zzP 23 33 24 16777215 a2 ?_
          refine done_ (done_of a2.out (by kernel_rfl)) ?_;try go_wp2
          go_roundg k1
          case measure=>have:=HK1.out;omega
          case rel=>exact ⟨(wrap64 (a0+1)),(by first|rfl|(simp;done)|(simp [*];done)),H',⟨by have:=HK1.out;omega⟩,⟨zzh1⟩⟩
        ·
         rw [if_neg c9] at H;exact absurd H (by simp)
       ·
        rw [if_neg c8] at H;exact absurd H (by simp)
      ·
       rw [if_neg c6] at H;have m9:decide (0 < a0)=false:=decide_eq_false c6;clear c6;have H':=zzm H;clear H;try go_wp2
       have d0:=zzm (zzc HB.out);clear HB;have HB:=d0;clear d0;have e7 : 0≤(a0:Int):=zzt;have e8:a0 < (l0.length:Int):=zzt;obtain ⟨a1,d1,d2,d3,d4,j5,a4,a5,a6,a7,a8,a9,b1,b2,b3,b4⟩:=Rk k5.out a0 e7 e8;have b5:=a9;have b6:=a8;have b7:=a7;have b8:=a6;have b9:=a5;have c1:=a4;cases j5;replace a4:=zzx HB.out a4;replace a5:=zzx HB.out a5;replace a6:=zzx HB.out a6;replace a7:=zzx HB.out a7;replace a8:=zzx HB.out a8;replace a9:=zzx HB.out a9;have c4:=zzm b2;have e9:=zzm b1;clear b2 b1;have c7:=zzm b4;have g0:=zzm b3;clear b4 b3;replace e7:=eq_true e7;replace e8:=eq_true e8;refine start_ (n:=24) (S:=fun w'=>w'.cell? (a1.add ((a0).toNat * 6))=some (.int .i64 ((Qa l0 a0).f0))∧w'.cell? ⟨(a1.add ((a0).toNat * 6)).block,(a1.add ((a0).toNat * 6)).off+1,none⟩=some (.int .i64 ((Qa l0 a0).f1))∧w'.cell? ⟨(a1.add ((a0).toNat * 6)).block,(a1.add ((a0).toNat * 6)).off+2,none⟩=some (.bool ((Qa l0 a0).f2))∧w'.cell? ⟨(a1.add ((a0).toNat * 6)).block,(a1.add ((a0).toNat * 6)).off+3,none⟩=some (.slice d1 ((Qa l0 a0).f3).length d2)∧w'.cell? ⟨(a1.add ((a0).toNat * 6)).block,(a1.add ((a0).toNat * 6)).off+4,none⟩=some (.bool ((Qa l0 a0).f4))∧w'.cell? ⟨(a1.add ((a0).toNat * 6)).block,(a1.add ((a0).toNat * 6)).off+5,none⟩=some (.slice d3 ((Qa l0 a0).f5).length d4)) (ds:=[]) (zzB 24 0) (by kernel_rfl) rfl rfl ⟨(zzx HB.out c1),(zzx HB.out b9),(zzx HB.out b8),(zzx HB.out b7),(zzx HB.out b6),(zzx HB.out b5)⟩ (fun b0=>?_);refine with_tabW Qf.tab4 Qf.bits4 (fun a2 j4=>?_);generalize wr.drew=o0 at HB c4 c7 a4 a5 a6 a7 a8 a9 b0 ⊢;refine zzP 0 10 24 1 a2 ?_
       refine zzP 1 11 24 3 a2 ?_
       refine zzP 2 12 24 7 a2 ?_
       refine zzT 3 13 24 15 a2 j4 b0 ?_
       refine one_ (i:=4) (N:=some 14) (zzB 24 31) rfl rfl (one_of a2.out (by kernel_rfl)) (by decide) (fun K hK=>?_);refine goes_ Try.func66 (by kernel_rfl) rfl #[.agg #[.int .i64 ((Qa l0 a0).f0),.int .i64 ((Qa l0 a0).f1),.bool ((Qa l0 a0).f2),.slice d1 ((Qa l0 a0).f3).length d2,.bool ((Qa l0 a0).f4),.slice d3 ((Qa l0 a0).f5).length d4]] (by rfl) rfl rfl zzM2 ?_;with_reducible refine (Q6.calls k1 ((Qa l0 a0).f0) ((Qa l0 a0).f1) ((Qa l0 a0).f2) _ _ ((Qa l0 a0).f3) ((Qa l0 a0).f4) _ _ ((Qa l0 a0).f5) true _ ?side1 ?side2 ?side3 ?side4 A4.out).mono ?_
       (case side1=>exact zzcb c4 HB)
       (case side2=>exact e9.out)
       (case side3=>exact zzcb c7 HB)
       (case side4=>exact g0.out);rintro e o1 ⟨rfl,hb⟩;refine ⟨_,rfl,?_⟩;have d0:=zzm (zzp zzh1 hb);clear HB;have HB:=d0;clear d0
       (try clear hb)
       (try clear hb2)
       (try clear hk)
       (try clear hi);refine hK.out _ _ ⟨(zzx HB.out c1),(zzx HB.out b9),(zzx HB.out b8),(zzx HB.out b7),(zzx HB.out b6),(zzx HB.out b5)⟩ (fun b0=>?_);clear hK K;refine zzO 14 ?_
       refine zzP 5 15 24 63 a2 ?_
       refine zzP 6 16 24 127 a2 ?_
       refine zzP 7 17 24 255 a2 ?_
       refine zzP 8 18 24 511 a2 ?_
       refine zzP 9 19 24 1023 a2 ?_
       refine zzU 10 20 24 2047 a2 ?_
       refine zzU 11 21 24 4095 a2 ?_
       refine zzU 12 22 24 8191 a2 ?_
       refine zzU 13 23 24 16383 a2 ?_
       refine zzU 14 24 24 32767 a2 ?_
       refine zzU 15 25 24 65535 a2 ?_
       refine zzU 16 26 24 131071 a2 ?_
       refine zzU 17 27 24 262143 a2 ?_
       refine zzU 18 28 24 524287 a2 ?_
       refine zzU 19 29 24 1048575 a2 ?_
       refine zzU 20 30 24 2097151 a2 ?_
       refine zzU 21 31 24 4194303 a2 ?_
       refine zzP 22 32 24 8388607 a2 ?_
       refine zzP 23 33 24 16777215 a2 ?_
       refine done_ (done_of a2.out (by kernel_rfl)) ?_;try go_wp2
       go_roundg k1
       case measure=>have:=HK1.out;omega
       case rel=>exact ⟨(wrap64 (a0+1)),(by first|rfl|(simp;done)|(simp [*];done)),H',⟨by have:=HK1.out;omega⟩,⟨zzh1⟩⟩
     ·
      replace c5:=Bool.eq_false_iff.mpr c5;subst c5;replace H:=zzIf H;obtain rfl:=Option.some.inj H;try go_wp2
      have d0:=zzm (zzc HB.out);clear HB;have HB:=d0;clear d0;have e7 : 0≤(a0:Int):=zzt;have e8:a0 < (l0.length:Int):=zzt;obtain ⟨a1,d1,d2,d3,d4,j5,a4,a5,a6,a7,a8,a9,b1,b2,b3,b4⟩:=Rk k5.out a0 e7 e8;have b5:=a9;have b6:=a8;have b7:=a7;have b8:=a6;have b9:=a5;have c1:=a4;cases j5;replace a4:=zzx HB.out a4;replace a5:=zzx HB.out a5;replace a6:=zzx HB.out a6;replace a7:=zzx HB.out a7;replace a8:=zzx HB.out a8;replace a9:=zzx HB.out a9;have c4:=zzm b2;have e9:=zzm b1;clear b2 b1;have c7:=zzm b4;have g0:=zzm b3;clear b4 b3;replace e7:=eq_true e7;replace e8:=eq_true e8;refine start_ (n:=24) (S:=fun w'=>w'.cell? (a1.add ((a0).toNat * 6))=some (.int .i64 ((Qa l0 a0).f0))∧w'.cell? ⟨(a1.add ((a0).toNat * 6)).block,(a1.add ((a0).toNat * 6)).off+1,none⟩=some (.int .i64 ((Qa l0 a0).f1))∧w'.cell? ⟨(a1.add ((a0).toNat * 6)).block,(a1.add ((a0).toNat * 6)).off+2,none⟩=some (.bool ((Qa l0 a0).f2))∧w'.cell? ⟨(a1.add ((a0).toNat * 6)).block,(a1.add ((a0).toNat * 6)).off+3,none⟩=some (.slice d1 ((Qa l0 a0).f3).length d2)∧w'.cell? ⟨(a1.add ((a0).toNat * 6)).block,(a1.add ((a0).toNat * 6)).off+4,none⟩=some (.bool ((Qa l0 a0).f4))∧w'.cell? ⟨(a1.add ((a0).toNat * 6)).block,(a1.add ((a0).toNat * 6)).off+5,none⟩=some (.slice d3 ((Qa l0 a0).f5).length d4)) (ds:=[]) (zzB 24 0) (by kernel_rfl) rfl rfl ⟨(zzx HB.out c1),(zzx HB.out b9),(zzx HB.out b8),(zzx HB.out b7),(zzx HB.out b6),(zzx HB.out b5)⟩ (fun b0=>?_);refine with_tabW Qf.tab4 Qf.bits4 (fun a2 j4=>?_);generalize wr.drew=o2 at HB c4 c7 a4 a5 a6 a7 a8 a9 b0 ⊢;refine zzP 0 10 24 1 a2 ?_
      refine zzP 1 11 24 3 a2 ?_
      refine zzP 2 12 24 7 a2 ?_
      refine zzT 3 13 24 15 a2 j4 b0 ?_
      refine one_ (i:=4) (N:=some 14) (zzB 24 31) rfl rfl (one_of a2.out (by kernel_rfl)) (by decide) (fun K hK=>?_);refine goes_ Try.func66 (by kernel_rfl) rfl #[.agg #[.int .i64 ((Qa l0 a0).f0),.int .i64 ((Qa l0 a0).f1),.bool ((Qa l0 a0).f2),.slice d1 ((Qa l0 a0).f3).length d2,.bool ((Qa l0 a0).f4),.slice d3 ((Qa l0 a0).f5).length d4]] (by rfl) rfl rfl zzM2 ?_;with_reducible refine (Q6.calls k1 ((Qa l0 a0).f0) ((Qa l0 a0).f1) ((Qa l0 a0).f2) _ _ ((Qa l0 a0).f3) ((Qa l0 a0).f4) _ _ ((Qa l0 a0).f5) false _ ?side1 ?side2 ?side3 ?side4 A4.out).mono ?_
      (case side1=>exact zzcb c4 HB)
      (case side2=>exact e9.out)
      (case side3=>exact zzcb c7 HB)
      (case side4=>exact g0.out);rintro e o3 ⟨rfl,hb⟩;refine ⟨_,rfl,?_⟩;have d0:=zzm (zzp zzh1 hb);clear HB;have HB:=d0;clear d0
      (try clear hb)
      (try clear hb2)
      (try clear hk)
      (try clear hi);refine hK.out _ _ ⟨(zzx HB.out c1),(zzx HB.out b9),(zzx HB.out b8),(zzx HB.out b7),(zzx HB.out b6),(zzx HB.out b5)⟩ (fun b0=>?_);clear hK K;refine zzO 14 ?_
      refine zzP 5 15 24 63 a2 ?_
      refine zzP 6 16 24 127 a2 ?_
      refine zzU 7 17 24 255 a2 ?_
      refine zzU 8 18 24 511 a2 ?_
      refine zzU 9 19 24 1023 a2 ?_
      refine zzU 10 20 24 2047 a2 ?_
      refine zzU 11 21 24 4095 a2 ?_
      refine zzU 12 22 24 8191 a2 ?_
      refine zzU 13 23 24 16383 a2 ?_
      refine zzU 14 24 24 32767 a2 ?_
      refine zzU 15 25 24 65535 a2 ?_
      refine zzU 16 26 24 131071 a2 ?_
      refine zzU 17 27 24 262143 a2 ?_
      refine zzU 18 28 24 524287 a2 ?_
      refine zzU 19 29 24 1048575 a2 ?_
      refine zzU 20 30 24 2097151 a2 ?_
      refine zzU 21 31 24 4194303 a2 ?_
      refine zzU 22 32 24 8388607 a2 ?_
      refine zzP 23 33 24 16777215 a2 ?_
      refine done_ (done_of a2.out (by kernel_rfl)) ?_;try go_wp2
      go_ret;exact ⟨zzR,zzh1⟩
    ·
     rw [if_neg c3] at H;exact absurd H (by simp)
   ·
    rw [if_neg c2] at H;have m7:decide (a0 < (l0.length:Int))=false:=decide_eq_false c2;clear c2;obtain ⟨n0,n1,H⟩:=zzG H;obtain rfl:=Option.some.inj H;go_wp2_with (first|((with_reducible refine gate_callee (f:=53) rfl ?_);refine goesL_ (some 36) rfl rfl Try.func53 (by kernel_rfl) rfl #[.int .i64 (l0.length:Int),.int .i64 1,.int .i64 6] rfl zzM2 ?_;(with_reducible refine (Ql.calls (l0.length:Int) 1 6 n0 _ n1.out).mono ?_);rintro e w' ⟨rfl,⟨nd,rfl⟩⟩;refine ⟨_,rfl,?_⟩));go_ret;exact ⟨zzR,zzh1⟩
end Go.Proofs.Ytmophgccpnpgfaa.T
