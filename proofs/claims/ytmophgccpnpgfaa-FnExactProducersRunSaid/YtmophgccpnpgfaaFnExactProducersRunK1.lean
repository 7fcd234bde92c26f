/- The law FnExactProducersRun holds (part 2 of 5; merged by pack2.py). -/
import Derived.Test.YtmophgccpnpgfaaRows
import Derived.JoinedOf
import Derived.Test.YtmophgccpnpgfaaProg
import Derived.IntWalk
import Derived.RegionTactic
import Derived.Test.YtmophgccpnpgfaaFnExactProducersRunK0
set_option maxRecDepth 1000000
open List (setIfInBounds_toArray set_cons_zero set_cons_succ map_toArray map_cons map_nil length_drop length_take)
namespace Go.Proofs.YtmophgccpnpgfaaW.PrintWords
open Go.RowKit Go.Proofs.YtmophgccpnpgfaaW.PrintLast
inductive Grew (W : World) : World → Prop
  | refl : Grew W W
  | alloc {V : World} (h : Grew W V) (o : Obj) : Grew W (V.alloc o)
  | drewN {V : World} (h : Grew W V) (n : Nat) : Grew W (V.drewN n)
  | drew {V : World} (h : Grew W V) : Grew W V.drew
theorem zzS {α : Type} {d : Kd α} {e base : Nat} {W W' : World} {ok : Nat → Prop} {v : Value} {xs : List α} (h : Kd.S d e W base ok v xs) (g : Grew W W' := by with_reducible repeat (first | exact Grew.refl | refine Grew.alloc ?_ _ | refine Grew.drewN ?_ _ | refine Grew.drew ?_)) : Kd.S d e W' base ok v xs := by
  induction g with
  | refl => exact h
  | alloc _ _ ih => exact Kd.S_alloc ih _
  | drewN _ _ ih => exact Kd.S_drewN ih _
  | drew _ ih => exact Kd.S_drew ih
theorem zzE {W W' : World} {b : Nat} {o : Obj} (h : W.heap[b]? = some o) (g : Grew W W' := by with_reducible repeat (first | exact Grew.refl | refine Grew.alloc ?_ _ | refine Grew.drewN ?_ _ | refine Grew.drew ?_)) : W'.heap[b]? = some o := by
  induction g with
  | refl => exact h
  | alloc _ _ ih => exact blk_alloc ih _
  | drewN _ _ ih => exact blk_drewN ih _
  | drew _ ih => exact blk_drew ih
theorem zzh2 {w W : World} (h : Below w.heap.size w W := by repeat (first | (with_reducible first | exact HB.out | apply zza | apply zzb | apply zzc | refine zzd ?_ (Aside0.out (by with_reducible assumption))) | exact HB.out)) : Below w.heap.size w W := h
theorem zzJ : (∀ {α : Type} {l : List α} {i : Nat} {a : α}, l.toArray.setIfInBounds i a = (l.set i a).toArray) ∧ (∀ {α : Type} {xs : List α} {a b : α}, (a :: xs).set 0 b = b :: xs) ∧ (∀ {α : Type} {xs : List α} {i : Nat} {a b : α}, (a :: xs).set (i + 1) b = a :: xs.set i b) ∧ (∀ n : Int, IntKind.i64.wrap n = Go.RowKit.wrap64 n) ∧ (∀ n : Int, IntKind.i32.wrap n = Go.RowKit.wrap32 n) ∧ (∀ (a : Act) (d : Tmp) (v : Value), a.put (some d) v = { a with tmps := a.tmps.setIfInBounds d v }) ∧ ∀ (a : Act) (v : Value), a.put none v = a := ⟨zzq, zzr, zzs, i64_w, i32_w, fun _ _ _ => rfl, fun _ _ => rfl⟩
theorem zzH {α β : Type} {o : Option α} {f : α → Option β} {b : β} (h : o.bind f = some b) : ∃ a, o = some a ∧ f a = some b := Option.bind_eq_some_iff.mp h
theorem zzR {α : Sort _} {x y : α} (h : x = y := by first | rfl | (simp [errW_none, errW_some] <;> rfl) | (simp [*, errW_none, errW_some] <;> rfl)) : x = y := h
theorem zzM2 {α : Type} {x y : α} (h : x = y := by (try simp only [List.map_toArray, List.map_cons, List.map_nil]); first | done | rfl | (simp only [List.length_drop, List.length_take]; rfl)) : x = y := h
theorem zzA2 {md : Region.Mode} {ops : Array Oper} {T : Bool × List (List Nat × List Nat)} {l l' : Array Bool} {i : Nat} (hT : rtab md ops = T) (h : anyT T l.toList l'.toList i = true := by kernel_rfl) : anyB md ops l l' i = true := any_of hT h
end Go.Proofs.YtmophgccpnpgfaaW.PrintWords
namespace Go.Proofs.YtmophgccpnpgfaaW.PrintWords
open Go.RowKit Go.Proofs.YtmophgccpnpgfaaW.PrintLast
theorem zzC {α : Type} {d : Kd α} {W W' : World} {A : Option Addr} {n : Nat} {xs : List α} (h : Kd.C d W A n xs) (g : Grew W W' := by with_reducible repeat (first | exact Grew.refl | refine Grew.alloc ?_ _ | refine Grew.drewN ?_ _ | refine Grew.drew ?_)) : Kd.C d W' A n xs := by
  induction g with
  | refl => exact h
  | alloc _ _ ih => exact Kd.C_alloc ih _
  | drewN _ _ ih => exact Kd.C_drewN ih _
  | drew _ ih => exact Kd.C_drew ih
end Go.Proofs.YtmophgccpnpgfaaW.PrintWords
namespace Go.Proofs.YtmophgccpnpgfaaW.PrintWords
open Go.RowKit Go.Proofs.YtmophgccpnpgfaaW.PrintLast
section
variable {P:Program} {md:Region.Mode} {ops:Array Oper} {ds:List Nat} {T:Bool×List (List Nat×List Nat)} {B:List Nat} {Q:Exit→Act→World→Prop} {S:World→Prop} {oi:Oper} {v:Value} {fuel:Nat} {l:Array Bool} {a a':Act} {w:World}
theorem zzP (i N c m:Nat) (HT:Aside0 (rtab md ops=T)) (h:wpAnyLast P md ops Q S ds fuel (zzB c m) a' w) (hi:ops[i]?=some oi:=by exact rfl) (hN:oi.dst=some N:=by exact rfl) (hc:anyT T l.toList (zzB c m).toList i=true:=by kernel_rfl) (hw:Region.wanted oi (yielded ops a.tmps)=true:=by rfl) (hy:∀ w,(execOp a.eval oi).run P w=.ok (.value v) w:=by intro w';go_simp;with_reducible rfl) (ha:a.put (some N) v=a':=by simp only [zzJ];rfl) (hQ:∀ c a w,Q (.panic c) (a.put oi.dst v) w→Q (.panic c) a w:=by exact fun _ _ _ h=>h):wpAnyLast P md ops Q S ds (fuel+1) l a w:=pure_ (zzB c m) hi hN (any_of HT.out hc) hQ (Or.inl ⟨hw,hy⟩) ha h
theorem zzU (i N c m:Nat) (HT:Aside0 (rtab md ops=T)) (h:wpAnyLast P md ops Q S ds fuel (zzB c m) a' w) (hi:ops[i]?=some oi:=by exact rfl) (hN:oi.dst=some N:=by exact rfl) (hc:anyT T l.toList (zzB c m).toList i=true:=by kernel_rfl) (hw:Region.wanted oi (yielded ops a.tmps)=false:=by rfl) (ha:a.put (some N) undef=a':=by simp only [zzJ];rfl) (hQ:∀ c a w,Q (.panic c) (a.put oi.dst undef) w→Q (.panic c) a w:=by exact fun _ _ _ h=>h):wpAnyLast P md ops Q S ds (fuel+1) l a w:=pure_ (zzB c m) hi hN (any_of HT.out hc) hQ (Or.inr ⟨hw,rfl⟩) ha h
theorem zzT (i N c m:Nat) (HT:Aside0 (rtab md ops=T)) (HW:Aside0 (waitsOk T.2 B=true)) (hS:S w) (h:wpAnyLast P md ops Q S ds fuel (zzB c m) a' w) (hi:ops[i]?=some oi:=by exact rfl) (hN:oi.dst=some N:=by exact rfl) (hc:takeW T B ds l.toList (zzB c m).toList i=true:=by kernel_rfl) (hw:Region.wanted oi (yielded ops a.tmps)=true:=by rfl) (hy:∀ w,S w→(execOp a.eval oi).run P w=.ok (.value v) w:=by intro w';(try simp only [and_imp]);intros;go_simp;with_reducible rfl) (ha:a.put (some N) v=a':=by simp only [zzJ];rfl) (hQ:∀ c a w,Q (.panic c) (a.put oi.dst v) w→Q (.panic c) a w:=by exact fun _ _ _ h=>h):wpAnyLast P md ops Q S ds (fuel+1) l a w:=take_ (zzB c m) hi hN (take_ofW HT.out HW.out hc) hQ (Or.inl ⟨hw,hy⟩) hS ha h
theorem zzO (N:Nat) {a0:Act} (h:wpAnyLast P md ops Q S ds fuel l a' w) (e:a=a0.put (some N) v:=by exact rfl) (ha:a0.put (some N) v=a':=by simp only [zzJ];rfl):wpAnyLast P md ops Q S ds fuel l a w:=norm_ (e.trans ha) h
end
theorem zzIt {α:Type} {a b c:α} {i:Decidable (true=true)} (h:(@ite α (true=true) i a b)=c):a=c:=by rw [if_pos rfl] at h;exact h
theorem zzIf {α:Type} {a b c:α} {i:Decidable (false=true)} (h:(@ite α (false=true) i a b)=c):b=c:=by rw [if_neg (fun e=>Bool.noConfusion e)] at h;exact h
theorem zzG {α β:Type} {o:Option α} {f:α→Option β} {b:β} (h:o.bind f=some b):∃ a,Aside0 (o=some a)∧f a=some b:=let ⟨a,x,y⟩:=Option.bind_eq_some_iff.mp h;⟨a,⟨x⟩,y⟩
theorem zzQ {α:Type} [BEq α] [LawfulBEq α] {a b:α} (h:a=b):(a==b)=true∧(a != b)=false:=⟨beq_iff_eq.mpr h,bne_eq_false_iff_eq.mpr h⟩
theorem zzY {α:Type} [BEq α] [LawfulBEq α] {a b:α} (h:¬ a=b):(a==b)=false∧(a != b)=true:=⟨beq_eq_false_iff_ne.mpr h,bne_iff_ne.mpr h⟩
theorem zzh3 {w W:World} (h:Below w.heap.size w W:=by repeat (first|(with_reducible first|exact HB.out|apply zza|apply zzb|apply zzc|refine zzd ?_ (Aside0.out (by with_reducible assumption)))|exact HB.out)):Below w.heap.size w W:=h
theorem zzcb {α:Type} {d:Kd α} {W V W':World} {A:Option Addr} {n:Nat} {xs:List α} (h:Aside0 (Kd.C d W A n xs)) (HB:Aside0 (Below W.heap.size W V)) (g:Grew V W':=by with_reducible repeat (first|exact Grew.refl|refine Grew.alloc ?_ _|refine Grew.drewN ?_ _|refine Grew.drew ?_)):Kd.C d W' A n xs:=zzC (Kd.C_below h.out HB.out) g
end Go.Proofs.YtmophgccpnpgfaaW.PrintWords
namespace Go.Proofs.Ytmophgccpnpgfaa.Head
open Go
theorem make_of (P : Program) (w : List Char) (R : List (List Char)) (h : behindMainWord (wordsSigns P.initOrder.toList) = w :: R) (h1 : (w == "gc".toList || w == "spec".toList) = false) (h2 : (w == "cut".toList) = true) : P.make = some .cut := by
 unfold Program.make
 rw [h]
 simp only [h1,h2,Bool.true_or,if_true,Bool.false_eq_true,if_false]
theorem enter_of (P : Program) (w : List Char) (R : List (List Char)) (h : behindMainWord (wordsSigns P.initOrder.toList) = w :: R) (h2 : stripLifts liftWords (w :: R) = ([], w :: R)) (h3 : ((w :: R).head? == some "cut".toList) = true)
  (h4:P.laysLater=false) (h5:P.bearsReflect=false) (h6:P.doorFits []=true):P.mayEnter=true:=by
 unfold Program.mayEnter
 rw [h]
 simp only [h2,h3,h4,h5,h6,List.contains_nil,Bool.not_false,Bool.and_self,Bool.or_true]
theorem lifts_of (P : Program) (w : List Char) (R : List (List Char)) (h : behindMainWord (wordsSigns P.initOrder.toList) = w :: R) (h2 : stripLifts liftWords (w :: R) = ([], w :: R)) (h3 : ((w :: R).head? == some "carried".toList) = false) : P.liftsFinal = false := by
 unfold Program.liftsFinal Program.headLifts
 rw [h]
 simp only [h2,h3,Bool.false_and,Bool.false_or,List.contains_nil,ite_self]
def chs (l:List Nat):List Char:=l.map Char.ofNat
theorem wordsSigns_word:∀ (w r:List Char),(∀ c∈w,c≠Char.ofNat 32)→wordsSigns (w++Char.ofNat 32::r)=w::wordsSigns r
 | [],r,_=>rfl
 | c::w,r,h=>by
  have ih:=wordsSigns_word w r (fun x hx=>h x (List.mem_cons_of_mem _ hx))
  have hc:c≠Char.ofNat 32:=h c List.mem_cons_self
  rw [List.cons_append,wordsSigns,ih]
  exact hc
def word1:List Nat:=[104,97,114,110,101,115,115]
def word2:List Nat:=[98,48,101,99,50,57,56,52,100,53,49,48,56,99,55,98,101,99,98,99,53,100,51,53,51,51,102,99,101,54,48,48,97,49,52,51,55,57,99,56,54,52,49,102,97,50,98,50,52,48,48,50,97,48,99,53,51,56,55,51,97,51,100,54]
def word3:List Nat:=[99,117,116]
def signs:List Nat:=[97,116,32,108,111,111,112,46,101,120,97,109,112,108,101,47,114,101,99,111,114,100,98,97,116,99,104,101,115,47,108,97,119,115,46,70,110,80,117,116,78,101,120,116,32,108,111,111,112,46,101,120,97,109,112,108,101,47,114,101,99,111,114,100,98,97,116,99,104,101,115,47,108,97,119,115,46,70,110,69,120,97,99,116,80,114,111,100,117,99,101,114,115,80,117,116,32,108,111,111,112,46,101,120,97,109,112,108,101,47,114,101,99,111,114,100,98,97,116,99,104,101,115,47,108,97,119,115,46,70,110,69,120,97,99,116,80,114,111,100,117,99,101,114,115,82,117,110]
theorem init_is:Try.prog.initOrder=String.ofList (chs word1++Char.ofNat 32::(chs word2++Char.ofNat 32::(chs word3++Char.ofNat 32::chs signs))):=by kernel_rfl
theorem init_words:wordsSigns Try.prog.initOrder.toList=chs word1::chs word2::chs word3::wordsSigns (chs signs):=by
 rw [init_is,String.toList_ofList,wordsSigns_word _ _ (by decide +kernel),wordsSigns_word _ _ (by decide +kernel),wordsSigns_word _ _ (by decide +kernel)]
theorem behind_is:∃ R,behindMainWord (wordsSigns Try.prog.initOrder.toList)=chs word3::R:=by
 rw [init_words]
 generalize wordsSigns (chs signs)=R
 exact ⟨R,by kernel_rfl⟩
theorem strip_is (R:List (List Char)):stripLifts liftWords (chs word3::R)=([],chs word3::R):=by kernel_rfl
theorem make_is:Try.prog.make=some .cut:=by
 obtain ⟨R,h⟩:=behind_is
 exact make_of _ _ R h (by kernel_rfl) (by kernel_rfl)
theorem lays_later:Try.prog.laysLater=false:=by kernel_rfl
theorem bears_reflect:Try.prog.bearsReflect=false:=by kernel_rfl
theorem door_fits:Try.prog.doorFits []=true:=by kernel_rfl
theorem may_enter:Try.prog.mayEnter=true:=by
 obtain ⟨R,h⟩:=behind_is
 exact enter_of _ _ R h (strip_is R) (by kernel_rfl) lays_later bears_reflect door_fits
theorem lifts_final:Try.prog.liftsFinal=false:=by
 obtain ⟨R,h⟩:=behind_is
 exact lifts_of _ _ R h (strip_is R) (by kernel_rfl)
theorem and2 {a b:Bool} (h:a=true) (h2:b=true):(a&&b)=true:=by rw [h,h2];rfl
theorem closed_of (P:Program) (f:FuncId) (fn:Func) (s:ChangeSpec) (c:OpenClaim) (k0:(c.wf (OpenSpec.ofChange s))=true) (k1:(laidOutB P)=true) (k2:(mapsRowed P)=true) (k3:(fn.params.all (P.readableRec ·))=true) (k4:(namedTie P c.named s.vars)=true) (k5:((c.stops == []))=true) (k6:((P.stops == []))=true) (k7:((c.knobs == []))=true) (k8:((P.stopKnobs == []))=true) (k9:((c.inPlace==P.inPlace f))=true) (k10:((c.unfollowed==P.unfollowed f))=true) (k11:((c.recurses==P.recurses f))=true) (k12:((c.named==P.varsNamed f))=true) (k13:((c.maps==(fn.params.toList++s.plain.varTypes P).any (P.mapsRec ·)))=true) (k14:((c.ifaces==(fn.params.toList++s.plain.varTypes P).any (P.ifacesRec ·)))=true) (k15:((c.mapsOut==P.mapsAmong fn.resultTypes.toList))=true) (k16:((c.loops==(fn.params.toList++s.plain.varTypes P).any (P.loopsFrom ·)))=true) (k17:((c.wideKeys==(fn.params.toList++s.plain.varTypes P++fn.resultTypes.toList).any (P.wideKeysFrom ·)))=true) (k18:(s.vars.all (P.varReadable ·))=true) (k19:(fn.resultTypes.all (fun t=>P.readableRec t&&decide (t < P.types.size)))=true) (k20:((c.ifacesOut==fn.resultTypes.toList.any (P.ifacesRec ·)))=true) (k21:((c.loopsOut==fn.resultTypes.toList.any (P.loopsFrom ·)))=true) (k22:((c.plainKeys==P.plainKeys))=true) (k23:(c.shortTexts.isNone)=true) (k24:(P.stopsHeard)=true) (k25:(P.mayEnter)=true) (k26:((c.lifted==P.liftsFinal))=true) (k27:((P.make==some c.make))=true) (k28:((c.kinds==(if c.domain.isEmpty then [] else fn.params.toList.map fun t=>match P.underlying t with|some (.int k)=>some k|_=>none)))=true) (k29:((c.pinned==c.pinnedBy))=true) (k30:((c.veiled==(fn.params.toList++s.plain.varTypes P++fn.resultTypes.toList).any (P.veiledRec ·)))=true) (k31:(c.veiledFits P fn.params.toList (fn.params.toList++s.plain.varTypes P++fn.resultTypes.toList))=true):joinedFacts P f fn s c=true:=by
 unfold joinedFacts
 exact (and2 (and2 (and2 (and2 (and2 (and2 (and2 (and2 (and2 (and2 (and2 (and2 (and2 (and2 (and2 (and2 (and2 (and2 (and2 (and2 (and2 (and2 (and2 (and2 (and2 (and2 (and2 (and2 (and2 (and2 (and2 k0 k1) k2) k3) k4) k5) k6) k7) k8) k9) k10) k11) k12) k13) k14) k15) k16) k17) k18) k19) k20) k21) k22) k23) k24) k25) k26) k27) k28) k29) k30) k31)
end Go.Proofs.Ytmophgccpnpgfaa.Head
namespace Go.Proofs.Ytmophgccpnpgfaa.T
open Go.RowKit Go.Proofs.YtmophgccpnpgfaaW.PrintWords Go.Proofs.YtmophgccpnpgfaaW.PrintLast Go.Proofs.YtmophgccpnpgfaaW.PrintMore

set_option linter.unusedVariables false
set_option linter.unusedSimpArgs false
def errW:Option Int→Value
 | none=>.nilIface
 | some c=>.iface 0 (.int .i64 c)
theorem errW_none:errW none = .nilIface:=rfl
theorem errW_some (c:Int):errW (some c) = .iface 0 (.int .i64 c):=rfl
theorem info3:(Try.prog.info? 3).map (fun i=>(i.zero,i.size,i.bytes))=some (some (.int .i64 0),1,8):=by kernel_rfl
theorem info26:(Try.prog.info? 26).map (fun i=>(i.zero,i.size,i.bytes))=some (some (.agg #[(.bool false),(.bool false),(.int .i64 0),(.int .i64 0),(.int .i64 0),(.slice none 0 0)]),6,56):=by kernel_rfl
theorem info67:(Try.prog.info? 67).map (fun i=>(i.zero,i.size,i.bytes))=some (some (.agg #[(.int .i64 0),(.int .i64 0),(.int .i64 0)]),3,24):=by kernel_rfl
theorem info75:(Try.prog.info? 75).map (fun i=>(i.zero,i.size,i.bytes))=some (some (.agg #[(.int .i64 0),(.int .i64 0),(.bool false),(.slice none 0 0),(.bool false),(.slice none 0 0)]),6,80):=by kernel_rfl
structure S67 where
 f0:Int
 f1:Int
 f2:Int
def z67:S67:=⟨(0:Int),(0:Int),(0:Int)⟩
def k67:Kd S67:=Kd.iso (Kd.pair (Kd.int .i64) (Kd.pair (Kd.int .i64) (Kd.int .i64))) (fun x:S67=>(x.f0,x.f1,x.f2))
theorem k67_open {w:World} {x:S67} {cs:List Value} (h:k67.K w x cs):cs = [.int .i64 x.f0,.int .i64 x.f1,.int .i64 x.f2]:=by
 obtain ⟨_,_,rfl,rfl,⟨_,_,rfl,rfl,rfl⟩⟩:=h;exact rfl
theorem k67_openM {w:World} {base:Nat} {ok:Nat→Prop} {x:S67} {cs:List Value} (h:k67.M w base ok x cs):cs = [.int .i64 x.f0,.int .i64 x.f1,.int .i64 x.f2]:=by
 obtain ⟨_,_,rfl,rfl,⟨_,_,rfl,rfl,rfl⟩⟩:=h;exact rfl
theorem k67_mkM (w:World) (base:Nat) (ok:Nat→Prop) (x:S67)  : k67.M w base ok x [.int .i64 x.f0,.int .i64 x.f1,.int .i64 x.f2]:=⟨[.int .i64 x.f0],[.int .i64 x.f1,.int .i64 x.f2],rfl,rfl,⟨[.int .i64 x.f1],[.int .i64 x.f2],rfl,rfl,rfl⟩⟩
def Qc (xs:List S67) (i:Int):S67:=xs.getD i.toNat z67
theorem Q8 {w:World} {A:Option Addr} {n:Nat} {xs:List S67} (h:Kd.C k67 w A n xs) (i:Int) (h0 : 0≤i) (h1:i < n):∃ ad,A=some ad∧w.cell? (ad.add (i.toNat * 3))=some (.int .i64 (Qc xs i).f0)∧w.cell? ⟨(ad.add (i.toNat * 3)).block,(ad.add (i.toNat * 3)).off+1,none⟩=some (.int .i64 (Qc xs i).f1)∧w.cell? ⟨(ad.add (i.toNat * 3)).block,(ad.add (i.toNat * 3)).off+2,none⟩=some (.int .i64 (Qc xs i).f2):=by
 obtain ⟨ad,c,e,_,hK,hc0⟩:=Kd.C_get h z67 i h0 h1;have hc:∀ j u,c[j]? = some u→w.cell? (ad.add (i.toNat * 3+j))=some u:=hc0;obtain rfl:=k67_open hK;exact ⟨ad,e,hc 0 _ rfl,by rw [← add_field _ _ 1 (by omega)];exact hc 1 _ rfl,by rw [← add_field _ _ 2 (by omega)];exact hc 2 _ rfl⟩
structure S75 where
 f0:Int
 f1:Int
 f2:Bool
 f3:(List Int)
 f4:Bool
 f5:(List Int)
def z75:S75:=⟨(0:Int),(0:Int),false,([]:List Int),false,([]:List Int)⟩
def k75:Kd S75:=Kd.iso (Kd.pair (Kd.int .i64) (Kd.pair (Kd.int .i64) (Kd.pair Kd.bool (Kd.pair (Kd.slice 3 (Kd.int .i64)) (Kd.pair Kd.bool (Kd.slice 3 (Kd.int .i64))))))) (fun x:S75=>(x.f0,x.f1,x.f2,x.f3,x.f4,x.f5))
theorem k75_open {w:World} {x:S75} {cs:List Value} (h:k75.K w x cs):∃ A3 c3 A5 c5,cs = [.int .i64 x.f0,.int .i64 x.f1,.bool x.f2,.slice A3 x.f3.length c3,.bool x.f4,.slice A5 x.f5.length c5]∧x.f3.length≤c3∧(Kd.int .i64).C w A3 x.f3.length x.f3∧x.f5.length≤c5∧(Kd.int .i64).C w A5 x.f5.length x.f5:=by
 obtain ⟨_,_,rfl,rfl,⟨_,_,rfl,rfl,⟨_,_,rfl,rfl,⟨_,_,rfl,⟨A3,c3,rfl,l3,g3⟩,⟨_,_,rfl,rfl,⟨A5,c5,rfl,l5,g5⟩⟩⟩⟩⟩⟩:=h;exact ⟨A3,c3,A5,c5,rfl,l3,g3,l5,g5⟩
theorem k75_openM {w:World} {base:Nat} {ok:Nat→Prop} {x:S75} {cs:List Value} (h:k75.M w base ok x cs):∃ v3 v5,cs = [.int .i64 x.f0,.int .i64 x.f1,.bool x.f2,v3,.bool x.f4,v5]∧(Kd.int .i64).R 3 w base ok v3 x.f3∧(Kd.int .i64).R 3 w base ok v5 x.f5:=by
 obtain ⟨_,_,rfl,rfl,⟨_,_,rfl,rfl,⟨_,_,rfl,rfl,⟨_,_,rfl,⟨v3,rfl,g3⟩,⟨_,_,rfl,rfl,⟨v5,rfl,g5⟩⟩⟩⟩⟩⟩:=h;exact ⟨v3,v5,rfl,g3,g5⟩
theorem k75_mkM (w:World) (base:Nat) (ok:Nat→Prop) (x:S75) {v3:Value} (g3:(Kd.int .i64).R 3 w base ok v3 x.f3) {v5:Value} (g5:(Kd.int .i64).R 3 w base ok v5 x.f5):k75.M w base ok x [.int .i64 x.f0,.int .i64 x.f1,.bool x.f2,v3,.bool x.f4,v5]:=⟨[.int .i64 x.f0],[.int .i64 x.f1,.bool x.f2,v3,.bool x.f4,v5],rfl,rfl,⟨[.int .i64 x.f1],[.bool x.f2,v3,.bool x.f4,v5],rfl,rfl,⟨[.bool x.f2],[v3,.bool x.f4,v5],rfl,rfl,⟨[v3],[.bool x.f4,v5],rfl,⟨v3,rfl,g3⟩,⟨[.bool x.f4],[v5],rfl,rfl,⟨v5,rfl,g5⟩⟩⟩⟩⟩⟩
def Qa (xs:List S75) (i:Int):S75:=xs.getD i.toNat z75
theorem Rp {w:World} {A:Option Addr} {n:Nat} {xs:List S75} (h:Kd.C k75 w A n xs) (i:Int) (h0 : 0≤i) (h1:i < n):∃ ad A3 c3 A5 c5,A=some ad∧w.cell? (ad.add (i.toNat * 6))=some (.int .i64 (Qa xs i).f0)∧w.cell? ⟨(ad.add (i.toNat * 6)).block,(ad.add (i.toNat * 6)).off+1,none⟩=some (.int .i64 (Qa xs i).f1)∧w.cell? ⟨(ad.add (i.toNat * 6)).block,(ad.add (i.toNat * 6)).off+2,none⟩=some (.bool (Qa xs i).f2)∧w.cell? ⟨(ad.add (i.toNat * 6)).block,(ad.add (i.toNat * 6)).off+3,none⟩=some (.slice A3 (Qa xs i).f3.length c3)∧w.cell? ⟨(ad.add (i.toNat * 6)).block,(ad.add (i.toNat * 6)).off+4,none⟩=some (.bool (Qa xs i).f4)∧w.cell? ⟨(ad.add (i.toNat * 6)).block,(ad.add (i.toNat * 6)).off+5,none⟩=some (.slice A5 (Qa xs i).f5.length c5)∧(Qa xs i).f3.length≤c3∧(Kd.int .i64).C w A3 (Qa xs i).f3.length (Qa xs i).f3∧(Qa xs i).f5.length≤c5∧(Kd.int .i64).C w A5 (Qa xs i).f5.length (Qa xs i).f5:=by
 obtain ⟨ad,c,e,_,hK,hc0⟩:=Kd.C_get h z75 i h0 h1;have hc:∀ j u,c[j]? = some u→w.cell? (ad.add (i.toNat * 6+j))=some u:=hc0;obtain ⟨A3,c3,A5,c5,rfl,l3,g3,l5,g5⟩:=k75_open hK;exact ⟨ad,A3,c3,A5,c5,e,hc 0 _ rfl,by rw [← add_field _ _ 1 (by omega)];exact hc 1 _ rfl,by rw [← add_field _ _ 2 (by omega)];exact hc 2 _ rfl,by rw [← add_field _ _ 3 (by omega)];exact hc 3 _ rfl,by rw [← add_field _ _ 4 (by omega)];exact hc 4 _ rfl,by rw [← add_field _ _ 5 (by omega)];exact hc 5 _ rfl,l3,g3,l5,g5⟩
structure S26 where
 f0:Bool
 f1:Bool
 f2:Int
 f3:Int
 f4:Int
 f5:(List S75)
def z26:S26:=⟨false,false,(0:Int),(0:Int),(0:Int),([]:List S75)⟩
def k26:Kd S26:=Kd.iso (Kd.pair Kd.bool (Kd.pair Kd.bool (Kd.pair (Kd.int .i64) (Kd.pair (Kd.int .i64) (Kd.pair (Kd.int .i64) (Kd.slice 75 k75)))))) (fun x:S26=>(x.f0,x.f1,x.f2,x.f3,x.f4,x.f5))
theorem k26_open {w:World} {x:S26} {cs:List Value} (h:k26.K w x cs):∃ A5 c5,cs = [.bool x.f0,.bool x.f1,.int .i64 x.f2,.int .i64 x.f3,.int .i64 x.f4,.slice A5 x.f5.length c5]∧x.f5.length≤c5∧k75.C w A5 x.f5.length x.f5:=by
 obtain ⟨_,_,rfl,rfl,⟨_,_,rfl,rfl,⟨_,_,rfl,rfl,⟨_,_,rfl,rfl,⟨_,_,rfl,rfl,⟨A5,c5,rfl,l5,g5⟩⟩⟩⟩⟩⟩:=h;exact ⟨A5,c5,rfl,l5,g5⟩
theorem k26_openM {w:World} {base:Nat} {ok:Nat→Prop} {x:S26} {cs:List Value} (h:k26.M w base ok x cs):∃ v5,cs = [.bool x.f0,.bool x.f1,.int .i64 x.f2,.int .i64 x.f3,.int .i64 x.f4,v5]∧k75.R 75 w base ok v5 x.f5:=by
 obtain ⟨_,_,rfl,rfl,⟨_,_,rfl,rfl,⟨_,_,rfl,rfl,⟨_,_,rfl,rfl,⟨_,_,rfl,rfl,⟨v5,rfl,g5⟩⟩⟩⟩⟩⟩:=h;exact ⟨v5,rfl,g5⟩
theorem k26_mkM (w:World) (base:Nat) (ok:Nat→Prop) (x:S26) {v5:Value} (g5:k75.R 75 w base ok v5 x.f5):k26.M w base ok x [.bool x.f0,.bool x.f1,.int .i64 x.f2,.int .i64 x.f3,.int .i64 x.f4,v5]:=⟨[.bool x.f0],[.bool x.f1,.int .i64 x.f2,.int .i64 x.f3,.int .i64 x.f4,v5],rfl,rfl,⟨[.bool x.f1],[.int .i64 x.f2,.int .i64 x.f3,.int .i64 x.f4,v5],rfl,rfl,⟨[.int .i64 x.f2],[.int .i64 x.f3,.int .i64 x.f4,v5],rfl,rfl,⟨[.int .i64 x.f3],[.int .i64 x.f4,v5],rfl,rfl,⟨[.int .i64 x.f4],[v5],rfl,rfl,⟨v5,rfl,g5⟩⟩⟩⟩⟩⟩
def Qb (xs:List S26) (i:Int):S26:=xs.getD i.toNat z26
theorem at_T26 {w:World} {A:Option Addr} {n:Nat} {xs:List S26} (h:Kd.C k26 w A n xs) (i:Int) (h0 : 0≤i) (h1:i < n):∃ ad A5 c5,A=some ad∧w.cell? (ad.add (i.toNat * 6))=some (.bool (Qb xs i).f0)∧w.cell? ⟨(ad.add (i.toNat * 6)).block,(ad.add (i.toNat * 6)).off+1,none⟩=some (.bool (Qb xs i).f1)∧w.cell? ⟨(ad.add (i.toNat * 6)).block,(ad.add (i.toNat * 6)).off+2,none⟩=some (.int .i64 (Qb xs i).f2)∧w.cell? ⟨(ad.add (i.toNat * 6)).block,(ad.add (i.toNat * 6)).off+3,none⟩=some (.int .i64 (Qb xs i).f3)∧w.cell? ⟨(ad.add (i.toNat * 6)).block,(ad.add (i.toNat * 6)).off+4,none⟩=some (.int .i64 (Qb xs i).f4)∧w.cell? ⟨(ad.add (i.toNat * 6)).block,(ad.add (i.toNat * 6)).off+5,none⟩=some (.slice A5 (Qb xs i).f5.length c5)∧(Qb xs i).f5.length≤c5∧k75.C w A5 (Qb xs i).f5.length (Qb xs i).f5:=by
 obtain ⟨ad,c,e,_,hK,hc0⟩:=Kd.C_get h z26 i h0 h1;have hc:∀ j u,c[j]? = some u→w.cell? (ad.add (i.toNat * 6+j))=some u:=hc0;obtain ⟨A5,c5,rfl,l5,g5⟩:=k26_open hK;exact ⟨ad,A5,c5,e,hc 0 _ rfl,by rw [← add_field _ _ 1 (by omega)];exact hc 1 _ rfl,by rw [← add_field _ _ 2 (by omega)];exact hc 2 _ rfl,by rw [← add_field _ _ 3 (by omega)];exact hc 3 _ rfl,by rw [← add_field _ _ 4 (by omega)];exact hc 4 _ rfl,by rw [← add_field _ _ 5 (by omega)];exact hc 5 _ rfl,l5,g5⟩
structure S94 where
 f0:Int
 f1:Int
 f2:Bool
 f3:(List Int)
 f4:Bool
 f5:(List Int)
def z94:S94:=⟨(0:Int),(0:Int),false,([]:List Int),false,([]:List Int)⟩
def k94:Kd S94:=Kd.iso (Kd.pair (Kd.int .i64) (Kd.pair (Kd.int .i64) (Kd.pair Kd.bool (Kd.pair (Kd.slice 3 (Kd.int .i64)) (Kd.pair Kd.bool (Kd.slice 3 (Kd.int .i64))))))) (fun x:S94=>(x.f0,x.f1,x.f2,x.f3,x.f4,x.f5))
theorem k94_open {w:World} {x:S94} {cs:List Value} (h:k94.K w x cs):∃ A3 c3 A5 c5,cs = [.int .i64 x.f0,.int .i64 x.f1,.bool x.f2,.slice A3 x.f3.length c3,.bool x.f4,.slice A5 x.f5.length c5]∧x.f3.length≤c3∧(Kd.int .i64).C w A3 x.f3.length x.f3∧x.f5.length≤c5∧(Kd.int .i64).C w A5 x.f5.length x.f5:=by
 obtain ⟨_,_,rfl,rfl,⟨_,_,rfl,rfl,⟨_,_,rfl,rfl,⟨_,_,rfl,⟨A3,c3,rfl,l3,g3⟩,⟨_,_,rfl,rfl,⟨A5,c5,rfl,l5,g5⟩⟩⟩⟩⟩⟩:=h;exact ⟨A3,c3,A5,c5,rfl,l3,g3,l5,g5⟩
def Qv (xs:List S94) (i:Int):S94:=xs.getD i.toNat z94
theorem at_T94 {w:World} {A:Option Addr} {n:Nat} {xs:List S94} (h:Kd.C k94 w A n xs) (i:Int) (h0 : 0≤i) (h1:i < n):∃ ad A3 c3 A5 c5,A=some ad∧w.cell? (ad.add (i.toNat * 6))=some (.int .i64 (Qv xs i).f0)∧w.cell? ⟨(ad.add (i.toNat * 6)).block,(ad.add (i.toNat * 6)).off+1,none⟩=some (.int .i64 (Qv xs i).f1)∧w.cell? ⟨(ad.add (i.toNat * 6)).block,(ad.add (i.toNat * 6)).off+2,none⟩=some (.bool (Qv xs i).f2)∧w.cell? ⟨(ad.add (i.toNat * 6)).block,(ad.add (i.toNat * 6)).off+3,none⟩=some (.slice A3 (Qv xs i).f3.length c3)∧w.cell? ⟨(ad.add (i.toNat * 6)).block,(ad.add (i.toNat * 6)).off+4,none⟩=some (.bool (Qv xs i).f4)∧w.cell? ⟨(ad.add (i.toNat * 6)).block,(ad.add (i.toNat * 6)).off+5,none⟩=some (.slice A5 (Qv xs i).f5.length c5)∧(Qv xs i).f3.length≤c3∧(Kd.int .i64).C w A3 (Qv xs i).f3.length (Qv xs i).f3∧(Qv xs i).f5.length≤c5∧(Kd.int .i64).C w A5 (Qv xs i).f5.length (Qv xs i).f5:=by
 obtain ⟨ad,c,e,_,hK,hc0⟩:=Kd.C_get h z94 i h0 h1;have hc:∀ j u,c[j]? = some u→w.cell? (ad.add (i.toNat * 6+j))=some u:=hc0;obtain ⟨A3,c3,A5,c5,rfl,l3,g3,l5,g5⟩:=k94_open hK;exact ⟨ad,A3,c3,A5,c5,e,hc 0 _ rfl,by rw [← add_field _ _ 1 (by omega)];exact hc 1 _ rfl,by rw [← add_field _ _ 2 (by omega)];exact hc 2 _ rfl,by rw [← add_field _ _ 3 (by omega)];exact hc 3 _ rfl,by rw [← add_field _ _ 4 (by omega)];exact hc 4 _ rfl,by rw [← add_field _ _ 5 (by omega)];exact hc 5 _ rfl,l3,g3,l5,g5⟩
structure S38 where
 f0:Bool
 f1:Bool
 f2:Int
 f3:Int
 f4:Int
 f5:(List S94)
def z38:S38:=⟨false,false,(0:Int),(0:Int),(0:Int),([]:List S94)⟩
def k38:Kd S38:=Kd.iso (Kd.pair Kd.bool (Kd.pair Kd.bool (Kd.pair (Kd.int .i64) (Kd.pair (Kd.int .i64) (Kd.pair (Kd.int .i64) (Kd.slice 94 k94)))))) (fun x:S38=>(x.f0,x.f1,x.f2,x.f3,x.f4,x.f5))
theorem k38_open {w:World} {x:S38} {cs:List Value} (h:k38.K w x cs):∃ A5 c5,cs = [.bool x.f0,.bool x.f1,.int .i64 x.f2,.int .i64 x.f3,.int .i64 x.f4,.slice A5 x.f5.length c5]∧x.f5.length≤c5∧k94.C w A5 x.f5.length x.f5:=by
 obtain ⟨_,_,rfl,rfl,⟨_,_,rfl,rfl,⟨_,_,rfl,rfl,⟨_,_,rfl,rfl,⟨_,_,rfl,rfl,⟨A5,c5,rfl,l5,g5⟩⟩⟩⟩⟩⟩:=h;exact ⟨A5,c5,rfl,l5,g5⟩
def Qy (xs:List S38) (i:Int):S38:=xs.getD i.toNat z38
theorem at_T38 {w:World} {A:Option Addr} {n:Nat} {xs:List S38} (h:Kd.C k38 w A n xs) (i:Int) (h0 : 0≤i) (h1:i < n):∃ ad A5 c5,A=some ad∧w.cell? (ad.add (i.toNat * 6))=some (.bool (Qy xs i).f0)∧w.cell? ⟨(ad.add (i.toNat * 6)).block,(ad.add (i.toNat * 6)).off+1,none⟩=some (.bool (Qy xs i).f1)∧w.cell? ⟨(ad.add (i.toNat * 6)).block,(ad.add (i.toNat * 6)).off+2,none⟩=some (.int .i64 (Qy xs i).f2)∧w.cell? ⟨(ad.add (i.toNat * 6)).block,(ad.add (i.toNat * 6)).off+3,none⟩=some (.int .i64 (Qy xs i).f3)∧w.cell? ⟨(ad.add (i.toNat * 6)).block,(ad.add (i.toNat * 6)).off+4,none⟩=some (.int .i64 (Qy xs i).f4)∧w.cell? ⟨(ad.add (i.toNat * 6)).block,(ad.add (i.toNat * 6)).off+5,none⟩=some (.slice A5 (Qy xs i).f5.length c5)∧(Qy xs i).f5.length≤c5∧k94.C w A5 (Qy xs i).f5.length (Qy xs i).f5:=by
 obtain ⟨ad,c,e,_,hK,hc0⟩:=Kd.C_get h z38 i h0 h1;have hc:∀ j u,c[j]? = some u→w.cell? (ad.add (i.toNat * 6+j))=some u:=hc0;obtain ⟨A5,c5,rfl,l5,g5⟩:=k38_open hK;exact ⟨ad,A5,c5,e,hc 0 _ rfl,by rw [← add_field _ _ 1 (by omega)];exact hc 1 _ rfl,by rw [← add_field _ _ 2 (by omega)];exact hc 2 _ rfl,by rw [← add_field _ _ 3 (by omega)];exact hc 3 _ rfl,by rw [← add_field _ _ 4 (by omega)];exact hc 4 _ rfl,by rw [← add_field _ _ 5 (by omega)];exact hc 5 _ rfl,l5,g5⟩
end Go.Proofs.Ytmophgccpnpgfaa.T
namespace Go.Proofs.Ytmophgccpnpgfaa.T
open Go.RowKit Go.Proofs.YtmophgccpnpgfaaW.PrintWords Go.Proofs.YtmophgccpnpgfaaW.PrintLast Go.Proofs.YtmophgccpnpgfaaW.PrintMore

set_option linter.unusedVariables false
set_option linter.unusedSimpArgs false
def Rj.f (a0_0:Int) (a0_1:Int) (a0_2:Int) (a1_0:Int) (a1_1:Int) (a1_2:Int):Option (Bool):=if a0_0=a1_0 then (if a0_1=a1_1 then (if a0_2=a1_2 then (some true) else (some false)) else (some false)) else (some false)
set_option maxHeartbeats 8000000 in
theorem Rj.calls (a3:Int) (a4:Int) (a5:Int) (b3:Int) (b4:Int) (b5:Int) (r:Bool) (w:World) (h:Rj.f a3 a4 a5 b3 b4 b5=some r) :
  Calls Try.prog 45 #[.agg #[.int .i64 a3,.int .i64 a4,.int .i64 a5],.agg #[.int .i64 b3,.int .i64 b4,.int .i64 b5]] w fun e w'=>e = .returned (.bool r)∧Below w.heap.size w w':=by
 have hu67:=Try.underlying67;have HB:=zzm (Below.refl w.heap.size w);have H:(if a3=b3 then (if a4=b4 then (if a5=b5 then (some true) else (some false)) else (some false)) else (some false))=some r:=h;clear h;by_cases c3:a3=b3
 ·
  rw [if_pos c3] at H;obtain ⟨c6,c7⟩:=zzQ c3;clear c3;by_cases c4:a4=b4
  ·
   rw [if_pos c4] at H;obtain ⟨c8,c9⟩:=zzQ c4;clear c4;by_cases c5:a5=b5
   ·
    rw [if_pos c5] at H;obtain ⟨d0,d1⟩:=zzQ c5;clear c5;obtain rfl:=Option.some.inj H;go_enter Try.func45,Try.ntmps45;go_wp2_with (first|((with_reducible refine gate_dst (N:=2) rfl ?_);refine box_event ?hg (N:=2) ?hd (cs:=#[.int .i64 a3,.int .i64 a4,.int .i64 a5]) (t:=67) ?hr ?_;(case hd=>rfl);(case hg=>rfl);(case hr=>first|(go_simp;done)|(go_simp;rfl));intro a0 hg w6 hbox hb;have a6:=zzm (zzp zzh1 hb);have a7:=zzm (hbox);have a8:=zzm ((by rw [hg];exact (zzo zzh1):w.heap.size≤a0));have a9:=zzm ((by rw [hg];exact (zzo zzh1):w.heap.size≤a0));clear HB;have HB:=a6;have a1:=a7;have b9:=a8;have c0:=a9;clear a6 a7 a8 a9 hb hbox hg)|((with_reducible refine gate_dst (N:=3) rfl ?_);refine box_event ?hg (N:=3) ?hd (cs:=#[.int .i64 b3,.int .i64 b4,.int .i64 b5]) (t:=67) ?hr ?_;(case hd=>rfl);(case hg=>rfl);(case hr=>first|(go_simp;done)|(go_simp;rfl));intro a2 hg w7 hbox hb;have a6:=zzm (zzh (g:=a0) (o:=.cells #[.int .i64 a3,.int .i64 a4,.int .i64 a5] 67 (0,0)) (zzE a1.out) hb);have a7:=zzm (zzp zzh2 hb);have a8:=zzm (hbox);have a9:=zzm ((by rw [hg];exact (zzo zzh2):w.heap.size≤a2));have b6:=zzm ((by rw [hg];exact (zzo zzh2):w.heap.size≤a2));have b7:=zzm ((by rw [hg];exact Nat.ne_of_lt (blk_lt (g:=a0) (o:=.cells #[.int .i64 a3,.int .i64 a4,.int .i64 a5] 67 (0,0)) (zzE a1.out)):a0≠a2));have b8:=zzm ((by rw [hg];exact Nat.ne_of_gt (blk_lt (g:=a0) (o:=.cells #[.int .i64 a3,.int .i64 a4,.int .i64 a5] 67 (0,0)) (zzE a1.out)):a2≠a0));clear a1 HB;have a1:=a6;have HB:=a7;have b2:=a8;have c1:=a9;have c2:=b6;have b0:=b7;have b1:=b8;clear a6 a7 a8 a9 b6 b7 b8 hb hbox hg;have k9:=b0.out;have l1:=b1.out;obtain ⟨j7,j8,j9,k0,k1,k2⟩:=zzc3 a1.out;obtain ⟨d2,d3,d4,d5,d6,d7⟩:=zzc3 b2.out));go_ret;exact ⟨zzR,zzh3⟩
   ·
    rw [if_neg c5] at H;obtain ⟨d0,d1⟩:=zzY c5;obtain rfl:=Option.some.inj H;go_enter Try.func45,Try.ntmps45;go_wp2_with (first|((with_reducible refine gate_dst (N:=2) rfl ?_);refine box_event ?hg (N:=2) ?hd (cs:=#[.int .i64 a3,.int .i64 a4,.int .i64 a5]) (t:=67) ?hr ?_;(case hd=>rfl);(case hg=>rfl);(case hr=>first|(go_simp;done)|(go_simp;rfl));intro a0 hg l2 hbox hb;have a6:=zzm (zzp zzh1 hb);have a7:=zzm (hbox);have a8:=zzm ((by rw [hg];exact (zzo zzh1):w.heap.size≤a0));have a9:=zzm ((by rw [hg];exact (zzo zzh1):w.heap.size≤a0));clear HB;have HB:=a6;have a1:=a7;have b9:=a8;have c0:=a9;clear a6 a7 a8 a9 hb hbox hg)|((with_reducible refine gate_dst (N:=3) rfl ?_);refine box_event ?hg (N:=3) ?hd (cs:=#[.int .i64 b3,.int .i64 b4,.int .i64 b5]) (t:=67) ?hr ?_;(case hd=>rfl);(case hg=>rfl);(case hr=>first|(go_simp;done)|(go_simp;rfl));intro a2 hg l3 hbox hb;have a6:=zzm (zzh (g:=a0) (o:=.cells #[.int .i64 a3,.int .i64 a4,.int .i64 a5] 67 (0,0)) (zzE a1.out) hb);have a7:=zzm (zzp zzh2 hb);have a8:=zzm (hbox);have a9:=zzm ((by rw [hg];exact (zzo zzh2):w.heap.size≤a2));have b6:=zzm ((by rw [hg];exact (zzo zzh2):w.heap.size≤a2));have b7:=zzm ((by rw [hg];exact Nat.ne_of_lt (blk_lt (g:=a0) (o:=.cells #[.int .i64 a3,.int .i64 a4,.int .i64 a5] 67 (0,0)) (zzE a1.out)):a0≠a2));have b8:=zzm ((by rw [hg];exact Nat.ne_of_gt (blk_lt (g:=a0) (o:=.cells #[.int .i64 a3,.int .i64 a4,.int .i64 a5] 67 (0,0)) (zzE a1.out)):a2≠a0));clear a1 HB;have a1:=a6;have HB:=a7;have b2:=a8;have c1:=a9;have c2:=b6;have b0:=b7;have b1:=b8;clear a6 a7 a8 a9 b6 b7 b8 hb hbox hg;have k3:=b0.out;have k4:=b1.out;obtain ⟨d8,d9,e0,e1,e2,e3⟩:=zzc3 a1.out;obtain ⟨e4,e5,e6,e7,e8,e9⟩:=zzc3 b2.out));go_ret;exact ⟨zzR,zzh3⟩
  ·
   rw [if_neg c4] at H;obtain ⟨c8,c9⟩:=zzY c4;obtain rfl:=Option.some.inj H;go_enter Try.func45,Try.ntmps45;go_wp2_with (first|((with_reducible refine gate_dst (N:=2) rfl ?_);refine box_event ?hg (N:=2) ?hd (cs:=#[.int .i64 a3,.int .i64 a4,.int .i64 a5]) (t:=67) ?hr ?_;(case hd=>rfl);(case hg=>rfl);(case hr=>first|(go_simp;done)|(go_simp;rfl));intro a0 hg l4 hbox hb;have a6:=zzm (zzp zzh1 hb);have a7:=zzm (hbox);have a8:=zzm ((by rw [hg];exact (zzo zzh1):w.heap.size≤a0));have a9:=zzm ((by rw [hg];exact (zzo zzh1):w.heap.size≤a0));clear HB;have HB:=a6;have a1:=a7;have b9:=a8;have c0:=a9;clear a6 a7 a8 a9 hb hbox hg)|((with_reducible refine gate_dst (N:=3) rfl ?_);refine box_event ?hg (N:=3) ?hd (cs:=#[.int .i64 b3,.int .i64 b4,.int .i64 b5]) (t:=67) ?hr ?_;(case hd=>rfl);(case hg=>rfl);(case hr=>first|(go_simp;done)|(go_simp;rfl));intro a2 hg l5 hbox hb;have a6:=zzm (zzh (g:=a0) (o:=.cells #[.int .i64 a3,.int .i64 a4,.int .i64 a5] 67 (0,0)) (zzE a1.out) hb);have a7:=zzm (zzp zzh2 hb);have a8:=zzm (hbox);have a9:=zzm ((by rw [hg];exact (zzo zzh2):w.heap.size≤a2));have b6:=zzm ((by rw [hg];exact (zzo zzh2):w.heap.size≤a2));have b7:=zzm ((by rw [hg];exact Nat.ne_of_lt (blk_lt (g:=a0) (o:=.cells #[.int .i64 a3,.int .i64 a4,.int .i64 a5] 67 (0,0)) (zzE a1.out)):a0≠a2));have b8:=zzm ((by rw [hg];exact Nat.ne_of_gt (blk_lt (g:=a0) (o:=.cells #[.int .i64 a3,.int .i64 a4,.int .i64 a5] 67 (0,0)) (zzE a1.out)):a2≠a0));clear a1 HB;have a1:=a6;have HB:=a7;have b2:=a8;have c1:=a9;have c2:=b6;have b0:=b7;have b1:=b8;clear a6 a7 a8 a9 b6 b7 b8 hb hbox hg;have k5:=b0.out;have k6:=b1.out;obtain ⟨g0,g1,g2,g3,g4,g5⟩:=zzc3 a1.out;obtain ⟨g6,g7,g8,g9,h0,h1⟩:=zzc3 b2.out));go_ret;exact ⟨zzR,zzh3⟩
 ·
  rw [if_neg c3] at H;obtain ⟨c6,c7⟩:=zzY c3;obtain rfl:=Option.some.inj H;go_enter Try.func45,Try.ntmps45;go_wp2_with (first|((with_reducible refine gate_dst (N:=2) rfl ?_);refine box_event ?hg (N:=2) ?hd (cs:=#[.int .i64 a3,.int .i64 a4,.int .i64 a5]) (t:=67) ?hr ?_;(case hd=>rfl);(case hg=>rfl);(case hr=>first|(go_simp;done)|(go_simp;rfl));intro a0 hg l6 hbox hb;have a6:=zzm (zzp zzh1 hb);have a7:=zzm (hbox);have a8:=zzm ((by rw [hg];exact (zzo zzh1):w.heap.size≤a0));have a9:=zzm ((by rw [hg];exact (zzo zzh1):w.heap.size≤a0));clear HB;have HB:=a6;have a1:=a7;have b9:=a8;have c0:=a9;clear a6 a7 a8 a9 hb hbox hg)|((with_reducible refine gate_dst (N:=3) rfl ?_);refine box_event ?hg (N:=3) ?hd (cs:=#[.int .i64 b3,.int .i64 b4,.int .i64 b5]) (t:=67) ?hr ?_;(case hd=>rfl);(case hg=>rfl);(case hr=>first|(go_simp;done)|(go_simp;rfl));intro a2 hg l7 hbox hb;have a6:=zzm (zzh (g:=a0) (o:=.cells #[.int .i64 a3,.int .i64 a4,.int .i64 a5] 67 (0,0)) (zzE a1.out) hb);have a7:=zzm (zzp zzh2 hb);have a8:=zzm (hbox);have a9:=zzm ((by rw [hg];exact (zzo zzh2):w.heap.size≤a2));have b6:=zzm ((by rw [hg];exact (zzo zzh2):w.heap.size≤a2));have b7:=zzm ((by rw [hg];exact Nat.ne_of_lt (blk_lt (g:=a0) (o:=.cells #[.int .i64 a3,.int .i64 a4,.int .i64 a5] 67 (0,0)) (zzE a1.out)):a0≠a2));have b8:=zzm ((by rw [hg];exact Nat.ne_of_gt (blk_lt (g:=a0) (o:=.cells #[.int .i64 a3,.int .i64 a4,.int .i64 a5] 67 (0,0)) (zzE a1.out)):a2≠a0));clear a1 HB;have a1:=a6;have HB:=a7;have b2:=a8;have c1:=a9;have c2:=b6;have b0:=b7;have b1:=b8;clear a6 a7 a8 a9 b6 b7 b8 hb hbox hg;have k7:=b0.out;have k8:=b1.out;obtain ⟨h2,h3,h4,h5,h6,h7⟩:=zzc3 a1.out;obtain ⟨h8,h9,j3,j4,j5,j6⟩:=zzc3 b2.out));go_ret;exact ⟨zzR,zzh3⟩

set_option linter.unusedVariables false
set_option linter.unusedSimpArgs false
def Qe.l0:Nat→List (S67)→List (S67)→Int→Option (Bool)
 | 0,_,_,_=>none
 | k+1,x0,x1,x5=>if x5 < (x0.length:Int) then (if 0≤x5 then (if x5 < (x1.length:Int) then ((Rj.f ((Qc x0 x5).f0) ((Qc x0 x5).f1) ((Qc x0 x5).f2) ((Qc x1 x5).f0) ((Qc x1 x5).f1) ((Qc x1 x5).f2)).bind fun t457=>(if t457=true then (Qe.l0 k x0 x1 (wrap64 (x5+1))) else (some false))) else (none)) else (none)) else (some true)
def Qe.f (k:Nat) (l0:List (S67)) (l1:List (S67)):Option (Bool):=if (l0.length:Int)=(l1.length:Int) then (Qe.l0 k l0 l1 0) else (some false)
def Qe.T6:Bool×List (List Nat×List Nat):=(true,[([],[]),([],[]),([0,1],[0,1]),([2],[2]),([],[]),([],[]),([4,5],[4,5]),([6],[6]),([3,7],[3,7]),([8],[8])])
def Qe.B6:List Nat:=[0,0,3,7,0,0,48,112,255,511]
theorem Qe.tab6:rtab .any (opsOf Try.f16 6)=Qe.T6:=by kernel_rfl
theorem Qe.bits6:waitsOk Qe.T6.2 Qe.B6=true:=by kernel_rfl
set_option maxHeartbeats 8000000 in
theorem Qe.calls (k:Nat) (A0:Option Addr) (c0:Nat) (l0:List (S67)) (A1:Option Addr) (c1:Nat) (l1:List (S67)) (r:Bool) (w:World) (d5:Kd.C k67 w A0 l0.length l0) (d6:l0.length≤c0) (d7:Kd.C k67 w A1 l1.length l1) (d8:l1.length≤c1) (h:Qe.f k l0 l1=some r) :
  Calls Try.prog 16 #[.slice A0 l0.length c0,.slice A1 l1.length c1] w fun e w'=>e = .returned (.bool r)∧Below w.heap.size w w':=by
 have hu67:=Try.underlying67;have d9:=zzm d5;have e5:=zzm d6;clear d5 d6;have e0:=zzm d7;have e6:=zzm d8;clear d7 d8;have HB:=zzm (Below.refl w.heap.size w);have H:(if (l0.length:Int)=(l1.length:Int) then (Qe.l0 k l0 l1 0) else (some false))=some r:=h;clear h;by_cases c3:(l0.length:Int)=(l1.length:Int)
 ·
  rw [if_pos c3] at H;obtain ⟨d2,d3⟩:=zzQ c3;have d4:(l0.length==l1.length)=true:=by first|simpa using c3|(simp at c3 ⊢;omega)
  clear c3;have H':=zzm H;clear H;go_enter Try.func16,Try.ntmps16;go_wp2;go_loopg [5] k (fun kq v5 w'=>∃ (a0:Int),v5 = .int .i64 a0∧Aside0 (Qe.l0 kq l0 l1 a0=some r)∧Aside0 (kq≤k)∧Aside0 (Below w.heap.size w w'))
  case atStart=>exact ⟨(0),(by first|rfl|(simp;done)|(simp [*];done)),H',⟨Nat.le_refl _⟩,⟨zzh1⟩⟩
  case round=>
   clear H';try clear c1
   try clear p2
   try clear c3
   try clear d2
   try clear d3
   try clear d4
   obtain ⟨a0,rfl,HA,HK1,HB⟩:=hrel;cases gk with
   | zero=>exact absurd HA.out (by simp [Qe.l0])
   | succ k1=>
    have H:=HA.out;clear HA;simp only [Qe.l0] at H;by_cases c4:a0 < (l0.length:Int)
    ·
     rw [if_pos c4] at H;have e1:decide (a0 < (l0.length:Int))=true:=decide_eq_true c4;clear c4;by_cases c5 : 0≤a0
     ·
      rw [if_pos c5] at H;have e3:decide (0≤a0)=true:=decide_eq_true c5;clear c5;by_cases c6:a0 < (l1.length:Int)
      ·
       rw [if_pos c6] at H;have e4:decide (a0 < (l1.length:Int))=true:=decide_eq_true c6;clear c6;obtain ⟨e2,A7,H⟩:=zzG H;by_cases c8:e2=true
       ·
        subst c8;replace H:=zzIt H;have H':=zzm H;clear H;try go_wp2
        have b7:=zzm (zzc HB.out);clear HB;have HB:=b7;clear b7;have b8 : 0≤(a0:Int):=zzt;have b9:a0 < (l0.length:Int):=zzt;obtain ⟨a8,d0,a2,a3,a4⟩:=Q8 d9.out a0 b8 b9;have b1:=a4;have b2:=a3;have b3:=a2;cases d0;replace a2:=zzx HB.out a2;replace a3:=zzx HB.out a3;replace a4:=zzx HB.out a4;replace b8:=eq_true b8;replace b9:=eq_true b9;have c2 : 0≤(a0:Int):=zzt;have c7:a0 < (l1.length:Int):=zzt;obtain ⟨a9,d1,a5,a6,a7⟩:=Q8 e0.out a0 c2 c7;have b4:=a7;have b5:=a6;have b6:=a5;cases d1;replace a5:=zzx HB.out a5;replace a6:=zzx HB.out a6;replace a7:=zzx HB.out a7;replace c2:=eq_true c2;replace c7:=eq_true c7;refine start_ (n:=10) (S:=fun w'=>w'.cell? (a8.add ((a0).toNat * 3))=some (.int .i64 ((Qc l0 a0).f0))∧w'.cell? ⟨(a8.add ((a0).toNat * 3)).block,(a8.add ((a0).toNat * 3)).off+1,none⟩=some (.int .i64 ((Qc l0 a0).f1))∧w'.cell? ⟨(a8.add ((a0).toNat * 3)).block,(a8.add ((a0).toNat * 3)).off+2,none⟩=some (.int .i64 ((Qc l0 a0).f2))∧w'.cell? (a9.add ((a0).toNat * 3))=some (.int .i64 ((Qc l1 a0).f0))∧w'.cell? ⟨(a9.add ((a0).toNat * 3)).block,(a9.add ((a0).toNat * 3)).off+1,none⟩=some (.int .i64 ((Qc l1 a0).f1))∧w'.cell? ⟨(a9.add ((a0).toNat * 3)).block,(a9.add ((a0).toNat * 3)).off+2,none⟩=some (.int .i64 ((Qc l1 a0).f2))) (ds:=[]) (zzB 10 0) (by kernel_rfl) rfl rfl ⟨(zzx HB.out b3),(zzx HB.out b2),(zzx HB.out b1),(zzx HB.out b6),(zzx HB.out b5),(zzx HB.out b4)⟩ (fun b0=>?_);refine with_tabW Qe.tab6 Qe.bits6 (fun a1 c9=>?_);generalize wr.drew=w9 at HB a2 a3 a4 a5 a6 a7 b0 ⊢;refine zzP 0 17 10 1 a1 ?_
        refine zzP 1 18 10 3 a1 ?_
        refine zzP 2 19 10 7 a1 ?_
        refine zzP 4 21 10 23 a1 ?_
        refine zzP 5 22 10 55 a1 ?_
        refine zzP 6 23 10 119 a1 ?_
        refine zzT 3 20 10 127 a1 c9 b0 ?_
        refine zzT 7 24 10 255 a1 c9 b0 ?_
        refine one_ (i:=8) (N:=some 25) (zzB 10 511) rfl rfl (one_of a1.out (by kernel_rfl)) (by decide) (fun K hK=>?_);refine goes_ Try.func45 (by kernel_rfl) rfl #[.agg #[.int .i64 ((Qc l0 a0).f0),.int .i64 ((Qc l0 a0).f1),.int .i64 ((Qc l0 a0).f2)],.agg #[.int .i64 ((Qc l1 a0).f0),.int .i64 ((Qc l1 a0).f1),.int .i64 ((Qc l1 a0).f2)]] (by rfl) rfl rfl zzM2 ?_;with_reducible refine (Rj.calls ((Qc l0 a0).f0) ((Qc l0 a0).f1) ((Qc l0 a0).f2) ((Qc l1 a0).f0) ((Qc l1 a0).f1) ((Qc l1 a0).f2) true _ A7.out).mono ?_;rintro e e7 ⟨rfl,hb⟩;refine ⟨_,rfl,?_⟩;have b7:=zzm (zzp zzh1 hb);clear HB;have HB:=b7;clear b7
        (try clear hb)
        (try clear hb2)
        (try clear hk)
        (try clear hi);refine hK.out _ _ ⟨(zzx HB.out b3),(zzx HB.out b2),(zzx HB.out b1),(zzx HB.out b6),(zzx HB.out b5),(zzx HB.out b4)⟩ (fun b0=>?_);clear hK K;refine zzO 25 ?_
        refine zzP 9 26 10 1023 a1 ?_
        refine done_ (done_of a1.out (by kernel_rfl)) ?_;try go_wp2
        go_roundg k1
        case measure=>have:=HK1.out;omega
        case rel=>exact ⟨(wrap64 (a0+1)),(by first|rfl|(simp;done)|(simp [*];done)),H',⟨by have:=HK1.out;omega⟩,⟨zzh1⟩⟩
       ·
        replace c8:=Bool.eq_false_iff.mpr c8;subst c8;replace H:=zzIf H;obtain rfl:=Option.some.inj H;try go_wp2
        have b7:=zzm (zzc HB.out);clear HB;have HB:=b7;clear b7;have b8 : 0≤(a0:Int):=zzt;have b9:a0 < (l0.length:Int):=zzt;obtain ⟨a8,d0,a2,a3,a4⟩:=Q8 d9.out a0 b8 b9;have b1:=a4;have b2:=a3;have b3:=a2;cases d0;replace a2:=zzx HB.out a2;replace a3:=zzx HB.out a3;replace a4:=zzx HB.out a4;replace b8:=eq_true b8;replace b9:=eq_true b9;have c2 : 0≤(a0:Int):=zzt;have c7:a0 < (l1.length:Int):=zzt;obtain ⟨a9,d1,a5,a6,a7⟩:=Q8 e0.out a0 c2 c7;have b4:=a7;have b5:=a6;have b6:=a5;cases d1;replace a5:=zzx HB.out a5;replace a6:=zzx HB.out a6;replace a7:=zzx HB.out a7;replace c2:=eq_true c2;replace c7:=eq_true c7;refine start_ (n:=10) (S:=fun w'=>w'.cell? (a8.add ((a0).toNat * 3))=some (.int .i64 ((Qc l0 a0).f0))∧w'.cell? ⟨(a8.add ((a0).toNat * 3)).block,(a8.add ((a0).toNat * 3)).off+1,none⟩=some (.int .i64 ((Qc l0 a0).f1))∧w'.cell? ⟨(a8.add ((a0).toNat * 3)).block,(a8.add ((a0).toNat * 3)).off+2,none⟩=some (.int .i64 ((Qc l0 a0).f2))∧w'.cell? (a9.add ((a0).toNat * 3))=some (.int .i64 ((Qc l1 a0).f0))∧w'.cell? ⟨(a9.add ((a0).toNat * 3)).block,(a9.add ((a0).toNat * 3)).off+1,none⟩=some (.int .i64 ((Qc l1 a0).f1))∧w'.cell? ⟨(a9.add ((a0).toNat * 3)).block,(a9.add ((a0).toNat * 3)).off+2,none⟩=some (.int .i64 ((Qc l1 a0).f2))) (ds:=[]) (zzB 10 0) (by kernel_rfl) rfl rfl ⟨(zzx HB.out b3),(zzx HB.out b2),(zzx HB.out b1),(zzx HB.out b6),(zzx HB.out b5),(zzx HB.out b4)⟩ (fun b0=>?_);refine with_tabW Qe.tab6 Qe.bits6 (fun a1 c9=>?_);generalize wr.drew=e8 at HB a2 a3 a4 a5 a6 a7 b0 ⊢;refine zzP 0 17 10 1 a1 ?_
        refine zzP 1 18 10 3 a1 ?_
        refine zzP 2 19 10 7 a1 ?_
        refine zzP 4 21 10 23 a1 ?_
        refine zzP 5 22 10 55 a1 ?_
        refine zzP 6 23 10 119 a1 ?_
        refine zzT 3 20 10 127 a1 c9 b0 ?_
        refine zzT 7 24 10 255 a1 c9 b0 ?_
        refine one_ (i:=8) (N:=some 25) (zzB 10 511) rfl rfl (one_of a1.out (by kernel_rfl)) (by decide) (fun K hK=>?_);refine goes_ Try.func45 (by kernel_rfl) rfl #[.agg #[.int .i64 ((Qc l0 a0).f0),.int .i64 ((Qc l0 a0).f1),.int .i64 ((Qc l0 a0).f2)],.agg #[.int .i64 ((Qc l1 a0).f0),.int .i64 ((Qc l1 a0).f1),.int .i64 ((Qc l1 a0).f2)]] (by rfl) rfl rfl zzM2 ?_;with_reducible refine (Rj.calls ((Qc l0 a0).f0) ((Qc l0 a0).f1) ((Qc l0 a0).f2) ((Qc l1 a0).f0) ((Qc l1 a0).f1) ((Qc l1 a0).f2) false _ A7.out).mono ?_;rintro e e9 ⟨rfl,hb⟩;refine ⟨_,rfl,?_⟩;have b7:=zzm (zzp zzh1 hb);clear HB;have HB:=b7;clear b7
        (try clear hb)
        (try clear hb2)
        (try clear hk)
        (try clear hi);refine hK.out _ _ ⟨(zzx HB.out b3),(zzx HB.out b2),(zzx HB.out b1),(zzx HB.out b6),(zzx HB.out b5),(zzx HB.out b4)⟩ (fun b0=>?_);clear hK K;refine zzO 25 ?_
        refine zzP 9 26 10 1023 a1 ?_
        refine done_ (done_of a1.out (by kernel_rfl)) ?_;try go_wp2
        go_ret;exact ⟨zzR,zzh1⟩
      ·
       rw [if_neg c6] at H;exact absurd H (by simp)
     ·
      rw [if_neg c5] at H;exact absurd H (by simp)
    ·
     rw [if_neg c4] at H;have e1:decide (a0 < (l0.length:Int))=false:=decide_eq_false c4;clear c4;obtain rfl:=Option.some.inj H;go_wp2;go_ret;exact ⟨zzR,zzh1⟩
 ·
  rw [if_neg c3] at H;obtain ⟨d2,d3⟩:=zzY c3;have d4:(l0.length==l1.length)=false:=by first|simpa using c3|(simp at c3 ⊢;omega)
  obtain rfl:=Option.some.inj H;go_enter Try.func16,Try.ntmps16;go_wp2;go_ret;exact ⟨zzR,zzh1⟩

set_option linter.unusedVariables false
set_option linter.unusedSimpArgs false
def Qq.l0:Nat→List Int→List Int→Int→Option (Bool)
 | 0,_,_,_=>none
 | k+1,x0,x1,x5=>if x5 < (x0.length:Int) then (if 0≤x5 then (if x5 < (x1.length:Int) then (if (rd x0 x5)=(rd x1 x5) then (Qq.l0 k x0 x1 (wrap64 (x5+1))) else (some false)) else (none)) else (none)) else (some true)
def Qq.f (k:Nat) (l0:List Int) (l1:List Int):Option (Bool):=if (l0.length:Int)=(l1.length:Int) then (Qq.l0 k l0 l1 0) else (some false)
set_option maxHeartbeats 8000000 in
theorem Qq.calls (k:Nat) (A0:Option Addr) (c0:Nat) (l0:List Int) (A1:Option Addr) (c1:Nat) (l1:List Int) (r:Bool) (w:World) (b4:Kd.C (Kd.int .i64) w A0 l0.length l0) (b5:l0.length≤c0) (b6:Kd.C (Kd.int .i64) w A1 l1.length l1) (b7:l1.length≤c1) (h:Qq.f k l0 l1=some r) :
  Calls Try.prog 25 #[.slice A0 l0.length c0,.slice A1 l1.length c1] w fun e w'=>e = .returned (.bool r)∧Drawn0 w w':=by
 have b8:=zzm b4;have d3:=zzm b5;clear b4 b5;have b9:=zzm b6;have d4:=zzm b7;clear b6 b7;have H:(if (l0.length:Int)=(l1.length:Int) then (Qq.l0 k l0 l1 0) else (some false))=some r:=h;clear h;by_cases c3:(l0.length:Int)=(l1.length:Int)
 ·
  rw [if_pos c3] at H;obtain ⟨a9,b0⟩:=zzQ c3;have b1:(l0.length==l1.length)=true:=by first|simpa using c3|(simp at c3 ⊢;omega)
  clear c3;have H':=zzm H;clear H;go_enter Try.func25,Try.ntmps25;go_wp2;repeat (go_quiet (fail);try go_wp2)
  go_loopg [5] k (fun kq v5 w'=>∃ (a0:Int),v5 = .int .i64 a0∧Aside0 (Qq.l0 kq l0 l1 a0=some r)∧Aside0 (kq≤k)∧Drawn0 w w')
  case atStart=>exact ⟨(0),(by first|rfl|(simp;done)|(simp [*];done)),H',⟨Nat.le_refl _⟩,by repeat (first|exact Drawn0.refl _|apply Drawn0.step)⟩
  case round=>
   clear H';try clear c1
   try clear c2
   try clear p2
   try clear c3
   try clear a9
   try clear b0
   try clear b1
   obtain ⟨a0,rfl,HA,HK1,⟨m1,rfl⟩⟩:=hrel;cases gk with
   | zero=>exact absurd HA.out (by simp [Qq.l0])
   | succ k1=>
    have H:=HA.out;clear HA;simp only [Qq.l0] at H;by_cases c4:a0 < (l0.length:Int)
    ·
     rw [if_pos c4] at H;have c8:decide (a0 < (l0.length:Int))=true:=decide_eq_true c4;clear c4;by_cases c5 : 0≤a0
     ·
      rw [if_pos c5] at H;have d1:decide (0≤a0)=true:=decide_eq_true c5;clear c5;by_cases c6:a0 < (l1.length:Int)
      ·
       rw [if_pos c6] at H;have d2:decide (a0 < (l1.length:Int))=true:=decide_eq_true c6;clear c6;by_cases c7:(rd l0 a0)=(rd l1 a0)
       ·
        rw [if_pos c7] at H;obtain ⟨c9,d0⟩:=zzQ c7;clear c7;have H':=zzm H;clear H;have a1 : 0≤(a0:Int):=zzt;have a2:a0 < (l0.length:Int):=zzt;obtain ⟨b2,a5,a7⟩:=Kd.at_int b8.out a0 a1 a2;cases a5;replace a1:=eq_true a1;replace a2:=eq_true a2;have a3 : 0≤(a0:Int):=zzt;have a4:a0 < (l1.length:Int):=zzt;obtain ⟨b3,a6,a8⟩:=Kd.at_int b9.out a0 a3 a4;cases a6;replace a3:=eq_true a3;replace a4:=eq_true a4;go_wp2;repeat (go_quiet (fail);try go_wp2)
        go_roundg k1
        case measure=>have:=HK1.out;omega
        case rel=>exact ⟨(wrap64 (a0+1)),(by first|rfl|(simp;done)|(simp [*];done)),H',⟨by have:=HK1.out;omega⟩,by repeat (first|exact Drawn0.refl _|apply Drawn0.step)⟩
       ·
        rw [if_neg c7] at H;obtain ⟨c9,d0⟩:=zzY c7;obtain rfl:=Option.some.inj H;have a1 : 0≤(a0:Int):=zzt;have a2:a0 < (l0.length:Int):=zzt;obtain ⟨b2,a5,a7⟩:=Kd.at_int b8.out a0 a1 a2;cases a5;replace a1:=eq_true a1;replace a2:=eq_true a2;have a3 : 0≤(a0:Int):=zzt;have a4:a0 < (l1.length:Int):=zzt;obtain ⟨b3,a6,a8⟩:=Kd.at_int b9.out a0 a3 a4;cases a6;replace a3:=eq_true a3;replace a4:=eq_true a4;go_wp2;repeat (go_quiet (fail);try go_wp2)
        go_ret;exact ⟨by first|rfl|(simp;done)|(simp [*];done),by repeat (first|exact Drawn0.refl _|apply Drawn0.step)⟩
      ·
       rw [if_neg c6] at H;exact absurd H (by simp)
     ·
      rw [if_neg c5] at H;exact absurd H (by simp)
    ·
     rw [if_neg c4] at H;have c8:decide (a0 < (l0.length:Int))=false:=decide_eq_false c4;clear c4;obtain rfl:=Option.some.inj H;go_wp2;repeat (go_quiet (fail);try go_wp2)
     go_ret;exact ⟨by first|rfl|(simp;done)|(simp [*];done),by repeat (first|exact Drawn0.refl _|apply Drawn0.step)⟩
 ·
  rw [if_neg c3] at H;obtain ⟨a9,b0⟩:=zzY c3;have b1:(l0.length==l1.length)=false:=by first|simpa using c3|(simp at c3 ⊢;omega)
  obtain rfl:=Option.some.inj H;go_enter Try.func25,Try.ntmps25;go_wp2;repeat (go_quiet (fail);try go_wp2)
  go_ret;exact ⟨by first|rfl|(simp;done)|(simp [*];done),by repeat (first|exact Drawn0.refl _|apply Drawn0.step)⟩

set_option linter.unusedVariables false
set_option linter.unusedSimpArgs false
def Ql.l0:Nat→List (S67)→Int→Int→Option (Int×(List (S67)))
 | 0,_,_,_=>none
 | k+1,x0,x1,x5=>if x5 < (x0.length:Int) then (if 0≤x5 then ((some (x0.set (x5:Int).toNat (⟨x1,(Qc x0 x5).f1,(Qc x0 x5).f2⟩:S67):List (S67))).bind fun y470=>((some (y470.set (x5:Int).toNat (⟨(Qc y470 x5).f0,wrap64 (x1+1),(Qc y470 x5).f2⟩:S67):List (S67))).bind fun y471=>(Ql.l0 k (y471.set (x5:Int).toNat (⟨(Qc y471 x5).f0,(Qc y471 x5).f1,wrap64 ((wrap64 (x1+1))+1)⟩:S67)) (wrap64 ((wrap64 ((wrap64 (x1+1))+1))+1)) (wrap64 (x5+1))))) else (none)) else (some (x1,x0))
def Ql.f (k:Nat) (l0:List (S67)) (a1:Int):Option (Int×(List (S67))):=Ql.l0 k l0 a1 0
set_option maxHeartbeats 8000000 in
theorem Ql.calls (k:Nat) (P0_:Nat→Prop) (u9000_:Value) (l0:List (S67)) (a1:Int) (r1:Int) (r2:List (S67)) (w0 w:World) (hB:Below w0.heap.size w0 w) (ho0:Kd.R k67 67 w w0.heap.size P0_ u9000_ l0) (h:Ql.f k l0 a1=some (r1,r2)) :
  Calls Try.prog 18 #[u9000_,.int .i64 a1] w fun e w'=>e = .returned (.int .i64 r1)∧Kd.R k67 67 w' w0.heap.size (fun k_=>(P0_ k_∨w.heap.size≤k_)) u9000_ r2∧Below w0.heap.size w0 w'∧Kept w w' (fun k_=>P0_ k_):=by
 have c6:=zzm (show Kd.R k67 67 w w0.heap.size (fun k_=>(P0_ k_∨w.heap.size≤k_)) u9000_ l0 from Kd.R_mono ho0 (fun k_ hk=>(.inl hk)));have HK:=zzm (Kept.refl w (fun k_=>P0_ k_));have HW0:=zzm hB.size;have HB:=zzm hB;clear hB;have H:(Ql.l0 k l0 a1 0)=some (r1,r2):=h;clear h;have H':=zzm H;clear H;go_enter Try.func18,Try.ntmps18;go_wp2;go_loopg [1,5] k (fun kq v1 v5 w'=>∃ (a2:List (S67)) (a4:Int) (a0:Int),v1 = .int .i64 a4∧v5 = .int .i64 a0∧Aside0 (Ql.l0 kq a2 a4 a0=some (r1,r2))∧Aside0 (kq≤k)∧Aside0 (Kd.R k67 67 w' w0.heap.size (fun k_=>(P0_ k_∨w.heap.size≤k_)) u9000_ a2)∧Aside0 (Kept w w' (fun k_=>P0_ k_))∧Aside0 (Below w0.heap.size w0 w'))
 case atStart=>exact ⟨(l0),(a1),(0),(by first|rfl|(simp;done)|(simp [*];done)),(by first|rfl|(simp;done)|(simp [*];done)),H',⟨Nat.le_refl _⟩,⟨by (with_reducible repeat (first|apply Kd.R_alloc|apply Kd.R_drewN|apply Kd.R_drew));exact c6.out⟩,⟨by repeat (first|(with_reducible first|exact HK.out|apply Kept.alloc|apply Kept.drewN|apply Kept.drew)|exact HK.out)⟩,⟨zzh1⟩⟩
 case round=>
  clear H';try clear c1
  try clear p2
  obtain ⟨a2,a4,a0,rfl,rfl,HA,HK1,a3,HK,HB⟩:=hrel;cases gk with
  | zero=>exact absurd HA.out (by simp [Ql.l0])
  | succ k1=>
   have H:=HA.out;clear HA;simp only [Ql.l0] at H;by_cases c3:a0 < (a2.length:Int)
   ·
    rw [if_pos c3] at H;have c5:decide (a0 < (a2.length:Int))=true:=decide_eq_true c3;clear c3;by_cases c4 : 0≤a0
    ·
     rw [if_pos c4] at H;have d6:decide (0≤a0)=true:=decide_eq_true c4;clear c4;obtain ⟨y470,hy470⟩:∃ y_:List (S67),y_=(a2.set (a0:Int).toNat (⟨a4,(Qc a2 a0).f1,(Qc a2 a0).f2⟩:S67)):=⟨_,rfl⟩;replace H:((some (y470.set (a0:Int).toNat (⟨(Qc y470 a0).f0,wrap64 (a4+1),(Qc y470 a0).f2⟩:S67):List (S67))).bind fun y471=>(Ql.l0 k1 (y471.set (a0:Int).toNat (⟨(Qc y471 a0).f0,(Qc y471 a0).f1,wrap64 ((wrap64 (a4+1))+1)⟩:S67)) (wrap64 ((wrap64 ((wrap64 (a4+1))+1))+1)) (wrap64 (a0+1))))=some (r1,r2):=by first|(rw [hy470];with_reducible exact H)|(have H2_:=(Option.bind_some _ _).symm.trans H;rw [hy470];with_reducible exact H2_)|(have H2_:=(Option.bind_some _ _).symm.trans H;with_reducible exact H2_)|with_reducible exact H|(rw [hy470];exact H)|exact H
     have Ny470:=zzm hy470;clear hy470;obtain ⟨y471,hy471⟩:∃ y_:List (S67),y_=(y470.set (a0:Int).toNat (⟨(Qc y470 a0).f0,wrap64 (a4+1),(Qc y470 a0).f2⟩:S67)):=⟨_,rfl⟩;replace H:(Ql.l0 k1 (y471.set (a0:Int).toNat (⟨(Qc y471 a0).f0,(Qc y471 a0).f1,wrap64 ((wrap64 (a4+1))+1)⟩:S67)) (wrap64 ((wrap64 ((wrap64 (a4+1))+1))+1)) (wrap64 (a0+1)))=some (r1,r2):=by first|(rw [hy471];with_reducible exact H)|(have H2_:=(Option.bind_some _ _).symm.trans H;rw [hy471];with_reducible exact H2_)|(have H2_:=(Option.bind_some _ _).symm.trans H;with_reducible exact H2_)|with_reducible exact H|(rw [hy471];exact H)|exact H
     have Ny471:=zzm hy471;clear hy471;obtain ⟨y472,hy472⟩:∃ y_:List (S67),y_=(y471.set (a0:Int).toNat (⟨(Qc y471 a0).f0,(Qc y471 a0).f1,wrap64 ((wrap64 (a4+1))+1)⟩:S67)):=⟨_,rfl⟩;replace H:(Ql.l0 k1 y472 (wrap64 ((wrap64 ((wrap64 (a4+1))+1))+1)) (wrap64 (a0+1)))=some (r1,r2):=by first|(rw [hy472];with_reducible exact H)|(have H2_:=(Option.bind_some _ _).symm.trans H;rw [hy472];with_reducible exact H2_)|(have H2_:=(Option.bind_some _ _).symm.trans H;with_reducible exact H2_)|with_reducible exact H|(rw [hy472];exact H)|exact H
     have Ny472:=zzm hy472;clear hy472;have H':=zzm H;clear H;obtain ⟨e1,b0,eo8⟩:=Kd.R_slice a3.out;subst eo8;have p5 : 0≤(a0:Int):=zzt;have q5:(a0:Int) < ((a2.length:Int):Int):=zzt;obtain ⟨go5,e2,eo5,c2,gl5,cl5,HG5⟩:=Kd.R_form a3.out (by omega)
     (first|cases eo5|(injection eo5 with ea_ en_ ec_;(first|subst ea_|(injection ea_ with ea_;subst ea_));subst ec_;clear en_));have GB5:=zzm c2;have GG5:=zzm HG5;clear c2 gl5 HG5;have HMgo5:=zzm (show (P0_ go5∨w.heap.size≤go5) from (a3.out.1 _ rfl));obtain ⟨e3,hcl5,hM5,b1,hfr5⟩:=Kd.R_elem a3.out z67 (a0:Int) p5 q5;obtain rfl:=k67_openM hM5;have c7:wr.cell? ⟨go5,(a0:Int).toNat * 3,none⟩=some (.int .i64 ((Qc a2 a0).f0)):=b1 0 _ rfl;have c8:wr.cell? ⟨go5,(a0:Int).toNat * 3+1,none⟩=some (.int .i64 ((Qc a2 a0).f1)):=b1 1 _ rfl;have c9:wr.cell? ⟨go5,(a0:Int).toNat * 3+2,none⟩=some (.int .i64 ((Qc a2 a0).f2)):=b1 2 _ rfl;have hf5_0:wr.frozen? ⟨go5,(a0:Int).toNat * 3,none⟩=false:=hfr5 0;have hf5_1:wr.frozen? ⟨go5,(a0:Int).toNat * 3+1,none⟩=false:=hfr5 1;have hf5_2:wr.frozen? ⟨go5,(a0:Int).toNat * 3+2,none⟩=false:=hfr5 2;clear hcl5 b1 hfr5 hM5;replace p5:=eq_true p5;replace q5:=eq_true q5;have HX9:=zzm (show Kd.R k67 67 wr w0.heap.size (fun k_=>(P0_ k_∨w.heap.size≤k_)) (.slice (some ⟨go5,0,none⟩) a2.length b0) a2 from (by (with_reducible repeat (first|apply Kd.R_alloc|apply Kd.R_drewN|apply Kd.R_drew));exact a3.out));obtain ⟨e4,hcl9,hM9,b6,hfr9⟩:=Kd.R_elem HX9.out z67 (a0:Int) (zzt) (by have h_:(a0:Int) < ((a2.length:Int):Int):=zzt;first|exact h_|(have e_:=(Kd.R_reads' a3.out).1;omega)|simpa using h_);obtain rfl:=k67_openM hM9;have HP9:=Kd.R_seg HX9.out (a0:Int) (zzt) (by have h_:(a0:Int) < ((a2.length:Int):Int):=zzt;first|exact h_|(have e_:=(Kd.R_reads' a3.out).1;omega)|simpa using h_) (seg:=[.int .i64 a4]) (j:=0) hcl9 b6 (show 1≤3 from by decide) (x':=(⟨a4,(Qc a2 a0).f1,(Qc a2 a0).f2⟩:S67)) (k67_mkM _ _ _ (⟨a4,(Qc a2 a0).f1,(Qc a2 a0).f2⟩:S67)) (fun _ hk=>hk);have c0:=b6 0 _ rfl
     (try simp only [show (k67).sz=3 from rfl,Nat.mul_one,Nat.add_zero] at c0);have hf9_0:=hfr9 0
     (try simp only [show (k67).sz=3 from rfl,Nat.mul_one,Nat.add_zero] at hf9_0);clear hcl9 b6 hfr9 hM9;go_wp2_with (first|((with_reducible refine gate_store (t:=3) (p:=16) rfl ?_);refine store_event (t:=3) (p:=16) (v:=?vo_w10) (w1:=(wr.setCell ⟨go5,(a0:Int).toNat * 3,none⟩ (.int .i64 a4))) ?hg ?ho ?hn ?hr ?_;(case ho=>rfl);(case hg=>rfl);(case hn=>rfl);(case hr=>first|(go_simp;done)|(go_simp;rfl));intro a5 hw;have hg:wr.grownBy a5 (some go5):=(by rw [hw];exact HP9.2);have hp_:Kd.R k67 67 a5 w0.heap.size (fun k_=>(P0_ k_∨w.heap.size≤k_)) (.slice (some ⟨go5,0,none⟩) a2.length b0) y470:=(by rw [hw,Ny470.out];exact HP9.1);clear HP9;have a7:=zzm (hp_);have a8:=zzm ((by rw [hw];exact zzd (HB.out) GB5.out:Below w0.heap.size w0 a5));have a9:=zzm (Kept.of_grown (S:=(fun k_=>P0_ k_)) hg (by repeat (first|(with_reducible first|exact HK.out|apply Kept.alloc|apply Kept.drewN|apply Kept.drew)|exact HK.out)) (fun k_ e_=>(a3.out.1 k_ e_)));clear a3 HB HK;have a3:=a7;have HB:=a8;have HK:=a9;clear a7 a8 a9 hg hw hp_;have p6 : 0≤(a0:Int):=zzt;have q6:(a0:Int) < ((a2.length:Int):Int):=zzt;obtain ⟨e5,hcl6,hM6,b2,hfr6⟩:=Kd.R_elem a3.out z67 (a0:Int) p6 q6;obtain rfl:=k67_openM hM6;have d0:a5.cell? ⟨go5,(a0:Int).toNat * 3,none⟩=some (.int .i64 ((Qc y470 a0).f0)):=b2 0 _ rfl;have d1:a5.cell? ⟨go5,(a0:Int).toNat * 3+1,none⟩=some (.int .i64 ((Qc y470 a0).f1)):=b2 1 _ rfl;have d2:a5.cell? ⟨go5,(a0:Int).toNat * 3+2,none⟩=some (.int .i64 ((Qc y470 a0).f2)):=b2 2 _ rfl;have hf6_0:a5.frozen? ⟨go5,(a0:Int).toNat * 3,none⟩=false:=hfr6 0;have hf6_1:a5.frozen? ⟨go5,(a0:Int).toNat * 3+1,none⟩=false:=hfr6 1;have hf6_2:a5.frozen? ⟨go5,(a0:Int).toNat * 3+2,none⟩=false:=hfr6 2;clear hcl6 b2 hfr6 hM6;replace p6:=eq_true p6;replace q6:=eq_true q6;have HX11:=zzm (show Kd.R k67 67 a5 w0.heap.size (fun k_=>(P0_ k_∨w.heap.size≤k_)) (.slice (some ⟨go5,0,none⟩) a2.length b0) y470 from (by (with_reducible repeat (first|apply Kd.R_alloc|apply Kd.R_drewN|apply Kd.R_drew));exact a3.out));obtain ⟨d7,hcl11,hM11,b3,hfr11⟩:=Kd.R_elem HX11.out z67 (a0:Int) (zzt) (by have h_:(a0:Int) < ((a2.length:Int):Int):=zzt;first|exact h_|(have e_:=(Kd.R_reads' a3.out).1;omega)|simpa using h_);obtain rfl:=k67_openM hM11;have HP11:=Kd.R_seg HX11.out (a0:Int) (zzt) (by have h_:(a0:Int) < ((a2.length:Int):Int):=zzt;first|exact h_|(have e_:=(Kd.R_reads' a3.out).1;omega)|simpa using h_) (seg:=[.int .i64 (wrap64 (a4+1))]) (j:=1) hcl11 b3 (show 2≤3 from by decide) (x':=(⟨(Qc y470 a0).f0,wrap64 (a4+1),(Qc y470 a0).f2⟩:S67)) (k67_mkM _ _ _ (⟨(Qc y470 a0).f0,wrap64 (a4+1),(Qc y470 a0).f2⟩:S67)) (fun _ hk=>hk);have b7:=b3 1 _ rfl;(try simp only [show (k67).sz=3 from rfl,Nat.mul_one,Nat.add_zero] at b7);have hf11_1:=hfr11 1;(try simp only [show (k67).sz=3 from rfl,Nat.mul_one,Nat.add_zero] at hf11_1);clear hcl11 b3 hfr11 hM11)|((with_reducible refine gate_store (t:=3) (p:=23) rfl ?_);refine store_event (t:=3) (p:=23) (v:=?vo_w12) (w1:=(a5.setCell ⟨go5,(a0:Int).toNat * 3+1,none⟩ (.int .i64 (wrap64 (a4+1))))) ?hg ?ho ?hn ?hr ?_;(case ho=>rfl);(case hg=>rfl);(case hn=>rfl);(case hr=>first|(go_simp;done)|(go_simp;rfl));intro a6 hw;have hg:a5.grownBy a6 (some go5):=(by rw [hw];exact HP11.2);have hp_:Kd.R k67 67 a6 w0.heap.size (fun k_=>(P0_ k_∨w.heap.size≤k_)) (.slice (some ⟨go5,0,none⟩) a2.length b0) y471:=(by rw [hw,Ny471.out];exact HP11.1);clear HP11;have a7:=zzm (hp_);have a8:=zzm ((by rw [hw];exact zzd (HB.out) GB5.out:Below w0.heap.size w0 a6));have a9:=zzm (Kept.of_grown (S:=(fun k_=>P0_ k_)) hg (by repeat (first|(with_reducible first|exact HK.out|apply Kept.alloc|apply Kept.drewN|apply Kept.drew)|exact HK.out)) (fun k_ e_=>(a3.out.1 k_ e_)));clear a3 HB HK;have a3:=a7;have HB:=a8;have HK:=a9;clear a7 a8 a9 hg hw hp_;have p7 : 0≤(a0:Int):=zzt;have q7:(a0:Int) < ((a2.length:Int):Int):=zzt;obtain ⟨e6,hcl7,hM7,b4,hfr7⟩:=Kd.R_elem a3.out z67 (a0:Int) p7 q7;obtain rfl:=k67_openM hM7;have d3:a6.cell? ⟨go5,(a0:Int).toNat * 3,none⟩=some (.int .i64 ((Qc y471 a0).f0)):=b4 0 _ rfl;have d4:a6.cell? ⟨go5,(a0:Int).toNat * 3+1,none⟩=some (.int .i64 ((Qc y471 a0).f1)):=b4 1 _ rfl;have d5:a6.cell? ⟨go5,(a0:Int).toNat * 3+2,none⟩=some (.int .i64 ((Qc y471 a0).f2)):=b4 2 _ rfl;have hf7_0:a6.frozen? ⟨go5,(a0:Int).toNat * 3,none⟩=false:=hfr7 0;have hf7_1:a6.frozen? ⟨go5,(a0:Int).toNat * 3+1,none⟩=false:=hfr7 1;have hf7_2:a6.frozen? ⟨go5,(a0:Int).toNat * 3+2,none⟩=false:=hfr7 2;clear hcl7 b4 hfr7 hM7;replace p7:=eq_true p7;replace q7:=eq_true q7;have HX13:=zzm (show Kd.R k67 67 a6 w0.heap.size (fun k_=>(P0_ k_∨w.heap.size≤k_)) (.slice (some ⟨go5,0,none⟩) a2.length b0) y471 from (by (with_reducible repeat (first|apply Kd.R_alloc|apply Kd.R_drewN|apply Kd.R_drew));exact a3.out));obtain ⟨d8,hcl13,hM13,b5,hfr13⟩:=Kd.R_elem HX13.out z67 (a0:Int) (zzt) (by have h_:(a0:Int) < ((a2.length:Int):Int):=zzt;first|exact h_|(have e_:=(Kd.R_reads' a3.out).1;omega)|simpa using h_);obtain rfl:=k67_openM hM13;have HP13:=Kd.R_seg HX13.out (a0:Int) (zzt) (by have h_:(a0:Int) < ((a2.length:Int):Int):=zzt;first|exact h_|(have e_:=(Kd.R_reads' a3.out).1;omega)|simpa using h_) (seg:=[.int .i64 (wrap64 ((wrap64 (a4+1))+1))]) (j:=2) hcl13 b5 (show 3≤3 from by decide) (x':=(⟨(Qc y471 a0).f0,(Qc y471 a0).f1,wrap64 ((wrap64 (a4+1))+1)⟩:S67)) (k67_mkM _ _ _ (⟨(Qc y471 a0).f0,(Qc y471 a0).f1,wrap64 ((wrap64 (a4+1))+1)⟩:S67)) (fun _ hk=>hk);have b8:=b5 2 _ rfl;(try simp only [show (k67).sz=3 from rfl,Nat.mul_one,Nat.add_zero] at b8);have hf13_2:=hfr13 2;(try simp only [show (k67).sz=3 from rfl,Nat.mul_one,Nat.add_zero] at hf13_2);clear hcl13 b5 hfr13 hM13)|((with_reducible refine gate_store (t:=3) (p:=30) rfl ?_);refine store_event (t:=3) (p:=30) (v:=?vo_w14) (w1:=(a6.setCell ⟨go5,(a0:Int).toNat * 3+2,none⟩ (.int .i64 (wrap64 ((wrap64 (a4+1))+1))))) ?hg ?ho ?hn ?hr ?_;(case ho=>rfl);(case hg=>rfl);(case hn=>rfl);(case hr=>first|(go_simp;done)|(go_simp;rfl));intro b9 hw;have hg:a6.grownBy b9 (some go5):=(by rw [hw];exact HP13.2);have hp_:Kd.R k67 67 b9 w0.heap.size (fun k_=>(P0_ k_∨w.heap.size≤k_)) (.slice (some ⟨go5,0,none⟩) a2.length b0) y472:=(by rw [hw,Ny472.out];exact HP13.1);clear HP13;have a7:=zzm (hp_);have a8:=zzm ((by rw [hw];exact zzd (HB.out) GB5.out:Below w0.heap.size w0 b9));have a9:=zzm (Kept.of_grown (S:=(fun k_=>P0_ k_)) hg (by repeat (first|(with_reducible first|exact HK.out|apply Kept.alloc|apply Kept.drewN|apply Kept.drew)|exact HK.out)) (fun k_ e_=>(a3.out.1 k_ e_)));clear a3 HB HK;have a3:=a7;have HB:=a8;have HK:=a9;clear a7 a8 a9 hg hw hp_));go_roundg k1
     case measure=>have:=HK1.out;omega
     case rel=>exact ⟨(y472),(wrap64 ((wrap64 ((wrap64 (a4+1))+1))+1)),(wrap64 (a0+1)),(by first|rfl|(simp;done)|(simp [*];done)),(by first|rfl|(simp;done)|(simp [*];done)),H',⟨by have:=HK1.out;omega⟩,⟨by (with_reducible repeat (first|apply Kd.R_alloc|apply Kd.R_drewN|apply Kd.R_drew));exact a3.out⟩,⟨by repeat (first|(with_reducible first|exact HK.out|apply Kept.alloc|apply Kept.drewN|apply Kept.drew)|exact HK.out)⟩,⟨zzh1⟩⟩
    ·
     rw [if_neg c4] at H;exact absurd H (by simp)
   ·
    rw [if_neg c3] at H;have c5:decide (a0 < (a2.length:Int))=false:=decide_eq_false c3;clear c3;simp only [Option.some.injEq,Prod.mk.injEq] at H;obtain ⟨rfl,rfl⟩:=H;obtain ⟨d9,e0,eo15⟩:=Kd.R_slice a3.out;subst eo15;go_wp2;go_ret;exact ⟨zzR,by (with_reducible repeat (first|apply Kd.R_alloc|apply Kd.R_drewN|apply Kd.R_drew));exact a3.out,zzh1,by repeat (first|(with_reducible first|exact HK.out|apply Kept.alloc|apply Kept.drewN|apply Kept.drew)|exact HK.out)⟩

set_option linter.unusedVariables false
set_option linter.unusedSimpArgs false
def Qx.l0:Nat→List Int→Int→Int→Option (Int×List Int)
 | 0,_,_,_=>none
 | k+1,x0,x1,x5=>if x5 < (x0.length:Int) then (if 0≤x5 then (Qx.l0 k (x0.set (x5:Int).toNat x1) (wrap64 (x1+1)) (wrap64 (x5+1))) else (none)) else (some (x1,x0))
def Qx.f (k:Nat) (l0:List Int) (a1:Int):Option (Int×List Int):=Qx.l0 k l0 a1 0
set_option maxHeartbeats 8000000 in
theorem Qx.calls (k:Nat) (P0_:Nat→Prop) (u9000_:Value) (l0:List Int) (a1:Int) (r1:Int) (r2:List Int) (w0 w:World) (hB:Below w0.heap.size w0 w) (ho0:Kd.R (Kd.int .i64) 3 w w0.heap.size P0_ u9000_ l0) (h:Qx.f k l0 a1=some (r1,r2)) :
  Calls Try.prog 28 #[u9000_,.int .i64 a1] w fun e w'=>e = .returned (.int .i64 r1)∧Kd.R (Kd.int .i64) 3 w' w0.heap.size (fun k_=>(P0_ k_∨w.heap.size≤k_)) u9000_ r2∧Below w0.heap.size w0 w'∧Kept w w' (fun k_=>P0_ k_):=by
 have b0:=zzm (show Kd.R (Kd.int .i64) 3 w w0.heap.size (fun k_=>(P0_ k_∨w.heap.size≤k_)) u9000_ l0 from Kd.R_mono ho0 (fun k_ hk=>(.inl hk)));have HK:=zzm (Kept.refl w (fun k_=>P0_ k_));have HW0:=zzm hB.size;have HB:=zzm hB;clear hB;have H:(Qx.l0 k l0 a1 0)=some (r1,r2):=h;clear h;have H':=zzm H;clear H;go_enter Try.func28,Try.ntmps28;go_wp2;go_loopg [1,5] k (fun kq v1 v5 w'=>∃ (a3:List Int) (a4:Int) (a0:Int),v1 = .int .i64 a4∧v5 = .int .i64 a0∧Aside0 (Qx.l0 kq a3 a4 a0=some (r1,r2))∧Aside0 (kq≤k)∧Aside0 (Kd.R (Kd.int .i64) 3 w' w0.heap.size (fun k_=>(P0_ k_∨w.heap.size≤k_)) u9000_ a3)∧Aside0 (Kept w w' (fun k_=>P0_ k_))∧Aside0 (Below w0.heap.size w0 w'))
 case atStart=>exact ⟨(l0),(a1),(0),(by first|rfl|(simp;done)|(simp [*];done)),(by first|rfl|(simp;done)|(simp [*];done)),H',⟨Nat.le_refl _⟩,⟨by (with_reducible repeat (first|apply Kd.R_alloc|apply Kd.R_drewN|apply Kd.R_drew));exact b0.out⟩,⟨by repeat (first|(with_reducible first|exact HK.out|apply Kept.alloc|apply Kept.drewN|apply Kept.drew)|exact HK.out)⟩,⟨zzh1⟩⟩
 case round=>
  clear H';try clear c2
  try clear p2
  obtain ⟨a3,a4,a0,rfl,rfl,HA,HK1,a2,HK,HB⟩:=hrel;cases gk with
  | zero=>exact absurd HA.out (by simp [Qx.l0])
  | succ k1=>
   have H:=HA.out;clear HA;simp only [Qx.l0] at H;by_cases c3:a0 < (a3.length:Int)
   ·
    rw [if_pos c3] at H;have a9:decide (a0 < (a3.length:Int))=true:=decide_eq_true c3;clear c3;by_cases c4 : 0≤a0
    ·
     rw [if_pos c4] at H;have b3:decide (0≤a0)=true:=decide_eq_true c4;clear c4;obtain ⟨y473,hy473⟩:∃ y_:List Int,y_=(a3.set (a0:Int).toNat a4):=⟨_,rfl⟩;replace H:(Qx.l0 k1 y473 (wrap64 (a4+1)) (wrap64 (a0+1)))=some (r1,r2):=by first|(rw [hy473];with_reducible exact H)|(have H2_:=(Option.bind_some _ _).symm.trans H;rw [hy473];with_reducible exact H2_)|(have H2_:=(Option.bind_some _ _).symm.trans H;with_reducible exact H2_)|with_reducible exact H|(rw [hy473];exact H)|exact H
     have Ny473:=zzm hy473;clear hy473;have H':=zzm H;clear H;obtain ⟨b4,b1,eo6⟩:=Kd.R_slice a2.out;subst eo6;have p5 : 0≤(a0:Int):=zzt;have q5:(a0:Int) < ((a3.length:Int):Int):=zzt;obtain ⟨go5,b5,eo5,a5,gl5,cl5,HG5⟩:=Kd.R_form a2.out (by omega)
     (first|cases eo5|(injection eo5 with ea_ en_ ec_;(first|subst ea_|(injection ea_ with ea_;subst ea_));subst ec_;clear en_));have GB5:=zzm a5;have GG5:=zzm HG5;clear a5 gl5 HG5;have HMgo5:=zzm (show (P0_ go5∨w.heap.size≤go5) from (a2.out.1 _ rfl));obtain ⟨b2,hf5_0⟩:=Kd.R_celln 0 a2.out (a0:Int) p5 q5;replace p5:=eq_true p5;replace q5:=eq_true q5;have HP7:=Kd.R_putg a2.out (a0:Int) a4;go_wp2_with (first|((with_reducible refine gate_store (t:=3) (p:=15) rfl ?_);refine store_event (t:=3) (p:=15) (v:=?vo_w8) (w1:=(wr.setCell ⟨go5,(a0:Int).toNat,none⟩ (.int .i64 a4))) ?hg ?ho ?hn ?hr ?_;(case ho=>rfl);(case hg=>rfl);(case hn=>rfl);(case hr=>first|(go_simp;done)|(go_simp;rfl));intro w8 hw;have hg:wr.grownBy w8 (some go5):=(by rw [hw];exact HP7.2);have hp_:Kd.R (Kd.int .i64) 3 w8 w0.heap.size (fun k_=>(P0_ k_∨w.heap.size≤k_)) (.slice (some ⟨go5,0,none⟩) a3.length b1) y473:=(by rw [hw,Ny473.out];exact HP7.1);clear HP7;have a6:=zzm (hp_);have a7:=zzm ((by rw [hw];exact zzd (HB.out) GB5.out:Below w0.heap.size w0 w8));have a8:=zzm (Kept.of_grown (S:=(fun k_=>P0_ k_)) hg (by repeat (first|(with_reducible first|exact HK.out|apply Kept.alloc|apply Kept.drewN|apply Kept.drew)|exact HK.out)) (fun k_ e_=>(a2.out.1 k_ e_)));clear a2 HB HK;have a2:=a6;have HB:=a7;have HK:=a8;clear a6 a7 a8 hg hw hp_));go_roundg k1
     case measure=>have:=HK1.out;omega
     case rel=>exact ⟨(y473),(wrap64 (a4+1)),(wrap64 (a0+1)),(by first|rfl|(simp;done)|(simp [*];done)),(by first|rfl|(simp;done)|(simp [*];done)),H',⟨by have:=HK1.out;omega⟩,⟨by (with_reducible repeat (first|apply Kd.R_alloc|apply Kd.R_drewN|apply Kd.R_drew));exact a2.out⟩,⟨by repeat (first|(with_reducible first|exact HK.out|apply Kept.alloc|apply Kept.drewN|apply Kept.drew)|exact HK.out)⟩,⟨zzh1⟩⟩
    ·
     rw [if_neg c4] at H;exact absurd H (by simp)
   ·
    rw [if_neg c3] at H;have a9:decide (a0 < (a3.length:Int))=false:=decide_eq_false c3;clear c3;simp only [Option.some.injEq,Prod.mk.injEq] at H;obtain ⟨rfl,rfl⟩:=H;obtain ⟨b6,b7,eo9⟩:=Kd.R_slice a2.out;subst eo9;go_wp2;go_ret;exact ⟨zzR,by (with_reducible repeat (first|apply Kd.R_alloc|apply Kd.R_drewN|apply Kd.R_drew));exact a2.out,zzh1,by repeat (first|(with_reducible first|exact HK.out|apply Kept.alloc|apply Kept.drewN|apply Kept.drew)|exact HK.out)⟩

set_option linter.unusedVariables false
set_option linter.unusedSimpArgs false
section
inductive Sim:Value→Value→Prop
 | refl (u:Value):Sim u u
 | int (k:IntKind) (x y:Int):Sim (.int k x) (.int k y)
 | bool (x y:Bool):Sim (.bool x) (.bool y)
theorem Sim.trans {a b c:Value} (h:Sim a b) (k:Sim b c):Sim a c:=by
 cases h with
 | refl=>exact k
 | int kk x y=>
  cases k with
  | refl=>exact .int _ _ _
  | int _ _ z=>exact .int _ _ _
 | bool x y=>
  cases k with
  | refl=>exact .bool _ _
  | bool _ z=>exact .bool _ _
theorem Sim.of_int {k:IntKind} {x:Int} {u:Value} (h:Sim (.int k x) u):∃ y,u = .int k y:=by
 cases h with
 | refl=>exact ⟨x,rfl⟩
 | int _ _ y=>exact ⟨y,rfl⟩
theorem Sim.of_bool {x:Bool} {u:Value} (h:Sim (.bool x) u):∃ y,u = .bool y:=by
 cases h with
 | refl=>exact ⟨x,rfl⟩
 | bool _ y=>exact ⟨y,rfl⟩
theorem Sim.of_slice {A:Option Addr} {n c:Nat} {u:Value} (h:Sim (.slice A n c) u):u = .slice A n c:=by
 cases h with
 | refl=>rfl
structure Lk (P:Nat→Prop) (w w' : World):Prop where
 kept:Kept w w' P
 low:∀ B,(∀ k,P k→B≤k)→Below B w w'
 cell:∀ (g:Nat) (cs:Array Value) (t:Nat),w.heap[g]? = some (.cells cs t (0,0))→∃ cs' : Array Value,w'.heap[g]? = some (.cells cs' t (0,0))∧∀ (i:Nat) (u:Value),cs[i]? = some u→∃ u',cs'[i]? = some u'∧Sim u u'
theorem Lk.refl (P:Nat→Prop) (w:World):Lk P w w:=⟨Kept.refl _ _,fun _ _=>Below.refl _ _,fun g cs t h=>⟨cs,h,fun i u hu=>⟨u,hu,.refl u⟩⟩⟩
theorem Lk.trans {P:Nat→Prop} {x y z:World} (h:Lk P x y) (k:Lk P y z):Lk P x z:=by
 refine ⟨h.kept.then_ k.kept (fun _ h2=>.inl h2),fun B hB=>(h.low B hB).trans (k.low B hB),fun g cs t h0=>?_⟩;obtain ⟨c1,h1,q1⟩:=h.cell g cs t h0;obtain ⟨c2,h2,q2⟩:=k.cell g c1 t h1;refine ⟨c2,h2,fun i u hu=>?_⟩;obtain ⟨u1,e1,s1⟩:=q1 i u hu;obtain ⟨u2,e2,s2⟩:=q2 i u1 e1;exact ⟨u2,e2,s1.trans s2⟩
theorem Lk.set {P:Nat→Prop} {w:World} {g t i:Nat} {cs:Array Value} {u v:Value} (h:w.heap[g]? = some (.cells cs t (0,0))) (hu:cs[i]? = some u) (hs:Sim u v) (hp:P g):Lk P w (w.setCell ⟨g,i,none⟩ v):=by
 refine ⟨(Kept.refl w P).setCell (.inl hp) v,fun B hB=>(Below.refl B w).setCell (p:=⟨g,i,none⟩) (hB g hp) v,fun g' cs' t' h'=>?_⟩;by_cases e:g' = g
 ·subst e
  rw [h] at h';cases h';refine ⟨cs.setIfInBounds i v,zzi h i v rfl,fun j u2 hj=>?_⟩;by_cases ej:j=i
  ·subst ej
   rw [hu] at hj;cases hj;exact ⟨v,by rw [Array.getElem?_setIfInBounds_self_of_lt (Array.getElem?_eq_some_iff.1 hu).1],hs⟩
  ·exact ⟨u2,by rw [Array.getElem?_setIfInBounds_ne (Ne.symm ej)];exact hj,.refl _⟩
 ·exact ⟨cs',(Below.heap_setCell w ⟨g,i,none⟩ v g' e).trans h',fun j u2 hj=>⟨u2,hj,.refl _⟩⟩
def IntRow (P:Nat→Prop) (w:World) (A:Option Addr) (n:Nat):Prop:=0 < n→∃ (g:Nat) (cs:Array Value),A=some ⟨g,0,none⟩∧P g∧w.heap[g]? = some (.cells cs 3 (0,0))∧∀ i,i < n→∃ x,cs[i]? = some (.int .i64 x)
def RecRow (P:Nat→Prop) (w:World) (A:Option Addr) (n:Nat) (len:Nat→Nat×Nat):Prop:=0 < n→∃ (g:Nat) (cs:Array Value),A=some ⟨g,0,none⟩∧P g∧w.heap[g]? = some (.cells cs 75 (0,0))∧∀ i,i < n →
 ∃ x0 x1 b2 A3 c3 b4 A5 c5,(cs[i * 6+0]? = some (.int .i64 x0)∧cs[i * 6+1]? = some (.int .i64 x1)∧cs[i * 6+2]? = some (.bool b2)∧cs[i * 6+3]? = some (.slice A3 (len i).1 c3)∧cs[i * 6+4]? = some (.bool b4)∧cs[i * 6+5]? = some (.slice A5 (len i).2 c5))∧IntRow P w A3 (len i).1∧IntRow P w A5 (len i).2
def BatRow (P:Nat→Prop) (w:World) (A:Option Addr) (n:Nat) (num:Nat→Nat) (len:Nat→Nat→Nat×Nat):Prop:=0 < n→∃ (g:Nat) (cs:Array Value),A=some ⟨g,0,none⟩∧P g∧w.heap[g]? = some (.cells cs 26 (0,0))∧∀ i,i < n →
 ∃ b0 b1 x2 x3 x4 A5 c5,(cs[i * 6+0]? = some (.bool b0)∧cs[i * 6+1]? = some (.bool b1)∧cs[i * 6+2]? = some (.int .i64 x2)∧cs[i * 6+3]? = some (.int .i64 x3)∧cs[i * 6+4]? = some (.int .i64 x4)∧cs[i * 6+5]? = some (.slice A5 (num i) c5))∧RecRow P w A5 (num i) (len i)
theorem IntRow.lk {P:Nat→Prop} {w w' : World} {A:Option Addr} {n:Nat} (h:IntRow P w A n) (k:Lk P w w'):IntRow P w' A n:=by
 intro hn;obtain ⟨g,cs,rfl,hp,hh,hc⟩:=h hn;obtain ⟨cs',hh',hc'⟩:=k.cell g cs 3 hh;refine ⟨g,cs',rfl,hp,hh',fun i hi=>?_⟩;obtain ⟨x,hx⟩:=hc i hi;obtain ⟨u,hu,hs⟩:=hc' i _ hx;obtain ⟨y,rfl⟩:=hs.of_int;exact ⟨y,hu⟩
theorem RecRow.lk {P:Nat→Prop} {w w' : World} {A:Option Addr} {n:Nat} {len:Nat→Nat×Nat} (h:RecRow P w A n len) (k:Lk P w w'):RecRow P w' A n len:=by
 intro hn;obtain ⟨g,cs,rfl,hp,hh,hc⟩:=h hn;obtain ⟨cs',hh',hc'⟩:=k.cell g cs _ hh;refine ⟨g,cs',rfl,hp,hh',fun i hi=>?_⟩;obtain ⟨x0,x1,b2,A3,c3,b4,A5,c5,⟨h0,h1,h2,h3,h4,h5⟩,r3,r5⟩:=hc i hi;obtain ⟨_,q0,s0⟩:=hc' _ _ h0;obtain ⟨_,q1,s1⟩:=hc' _ _ h1;obtain ⟨_,q2,s2⟩:=hc' _ _ h2;obtain ⟨_,q3,s3⟩:=hc' _ _ h3;obtain ⟨_,q4,s4⟩:=hc' _ _ h4;obtain ⟨_,q5,s5⟩:=hc' _ _ h5;obtain ⟨y0,rfl⟩:=s0.of_int;obtain ⟨y1,rfl⟩:=s1.of_int;obtain ⟨y2,rfl⟩:=s2.of_bool;obtain rfl:=s3.of_slice;obtain ⟨y4,rfl⟩:=s4.of_bool;obtain rfl:=s5.of_slice;exact ⟨y0,y1,y2,A3,c3,y4,A5,c5,⟨q0,q1,q2,q3,q4,q5⟩,r3.lk k,r5.lk k⟩
theorem BatRow.lk {P:Nat→Prop} {w w' : World} {A:Option Addr} {n:Nat} {num:Nat→Nat} {len:Nat→Nat→Nat×Nat} (h:BatRow P w A n num len) (k:Lk P w w'):BatRow P w' A n num len:=by
 intro hn;obtain ⟨g,cs,rfl,hp,hh,hc⟩:=h hn;obtain ⟨cs',hh',hc'⟩:=k.cell g cs _ hh;refine ⟨g,cs',rfl,hp,hh',fun i hi=>?_⟩;obtain ⟨b0,b1,x2,x3,x4,A5,c5,⟨h0,h1,h2,h3,h4,h5⟩,r5⟩:=hc i hi;obtain ⟨_,q0,s0⟩:=hc' _ _ h0;obtain ⟨_,q1,s1⟩:=hc' _ _ h1;obtain ⟨_,q2,s2⟩:=hc' _ _ h2;obtain ⟨_,q3,s3⟩:=hc' _ _ h3;obtain ⟨_,q4,s4⟩:=hc' _ _ h4;obtain ⟨_,q5,s5⟩:=hc' _ _ h5;obtain ⟨y0,rfl⟩:=s0.of_bool;obtain ⟨y1,rfl⟩:=s1.of_bool;obtain ⟨y2,rfl⟩:=s2.of_int;obtain ⟨y3,rfl⟩:=s3.of_int;obtain ⟨y4,rfl⟩:=s4.of_int;obtain rfl:=s5.of_slice;exact ⟨y0,y1,y2,y3,y4,A5,c5,⟨q0,q1,q2,q3,q4,q5⟩,r5.lk k⟩
theorem IntRow.mono {P Q:Nat→Prop} {w:World} {A:Option Addr} {n:Nat} (h:IntRow P w A n) (hq:∀ k,P k→Q k):IntRow Q w A n:=fun hn=>by
 obtain ⟨g,cs,e,hp,r⟩:=h hn
 exact ⟨g,cs,e,hq g hp,r⟩
theorem RecRow.mono {P Q:Nat→Prop} {w:World} {A:Option Addr} {n:Nat} {len:Nat→Nat×Nat} (h:RecRow P w A n len) (hq:∀ k,P k→Q k):RecRow Q w A n len:=fun hn=>by
 obtain ⟨g,cs,e,hp,hh,r⟩:=h hn
 refine ⟨g,cs,e,hq g hp,hh,fun i hi=>?_⟩
 obtain ⟨x0,x1,b2,A3,c3,b4,A5,c5,hc,r3,r5⟩:=r i hi
 exact ⟨x0,x1,b2,A3,c3,b4,A5,c5,hc,r3.mono hq,r5.mono hq⟩
theorem mk_cell {cur:Array Value} {n sz:Nat} {inner c:List Value} (h4:List.take (n * sz) cur.toList=inner) {i j:Nat} (hi:i < n) (hc:(inner.drop (i * sz)).take sz=c) (hl:c.length=sz) {u:Value} (hu:c[j]? = some u):cur[i * sz+j]? = some u:=by
 have hj:j < sz:=by rw [← hl];exact (List.getElem?_eq_some_iff.1 hu).1
 have hb:i * sz+j < n * sz:=by
  have:(i+1) * sz≤n * sz:=Nat.mul_le_mul_right _ hi;rw [Nat.add_mul] at this;omega
 rw [← hc,List.getElem?_take_of_lt hj,List.getElem?_drop,← h4,List.getElem?_take_of_lt hb,Array.getElem?_toList] at hu;exact hu
theorem intRow_of {w:World} {base:Nat} {ok:Nat→Prop} {v:Value} {xs:List Int} (h:Kd.R (Kd.int .i64) 3 w base ok v xs):∃ A c,v = .slice A xs.length c∧IntRow ok w A xs.length:=by
 obtain ⟨h0,inner,⟨_,ho⟩,hr⟩:=h;rcases ho with ⟨rfl,hn⟩|⟨g,cap,cur,rfl,_,hh,_,_,_,h4⟩
 ·exact ⟨none,0,by rw [hn],fun hp=>by omega⟩
 ·refine ⟨_,cap,rfl,fun _=>⟨g,cur,rfl,h0 g rfl,hh,fun i hi=>?_⟩⟩
  have hM:(inner.drop (i * 1)).take 1 = [.int .i64 xs[i]]:=hr.2 i xs[i] (List.getElem?_eq_getElem hi);have hc:cur[i * 1+0]? = some (.int .i64 xs[i]):=mk_cell (j:=0) h4 hi hM rfl rfl;rw [Nat.mul_one,Nat.add_zero] at hc;exact ⟨xs[i],hc⟩
theorem recRow_of {w:World} {base:Nat} {ok:Nat→Prop} {v:Value} {xs:List S75} (h:Kd.R k75 75 w base ok v xs):∃ A c,v = .slice A xs.length c∧RecRow ok w A xs.length (fun i=>((Qa xs (i:Int)).f3.length,(Qa xs (i:Int)).f5.length)):=by
 obtain ⟨h0,inner,⟨_,ho⟩,hr⟩:=h;rcases ho with ⟨rfl,hn⟩|⟨g,cap,cur,rfl,_,hh,_,_,_,h4⟩
 ·exact ⟨none,0,by rw [hn],fun hp=>by omega⟩
 ·refine ⟨_,cap,rfl,fun _=>⟨g,cur,rfl,h0 g rfl,hh,fun i hi=>?_⟩⟩
  have hrd:Qa xs (i:Int)=xs[i]:=by unfold Qa;rw [Int.toNat_natCast,List.getD_eq_getElem?_getD,List.getElem?_eq_getElem hi];rfl
  obtain ⟨c0,d0,e0,f0,c1,d1,e1,f1,c2,d2,e2,f2,c3,d3,e3,⟨v3,f3,h3⟩,c4,d4,e4,f4,v5,f5,h5⟩:=hr.2 i xs[i] (List.getElem?_eq_getElem hi);subst f0 e1 f1 e2 f2 e3 f3 e4 f4 f5;obtain ⟨A3,k3,e3,r3⟩:=intRow_of h3;obtain ⟨A5,k5,e5,r5⟩:=intRow_of h5;subst e3 e5;dsimp only;rw [hrd];exact ⟨_,_,_,A3,k3,_,A5,k5,⟨mk_cell (j:=0) h4 hi e0 rfl rfl,mk_cell (j:=1) h4 hi e0 rfl rfl,mk_cell (j:=2) h4 hi e0 rfl rfl,mk_cell (j:=3) h4 hi e0 rfl rfl,mk_cell (j:=4) h4 hi e0 rfl rfl,mk_cell (j:=5) h4 hi e0 rfl rfl⟩,r3.mono (fun _ hk=>hk.1),r5.mono (fun _ hk=>hk.1)⟩
theorem batRow_of {w:World} {base:Nat} {ok:Nat→Prop} {v:Value} {xs:List S26} (h:Kd.R k26 26 w base ok v xs):∃ A c,v = .slice A xs.length c∧BatRow ok w A xs.length (fun i=>(Qb xs (i:Int)).f5.length) (fun i j=>((Qa (Qb xs (i:Int)).f5 (j:Int)).f3.length,(Qa (Qb xs (i:Int)).f5 (j:Int)).f5.length)):=by
 obtain ⟨h0,inner,⟨_,ho⟩,hr⟩:=h;rcases ho with ⟨rfl,hn⟩|⟨g,cap,cur,rfl,_,hh,_,_,_,h4⟩
 ·exact ⟨none,0,by rw [hn],fun hp=>by omega⟩
 ·refine ⟨_,cap,rfl,fun _=>⟨g,cur,rfl,h0 g rfl,hh,fun i hi=>?_⟩⟩
  have hrd:Qb xs (i:Int)=xs[i]:=by unfold Qb;rw [Int.toNat_natCast,List.getD_eq_getElem?_getD,List.getElem?_eq_getElem hi];rfl
  obtain ⟨c0,d0,e0,f0,c1,d1,e1,f1,c2,d2,e2,f2,c3,d3,e3,f3,c4,d4,e4,f4,v5,f5,h5⟩:=hr.2 i xs[i] (List.getElem?_eq_getElem hi);subst f0 e1 f1 e2 f2 e3 f3 e4 f4 f5;obtain ⟨A5,k5,e5,r5⟩:=recRow_of h5;subst e5;dsimp only;rw [hrd];exact ⟨_,_,_,_,_,A5,k5,⟨mk_cell (j:=0) h4 hi e0 rfl rfl,mk_cell (j:=1) h4 hi e0 rfl rfl,mk_cell (j:=2) h4 hi e0 rfl rfl,mk_cell (j:=3) h4 hi e0 rfl rfl,mk_cell (j:=4) h4 hi e0 rfl rfl,mk_cell (j:=5) h4 hi e0 rfl rfl⟩,r5.mono (fun _ hk=>hk.1)⟩
set_option maxHeartbeats 4000000 in
theorem markInt_lk (P:Nat→Prop) (A:Option Addr) (n c:Nat) (a1:Int) (w:World) (h:IntRow P w A n) (h0 : 0≤a1) (h1:a1+n≤9000000000000000000) :
  Calls Try.prog 28 #[.slice A n c,.int .i64 a1] w fun e w'=>e = .returned (.int .i64 (a1+n))∧Lk P w w':=by
 have HR:=zzm h;have H0:=zzm h0;have H1:=zzm h1;clear h h0 h1;go_enter Try.func28,Try.ntmps28;go_wp2;go_loopw [1,5] (fun v1 v5 W=>∃ m:Nat,m≤n∧v1 = .int .i64 (a1+m)∧v5 = .int .i64 m∧Lk P w W) (fun _ v5 _=>n - (intOf v5).toNat)
 case atStart=>exact ⟨0,Nat.zero_le _,by simp,by go_num,Lk.refl _ _⟩
 case round=>
  obtain ⟨m,hm,rfl,rfl,hL⟩:=hrel;have HL:=zzm hL;clear hL;have h0:=H0.out;have h1:=H1.out;by_cases hlt:m < n
  ·obtain ⟨g,cs,rfl,hP,hh,hc⟩:=HR.out.lk HL.out (by omega)
   obtain ⟨y,hy⟩:=hc m hlt;have HP:=zzm hP;have HH:=zzm hh;have HY:=zzm hy;have q:=(zzk hh m).trans hy;have f:=zzl hh m;have e1:wrap64 (a1+(m:Int)+1)=a1+((m+1:Nat):Int):=by unfold wrap64;omega
   have e2:wrap64 ((m:Int)+1)=((m+1:Nat):Int):=by unfold wrap64;omega
   have hmi:((m:Nat):Int) < ((n:Nat):Int):=by omega
   clear hP hh hc hy;go_wp2;go_roundw
   case rel=>exact ⟨m+1,by omega,congrArg (Value.int .i64) (by omega),congrArg (Value.int .i64) (by omega),HL.out.trans (Lk.set HH.out HY.out (.int _ _ _) HP.out)⟩
   case measure=>simp [intOf] <;> omega
  ·obtain rfl:m=n:=by omega
   have hmi:¬ ((m:Nat):Int) < ((m:Nat):Int):=by omega
   go_wp2;go_ret;exact ⟨rfl,HL.out⟩
theorem Lk.at_ {P:Nat→Prop} {W W' : World} {g t i:Nat} {cs:Array Value} {u:Value} (h:Lk P W W') (hh:W.heap[g]? = some (.cells cs t (0,0))) (hu:cs[i]? = some u):∃ cs' u',W'.heap[g]? = some (.cells cs' t (0,0))∧cs'[i]? = some u'∧Sim u u'∧W'.cell? ⟨g,i,none⟩=some u'∧W'.frozen? ⟨g,i,none⟩=false:=by
 obtain ⟨cs',hh',hc⟩:=h.cell g cs t hh;obtain ⟨u',hu',hs⟩:=hc i u hu;exact ⟨cs',u',hh',hu',hs,(zzk hh' i).trans hu',zzl hh' i⟩
theorem meas_lt {n m:Nat} {v:Value} (hv:v = .int .i64 ((m+1:Nat):Int)) (h:m < n):n - (intOf v).toNat < n - (intOf (.int .i64 (m:Int))).toNat:=by
 subst hv;simp [intOf];omega
def cntR (len:Nat→Nat×Nat):Nat→Nat
 | 0=>0
 | m+1=>cntR len m+(4+(len m).1+(len m).2)
theorem cntR_le (len:Nat→Nat×Nat):∀ {m n:Nat},m≤n→cntR len m≤cntR len n
 | m,0,h=>by rw [show m=0 by omega];exact Nat.le_refl _
 | m,n+1,h=>by
  by_cases e:m=n+1
  ·rw [e];exact Nat.le_refl _
  ·have h1:=cntR_le len (show m≤n by omega)
   have h2:cntR len (n+1)=cntR len n+(4+(len n).1+(len n).2):=rfl
   omega
theorem le_cntR (len:Nat→Nat×Nat):∀ m,m≤cntR len m
 | 0=>Nat.le_refl _
 | m+1=>by
  have h1:=le_cntR len m
  have h2:cntR len (m+1)=cntR len m+(4+(len m).1+(len m).2):=rfl
  omega
set_option maxHeartbeats 8000000 in
theorem markRec_lk (P:Nat→Prop) (A:Option Addr) (n c:Nat) (len:Nat→Nat×Nat) (a1:Int) (w:World) (h:RecRow P w A n len) (h0 : 0≤a1) (h1:a1+cntR len n≤9000000000000000000) :
    Calls Try.prog 47 #[.slice A n c,.int .i64 a1] w fun e w'=>e = .returned (.int .i64 (a1+cntR len n))∧Lk P w w':=by
  have HR:=zzm h;have H0:=zzm h0;have H1:=zzm h1;clear h h0 h1;have hu:=Try.underlying75;go_enter Try.func47,Try.ntmps47;go_wp2;go_loopw [1,5] (fun v1 v5 W=>∃ m:Nat,m≤n∧v1 = .int .i64 (a1+cntR len m)∧v5 = .int .i64 m∧Lk P w W) (fun _ v5 _=>n - (intOf v5).toNat)
  case atStart=>exact ⟨0,Nat.zero_le _,by simp [cntR],by go_num,Lk.refl _ _⟩
  case round=>
    obtain ⟨m,hm,rfl,rfl,hL⟩:=hrel;have HL:=zzm hL;clear hL;have h0:=H0.out;have h1:=H1.out;by_cases hlt:m < n
    · have hcl:=cntR_le len (show m+1≤n from hlt)
      have hcs:cntR len (m+1)=cntR len m+(4+(len m).1+(len m).2):=rfl;have hmc:=le_cntR len m;have e5:wrap64 ((m:Int)+1)=((m+1:Nat):Int):=by unfold wrap64;omega
      obtain ⟨kk,hkk⟩:∃ kk:Int,kk=a1+(cntR len m:Int):=⟨_,rfl⟩;rw [← hkk];have k0 : 0≤kk:=by omega
      have k1:kk+4+((len m).1:Int)+((len m).2:Int)≤9000000000000000000:=by omega
      have hend:((kk+1+1+1+((len m).1:Int))+1+((len m).2:Int))=a1+(cntR len (m+1):Int):=by omega
      have HE:=zzm hend;have b1 : 0≤kk+1+1+1:=by omega
      have b2:kk+1+1+1+((len m).1:Int)≤9000000000000000000:=by omega
      have b3 : 0≤kk+1+1+1+((len m).1:Int)+1:=by omega
      have b4:kk+1+1+1+((len m).1:Int)+1+((len m).2:Int)≤9000000000000000000:=by omega
      have B1:=zzm b1;have B2:=zzm b2;have B3:=zzm b3;have B4:=zzm b4;have e1:wrap64 (kk+1)=kk+1:=by unfold wrap64;omega
      have e2:wrap64 (kk+1+1)=kk+1+1:=by unfold wrap64;omega
      have e3:wrap64 (kk+1+1+1)=kk+1+1+1:=by unfold wrap64;omega
      have e4:wrap64 (kk+1+1+1+((len m).1:Int)+1)=kk+1+1+1+((len m).1:Int)+1:=by unfold wrap64;omega
      clear hkk hcl hcs h0 h1 hend hmc b1 b2 b3 b4;obtain ⟨g,cs,rfl,hP,hh,hc⟩:=HR.out.lk HL.out (Nat.lt_of_le_of_lt (Nat.zero_le m) hlt);obtain ⟨x0,x1,y2,A3,c3,y4',A5,c5,⟨q0,q1,q2,q3,q4,q5⟩,r3,r5⟩:=hc m hlt;rw [Nat.add_zero] at q0;have HP:=zzm hP;have HH:=zzm hh;have p0:=(zzk hh (m * 6)).trans q0;have z0:=zzl hh (m * 6);have p1:=(zzk hh (m * 6+1)).trans q1;have z1:=zzl hh (m * 6+1);have p2:=(zzk hh (m * 6+2)).trans q2;have z2:=zzl hh (m * 6+2);have p3:=(zzk hh (m * 6+3)).trans q3;have l1:Lk P wr (wr.setCell ⟨g,m * 6,none⟩ (.int .i64 kk)):=Lk.set hh q0 (.int _ _ _) hP;obtain ⟨cs1,u1,hh1,q1',s1,_,_⟩:=l1.at_ hh q1;have l2:=l1.trans (Lk.set hh1 q1' (v:=.int .i64 (kk+1)) (by obtain ⟨y,rfl⟩:=s1.of_int;exact .int _ _ _) hP);obtain ⟨cs2,u2,hh2,q2',s2,_,_⟩:=l2.at_ hh q2;have L3:=zzm (l2.trans (Lk.set hh2 q2' (v:=.bool ((kk+1+1) % 3==0)) (by obtain ⟨y,rfl⟩:=s2.of_bool;exact .bool _ _) hP));have hmi:((m:Nat):Int) < ((n:Nat):Int):=by omega
      have R3:=zzm r3;have R5:=zzm r5;clear hP hh r3 r5 hc l1 l2 hh1 hh2 q1' q2' s1 s2;go_wp2_with (first
        | (go_at_call 28;have hq:=markInt_lk P A3 (len m).1 c3 (kk+1+1+1) _ (R3.out.lk L3.out) B1.out B2.out;with_reducible refine hq.mono ?_;clear hq;rintro e W4 ⟨rfl,hL4⟩
           have l4:=L3.out.trans hL4;obtain ⟨cs4,v4,hh4,q4',s4,p4,z4⟩:=l4.at_ HH.out q4;obtain ⟨y4,rfl⟩:=s4.of_bool;obtain ⟨cs5,v5',hh5,q5',s5,p5,z5⟩:=l4.at_ HH.out q5;obtain rfl:=s5.of_slice;have L5:=zzm (l4.trans (Lk.set hh4 q4' (v:=.bool ((kk+1+1+1+((len m).1:Int)) % 3==0)) (.bool _ _) HP.out));clear hL4 l4 hh4 q4' s4 hh5 q5' s5)
        | (go_at_call 28;have hq:=markInt_lk P A5 (len m).2 c5 (kk+1+1+1+((len m).1:Int)+1) _ (R5.out.lk L5.out) B3.out B4.out;with_reducible refine hq.mono ?_;clear hq;rintro e W6 ⟨rfl,hL6⟩
           have L6:=zzm (L5.out.trans hL6);clear hL6))
      go_roundw
      case rel=>exact ⟨m+1,hlt,congrArg (Value.int .i64) HE.out,by first|exact congrArg (Value.int .i64) e5|exact congrArg (Value.int .i64) (by omega),HL.out.trans L6.out⟩
      case measure=>exact meas_lt (by first|exact congrArg (Value.int .i64) e5|rfl) hlt
    · obtain rfl:m=n:=by omega
      have hmi:¬ ((m:Nat):Int) < ((m:Nat):Int):=by omega
      go_wp2;go_ret;exact ⟨rfl,HL.out⟩
def tyS (ts:List Nat) (w:World) (k:Nat):Prop:=∃ q cells,q∈ts∧w.heap[k]? = some (.cells cells q (0,0))
theorem R_keptT {α:Type} {d:Kd α} {e:Nat} {W W2:World} {base:Nat} {ok P0:Nat→Prop} {v:Value} {xs:List α} {ts:List Nat} (h:d.R e W base ok v xs) (hk:Kept W W2 (fun k=>P0 k∧tyS ts W k)) (ht:∀ q,q∈e::d.E→q ∉ ts):d.R e W2 base (fun k=>ok k∧True) v xs:=by
 refine Kd.R_mono (Kd.R_kept (Kd.R_bound h) hk ?_) (fun _ hk=>⟨hk.1,trivial⟩);rintro k ⟨_,_,_,q,hq,cells,hc⟩ ⟨_,q',cells',hq',hc'⟩;rw [hc] at hc';injection hc' with hc';injection hc' with _ hc';subst hc';exact ht q hq hq'
theorem R_keptP {α:Type} {d:Kd α} {e:Nat} {W W2:World} {base:Nat} {ok P0:Nat→Prop} {v:Value} {xs:List α} {ts:List Nat} (h:d.R e W base ok v xs) (hE:d.E = []) (hk:Kept W W2 (fun k=>P0 k∧tyS ts W k)) (hp:∀ k,P0 k→some k≠v.ownBlock):d.R e W2 base (fun k=>ok k∧True) v xs:=
 Kd.R_mono (Kd.R_kept (Kd.R_tight hE h) hk (fun k hk h2=>hp k h2.1 hk)) (fun k hk=>⟨h.1 k hk.symm,trivial⟩)
end
section
end

set_option linter.unusedVariables false
set_option linter.unusedSimpArgs false
def Qh.l0:Nat→List (S67)→Int→Int→Option (Int)
 | 0,_,_,_=>none
 | k+1,x0,x1,x5=>if x5 < (x0.length:Int) then (if 0≤x5 then (if ((Qc x0 x5).f0)=x1 then (if ((Qc x0 x5).f1)=(wrap64 (x1+1)) then (if ((Qc x0 x5).f2)=(wrap64 ((wrap64 (x1+1))+1)) then (Qh.l0 k x0 (wrap64 ((wrap64 ((wrap64 (x1+1))+1))+1)) (wrap64 (x5+1))) else (some (-1))) else (some (-1))) else (some (-1))) else (none)) else (some x1)
def Qh.f (k:Nat) (l0:List (S67)) (a1:Int):Option (Int):=Qh.l0 k l0 a1 0
set_option maxHeartbeats 8000000 in
theorem Qh.calls (k:Nat) (A0:Option Addr) (c0:Nat) (l0:List (S67)) (a1:Int) (r:Int) (w:World) (d2:Kd.C k67 w A0 l0.length l0) (d3:l0.length≤c0) (h:Qh.f k l0 a1=some r) :
  Calls Try.prog 20 #[.slice A0 l0.length c0,.int .i64 a1] w fun e w'=>e = .returned (.int .i64 r)∧Drawn0 w w':=by
 have b1:=zzm d2;have e2:=zzm d3;clear d2 d3;have H:(Qh.l0 k l0 a1 0)=some r:=h;clear h;have H':=zzm H;clear H;go_enter Try.func20,Try.ntmps20;go_wp2;go_loopg [1,5] k (fun kq v1 v5 w'=>∃ (a7:Int) (a0:Int),v1 = .int .i64 a7∧v5 = .int .i64 a0∧Aside0 (Qh.l0 kq l0 a7 a0=some r)∧Aside0 (kq≤k)∧Drawn0 w w')
 case atStart=>exact ⟨(a1),(0),(by first|rfl|(simp;done)|(simp [*];done)),(by first|rfl|(simp;done)|(simp [*];done)),H',⟨Nat.le_refl _⟩,by repeat (first|exact Drawn0.refl _|apply Drawn0.step)⟩
 case round=>
  clear H';try clear c2
  try clear p2
  obtain ⟨a7,a0,rfl,rfl,HA,HK1,⟨m1,rfl⟩⟩:=hrel;cases gk with
  | zero=>exact absurd HA.out (by simp [Qh.l0])
  | succ k1=>
   have H:=HA.out;clear HA;simp only [Qh.l0] at H;by_cases c3:a0 < (l0.length:Int)
   ·
    rw [if_pos c3] at H;have d4:decide (a0 < (l0.length:Int))=true:=decide_eq_true c3;clear c3;by_cases c4 : 0≤a0
    ·
     rw [if_pos c4] at H;have e1:decide (0≤a0)=true:=decide_eq_true c4;clear c4;by_cases c5:((Qc l0 a0).f0)=a7
     ·
      rw [if_pos c5] at H;obtain ⟨d5,d6⟩:=zzQ c5;clear c5;by_cases c6:((Qc l0 a0).f1)=(wrap64 (a7+1))
      ·
       rw [if_pos c6] at H;obtain ⟨d7,d8⟩:=zzQ c6;clear c6;by_cases c7:((Qc l0 a0).f2)=(wrap64 ((wrap64 (a7+1))+1))
       ·
        rw [if_pos c7] at H;obtain ⟨d9,e0⟩:=zzQ c7;clear c7;have H':=zzm H;clear H;have a2 : 0≤(a0:Int):=zzt;have a3:a0 < (l0.length:Int):=zzt;obtain ⟨a6,a8,b3,b4,b5⟩:=Q8 b1.out a0 a2 a3;cases a8;replace a2:=eq_true a2;replace a3:=eq_true a3;have a4 : 0≤(a0:Int):=zzt;have a5:a0 < (l0.length:Int):=zzt;obtain ⟨b2,b6,b7,b8,b9⟩:=Q8 b1.out a0 a4 a5;obtain rfl:a6=b2:=(by injection b6);replace a4:=eq_true a4;replace a5:=eq_true a5;have a9 : 0≤(a0:Int):=zzt;have b0:a0 < (l0.length:Int):=zzt;obtain ⟨c1,c8,c9,d0,d1⟩:=Q8 b1.out a0 a9 b0;obtain rfl:a6=c1:=(by injection c8);replace a9:=eq_true a9;replace b0:=eq_true b0;go_wp2;go_roundg k1
        case measure=>have:=HK1.out;omega
        case rel=>exact ⟨(wrap64 ((wrap64 ((wrap64 (a7+1))+1))+1)),(wrap64 (a0+1)),(by first|rfl|(simp;done)|(simp [*];done)),(by first|rfl|(simp;done)|(simp [*];done)),H',⟨by have:=HK1.out;omega⟩,by repeat (first|exact Drawn0.refl _|apply Drawn0.step)⟩
       ·
        rw [if_neg c7] at H;obtain ⟨d9,e0⟩:=zzY c7;obtain rfl:=Option.some.inj H;have a2 : 0≤(a0:Int):=zzt;have a3:a0 < (l0.length:Int):=zzt;obtain ⟨a6,a8,b3,b4,b5⟩:=Q8 b1.out a0 a2 a3;cases a8;replace a2:=eq_true a2;replace a3:=eq_true a3;have a4 : 0≤(a0:Int):=zzt;have a5:a0 < (l0.length:Int):=zzt;obtain ⟨b2,b6,b7,b8,b9⟩:=Q8 b1.out a0 a4 a5;obtain rfl:a6=b2:=(by injection b6);replace a4:=eq_true a4;replace a5:=eq_true a5;have a9 : 0≤(a0:Int):=zzt;have b0:a0 < (l0.length:Int):=zzt;obtain ⟨c1,c8,c9,d0,d1⟩:=Q8 b1.out a0 a9 b0;obtain rfl:a6=c1:=(by injection c8);replace a9:=eq_true a9;replace b0:=eq_true b0;go_wp2;go_ret;exact ⟨by first|rfl|(simp;done)|(simp [*];done),by repeat (first|exact Drawn0.refl _|apply Drawn0.step)⟩
      ·
       rw [if_neg c6] at H;obtain ⟨d7,d8⟩:=zzY c6;obtain rfl:=Option.some.inj H;have a2 : 0≤(a0:Int):=zzt;have a3:a0 < (l0.length:Int):=zzt;obtain ⟨a6,a8,b3,b4,b5⟩:=Q8 b1.out a0 a2 a3;cases a8;replace a2:=eq_true a2;replace a3:=eq_true a3;have a4 : 0≤(a0:Int):=zzt;have a5:a0 < (l0.length:Int):=zzt;obtain ⟨b2,b6,b7,b8,b9⟩:=Q8 b1.out a0 a4 a5;obtain rfl:a6=b2:=(by injection b6);replace a4:=eq_true a4;replace a5:=eq_true a5;go_wp2;go_ret;exact ⟨by first|rfl|(simp;done)|(simp [*];done),by repeat (first|exact Drawn0.refl _|apply Drawn0.step)⟩
     ·
      rw [if_neg c5] at H;obtain ⟨d5,d6⟩:=zzY c5;obtain rfl:=Option.some.inj H;have a2 : 0≤(a0:Int):=zzt;have a3:a0 < (l0.length:Int):=zzt;obtain ⟨a6,a8,b3,b4,b5⟩:=Q8 b1.out a0 a2 a3;cases a8;replace a2:=eq_true a2;replace a3:=eq_true a3;go_wp2;go_ret;exact ⟨by first|rfl|(simp;done)|(simp [*];done),by repeat (first|exact Drawn0.refl _|apply Drawn0.step)⟩
    ·
     rw [if_neg c4] at H;exact absurd H (by simp)
   ·
    rw [if_neg c3] at H;have d4:decide (a0 < (l0.length:Int))=false:=decide_eq_false c3;clear c3;obtain rfl:=Option.some.inj H;go_wp2;go_ret;exact ⟨by first|rfl|(simp;done)|(simp [*];done),by repeat (first|exact Drawn0.refl _|apply Drawn0.step)⟩

set_option linter.unusedVariables false
set_option linter.unusedSimpArgs false
def Re.f (l0:List Int) (a1:Int):Option (Int):=if (wrap64 (a1 - (l0.length:Int))) < 0 then (some (-1)) else (some (wrap64 (a1 - (l0.length:Int))))
set_option maxHeartbeats 8000000 in
theorem Re.calls (A0:Option Addr) (c0:Nat) (l0:List Int) (a1:Int) (r:Int) (w:World) (a0:Kd.C (Kd.int .i64) w A0 l0.length l0) (a2:l0.length≤c0) (h:Re.f l0 a1=some r) :
  Calls Try.prog 63 #[.slice A0 l0.length c0,.int .i64 a1] w fun e w'=>e = .returned (.int .i64 r)∧Drawn0 w w':=by
 have a4:=zzm a0;have a5:=zzm a2;clear a0 a2;have H:(if (wrap64 (a1 - (l0.length:Int))) < 0 then (some (-1)) else (some (wrap64 (a1 - (l0.length:Int)))))=some r:=h;clear h;by_cases c3:(wrap64 (a1 - (l0.length:Int))) < 0
 ·
  rw [if_pos c3] at H;have a3:decide ((wrap64 (a1 - (l0.length:Int))) < 0)=true:=decide_eq_true c3;clear c3;obtain rfl:=Option.some.inj H;go_enter Try.func63,Try.ntmps63;go_wp2;go_ret;exact ⟨by first|rfl|(simp;done)|(simp [*];done),by repeat (first|exact Drawn0.refl _|apply Drawn0.step)⟩
 ·
  rw [if_neg c3] at H;have a3:decide ((wrap64 (a1 - (l0.length:Int))) < 0)=false:=decide_eq_false c3;clear c3;obtain rfl:=Option.some.inj H;go_enter Try.func63,Try.ntmps63;go_wp2;go_ret;exact ⟨by first|rfl|(simp;done)|(simp [*];done),by repeat (first|exact Drawn0.refl _|apply Drawn0.step)⟩
def Rk.f (a0_0:Int) (a0_1:Int) (a0_2:Bool) (l0_3:List Int) (a0_4:Bool) (l0_5:List Int) (a1:Int):Option (Int):=(Re.f l0_3 a1).bind fun t401=>(if t401 < 0 then (some (-1)) else ((Re.f l0_5 t401).bind fun t402=>(if t402 < 0 then (some (-1)) else (some t402))))
set_option maxHeartbeats 8000000 in
theorem Rk.calls (b5:Int) (b6:Int) (b7:Bool) (a5:Option Addr) (a6:Nat) (a0:List Int) (b8:Bool) (a8:Option Addr) (a9:Nat) (a2:List Int) (a1:Int) (r:Int) (w:World) (c1:Kd.C (Kd.int .i64) w a5 a0.length a0) (c2:a0.length≤a6) (c3:Kd.C (Kd.int .i64) w a8 a2.length a2) (c5:a2.length≤a9) (h:Rk.f b5 b6 b7 a0 b8 a2 a1=some r) :
  Calls Try.prog 56 #[.agg #[.int .i64 b5,.int .i64 b6,.bool b7,.slice a5 a0.length a6,.bool b8,.slice a8 a2.length a9],.int .i64 a1] w fun e w'=>e = .returned (.int .i64 r)∧Below w.heap.size w w':=by
 have hu94:=Try.underlying94;have b9:=zzm c1;have c0:=zzm c2;clear c1 c2;have c6:=zzm c3;have c7:=zzm c5;clear c3 c5;have HB:=zzm (Below.refl w.heap.size w);have H:((Re.f a0 a1).bind fun a3=>(if a3 < 0 then (some (-1)) else ((Re.f a2 a3).bind fun a7=>(if a7 < 0 then (some (-1)) else (some a7)))))=some r:=h;clear h;obtain ⟨a3,A3,H⟩:=zzG H;by_cases c4:a3 < 0
 ·
  rw [if_pos c4] at H;have d1:decide (a3 < 0)=true:=decide_eq_true c4;clear c4;obtain rfl:=Option.some.inj H;go_enter Try.func56,Try.ntmps56;go_wp2_with (first|((with_reducible refine gate_dst (N:=2) rfl ?_);refine box_event ?hg (N:=2) ?hd (cs:=#[.int .i64 b5,.int .i64 b6,.bool b7,.slice a5 a0.length a6,.bool b8,.slice a8 a2.length a9]) (t:=94) ?hr ?_;(case hd=>rfl);(case hg=>rfl);(case hr=>first|(go_simp;done)|(go_simp;rfl));intro a4 hg w5 hbox hb;have b1:=zzm (zzp zzh1 hb);have b2:=zzm (hbox);have b3:=zzm ((by rw [hg];exact (zzo zzh1):w.heap.size≤a4));have b4:=zzm ((by rw [hg];exact (zzo zzh1):w.heap.size≤a4));clear HB;have HB:=b1;have b0:=b2;have c9:=b3;have d0:=b4;clear b1 b2 b3 b4 hb hbox hg;obtain ⟨g7,g8,g9,h0,h1,h2,h3,h4,h5,h6,h7,h8⟩:=zzc6 b0.out)|((with_reducible refine gate_callee (f:=63) rfl ?_);refine goesL_ (some 8) rfl rfl Try.func63 (by kernel_rfl) rfl #[.slice a5 a0.length a6,.int .i64 a1] rfl zzM2 ?_;(with_reducible refine (Re.calls _ _ a0 a1 a3 _ ?side1 ?side2 A3.out).mono ?_);(case side1=>exact zzcb b9 HB);(case side2=>exact c0.out);rintro e w' ⟨rfl,⟨nd,rfl⟩⟩;refine ⟨_,rfl,?_⟩));go_ret;exact ⟨zzR,zzh3⟩
 ·
  rw [if_neg c4] at H;have d1:decide (a3 < 0)=false:=decide_eq_false c4;clear c4;obtain ⟨a7,A7,H⟩:=zzG H;by_cases c8:a7 < 0
  ·
   rw [if_pos c8] at H;have d2:decide (a7 < 0)=true:=decide_eq_true c8;clear c8;obtain rfl:=Option.some.inj H;go_enter Try.func56,Try.ntmps56;go_wp2_with (first|((with_reducible refine gate_dst (N:=2) rfl ?_);refine box_event ?hg (N:=2) ?hd (cs:=#[.int .i64 b5,.int .i64 b6,.bool b7,.slice a5 a0.length a6,.bool b8,.slice a8 a2.length a9]) (t:=94) ?hr ?_;(case hd=>rfl);(case hg=>rfl);(case hr=>first|(go_simp;done)|(go_simp;rfl));intro a4 hg w9 hbox hb;have b1:=zzm (zzp zzh1 hb);have b2:=zzm (hbox);have b3:=zzm ((by rw [hg];exact (zzo zzh1):w.heap.size≤a4));have b4:=zzm ((by rw [hg];exact (zzo zzh1):w.heap.size≤a4));clear HB;have HB:=b1;have b0:=b2;have c9:=b3;have d0:=b4;clear b1 b2 b3 b4 hb hbox hg;obtain ⟨d3,d4,d5,d6,d7,d8,d9,e0,e1,e2,e3,e4⟩:=zzc6 b0.out)|((with_reducible refine gate_callee (f:=63) rfl ?_);refine goesL_ (some 8) rfl rfl Try.func63 (by kernel_rfl) rfl #[.slice a5 a0.length a6,.int .i64 a1] rfl zzM2 ?_;(with_reducible refine (Re.calls _ _ a0 a1 a3 _ ?side1 ?side2 A3.out).mono ?_);(case side1=>exact zzcb b9 HB);(case side2=>exact c0.out);rintro e w' ⟨rfl,⟨nd,rfl⟩⟩;refine ⟨_,rfl,?_⟩)|((with_reducible refine gate_callee (f:=63) rfl ?_);refine goesL_ (some 14) rfl rfl Try.func63 (by kernel_rfl) rfl #[.slice a8 a2.length a9,.int .i64 a3] rfl zzM2 ?_;(with_reducible refine (Re.calls _ _ a2 a3 a7 _ ?side1 ?side2 A7.out).mono ?_);(case side1=>repeat (first|exact (Kd.C_below c6.out zzh2)|(with_reducible refine Kd.C_alloc ?_ _)|(with_reducible refine Kd.C_drewN ?_ _)|(with_reducible refine Kd.C_drew ?_)));(case side2=>exact c7.out);rintro e w' ⟨rfl,⟨nd,rfl⟩⟩;refine ⟨_,rfl,?_⟩));go_ret;exact ⟨zzR,zzh3⟩
  ·
   rw [if_neg c8] at H;have d2:decide (a7 < 0)=false:=decide_eq_false c8;clear c8;obtain rfl:=Option.some.inj H;go_enter Try.func56,Try.ntmps56;go_wp2_with (first|((with_reducible refine gate_dst (N:=2) rfl ?_);refine box_event ?hg (N:=2) ?hd (cs:=#[.int .i64 b5,.int .i64 b6,.bool b7,.slice a5 a0.length a6,.bool b8,.slice a8 a2.length a9]) (t:=94) ?hr ?_;(case hd=>rfl);(case hg=>rfl);(case hr=>first|(go_simp;done)|(go_simp;rfl));intro a4 hg h9 hbox hb;have b1:=zzm (zzp zzh1 hb);have b2:=zzm (hbox);have b3:=zzm ((by rw [hg];exact (zzo zzh1):w.heap.size≤a4));have b4:=zzm ((by rw [hg];exact (zzo zzh1):w.heap.size≤a4));clear HB;have HB:=b1;have b0:=b2;have c9:=b3;have d0:=b4;clear b1 b2 b3 b4 hb hbox hg;obtain ⟨e5,e6,e7,e8,e9,g0,g1,g2,g3,g4,g5,g6⟩:=zzc6 b0.out)|((with_reducible refine gate_callee (f:=63) rfl ?_);refine goesL_ (some 8) rfl rfl Try.func63 (by kernel_rfl) rfl #[.slice a5 a0.length a6,.int .i64 a1] rfl zzM2 ?_;(with_reducible refine (Re.calls _ _ a0 a1 a3 _ ?side1 ?side2 A3.out).mono ?_);(case side1=>exact zzcb b9 HB);(case side2=>exact c0.out);rintro e w' ⟨rfl,⟨nd,rfl⟩⟩;refine ⟨_,rfl,?_⟩)|((with_reducible refine gate_callee (f:=63) rfl ?_);refine goesL_ (some 14) rfl rfl Try.func63 (by kernel_rfl) rfl #[.slice a8 a2.length a9,.int .i64 a3] rfl zzM2 ?_;(with_reducible refine (Re.calls _ _ a2 a3 a7 _ ?side1 ?side2 A7.out).mono ?_);(case side1=>repeat (first|exact (Kd.C_below c6.out zzh2)|(with_reducible refine Kd.C_alloc ?_ _)|(with_reducible refine Kd.C_drewN ?_ _)|(with_reducible refine Kd.C_drew ?_)));(case side2=>exact c7.out);rintro e w' ⟨rfl,⟨nd,rfl⟩⟩;refine ⟨_,rfl,?_⟩));go_ret;exact ⟨zzR,zzh3⟩

set_option linter.unusedVariables false
set_option linter.unusedSimpArgs false
def Qz.l0:Nat→List (S94)→Int→Int→Option (Int)
 | 0,_,_,_=>none
 | k+1,x0,x1,x5=>if x5 < (x0.length:Int) then (if 0≤x5 then ((Rk.f ((Qv x0 x5).f0) ((Qv x0 x5).f1) ((Qv x0 x5).f2) ((Qv x0 x5).f3) ((Qv x0 x5).f4) ((Qv x0 x5).f5) x1).bind fun t404=>(if t404 < 0 then (some (-1)) else (Qz.l0 k x0 t404 (wrap64 (x5+1))))) else (none)) else (some x1)
def Qz.f (k:Nat) (l0:List (S94)) (a1:Int):Option (Int):=if (wrap64 (a1 - (l0.length:Int))) < 0 then (some (-1)) else (Qz.l0 k l0 (wrap64 (a1 - (l0.length:Int))) 0)
set_option maxHeartbeats 8000000 in
theorem Qz.calls (k:Nat) (A0:Option Addr) (c0:Nat) (l0:List (S94)) (a1:Int) (r:Int) (w:World) (d3:Kd.C k94 w A0 l0.length l0) (d4:l0.length≤c0) (h:Qz.f k l0 a1=some r) :
  Calls Try.prog 42 #[.slice A0 l0.length c0,.int .i64 a1] w fun e w'=>e = .returned (.int .i64 r)∧Below w.heap.size w w':=by
 have hu94:=Try.underlying94;have d5:=zzm d3;have d9:=zzm d4;clear d3 d4;have HB:=zzm (Below.refl w.heap.size w);have H:(if (wrap64 (a1 - (l0.length:Int))) < 0 then (some (-1)) else (Qz.l0 k l0 (wrap64 (a1 - (l0.length:Int))) 0))=some r:=h;clear h;by_cases c3:(wrap64 (a1 - (l0.length:Int))) < 0
 ·
  rw [if_pos c3] at H;have d1:decide ((wrap64 (a1 - (l0.length:Int))) < 0)=true:=decide_eq_true c3;clear c3;obtain rfl:=Option.some.inj H;go_enter Try.func42,Try.ntmps42;go_wp2;go_ret;exact ⟨zzR,zzh1⟩
 ·
  rw [if_neg c3] at H;have d1:decide ((wrap64 (a1 - (l0.length:Int))) < 0)=false:=decide_eq_false c3;clear c3;have H':=zzm H;clear H;go_enter Try.func42,Try.ntmps42;go_wp2;go_loopg [1,5] k (fun kq v1 v5 w'=>∃ (b2:Int) (a0:Int),v1 = .int .i64 b2∧v5 = .int .i64 a0∧Aside0 (Qz.l0 kq l0 b2 a0=some r)∧Aside0 (kq≤k)∧Aside0 (Below w.heap.size w w'))
  case atStart=>exact ⟨(wrap64 (a1 - (l0.length:Int))),(0),(by first|rfl|(simp;done)|(simp [*];done)),(by first|rfl|(simp;done)|(simp [*];done)),H',⟨Nat.le_refl _⟩,⟨zzh1⟩⟩
  case round=>
   clear H';try clear p2
   try clear c3
   try clear d1
   obtain ⟨b2,a0,rfl,rfl,HA,HK1,HB⟩:=hrel;cases gk with
   | zero=>exact absurd HA.out (by simp [Qz.l0])
   | succ k1=>
    have H:=HA.out;clear HA;simp only [Qz.l0] at H;by_cases c4:a0 < (l0.length:Int)
    ·
     rw [if_pos c4] at H;have d6:decide (a0 < (l0.length:Int))=true:=decide_eq_true c4;clear c4;by_cases c5 : 0≤a0
     ·
      rw [if_pos c5] at H;have d8:decide (0≤a0)=true:=decide_eq_true c5;clear c5;obtain ⟨b5,A6,H⟩:=zzG H;by_cases c7:b5 < 0
      ·
       rw [if_pos c7] at H;have d7:decide (b5 < 0)=true:=decide_eq_true c7;clear c7;obtain rfl:=Option.some.inj H;have b3 : 0≤(a0:Int):=zzt;have b4:a0 < (l0.length:Int):=zzt;obtain ⟨d2,c1,c2,c6,c8,d0,a2,a3,a4,a5,a6,a7,a8,a9,b0,b1⟩:=at_T94 d5.out a0 b3 b4;cases d0;replace a2:=zzx HB.out a2;replace a3:=zzx HB.out a3;replace a4:=zzx HB.out a4;replace a5:=zzx HB.out a5;replace a6:=zzx HB.out a6;replace a7:=zzx HB.out a7;have b6:=zzm a9;have b7:=zzm a8;clear a9 a8;have b8:=zzm b1;have b9:=zzm b0;clear b1 b0;replace b3:=eq_true b3;replace b4:=eq_true b4;go_wp2_with (first|((with_reducible refine gate_callee (f:=56) rfl ?_);refine goesL_ (some 23) rfl rfl Try.func56 (by kernel_rfl) rfl #[.agg #[.int .i64 ((Qv l0 a0).f0),.int .i64 ((Qv l0 a0).f1),.bool ((Qv l0 a0).f2),.slice c1 ((Qv l0 a0).f3).length c2,.bool ((Qv l0 a0).f4),.slice c6 ((Qv l0 a0).f5).length c8],.int .i64 b2] rfl zzM2 ?_;(with_reducible refine (Rk.calls ((Qv l0 a0).f0) ((Qv l0 a0).f1) ((Qv l0 a0).f2) _ _ ((Qv l0 a0).f3) ((Qv l0 a0).f4) _ _ ((Qv l0 a0).f5) b2 b5 _ ?side1 ?side2 ?side3 ?side4 A6.out).mono ?_);(case side1=>exact zzcb b6 HB);(case side2=>exact b7.out);(case side3=>exact zzcb b8 HB);(case side4=>exact b9.out);rintro e w8 ⟨rfl,hb⟩;refine ⟨_,rfl,?_⟩;have c9:=zzm (zzp zzh1 hb);clear HB;have HB:=c9;clear c9;(try clear hb);(try clear hb2);(try clear hk);(try clear hi)));go_ret;exact ⟨zzR,zzh1⟩
      ·
       rw [if_neg c7] at H;have d7:decide (b5 < 0)=false:=decide_eq_false c7;clear c7;have H':=zzm H;clear H;have b3 : 0≤(a0:Int):=zzt;have b4:a0 < (l0.length:Int):=zzt;obtain ⟨d2,c1,c2,c6,c8,d0,a2,a3,a4,a5,a6,a7,a8,a9,b0,b1⟩:=at_T94 d5.out a0 b3 b4;cases d0;replace a2:=zzx HB.out a2;replace a3:=zzx HB.out a3;replace a4:=zzx HB.out a4;replace a5:=zzx HB.out a5;replace a6:=zzx HB.out a6;replace a7:=zzx HB.out a7;have b6:=zzm a9;have b7:=zzm a8;clear a9 a8;have b8:=zzm b1;have b9:=zzm b0;clear b1 b0;replace b3:=eq_true b3;replace b4:=eq_true b4;go_wp2_with (first|((with_reducible refine gate_callee (f:=56) rfl ?_);refine goesL_ (some 23) rfl rfl Try.func56 (by kernel_rfl) rfl #[.agg #[.int .i64 ((Qv l0 a0).f0),.int .i64 ((Qv l0 a0).f1),.bool ((Qv l0 a0).f2),.slice c1 ((Qv l0 a0).f3).length c2,.bool ((Qv l0 a0).f4),.slice c6 ((Qv l0 a0).f5).length c8],.int .i64 b2] rfl zzM2 ?_;(with_reducible refine (Rk.calls ((Qv l0 a0).f0) ((Qv l0 a0).f1) ((Qv l0 a0).f2) _ _ ((Qv l0 a0).f3) ((Qv l0 a0).f4) _ _ ((Qv l0 a0).f5) b2 b5 _ ?side1 ?side2 ?side3 ?side4 A6.out).mono ?_);(case side1=>exact zzcb b6 HB);(case side2=>exact b7.out);(case side3=>exact zzcb b8 HB);(case side4=>exact b9.out);rintro e w9 ⟨rfl,hb⟩;refine ⟨_,rfl,?_⟩;have c9:=zzm (zzp zzh1 hb);clear HB;have HB:=c9;clear c9;(try clear hb);(try clear hb2);(try clear hk);(try clear hi)));go_roundg k1
       case measure=>have:=HK1.out;omega
       case rel=>exact ⟨(b5),(wrap64 (a0+1)),(by first|rfl|(simp;done)|(simp [*];done)),(by first|rfl|(simp;done)|(simp [*];done)),H',⟨by have:=HK1.out;omega⟩,⟨zzh1⟩⟩
     ·
      rw [if_neg c5] at H;exact absurd H (by simp)
    ·
     rw [if_neg c4] at H;have d6:decide (a0 < (l0.length:Int))=false:=decide_eq_false c4;clear c4;obtain rfl:=Option.some.inj H;go_wp2;go_ret;exact ⟨zzR,zzh1⟩
def Rm.f (k:Nat) (a0_0:Bool) (a0_1:Bool) (a0_2:Int) (a0_3:Int) (a0_4:Int) (l0_5:List (S94)) (a1:Int):Option (Int):=(Qz.f k l0_5 a1).bind fun t406=>(if t406 < 0 then (some (-1)) else (some t406))
set_option maxHeartbeats 8000000 in
theorem Rm.calls (k:Nat) (a9:Bool) (b0:Bool) (b1:Int) (b2:Int) (b3:Int) (a4:Option Addr) (a5:Nat) (a0:List (S94)) (a1:Int) (r:Int) (w:World) (b6:Kd.C k94 w a4 a0.length a0) (b7:a0.length≤a5) (h:Rm.f k a9 b0 b1 b2 b3 a0 a1=some r) :
  Calls Try.prog 13 #[.agg #[.bool a9,.bool b0,.int .i64 b1,.int .i64 b2,.int .i64 b3,.slice a4 a0.length a5],.int .i64 a1] w fun e w'=>e = .returned (.int .i64 r)∧Below w.heap.size w w':=by
 have hu38:=Try.underlying38;have b8:=zzm b6;have b9:=zzm b7;clear b6 b7;have HB:=zzm (Below.refl w.heap.size w);have H:((Qz.f k a0 a1).bind fun a6=>(if a6 < 0 then (some (-1)) else (some a6)))=some r:=h;clear h;obtain ⟨a6,A3,H⟩:=zzG H;by_cases c4:a6 < 0
 ·
  rw [if_pos c4] at H;have c2:decide (a6 < 0)=true:=decide_eq_true c4;clear c4;obtain rfl:=Option.some.inj H;go_enter Try.func13,Try.ntmps13;go_wp2_with (first|((with_reducible refine gate_dst (N:=2) rfl ?_);refine box_event ?hg (N:=2) ?hd (cs:=#[.bool a9,.bool b0,.int .i64 b1,.int .i64 b2,.int .i64 b3,.slice a4 a0.length a5]) (t:=38) ?hr ?_;(case hd=>rfl);(case hg=>rfl);(case hr=>first|(go_simp;done)|(go_simp;rfl));intro a3 hg w5 hbox hb;have a7:=zzm (zzp zzh1 hb);have a8:=zzm (hbox);have b4:=zzm ((by rw [hg];exact (zzo zzh1):w.heap.size≤a3));have b5:=zzm ((by rw [hg];exact (zzo zzh1):w.heap.size≤a3));clear HB;have HB:=a7;have a2:=a8;have c0:=b4;have c1:=b5;clear a7 a8 b4 b5 hb hbox hg;obtain ⟨c3,c5,c6,c7,c8,c9,d0,d1,d2,d3,d4,d5⟩:=zzc6 a2.out)|((with_reducible refine gate_callee (f:=42) rfl ?_);refine goesL_ (some 8) rfl rfl Try.func42 (by kernel_rfl) rfl #[.slice a4 a0.length a5,.int .i64 a1] rfl zzM2 ?_;(with_reducible refine (Qz.calls k _ _ a0 a1 a6 _ ?side1 ?side2 A3.out).mono ?_);(case side1=>exact zzcb b8 HB);(case side2=>exact b9.out);rintro e w7 ⟨rfl,hb⟩;refine ⟨_,rfl,?_⟩;have a7:=zzm (zzh (g:=a3) (o:=.cells #[.bool a9,.bool b0,.int .i64 b1,.int .i64 b2,.int .i64 b3,.slice a4 a0.length a5] 38 (0,0)) (zzE a2.out) hb);have a8:=zzm (zzp zzh2 hb);clear a2 HB;have a2:=a7;have HB:=a8;clear a7 a8;(try clear hb);(try clear hb2);(try clear hk);(try clear hi)));go_ret;exact ⟨zzR,zzh3⟩
 ·
  rw [if_neg c4] at H;have c2:decide (a6 < 0)=false:=decide_eq_false c4;clear c4;obtain rfl:=Option.some.inj H;go_enter Try.func13,Try.ntmps13;go_wp2_with (first|((with_reducible refine gate_dst (N:=2) rfl ?_);refine box_event ?hg (N:=2) ?hd (cs:=#[.bool a9,.bool b0,.int .i64 b1,.int .i64 b2,.int .i64 b3,.slice a4 a0.length a5]) (t:=38) ?hr ?_;(case hd=>rfl);(case hg=>rfl);(case hr=>first|(go_simp;done)|(go_simp;rfl));intro a3 hg w8 hbox hb;have a7:=zzm (zzp zzh1 hb);have a8:=zzm (hbox);have b4:=zzm ((by rw [hg];exact (zzo zzh1):w.heap.size≤a3));have b5:=zzm ((by rw [hg];exact (zzo zzh1):w.heap.size≤a3));clear HB;have HB:=a7;have a2:=a8;have c0:=b4;have c1:=b5;clear a7 a8 b4 b5 hb hbox hg;obtain ⟨d6,d7,d8,d9,e0,e1,e2,e3,e4,e5,e6,e7⟩:=zzc6 a2.out)|((with_reducible refine gate_callee (f:=42) rfl ?_);refine goesL_ (some 8) rfl rfl Try.func42 (by kernel_rfl) rfl #[.slice a4 a0.length a5,.int .i64 a1] rfl zzM2 ?_;(with_reducible refine (Qz.calls k _ _ a0 a1 a6 _ ?side1 ?side2 A3.out).mono ?_);(case side1=>exact zzcb b8 HB);(case side2=>exact b9.out);rintro e e8 ⟨rfl,hb⟩;refine ⟨_,rfl,?_⟩;have a7:=zzm (zzh (g:=a3) (o:=.cells #[.bool a9,.bool b0,.int .i64 b1,.int .i64 b2,.int .i64 b3,.slice a4 a0.length a5] 38 (0,0)) (zzE a2.out) hb);have a8:=zzm (zzp zzh2 hb);clear a2 HB;have a2:=a7;have HB:=a8;clear a7 a8;(try clear hb);(try clear hb2);(try clear hk);(try clear hi)));go_ret;exact ⟨zzR,zzh3⟩

set_option linter.unusedVariables false
set_option linter.unusedSimpArgs false
def Q1.l0:Nat→List (S38)→Int→Int→Option (Int)
 | 0,_,_,_=>none
 | k+1,x0,x1,x5=>if x5 < (x0.length:Int) then (if 0≤x5 then ((Rm.f k ((Qy x0 x5).f0) ((Qy x0 x5).f1) ((Qy x0 x5).f2) ((Qy x0 x5).f3) ((Qy x0 x5).f4) ((Qy x0 x5).f5) x1).bind fun t550=>(if t550 < 0 then (some (-1)) else (Q1.l0 k x0 t550 (wrap64 (x5+1))))) else (none)) else (some x1)
def Q1.f (k:Nat) (l0:List (S38)) (a1:Int):Option (Int):=if (wrap64 (a1 - (l0.length:Int))) < 0 then (some (-1)) else (Q1.l0 k l0 (wrap64 (a1 - (l0.length:Int))) 0)
set_option maxHeartbeats 8000000 in
theorem Q1.calls (k:Nat) (A0:Option Addr) (c0:Nat) (l0:List (S38)) (a1:Int) (r:Int) (w:World) (c8:Kd.C k38 w A0 l0.length l0) (c9:l0.length≤c0) (h:Q1.f k l0 a1=some r) :
  Calls Try.prog 21 #[.slice A0 l0.length c0,.int .i64 a1] w fun e w'=>e = .returned (.int .i64 r)∧Below w.heap.size w w':=by
 have hu38:=Try.underlying38;have d0:=zzm c8;have d4:=zzm c9;clear c8 c9;have HB:=zzm (Below.refl w.heap.size w);have H:(if (wrap64 (a1 - (l0.length:Int))) < 0 then (some (-1)) else (Q1.l0 k l0 (wrap64 (a1 - (l0.length:Int))) 0))=some r:=h;clear h;by_cases c3:(wrap64 (a1 - (l0.length:Int))) < 0
 ·
  rw [if_pos c3] at H;have c1:decide ((wrap64 (a1 - (l0.length:Int))) < 0)=true:=decide_eq_true c3;clear c3;obtain rfl:=Option.some.inj H;go_enter Try.func21,Try.ntmps21;go_wp2;go_ret;exact ⟨zzR,zzh1⟩
 ·
  rw [if_neg c3] at H;have c1:decide ((wrap64 (a1 - (l0.length:Int))) < 0)=false:=decide_eq_false c3;clear c3;have H':=zzm H;clear H;go_enter Try.func21,Try.ntmps21;go_wp2;go_loopg [1,5] k (fun kq v1 v5 w'=>∃ (b0:Int) (a0:Int),v1 = .int .i64 b0∧v5 = .int .i64 a0∧Aside0 (Q1.l0 kq l0 b0 a0=some r)∧Aside0 (kq≤k)∧Aside0 (Below w.heap.size w w'))
  case atStart=>exact ⟨(wrap64 (a1 - (l0.length:Int))),(0),(by first|rfl|(simp;done)|(simp [*];done)),(by first|rfl|(simp;done)|(simp [*];done)),H',⟨Nat.le_refl _⟩,⟨zzh1⟩⟩
  case round=>
   clear H';try clear c2
   try clear p2
   try clear c3
   try clear c1
   obtain ⟨b0,a0,rfl,rfl,HA,HK1,HB⟩:=hrel;cases gk with
   | zero=>exact absurd HA.out (by simp [Q1.l0])
   | succ k1=>
    have H:=HA.out;clear HA;simp only [Q1.l0] at H;by_cases c4:a0 < (l0.length:Int)
    ·
     rw [if_pos c4] at H;have d1:decide (a0 < (l0.length:Int))=true:=decide_eq_true c4;clear c4;by_cases c5 : 0≤a0
     ·
      rw [if_pos c5] at H;have d3:decide (0≤a0)=true:=decide_eq_true c5;clear c5;obtain ⟨b3,A6,H⟩:=zzG H;by_cases c7:b3 < 0
      ·
       rw [if_pos c7] at H;have d2:decide (b3 < 0)=true:=decide_eq_true c7;clear c7;obtain rfl:=Option.some.inj H;have b1 : 0≤(a0:Int):=zzt;have b2:a0 < (l0.length:Int):=zzt;obtain ⟨c6,b6,b7,b9,a2,a3,a4,a5,a6,a7,a8,a9⟩:=at_T38 d0.out a0 b1 b2;cases b9;replace a2:=zzx HB.out a2;replace a3:=zzx HB.out a3;replace a4:=zzx HB.out a4;replace a5:=zzx HB.out a5;replace a6:=zzx HB.out a6;replace a7:=zzx HB.out a7;have b4:=zzm a9;have b5:=zzm a8;clear a9 a8;replace b1:=eq_true b1;replace b2:=eq_true b2;go_wp2_with (first|((with_reducible refine gate_callee (f:=13) rfl ?_);refine goesL_ (some 23) rfl rfl Try.func13 (by kernel_rfl) rfl #[.agg #[.bool ((Qy l0 a0).f0),.bool ((Qy l0 a0).f1),.int .i64 ((Qy l0 a0).f2),.int .i64 ((Qy l0 a0).f3),.int .i64 ((Qy l0 a0).f4),.slice b6 ((Qy l0 a0).f5).length b7],.int .i64 b0] rfl zzM2 ?_;(with_reducible refine (Rm.calls k1 ((Qy l0 a0).f0) ((Qy l0 a0).f1) ((Qy l0 a0).f2) ((Qy l0 a0).f3) ((Qy l0 a0).f4) _ _ ((Qy l0 a0).f5) b0 b3 _ ?side1 ?side2 A6.out).mono ?_);(case side1=>exact zzcb b4 HB);(case side2=>exact b5.out);rintro e w8 ⟨rfl,hb⟩;refine ⟨_,rfl,?_⟩;have b8:=zzm (zzp zzh1 hb);clear HB;have HB:=b8;clear b8;(try clear hb);(try clear hb2);(try clear hk);(try clear hi)));go_ret;exact ⟨zzR,zzh1⟩
      ·
       rw [if_neg c7] at H;have d2:decide (b3 < 0)=false:=decide_eq_false c7;clear c7;have H':=zzm H;clear H;have b1 : 0≤(a0:Int):=zzt;have b2:a0 < (l0.length:Int):=zzt;obtain ⟨c6,b6,b7,b9,a2,a3,a4,a5,a6,a7,a8,a9⟩:=at_T38 d0.out a0 b1 b2;cases b9;replace a2:=zzx HB.out a2;replace a3:=zzx HB.out a3;replace a4:=zzx HB.out a4;replace a5:=zzx HB.out a5;replace a6:=zzx HB.out a6;replace a7:=zzx HB.out a7;have b4:=zzm a9;have b5:=zzm a8;clear a9 a8;replace b1:=eq_true b1;replace b2:=eq_true b2;go_wp2_with (first|((with_reducible refine gate_callee (f:=13) rfl ?_);refine goesL_ (some 23) rfl rfl Try.func13 (by kernel_rfl) rfl #[.agg #[.bool ((Qy l0 a0).f0),.bool ((Qy l0 a0).f1),.int .i64 ((Qy l0 a0).f2),.int .i64 ((Qy l0 a0).f3),.int .i64 ((Qy l0 a0).f4),.slice b6 ((Qy l0 a0).f5).length b7],.int .i64 b0] rfl zzM2 ?_;(with_reducible refine (Rm.calls k1 ((Qy l0 a0).f0) ((Qy l0 a0).f1) ((Qy l0 a0).f2) ((Qy l0 a0).f3) ((Qy l0 a0).f4) _ _ ((Qy l0 a0).f5) b0 b3 _ ?side1 ?side2 A6.out).mono ?_);(case side1=>exact zzcb b4 HB);(case side2=>exact b5.out);rintro e w9 ⟨rfl,hb⟩;refine ⟨_,rfl,?_⟩;have b8:=zzm (zzp zzh1 hb);clear HB;have HB:=b8;clear b8;(try clear hb);(try clear hb2);(try clear hk);(try clear hi)));go_roundg k1
       case measure=>have:=HK1.out;omega
       case rel=>exact ⟨(b3),(wrap64 (a0+1)),(by first|rfl|(simp;done)|(simp [*];done)),(by first|rfl|(simp;done)|(simp [*];done)),H',⟨by have:=HK1.out;omega⟩,⟨zzh1⟩⟩
     ·
      rw [if_neg c5] at H;exact absurd H (by simp)
    ·
     rw [if_neg c4] at H;have d1:decide (a0 < (l0.length:Int))=false:=decide_eq_false c4;clear c4;obtain rfl:=Option.some.inj H;go_wp2;go_ret;exact ⟨zzR,zzh1⟩

set_option linter.unusedVariables false
set_option linter.unusedSimpArgs false

set_option linter.unusedVariables false
set_option linter.unusedSimpArgs false

set_option linter.unusedVariables false
set_option linter.unusedSimpArgs false

set_option linter.unusedVariables false
set_option linter.unusedSimpArgs false

set_option linter.unusedVariables false
set_option linter.unusedSimpArgs false

set_option linter.unusedVariables false
set_option linter.unusedSimpArgs false

set_option linter.unusedVariables false
set_option linter.unusedSimpArgs false
def Qp.f (a0:Int) (a1:Int) (a2:Int):Option (Bool):=if a0 ≥ a1 then (some (decide (a0≤a2))) else (some false)
set_option maxHeartbeats 8000000 in
theorem Qp.calls (a0:Int) (a1:Int) (a2:Int) (r:Bool) (w:World) (h:Qp.f a0 a1 a2=some r) :
  Calls Try.prog 40 #[.int .i64 a0,.int .i64 a1,.int .i64 a2] w fun e w'=>e = .returned (.bool r)∧Drawn0 w w':=by
 have H:(if a0 ≥ a1 then (some (decide (a0≤a2))) else (some false))=some r:=h;clear h;by_cases c4:a0 ≥ a1
 ·
  rw [if_pos c4] at H;have c4b0:decide (a1≤a0)=true:=decide_eq_true c4;clear c4;obtain rfl:=Option.some.inj H;go_enter Try.func40,Try.ntmps40;go_wp2;go_ret;exact ⟨by first|rfl|(simp;done)|(simp [*];done),by repeat (first|exact Drawn0.refl _|apply Drawn0.step)⟩
 ·
  rw [if_neg c4] at H;have c4b0:decide (a1≤a0)=false:=decide_eq_false c4;clear c4;obtain rfl:=Option.some.inj H;go_enter Try.func40,Try.ntmps40;go_wp2;go_ret;exact ⟨by first|rfl|(simp;done)|(simp [*];done),by repeat (first|exact Drawn0.refl _|apply Drawn0.step)⟩
def Q5.f (a0:Int):Option (Bool):=(Qp.f a0 0 254).bind fun t282=>(some t282)
set_option maxHeartbeats 8000000 in
theorem Q5.calls (a0:Int) (r:Bool) (w:World) (h:Q5.f a0=some r) :
  Calls Try.prog 39 #[.int .i64 a0] w fun e w'=>e = .returned (.bool r)∧Drawn0 w w':=by
 have H:((Qp.f a0 0 254).bind fun a1=>(some a1))=some r:=h;clear h;obtain ⟨a1,A2,H⟩:=zzG H;obtain rfl:=Option.some.inj H;go_enter Try.func39,Try.ntmps39;go_wp2_with (first|((with_reducible refine gate_callee (f:=40) rfl ?_);refine goesL_ (some 4) rfl rfl Try.func40 (by kernel_rfl) rfl #[.int .i64 a0,.int .i64 0,.int .i64 254] rfl zzM2 ?_;(with_reducible refine (Qp.calls a0 0 254 a1 _ A2.out).mono ?_);rintro e w' ⟨rfl,⟨nd,rfl⟩⟩;refine ⟨_,rfl,?_⟩));go_ret;exact ⟨by first|rfl|(simp;done)|(simp [*];done),by repeat (first|exact Drawn0.refl _|apply Drawn0.step)⟩
def Rf.f (a0:Int) (a1:Int):Option (Bool):=(Qp.f a0 0 99999).bind fun t283=>(if t283=true then ((Qp.f a1 0 99999).bind fun t284=>(some t284)) else (some false))
set_option maxHeartbeats 8000000 in
theorem Rf.calls (a0:Int) (a1:Int) (r:Bool) (w:World) (h:Rf.f a0 a1=some r) :
  Calls Try.prog 54 #[.int .i64 a0,.int .i64 a1] w fun e w'=>e = .returned (.bool r)∧Drawn0 w w':=by
 have H:((Qp.f a0 0 99999).bind fun a2=>(if a2=true then ((Qp.f a1 0 99999).bind fun a3=>(some a3)) else (some false)))=some r:=h;clear h;obtain ⟨a2,A3,H⟩:=zzG H;by_cases c4:a2=true
 ·
  subst c4;replace H:=zzIt H;obtain ⟨a3,A5,H⟩:=zzG H;obtain rfl:=Option.some.inj H;go_enter Try.func54,Try.ntmps54;go_wp2_with (first|((with_reducible refine gate_callee (f:=40) rfl ?_);refine goesL_ (some 6) rfl rfl Try.func40 (by kernel_rfl) rfl #[.int .i64 a0,.int .i64 0,.int .i64 99999] rfl zzM2 ?_;(with_reducible refine (Qp.calls a0 0 99999 true _ A3.out).mono ?_);rintro e w' ⟨rfl,⟨nd,rfl⟩⟩;refine ⟨_,rfl,?_⟩)|(go_at_call 40;(with_reducible refine (Qp.calls a1 0 99999 a3 _ A5.out).mono ?_);rintro e w' ⟨rfl,⟨nd,rfl⟩⟩));go_ret;exact ⟨by first|rfl|(simp;done)|(simp [*];done),by repeat (first|exact Drawn0.refl _|apply Drawn0.step)⟩
 ·
  replace c4:=Bool.eq_false_iff.mpr c4;subst c4;replace H:=zzIf H;obtain rfl:=Option.some.inj H;go_enter Try.func54,Try.ntmps54;go_wp2_with (first|((with_reducible refine gate_callee (f:=40) rfl ?_);refine goesL_ (some 6) rfl rfl Try.func40 (by kernel_rfl) rfl #[.int .i64 a0,.int .i64 0,.int .i64 99999] rfl zzM2 ?_;(with_reducible refine (Qp.calls a0 0 99999 false _ A3.out).mono ?_);rintro e w' ⟨rfl,⟨nd,rfl⟩⟩;refine ⟨_,rfl,?_⟩));go_ret;exact ⟨by first|rfl|(simp;done)|(simp [*];done),by repeat (first|exact Drawn0.refl _|apply Drawn0.step)⟩
def Rq.f (a0:Int):Option (Bool):=if a0 ≥ 0 then (some (decide (a0≤255))) else (some false)
set_option maxHeartbeats 8000000 in
theorem Rq.calls (a0:Int) (r:Bool) (w:World) (h:Rq.f a0=some r) :
  Calls Try.prog 67 #[.int .i64 a0] w fun e w'=>e = .returned (.bool r)∧Drawn0 w w':=by
 have H:(if a0 ≥ 0 then (some (decide (a0≤255))) else (some false))=some r:=h;clear h;by_cases c2:a0 ≥ 0
 ·
  rw [if_pos c2] at H;have c2b0:decide (0≤a0)=true:=decide_eq_true c2;clear c2;obtain rfl:=Option.some.inj H;go_enter Try.func67,Try.ntmps67;go_wp2;go_ret;exact ⟨by first|rfl|(simp;done)|(simp [*];done),by repeat (first|exact Drawn0.refl _|apply Drawn0.step)⟩
 ·
  rw [if_neg c2] at H;have c2b0:decide (0≤a0)=false:=decide_eq_false c2;clear c2;obtain rfl:=Option.some.inj H;go_enter Try.func67,Try.ntmps67;go_wp2;go_ret;exact ⟨by first|rfl|(simp;done)|(simp [*];done),by repeat (first|exact Drawn0.refl _|apply Drawn0.step)⟩

set_option linter.unusedVariables false
set_option linter.unusedSimpArgs false
theorem quiet_drawn {P:Program} {f:FuncId} {args:Array Value} {w:World} {n:Nat} {v:Value} (h:Calls P f args (w.drewN n) fun e w'=>e = .returned v∧Drawn0 (w.drewN n) w'):Calls P f args (w.drewN n) fun e w''=>e = .returned v∧∃ m,w'' = w.drewN m:=Calls.quiet_of (h.mono fun _ _ h_=>⟨h_.1,h_.2.out⟩)
def prodAt (l:List S67) (i:Nat):Bool:=decide (((0≤(Qc l (i:Int)).f0∧(Qc l (i:Int)).f0≤254)∧(0≤(Qc l (i:Int)).f1∧(Qc l (i:Int)).f1≤99)∧(0≤(Qc l (i:Int)).f2∧(Qc l (i:Int)).f2≤99999))∧(0 < i→(Qc l ((i:Int) - 1)).f0 < (Qc l (i:Int)).f0))
def prodsAll (l:List S67):Bool:=decide (l.length≤20)&&decide (∀ i,i < l.length→prodAt l i=true)
theorem prodsAll_no {l:List S67} {k:Nat} (hk:k < l.length) (h:prodAt l k=false):prodsAll l=false:=by
 unfold prodsAll;rw [Bool.and_eq_false_iff];exact .inr (by rw [decide_eq_false_iff_not];intro h2;rw [h2 k hk] at h;cases h)
theorem prodsAll_long {l:List S67} (h : 20 < l.length):prodsAll l=false:=by
 unfold prodsAll;rw [decide_eq_false (by omega),Bool.false_and]
theorem within_eqT (a b c:Int) (r:Bool) (h:decide (b≤a∧a≤c)=r):Qp.f a b c=some r:=by
 subst h;unfold Qp.f;by_cases h:a ≥ b
 ·
  rw [if_pos h];have:(b≤a∧a≤c)↔a≤c:=⟨fun h=>h.2,fun h'=>⟨h,h'⟩⟩;simp [this]
 ·
  rw [if_neg h];have:¬ (b≤a∧a≤c):=fun h'=>h h'.1;simp [this]
theorem idValid_eqT (a:Int) (r:Bool) (h:decide (0≤a∧a≤254)=r):Q5.f a=some r:=by
 unfold Q5.f;rw [within_eqT a 0 254 r h];rfl
def Qu.f (k:Nat) (l0:List S67):Option Bool:=some (prodsAll l0)
set_option maxHeartbeats 8000000 in
theorem Qu.calls (k:Nat) (A0:Option Addr) (c0:Nat) (l0:List (S67)) (r:Bool) (w:World) (a4:Kd.C k67 w A0 l0.length l0) (b5:l0.length≤c0) (h:Qu.f k l0=some r) :
  Calls Try.prog 32 #[.slice A0 l0.length c0] w fun e w'=>e = .returned (.bool r)∧Below w.heap.size w w':=by
 obtain rfl:=Option.some.inj h;clear h;have hmax:l0.length≤9223372036854775807:=a4.2.1;have HR:=zzm a4;have HB:=zzm (Below.refl w.heap.size w);clear a4;by_cases hlen : 20 < l0.length
 ·
  have HF:=zzm (prodsAll_long hlen);have hlen2:decide (20 < (l0.length:Int))=true:=decide_eq_true (by omega);go_enter Try.func32,Try.ntmps32;go_wp2;go_ret;exact ⟨by rw [HF.out];rfl,HB.out⟩
 ·
  have hlen2:decide (20 < (l0.length:Int))=false:=decide_eq_false (by omega);have hlen3:decide (20 < l0.length)=false:=decide_eq_false hlen;go_enter Try.func32,Try.ntmps32;go_wp2;go_loopw [10,3,4] (fun i i3 i4 W=>∃ k:Nat,k≤l0.length∧i = .int .i64 k∧Aside0 (∀ j,j < k→prodAt l0 j=true)∧Aside0 (Below w.heap.size w W)) (fun i _ _ _=>l0.length - (intOf i).toNat)
  case atStart=>exact ⟨0,Nat.zero_le _,rfl,⟨fun j hj=>by omega⟩,HB⟩
  case round=>
   clear HB;obtain ⟨k,hk,rfl,HN,HB⟩:=hrel;by_cases hlt:k < l0.length
   ·
    obtain ⟨ad,he,a0,a1,a2⟩:=Q8 HR.out (k:Int) (by omega) (by omega);subst he;replace a0:=zzx HB.out a0;replace a1:=zzx HB.out a1;replace a2:=zzx HB.out a2;simp only [Int.toNat_natCast] at a0 a1 a2;have HP:Aside0 (prodAt l0 k=decide (((0≤(Qc l0 (k:Int)).f0∧(Qc l0 (k:Int)).f0≤254)∧(0≤(Qc l0 (k:Int)).f1∧(Qc l0 (k:Int)).f1≤99)∧(0≤(Qc l0 (k:Int)).f2∧(Qc l0 (k:Int)).f2≤99999))∧(0 < k→(Qc l0 ((k:Int) - 1)).f0 < (Qc l0 (k:Int)).f0))):=⟨rfl⟩;obtain ⟨p,hp⟩:∃ p,p=Qc l0 (k:Int):=⟨_,rfl⟩;simp only [← hp] at a0 a1 a2;rw [← hp] at HP;clear hp;obtain ⟨x,y,z⟩:=p;have HNO:=zzm (fun h=>prodsAll_no (l:=l0) hlt h);go_wp2_with ((with_reducible refine gate_dst (N:=4) rfl ?_);refine box_event ?hg (N:=4) ?hd (cs:=#[.int .i64 0,.int .i64 0,.int .i64 0]) (t:=67) ?hr ?_;(case hd=>rfl);(case hg=>rfl);(case hr=>first|(go_simp;done)|(go_simp;rfl));intro gb hg a9 hbox hb;have HB13:=zzm (zzp HB.out hb);have BK:=zzm hbox;have GE:=zzm (show w.heap.size≤gb by rw [hg];exact HB.out.size);clear hb hbox hg;have a6:=(zzk BK.out 0).trans rfl;have a7:=(zzk BK.out 1).trans rfl;have a8:=(zzk BK.out 2).trans rfl;have hf0:=zzl BK.out 0;have hf1:=zzl BK.out 1;have hf2:=zzl BK.out 2);have a3:=zzm (blk_set (blk_set (blk_set BK.out 0 (.int .i64 x)) 1 (.int .i64 y)) 2 (.int .i64 z));have HB2:=zzm (zzd (zzd (zzd HB13.out GE.out (j:=0) (v:=.int .i64 x)) GE.out (j:=1) (v:=.int .i64 y)) GE.out (j:=2) (v:=.int .i64 z));clear a6 a7 a8 hf0 hf1 hf2 BK HB13 a0 a1 a2 HB;generalize ((a9.setCell ⟨gb,0,none⟩ (.int .i64 x)).setCell ⟨gb,1,none⟩ (.int .i64 y)).setCell ⟨gb,2,none⟩ (.int .i64 z)=a5 at a3 HB2 ⊢;have d0:a5.cell? ⟨gb,0,none⟩=some (.int .i64 x):=(zzk a3.out 0).trans rfl;have d1:a5.cell? ⟨gb,1,none⟩=some (.int .i64 y):=(zzk a3.out 1).trans rfl;have d2:a5.cell? ⟨gb,2,none⟩=some (.int .i64 z):=(zzk a3.out 2).trans rfl;by_cases k0 : 0≤x∧x≤254
    ·
     have e0:=idValid_eqT x true (decide_eq_true k0);by_cases k1 : 0≤y∧y≤99
     ·
      have e1:=within_eqT y 0 99 true (decide_eq_true k1);by_cases k2 : 0≤z∧z≤99999
      ·
       have e2:=within_eqT z 0 99999 true (decide_eq_true k2);by_cases h0 : 0 < k
       ·
        obtain ⟨ad',he,hy0,_,_⟩:=Q8 HR.out ((k:Int) - 1) (by omega) (by omega);injection he with he;subst he;replace hy0:=(HB2.out.cell (zzn w _ hy0)).trans hy0;rw [show ((k:Int) - 1).toNat=k - 1 by omega] at hy0;generalize (Qc l0 ((k:Int) - 1)).f0=q at hy0 HP;have hk0:decide (0 < (k:Int))=true:=decide_eq_true (by omega);have hk1:decide (0 < k)=true:=decide_eq_true h0;have b0:IntKind.i64.wrap ((k:Int) - 1)=(k:Int) - 1:=IntWalk.i64_in _ (by omega);have b1:((k:Int) - 1).toNat=k - 1:=by omega
        have b2:(0≤(k:Int) - 1)=True:=eq_true (by omega);have b3:(1≤(k:Int))=True:=eq_true (by omega);have b4:((k:Int) - 1 < (l0.length:Int))=True:=eq_true (by omega);by_cases hge:x≤q
        ·
         have hge2:decide (x≤q)=true:=decide_eq_true hge;have HF:=zzm (HNO.out (by rw [HP.out];exact decide_eq_false (fun h=>by have:=h.2 h0;omega)));clear HNO HP k0 k1 k2;go_quiet ((first|(go_at_call 39;with_reducible exact quiet_drawn (Q5.calls x true _ e0))|(go_at_call 40;with_reducible exact quiet_drawn (Qp.calls y 0 99 true _ e1))|(go_at_call 40;with_reducible exact quiet_drawn (Qp.calls z 0 99999 true _ e2))))
         go_wp2;go_ret;exact ⟨by rw [HF.out];rfl,zzb HB2.out _⟩
        ·
         have hge2:decide (x≤q)=false:=decide_eq_false hge;have HY:=zzm (show prodAt l0 k=true by rw [HP.out];exact decide_eq_true ⟨⟨k0,k1,k2⟩,fun _=>by omega⟩);clear HNO HP k0 k1 k2;go_quiet ((first|(go_at_call 39;with_reducible exact quiet_drawn (Q5.calls x true _ e0))|(go_at_call 40;with_reducible exact quiet_drawn (Qp.calls y 0 99 true _ e1))|(go_at_call 40;with_reducible exact quiet_drawn (Qp.calls z 0 99999 true _ e2))))
         clear b0 b1 b2 b4 b3;go_wp2;go_roundw
         case rel=>exact ⟨k+1,by omega,by go_num,⟨fun j hj=>by by_cases e:j=k;(subst e;exact HY.out);exact HN.out j (by omega)⟩,⟨zzb HB2.out _⟩⟩
         case measure=>simp [intOf];omega
       ·
        have hk0:decide (0 < (k:Int))=false:=decide_eq_false (by omega);have hk1:decide (0 < k)=false:=decide_eq_false h0;have HY:=zzm (show prodAt l0 k=true by rw [HP.out];exact decide_eq_true ⟨⟨k0,k1,k2⟩,fun h=>absurd h h0⟩);clear HNO HP k0 k1 k2;go_quiet ((first|(go_at_call 39;with_reducible exact quiet_drawn (Q5.calls x true _ e0))|(go_at_call 40;with_reducible exact quiet_drawn (Qp.calls y 0 99 true _ e1))|(go_at_call 40;with_reducible exact quiet_drawn (Qp.calls z 0 99999 true _ e2))))
        go_wp2;go_roundw
        case rel=>exact ⟨k+1,by omega,by go_num,⟨fun j hj=>by by_cases e:j=k;(subst e;exact HY.out);exact HN.out j (by omega)⟩,⟨zzb HB2.out _⟩⟩
        case measure=>simp [intOf];omega
      ·
       have e2:=within_eqT z 0 99999 false (decide_eq_false k2);have HF:=zzm (HNO.out (by rw [HP.out];exact decide_eq_false (fun h=>k2 h.1.2.2)));clear HNO HP k0 k1 k2;go_quiet ((first|(go_at_call 39;with_reducible exact quiet_drawn (Q5.calls x true _ e0))|(go_at_call 40;with_reducible exact quiet_drawn (Qp.calls y 0 99 true _ e1))|(go_at_call 40;with_reducible exact quiet_drawn (Qp.calls z 0 99999 false _ e2))))
       go_wp2;go_ret;exact ⟨by rw [HF.out];rfl,zzb HB2.out _⟩
     ·
      have e1:=within_eqT y 0 99 false (decide_eq_false k1);have HF:=zzm (HNO.out (by rw [HP.out];exact decide_eq_false (fun h=>k1 h.1.2.1)));clear HNO HP k0 k1;go_quiet ((first|(go_at_call 39;with_reducible exact quiet_drawn (Q5.calls x true _ e0))|(go_at_call 40;with_reducible exact quiet_drawn (Qp.calls y 0 99 false _ e1))))
      go_wp2;go_ret;exact ⟨by rw [HF.out];rfl,zzb HB2.out _⟩
    ·
     have e0:=idValid_eqT x false (decide_eq_false k0);have HF:=zzm (HNO.out (by rw [HP.out];exact decide_eq_false (fun h=>k0 h.1.1)));clear HNO HP k0;go_quiet ((go_at_call 39;with_reducible exact quiet_drawn (Q5.calls x false _ e0)))
     go_wp2;go_ret;exact ⟨by rw [HF.out];rfl,zzb HB2.out _⟩
   ·
    have hk2:k=l0.length:=by omega
    have HF:=zzm (show prodsAll l0=true by unfold prodsAll;rw [decide_eq_true (show l0.length≤20 by omega),Bool.true_and];exact decide_eq_true (fun i hi=>HN.out i (by omega)));go_wp2;go_ret;exact ⟨by rw [HF.out];rfl,HB.out⟩

set_option linter.unusedVariables false
set_option linter.unusedSimpArgs false
def Q4.l0:Nat→List Int→Int→Int→Option (Bool)
 | 0,_,_,_=>none
 | k+1,x5,x6,x7=>if x7 < x6 then (if 0≤x7 then (if x7 < (x5.length:Int) then ((Rq.f (rd x5 x7)).bind fun t286=>(if t286=true then (Q4.l0 k x5 x6 (wrap64 (x7+1))) else (some false))) else (none)) else (none)) else (some true)
def Q4.f (k:Nat) (l0:List Int):Option (Bool):=Q4.l0 k l0 (l0.length:Int) 0
set_option maxHeartbeats 8000000 in
theorem Q4.calls (k:Nat) (A0:Option Addr) (c0:Nat) (l0:List Int) (r:Bool) (w:World) (a6:Kd.C (Kd.int .i64) w A0 l0.length l0) (a7:l0.length≤c0) (h:Q4.f k l0=some r) :
  Calls Try.prog 62 #[.slice A0 l0.length c0] w fun e w'=>e = .returned (.bool r)∧Drawn0 w w':=by
 have a8:=zzm a6;have b3:=zzm a7;clear a6 a7;have H:(Q4.l0 k l0 (l0.length:Int) 0)=some r:=h;clear h;have H':=zzm H;clear H;go_enter Try.func62,Try.ntmps62;go_wp2;go_loopg [7] k (fun kq v7 w'=>∃ (a0:Int),v7 = .int .i64 a0∧Aside0 (Q4.l0 kq l0 (l0.length:Int) a0=some r)∧Aside0 (kq≤k)∧Drawn0 w w')
 case atStart=>exact ⟨(0),(by first|rfl|(simp;done)|(simp [*];done)),H',⟨Nat.le_refl _⟩,by repeat (first|exact Drawn0.refl _|apply Drawn0.step)⟩
 case round=>
  clear H';obtain ⟨a0,rfl,HA,HK1,⟨m1,rfl⟩⟩:=hrel;cases gk with
  | zero=>exact absurd HA.out (by simp [Q4.l0])
  | succ k1=>
   have H:=HA.out;clear HA;simp only [Q4.l0] at H;by_cases c2:a0 < (l0.length:Int)
   ·
    rw [if_pos c2] at H;have a9:decide (a0 < (l0.length:Int))=true:=decide_eq_true c2;clear c2;by_cases c3 : 0≤a0
    ·
     rw [if_pos c3] at H;have b1:decide (0≤a0)=true:=decide_eq_true c3;clear c3;by_cases c4:a0 < (l0.length:Int)
     ·
      rw [if_pos c4] at H;have b2:decide (a0 < (l0.length:Int))=true:=decide_eq_true c4;clear c4;obtain ⟨b0,A5,H⟩:=zzG H;by_cases c6:b0=true
      ·
       subst c6;replace H:=zzIt H;have H':=zzm H;clear H;have a1 : 0≤(a0:Int):=zzt;have a2:a0 < (l0.length:Int):=zzt;obtain ⟨a5,a3,a4⟩:=Kd.at_int a8.out a0 a1 a2;cases a3;replace a1:=eq_true a1;replace a2:=eq_true a2;go_wp2_with (first|((with_reducible refine gate_callee (f:=67) rfl ?_);refine goesL_ (some 12) rfl rfl Try.func67 (by kernel_rfl) rfl #[.int .i64 (rd l0 a0)] rfl zzM2 ?_;(with_reducible refine (Rq.calls (rd l0 a0) true _ A5.out).mono ?_);rintro e w' ⟨rfl,⟨nd,rfl⟩⟩;refine ⟨_,rfl,?_⟩));go_roundg k1
       case measure=>have:=HK1.out;omega
       case rel=>exact ⟨(wrap64 (a0+1)),(by first|rfl|(simp;done)|(simp [*];done)),H',⟨by have:=HK1.out;omega⟩,by repeat (first|exact Drawn0.refl _|apply Drawn0.step)⟩
      ·
       replace c6:=Bool.eq_false_iff.mpr c6;subst c6;replace H:=zzIf H;obtain rfl:=Option.some.inj H;have a1 : 0≤(a0:Int):=zzt;have a2:a0 < (l0.length:Int):=zzt;obtain ⟨a5,a3,a4⟩:=Kd.at_int a8.out a0 a1 a2;cases a3;replace a1:=eq_true a1;replace a2:=eq_true a2;go_wp2_with (first|((with_reducible refine gate_callee (f:=67) rfl ?_);refine goesL_ (some 12) rfl rfl Try.func67 (by kernel_rfl) rfl #[.int .i64 (rd l0 a0)] rfl zzM2 ?_;(with_reducible refine (Rq.calls (rd l0 a0) false _ A5.out).mono ?_);rintro e w' ⟨rfl,⟨nd,rfl⟩⟩;refine ⟨_,rfl,?_⟩));go_ret;exact ⟨by first|rfl|(simp;done)|(simp [*];done),by repeat (first|exact Drawn0.refl _|apply Drawn0.step)⟩
     ·
      rw [if_neg c4] at H;exact absurd H (by simp)
    ·
     rw [if_neg c3] at H;exact absurd H (by simp)
   ·
    rw [if_neg c2] at H;have a9:decide (a0 < (l0.length:Int))=false:=decide_eq_false c2;clear c2;obtain rfl:=Option.some.inj H;go_wp2;go_ret;exact ⟨by first|rfl|(simp;done)|(simp [*];done),by repeat (first|exact Drawn0.refl _|apply Drawn0.step)⟩
def Q9.f (k:Nat) (a0:Bool) (l1:List Int):Option (Bool):=if a0=true then (if (l1.length:Int)≤12 then ((Q4.f k l1).bind fun t287=>(some t287)) else (some false)) else (some ((l1.length:Int)==0))
set_option maxHeartbeats 8000000 in
theorem Q9.calls (k:Nat) (a0:Bool) (A1:Option Addr) (c1:Nat) (l1:List Int) (r:Bool) (w:World) (a2:Kd.C (Kd.int .i64) w A1 l1.length l1) (a3:l1.length≤c1) (h:Q9.f k a0 l1=some r) :
  Calls Try.prog 55 #[.bool a0,.slice A1 l1.length c1] w fun e w'=>e = .returned (.bool r)∧Drawn0 w w':=by
 have a6:=zzm a2;have a7:=zzm a3;clear a2 a3;have H:(if a0=true then (if (l1.length:Int)≤12 then ((Q4.f k l1).bind fun a1=>(some a1)) else (some false)) else (some ((l1.length:Int)==0)))=some r:=h;clear h;by_cases c3:a0=true
 ·
  subst c3;replace H:=zzIt H;by_cases c4:(l1.length:Int)≤12
  ·
   rw [if_pos c4] at H;have a4:decide ((l1.length:Int)≤12)=true:=decide_eq_true c4;have a5:decide (l1.length≤12)=true:=decide_eq_true (by omega);clear c4;obtain ⟨a1,A5,H⟩:=zzG H;obtain rfl:=Option.some.inj H;go_enter Try.func55,Try.ntmps55;go_wp2_with (first|(go_at_call 62;(with_reducible refine (Q4.calls k _ _ l1 a1 _ ?side1 ?side2 A5.out).mono ?_);(case side1=>repeat (first|exact a6.out|(with_reducible refine Kd.C_alloc ?_ _)|(with_reducible refine Kd.C_drewN ?_ _)|(with_reducible refine Kd.C_drew ?_)));(case side2=>exact a7.out);rintro e w' ⟨rfl,⟨nd,rfl⟩⟩));go_ret;exact ⟨by first|rfl|(simp;done)|(simp [*];done),by repeat (first|exact Drawn0.refl _|apply Drawn0.step)⟩
  ·
   rw [if_neg c4] at H;have a4:decide ((l1.length:Int)≤12)=false:=decide_eq_false c4;have a5:decide (l1.length≤12)=false:=decide_eq_false (by omega);clear c4;obtain rfl:=Option.some.inj H;go_enter Try.func55,Try.ntmps55;go_wp2;go_ret;exact ⟨by first|rfl|(simp;done)|(simp [*];done),by repeat (first|exact Drawn0.refl _|apply Drawn0.step)⟩
 ·
  replace c3:=Bool.eq_false_iff.mpr c3;subst c3;replace H:=zzIf H;obtain rfl:=Option.some.inj H;go_enter Try.func55,Try.ntmps55;go_wp2;go_ret;exact ⟨by first|rfl|(simp;done)|(simp [*];done),by repeat (first|exact Drawn0.refl _|apply Drawn0.step)⟩

set_option linter.unusedVariables false
set_option linter.unusedSimpArgs false
def Ra.f (k:Nat) (a0_0:Int) (a0_1:Int) (a0_2:Bool) (l0_3:List Int) (a0_4:Bool) (l0_5:List Int):Option (Bool):=(Rf.f a0_0 a0_1).bind fun t289=>(if t289=true then ((Q9.f k a0_2 l0_3).bind fun t290=>(if t290=true then ((Q9.f k a0_4 l0_5).bind fun t291=>(some t291)) else (some false))) else (some false))
set_option maxHeartbeats 8000000 in
theorem Ra.calls (k:Nat) (a0:Int) (a1:Int) (a5:Bool) (b2:Option Addr) (b3:Nat) (a2:List Int) (a6:Bool) (b4:Option Addr) (b5:Nat) (a4:List Int) (r:Bool) (w:World) (b9:Kd.C (Kd.int .i64) w b2 a2.length a2) (c0:a2.length≤b3) (c1:Kd.C (Kd.int .i64) w b4 a4.length a4) (c2:a4.length≤b5) (h:Ra.f k a0 a1 a5 a2 a6 a4=some r) :
  Calls Try.prog 41 #[.agg #[.int .i64 a0,.int .i64 a1,.bool a5,.slice b2 a2.length b3,.bool a6,.slice b4 a4.length b5]] w fun e w'=>e = .returned (.bool r)∧Below w.heap.size w w':=by
 have hu75:=Try.underlying75;have c4:=zzm b9;have c6:=zzm c0;clear b9 c0;have c9:=zzm c1;have d0:=zzm c2;clear c1 c2;have HB:=zzm (Below.refl w.heap.size w);have H:((Rf.f a0 a1).bind fun b6=>(if b6=true then ((Q9.f k a5 a2).bind fun b7=>(if b7=true then ((Q9.f k a6 a4).bind fun b8=>(some b8)) else (some false))) else (some false)))=some r:=h;clear h;obtain ⟨b6,A2,H⟩:=zzG H;by_cases c3:b6=true
 ·
  subst c3;replace H:=zzIt H;obtain ⟨b7,A4,H⟩:=zzG H;by_cases c5:b7=true
  ·
   subst c5;replace H:=zzIt H;obtain ⟨b8,A6,H⟩:=zzG H;obtain rfl:=Option.some.inj H;go_enter Try.func41,Try.ntmps41;go_wp2_with (first|((with_reducible refine gate_dst (N:=1) rfl ?_);refine box_event ?hg (N:=1) ?hd (cs:=#[.int .i64 a0,.int .i64 a1,.bool a5,.slice b2 a2.length b3,.bool a6,.slice b4 a4.length b5]) (t:=75) ?hr ?_;(case hd=>rfl);(case hg=>rfl);(case hr=>first|(go_simp;done)|(go_simp;rfl));intro a3 hg w7 hbox hb;have a8:=zzm (zzp zzh1 hb);have a9:=zzm (hbox);have b0:=zzm ((by rw [hg];exact (zzo zzh1):w.heap.size≤a3));have b1:=zzm ((by rw [hg];exact (zzo zzh1):w.heap.size≤a3));clear HB;have HB:=a8;have a7:=a9;have c7:=b0;have c8:=b1;clear a8 a9 b0 b1 hb hbox hg;obtain ⟨g5,g6,g7,g8,g9,h0,h1,h2,h3,h4,h5,h6⟩:=zzc6 a7.out)|((with_reducible refine gate_callee (f:=54) rfl ?_);refine goesL_ (some 7) rfl rfl Try.func54 (by kernel_rfl) rfl #[.int .i64 a0,.int .i64 a1] rfl zzM2 ?_;(with_reducible refine (Rf.calls a0 a1 true _ A2.out).mono ?_);rintro e w' ⟨rfl,⟨nd,rfl⟩⟩;refine ⟨_,rfl,?_⟩)|(go_at_call 55;(with_reducible refine (Q9.calls k a5 _ _ a2 true _ ?side1 ?side2 A4.out).mono ?_);(case side1=>repeat (first|exact (Kd.C_below c4.out zzh2)|(with_reducible refine Kd.C_alloc ?_ _)|(with_reducible refine Kd.C_drewN ?_ _)|(with_reducible refine Kd.C_drew ?_)));(case side2=>exact c6.out);rintro e w' ⟨rfl,⟨nd,rfl⟩⟩)|(go_at_call 55;(with_reducible refine (Q9.calls k a6 _ _ a4 b8 _ ?side1 ?side2 A6.out).mono ?_);(case side1=>repeat (first|exact (Kd.C_below c9.out zzh2)|(with_reducible refine Kd.C_alloc ?_ _)|(with_reducible refine Kd.C_drewN ?_ _)|(with_reducible refine Kd.C_drew ?_)));(case side2=>exact d0.out);rintro e w' ⟨rfl,⟨nd,rfl⟩⟩));go_ret;exact ⟨zzR,zzh3⟩
  ·
   replace c5:=Bool.eq_false_iff.mpr c5;subst c5;replace H:=zzIf H;obtain rfl:=Option.some.inj H;go_enter Try.func41,Try.ntmps41;go_wp2_with (first|((with_reducible refine gate_dst (N:=1) rfl ?_);refine box_event ?hg (N:=1) ?hd (cs:=#[.int .i64 a0,.int .i64 a1,.bool a5,.slice b2 a2.length b3,.bool a6,.slice b4 a4.length b5]) (t:=75) ?hr ?_;(case hd=>rfl);(case hg=>rfl);(case hr=>first|(go_simp;done)|(go_simp;rfl));intro a3 hg w9 hbox hb;have a8:=zzm (zzp zzh1 hb);have a9:=zzm (hbox);have b0:=zzm ((by rw [hg];exact (zzo zzh1):w.heap.size≤a3));have b1:=zzm ((by rw [hg];exact (zzo zzh1):w.heap.size≤a3));clear HB;have HB:=a8;have a7:=a9;have c7:=b0;have c8:=b1;clear a8 a9 b0 b1 hb hbox hg;obtain ⟨d1,d2,d3,d4,d5,d6,d7,d8,d9,e0,e1,e2⟩:=zzc6 a7.out)|((with_reducible refine gate_callee (f:=54) rfl ?_);refine goesL_ (some 7) rfl rfl Try.func54 (by kernel_rfl) rfl #[.int .i64 a0,.int .i64 a1] rfl zzM2 ?_;(with_reducible refine (Rf.calls a0 a1 true _ A2.out).mono ?_);rintro e w' ⟨rfl,⟨nd,rfl⟩⟩;refine ⟨_,rfl,?_⟩)|(go_at_call 55;(with_reducible refine (Q9.calls k a5 _ _ a2 false _ ?side1 ?side2 A4.out).mono ?_);(case side1=>repeat (first|exact (Kd.C_below c4.out zzh2)|(with_reducible refine Kd.C_alloc ?_ _)|(with_reducible refine Kd.C_drewN ?_ _)|(with_reducible refine Kd.C_drew ?_)));(case side2=>exact c6.out);rintro e w' ⟨rfl,⟨nd,rfl⟩⟩));go_ret;exact ⟨zzR,zzh3⟩
 ·
  replace c3:=Bool.eq_false_iff.mpr c3;subst c3;replace H:=zzIf H;obtain rfl:=Option.some.inj H;go_enter Try.func41,Try.ntmps41;go_wp2_with (first|((with_reducible refine gate_dst (N:=1) rfl ?_);refine box_event ?hg (N:=1) ?hd (cs:=#[.int .i64 a0,.int .i64 a1,.bool a5,.slice b2 a2.length b3,.bool a6,.slice b4 a4.length b5]) (t:=75) ?hr ?_;(case hd=>rfl);(case hg=>rfl);(case hr=>first|(go_simp;done)|(go_simp;rfl));intro a3 hg h7 hbox hb;have a8:=zzm (zzp zzh1 hb);have a9:=zzm (hbox);have b0:=zzm ((by rw [hg];exact (zzo zzh1):w.heap.size≤a3));have b1:=zzm ((by rw [hg];exact (zzo zzh1):w.heap.size≤a3));clear HB;have HB:=a8;have a7:=a9;have c7:=b0;have c8:=b1;clear a8 a9 b0 b1 hb hbox hg;obtain ⟨e3,e4,e5,e6,e7,e8,e9,g0,g1,g2,g3,g4⟩:=zzc6 a7.out)|((with_reducible refine gate_callee (f:=54) rfl ?_);refine goesL_ (some 7) rfl rfl Try.func54 (by kernel_rfl) rfl #[.int .i64 a0,.int .i64 a1] rfl zzM2 ?_;(with_reducible refine (Rf.calls a0 a1 false _ A2.out).mono ?_);rintro e w' ⟨rfl,⟨nd,rfl⟩⟩;refine ⟨_,rfl,?_⟩));go_ret;exact ⟨zzR,zzh3⟩

set_option linter.unusedVariables false
set_option linter.unusedSimpArgs false
mutual
def Qd.j0:Nat→Bool→Bool→Int→Int→Int→List (S75)→Option (Bool)
 | 0,_,_,_,_,_,_=>none
 | k+1,x293000,x293001,x293002,x293003,x293004,x293005=>(Qp.f (x293005.length:Int) 1 6).bind fun t296=>(if t296=true then (if x293001=true then (Qd.j1 k ((x293005.length:Int) != 1) x293000 x293001 x293002 x293003 x293004 x293005) else (Qd.j1 k false x293000 x293001 x293002 x293003 x293004 x293005)) else (Qd.j1 k true x293000 x293001 x293002 x293003 x293004 x293005))
def Qd.j1:Nat→Bool→Bool→Bool→Int→Int→Int→List (S75)→Option (Bool)
 | 0,_,_,_,_,_,_,_=>none
 | k+1,x50,x293000,x293001,x293002,x293003,x293004,x293005=>if x50=true then (some false) else (Qd.l0 k x293005 (x293005.length:Int) 0 x293000 x293001 x293002 x293003 x293004 x293005)
def Qd.l0:Nat→List (S75)→Int→Int→Bool→Bool→Int→Int→Int→List (S75)→Option (Bool)
 | 0,_,_,_,_,_,_,_,_,_=>none
 | k+1,x52,x53,x54,x293000,x293001,x293002,x293003,x293004,x293005=>if x54 < x53 then (if 0≤x54 then (if x54 < (x52.length:Int) then ((Ra.f k ((Qa x52 x54).f0) ((Qa x52 x54).f1) ((Qa x52 x54).f2) ((Qa x52 x54).f3) ((Qa x52 x54).f4) ((Qa x52 x54).f5)).bind fun t299=>(if t299=true then (if x54 > 0 then (if 0≤(wrap64 (x54 - 1)) then (if (wrap64 (x54 - 1)) < (x293005.length:Int) then (if ((Qa x293005 (wrap64 (x54 - 1))).f0) ≥ ((Qa x52 x54).f0) then (some false) else (Qd.l0 k x52 x53 (wrap64 (x54+1)) x293000 x293001 x293002 x293003 x293004 x293005)) else (none)) else (none)) else (Qd.l0 k x52 x53 (wrap64 (x54+1)) x293000 x293001 x293002 x293003 x293004 x293005)) else (some false))) else (none)) else (none)) else (some true)
end
def Qd.f (k:Nat) (a0_0:Bool) (a0_1:Bool) (a0_2:Int) (a0_3:Int) (a0_4:Int) (l0_5:List (S75)):Option (Bool):=if a0_2=255 then (if a0_3=0 then (if a0_4=0 then (if a0_1=true then (some false) else (Qd.j0 k a0_0 a0_1 a0_2 a0_3 a0_4 l0_5)) else (some false)) else (some false)) else ((Q5.f a0_2).bind fun t293=>(if t293=true then ((Qp.f a0_3 0 99).bind fun t294=>(if t294=true then ((Qp.f a0_4 0 9999).bind fun t295=>(if t295=true then (Qd.j0 k a0_0 a0_1 a0_2 a0_3 a0_4 l0_5) else (some false))) else (some false))) else (some false)))
def Qd.T11:Bool×List (List Nat×List Nat):=(true,[([],[]),([0],[0]),([1],[1]),([2,1],[2]),([3],[3]),([4,3],[3,4]),([5,3,3],[3,5]),([6],[6]),([7,6],[6,7]),([6],[6]),([9,6],[6,9]),([8,10,6],[6,8,10]),([11,6],[6,11]),([12,6],[6,12]),([6],[6]),([14,6],[6,14]),([13,15,6],[6,13,15]),([6,16,3],[3,6,16]),([3,17],[3,17])])
def Qd.B11:List Nat:=[0,1,3,7,15,31,63,127,255,127,639,2047,4095,8191,127,16511,65535,131071,262143]
theorem Qd.tab11:rtab .any (opsOf Try.f10 11)=Qd.T11:=by kernel_rfl
theorem Qd.bits11:waitsOk Qd.T11.2 Qd.B11=true:=by kernel_rfl
set_option maxHeartbeats 8000000 in
theorem Qd.calls (k:Nat) (c9:Bool) (c0:Bool) (b4:Int) (b8:Int) (b9:Int) (j9:Option Addr) (d0:Nat) (a1:List (S75)) (r:Bool) (w:World) (C9:Kd.C k75 w j9 a1.length a1) (D0:a1.length≤d0) (h:Qd.f k c9 c0 b4 b8 b9 a1=some r) :
  Calls Try.prog 10 #[.agg #[.bool c9,.bool c0,.int .i64 b4,.int .i64 b8,.int .i64 b9,.slice j9 a1.length d0]] w fun e w'=>e = .returned (.bool r)∧Below w.heap.size w w':=by
 have hu26:=Try.underlying26;have hu75:=Try.underlying75;have j4:=zzm C9;have M1:=zzm D0;clear C9 D0;have HB:=zzm (Below.refl w.heap.size w);have H:(if b4=255 then (if b8=0 then (if b9=0 then (if c0=true then (some false) else (Qd.j0 k c9 c0 b4 b8 b9 a1)) else (some false)) else (some false)) else ((Q5.f b4).bind fun C4=>(if C4=true then ((Qp.f b8 0 99).bind fun C5=>(if C5=true then ((Qp.f b9 0 9999).bind fun C6=>(if C6=true then (Qd.j0 k c9 c0 b4 b8 b9 a1) else (some false))) else (some false))) else (some false))))=some r:=h;clear h;have F5:=zzm H;clear H;go_enter Try.func10,Try.ntmps10;go_upto_if 7 with (first|((with_reducible refine gate_dst (N:=1) rfl ?_);(try (refine gate_guard (by rfl) ?_;dsimp only));refine box_event ?hg (N:=1) ?hd (cs:=#[.bool c9,.bool c0,.int .i64 b4,.int .i64 b8,.int .i64 b9,.slice j9 a1.length d0]) (t:=26) ?hr ?_;(case hd=>rfl);(case hg=>rfl);(case hr=>first|(go_simp;done)|(go_simp;rfl));intro b0 hg w3 hbox hb;have b5:=zzm (zzp zzh1 hb);have b6:=zzm (hbox);have b7:=zzm ((by rw [hg];exact (zzo zzh1):w.heap.size≤b0));have g5:=zzm ((by rw [hg];exact (zzo zzh1):w.heap.size≤b0));clear HB;have HB:=b5;have a3:=b6;have M2:=b7;have M3:=g5;clear b5 b6 b7 g5 hb hbox hg;obtain ⟨s9,t0,t1,t2,t3,t4,t5,t6,t7,t8,t9,v0⟩:=zzc6 a3.out))
 (try simp only [Act.put,zzq,zzr,zzs]);go_cut [] (fun wc=>∃ (kq:Nat),Aside0 (Qd.j0 kq c9 c0 b4 b8 b9 a1=some r)∧Aside0 (kq≤k)∧Aside0 (wc.heap[b0]? = some (.cells #[.bool c9,.bool c0,.int .i64 b4,.int .i64 b8,.int .i64 b9,(.slice j9 a1.length d0)] 26 (0,0)))∧Aside0 (Below w.heap.size w wc))
 case first=>
  have H:=F5.out;clear F5;by_cases c5:b4=255
  ·
   rw [if_pos c5] at H;obtain ⟨h7,B2⟩:=zzQ c5;clear c5
   (first|rw [h7]|(simp only [i64_w,i32_w];rw [h7])|skip);by_cases c6:b8=0
   ·
    rw [if_pos c6] at H;obtain ⟨B3,B5⟩:=zzQ c6;clear c6;by_cases c7:b9=0
    ·
     rw [if_pos c7] at H;obtain ⟨B7,B8⟩:=zzQ c7;clear c7;by_cases c8:c0=true
     ·
      subst c8;replace H:=zzIt H;obtain rfl:=Option.some.inj H;obtain ⟨v1,v2,v3,v4,v5,v6,v7,v8,v9,w0,w1,w2⟩:=zzc6 a3.out;go_wp2;go_ret;exact ⟨zzR,zzh3⟩
     ·
      replace c8:=Bool.eq_false_iff.mpr c8;subst c8;replace H:=zzIf H;have H':=zzm H;clear H;obtain ⟨k0,k1,k2,k4,k5,k6,k7,k8,k9,l1,l2,l3⟩:=zzc6 a3.out;go_wp2;go_meet
      case rel=>exact ⟨_,H',⟨by first|omega|exact Nat.le_refl _⟩,⟨zzE a3.out⟩,⟨zzh3⟩⟩
    ·
     rw [if_neg c7] at H;obtain ⟨B7,B8⟩:=zzY c7;obtain rfl:=Option.some.inj H;obtain ⟨l4,l5,l6,l7,l8,l9,m0,m1,m2,m3,m4,m5⟩:=zzc6 a3.out;go_wp2;go_ret;exact ⟨zzR,zzh3⟩
   ·
    rw [if_neg c6] at H;obtain ⟨B3,B5⟩:=zzY c6;obtain rfl:=Option.some.inj H;obtain ⟨m6,m7,m8,m9,n0,n1,n2,n3,n4,n5,n6,n7⟩:=zzc6 a3.out;go_wp2;go_ret;exact ⟨zzR,zzh3⟩
  ·
   rw [if_neg c5] at H;obtain ⟨h7,B2⟩:=zzY c5
   (first|rw [h7]|(simp only [i64_w,i32_w];rw [h7])|skip);obtain ⟨C4,D1,H⟩:=zzG H;by_cases w4:C4=true
   ·
    subst w4;replace H:=zzIt H;obtain ⟨C5,F6,H⟩:=zzG H;by_cases w5:C5=true
    ·
     subst w5;replace H:=zzIt H;obtain ⟨C6,G2,H⟩:=zzG H;by_cases w6:C6=true
     ·
      subst w6;replace H:=zzIt H;have H':=zzm H;clear H;obtain ⟨n8,n9,o0,o1,o2,o3,o4,o5,o6,o7,o8,o9⟩:=zzc6 a3.out;go_wp2_with (first|((with_reducible refine gate_callee (f:=39) rfl ?_);refine goesL_ (some 22) rfl rfl Try.func39 (by kernel_rfl) rfl #[.int .i64 b4] rfl zzM2 ?_;(with_reducible refine (Q5.calls b4 true _ D1.out).mono ?_);rintro e w' ⟨rfl,⟨nd,rfl⟩⟩;refine ⟨_,rfl,?_⟩)|(go_at_call 40;(with_reducible refine (Qp.calls b8 0 99 true _ F6.out).mono ?_);rintro e w' ⟨rfl,⟨nd,rfl⟩⟩)|(go_at_call 40;(with_reducible refine (Qp.calls b9 0 9999 true _ G2.out).mono ?_);rintro e w' ⟨rfl,⟨nd,rfl⟩⟩));go_meet
      case rel=>exact ⟨_,H',⟨by first|omega|exact Nat.le_refl _⟩,⟨zzE a3.out⟩,⟨zzh3⟩⟩
     ·
      replace w6:=Bool.eq_false_iff.mpr w6;subst w6;replace H:=zzIf H;obtain rfl:=Option.some.inj H;obtain ⟨p0,p1,p3,p4,p5,p6,p7,p8,p9,q0,q1,q2⟩:=zzc6 a3.out;go_wp2_with (first|((with_reducible refine gate_callee (f:=39) rfl ?_);refine goesL_ (some 22) rfl rfl Try.func39 (by kernel_rfl) rfl #[.int .i64 b4] rfl zzM2 ?_;(with_reducible refine (Q5.calls b4 true _ D1.out).mono ?_);rintro e w' ⟨rfl,⟨nd,rfl⟩⟩;refine ⟨_,rfl,?_⟩)|(go_at_call 40;(with_reducible refine (Qp.calls b8 0 99 true _ F6.out).mono ?_);rintro e w' ⟨rfl,⟨nd,rfl⟩⟩)|(go_at_call 40;(with_reducible refine (Qp.calls b9 0 9999 false _ G2.out).mono ?_);rintro e w' ⟨rfl,⟨nd,rfl⟩⟩));go_ret;exact ⟨zzR,zzh3⟩
    ·
     replace w5:=Bool.eq_false_iff.mpr w5;subst w5;replace H:=zzIf H;obtain rfl:=Option.some.inj H;obtain ⟨q3,q4,q5,q6,q7,q8,q9,r0,r1,r2,r3,r4⟩:=zzc6 a3.out;go_wp2_with (first|((with_reducible refine gate_callee (f:=39) rfl ?_);refine goesL_ (some 22) rfl rfl Try.func39 (by kernel_rfl) rfl #[.int .i64 b4] rfl zzM2 ?_;(with_reducible refine (Q5.calls b4 true _ D1.out).mono ?_);rintro e w' ⟨rfl,⟨nd,rfl⟩⟩;refine ⟨_,rfl,?_⟩)|(go_at_call 40;(with_reducible refine (Qp.calls b8 0 99 false _ F6.out).mono ?_);rintro e w' ⟨rfl,⟨nd,rfl⟩⟩));go_ret;exact ⟨zzR,zzh3⟩
   ·
    replace w4:=Bool.eq_false_iff.mpr w4;subst w4;replace H:=zzIf H;obtain rfl:=Option.some.inj H;obtain ⟨r5,r6,r7,r8,r9,s0,s1,s2,s3,s4,s5,s6⟩:=zzc6 a3.out;go_wp2_with (first|((with_reducible refine gate_callee (f:=39) rfl ?_);refine goesL_ (some 22) rfl rfl Try.func39 (by kernel_rfl) rfl #[.int .i64 b4] rfl zzM2 ?_;(with_reducible refine (Q5.calls b4 false _ D1.out).mono ?_);rintro e w' ⟨rfl,⟨nd,rfl⟩⟩;refine ⟨_,rfl,?_⟩));go_ret;exact ⟨zzR,zzh3⟩
 case rest=>
  clear F5;try clear c1
  try clear p2
  try clear c3
  try clear c5
  try clear h7
  try clear B2
  try clear c6
  try clear B3
  try clear B5
  try clear c7
  try clear B7
  try clear B8
  try clear c8
  try clear G3
  try clear w4
  try clear w5
  try clear w6
  try clear k0
  try clear k1
  try clear k2
  try clear k4
  try clear k5
  try clear k6
  try clear l4
  try clear l5
  try clear l6
  try clear l7
  try clear l8
  try clear l9
  try clear m6
  try clear m7
  try clear m8
  try clear m9
  try clear n0
  try clear n1
  try clear n8
  try clear n9
  try clear o0
  try clear o1
  try clear o2
  try clear o3
  try clear p0
  try clear p1
  try clear p3
  try clear p4
  try clear p5
  try clear p6
  try clear q3
  try clear q4
  try clear q5
  try clear q6
  try clear q7
  try clear q8
  try clear r5
  try clear r6
  try clear r7
  try clear r8
  try clear r9
  try clear s0
  try clear s9
  try clear t0
  try clear t1
  try clear t2
  try clear t3
  try clear t4
  try clear v1
  try clear v2
  try clear v3
  try clear v4
  try clear v5
  try clear v6
  try clear k7
  try clear k8
  try clear k9
  try clear l1
  try clear l2
  try clear l3
  try clear m0
  try clear m1
  try clear m2
  try clear m3
  try clear m4
  try clear m5
  try clear n2
  try clear n3
  try clear n4
  try clear n5
  try clear n6
  try clear n7
  try clear o4
  try clear o5
  try clear o6
  try clear o7
  try clear o8
  try clear o9
  try clear p7
  try clear p8
  try clear p9
  try clear q0
  try clear q1
  try clear q2
  try clear q9
  try clear r0
  try clear r1
  try clear r2
  try clear r3
  try clear r4
  try clear s1
  try clear s2
  try clear s3
  try clear s4
  try clear s5
  try clear s6
  try clear t5
  try clear t6
  try clear t7
  try clear t8
  try clear t9
  try clear v0
  try clear v7
  try clear v8
  try clear v9
  try clear w0
  try clear w1
  try clear w2
  obtain ⟨kq,HA,HJ1,a3,HB⟩:=hcut;cases kq with
  | zero=>exact absurd HA.out (by simp [Qd.j0])
  | succ L4=>
   have H:=HA.out;clear HA;simp only [Qd.j0] at H;have C7:=zzm H;clear H;go_upto_region 6 with (fail);go_cut [50] (fun L5 wc=>∃ (kq:Nat) (j8:Bool),L5 = .bool j8∧Aside0 (Qd.j1 kq j8 c9 c0 b4 b8 b9 a1=some r)∧Aside0 (kq≤L4)∧Aside0 (wc.heap[b0]? = some (.cells #[.bool c9,.bool c0,.int .i64 b4,.int .i64 b8,.int .i64 b9,(.slice j9 a1.length d0)] 26 (0,0)))∧Aside0 (Below w.heap.size w wc))
   case first=>
    have H:=C7.out;clear C7;obtain ⟨G4,F7,H⟩:=zzG H;by_cases x1:G4=true
    ·
     subst x1;replace H:=zzIt H;by_cases x2:c0=true
     ·
      subst x2;replace H:=zzIt H;have H':=zzm H;clear H;obtain ⟨x3,x4,x5,x6,x7,x8,x9,y0,y1,y2,y3,y4⟩:=zzc6 a3.out;go_wp2_with (first|((with_reducible refine gate_callee (f:=40) rfl ?_);refine goesL_ (some 39) rfl rfl Try.func40 (by kernel_rfl) rfl #[.int .i64 (a1.length:Int),.int .i64 1,.int .i64 6] rfl zzM2 ?_;(with_reducible refine (Qp.calls (a1.length:Int) 1 6 true _ F7.out).mono ?_);rintro e w' ⟨rfl,⟨nd,rfl⟩⟩;refine ⟨_,rfl,?_⟩));go_meet
      case rel=>exact ⟨_,(((a1.length:Int) != 1)),(by first|rfl|(simp;done)|(simp [*];done)),H',⟨by have:=HJ1.out;first|omega|exact Nat.le_refl _⟩,⟨zzE a3.out⟩,⟨zzh3⟩⟩
     ·
      replace x2:=Bool.eq_false_iff.mpr x2;subst x2;replace H:=zzIf H;have H':=zzm H;clear H;obtain ⟨y5,y6,y7,y8,y9,z0,z1,z2,z3,z4,z5,z6⟩:=zzc6 a3.out;go_wp2_with (first|((with_reducible refine gate_callee (f:=40) rfl ?_);refine goesL_ (some 39) rfl rfl Try.func40 (by kernel_rfl) rfl #[.int .i64 (a1.length:Int),.int .i64 1,.int .i64 6] rfl zzM2 ?_;(with_reducible refine (Qp.calls (a1.length:Int) 1 6 true _ F7.out).mono ?_);rintro e w' ⟨rfl,⟨nd,rfl⟩⟩;refine ⟨_,rfl,?_⟩));go_meet
      case rel=>exact ⟨_,(false),(by first|rfl|(simp;done)|(simp [*];done)),H',⟨by have:=HJ1.out;first|omega|exact Nat.le_refl _⟩,⟨zzE a3.out⟩,⟨zzh3⟩⟩
    ·
     replace x1:=Bool.eq_false_iff.mpr x1;subst x1;replace H:=zzIf H;have H':=zzm H;clear H;obtain ⟨z7,z8,z9,A0,A1,A2,A3,A4,A5,A6,A7,A8⟩:=zzc6 a3.out;go_wp2_with (first|((with_reducible refine gate_callee (f:=40) rfl ?_);refine goesL_ (some 39) rfl rfl Try.func40 (by kernel_rfl) rfl #[.int .i64 (a1.length:Int),.int .i64 1,.int .i64 6] rfl zzM2 ?_;(with_reducible refine (Qp.calls (a1.length:Int) 1 6 false _ F7.out).mono ?_);rintro e w' ⟨rfl,⟨nd,rfl⟩⟩;refine ⟨_,rfl,?_⟩));go_meet
     case rel=>exact ⟨_,(true),(by first|rfl|(simp;done)|(simp [*];done)),H',⟨by have:=HJ1.out;first|omega|exact Nat.le_refl _⟩,⟨zzE a3.out⟩,⟨zzh3⟩⟩
   case rest=>
    clear C7;try clear c1
    try clear c2
    try clear p2
    try clear c3
    try clear c4
    try clear c5
    try clear h7
    try clear B2
    try clear c6
    try clear B3
    try clear B5
    try clear c7
    try clear B7
    try clear B8
    try clear c8
    try clear G3
    try clear w4
    try clear w5
    try clear w6
    try clear x1
    try clear x2
    try clear k0
    try clear k1
    try clear k2
    try clear k4
    try clear k5
    try clear k6
    try clear l4
    try clear l5
    try clear l6
    try clear l7
    try clear l8
    try clear l9
    try clear m6
    try clear m7
    try clear m8
    try clear m9
    try clear n0
    try clear n1
    try clear n8
    try clear n9
    try clear o0
    try clear o1
    try clear o2
    try clear o3
    try clear p0
    try clear p1
    try clear p3
    try clear p4
    try clear p5
    try clear p6
    try clear q3
    try clear q4
    try clear q5
    try clear q6
    try clear q7
    try clear q8
    try clear r5
    try clear r6
    try clear r7
    try clear r8
    try clear r9
    try clear s0
    try clear x3
    try clear x4
    try clear x5
    try clear x6
    try clear x7
    try clear x8
    try clear y5
    try clear y6
    try clear y7
    try clear y8
    try clear y9
    try clear z0
    try clear z7
    try clear z8
    try clear z9
    try clear A0
    try clear A1
    try clear A2
    try clear s9
    try clear t0
    try clear t1
    try clear t2
    try clear t3
    try clear t4
    try clear v1
    try clear v2
    try clear v3
    try clear v4
    try clear v5
    try clear v6
    try clear k7
    try clear k8
    try clear k9
    try clear l1
    try clear l2
    try clear l3
    try clear m0
    try clear m1
    try clear m2
    try clear m3
    try clear m4
    try clear m5
    try clear n2
    try clear n3
    try clear n4
    try clear n5
    try clear n6
    try clear n7
    try clear o4
    try clear o5
    try clear o6
    try clear o7
    try clear o8
    try clear o9
    try clear p7
    try clear p8
    try clear p9
    try clear q0
    try clear q1
    try clear q2
    try clear q9
    try clear r0
    try clear r1
    try clear r2
    try clear r3
    try clear r4
    try clear s1
    try clear s2
    try clear s3
    try clear s4
    try clear s5
    try clear s6
    try clear x9
    try clear y0
    try clear y1
    try clear y2
    try clear y3
    try clear y4
    try clear z1
    try clear z2
    try clear z3
    try clear z4
    try clear z5
    try clear z6
    try clear A3
    try clear A4
    try clear A5
    try clear A6
    try clear A7
    try clear A8
    try clear t5
    try clear t6
    try clear t7
    try clear t8
    try clear t9
    try clear v0
    try clear v7
    try clear v8
    try clear v9
    try clear w0
    try clear w1
    try clear w2
    try clear p2
    obtain ⟨kq,j8,rfl,HA,HJ22,a3,HB⟩:=hcut;cases kq with
    | zero=>exact absurd HA.out (by simp [Qd.j1])
    | succ F8=>
     have H:=HA.out;clear HA;simp only [Qd.j1] at H;by_cases C2:j8=true
     ·
      subst C2;replace H:=zzIt H;obtain rfl:=Option.some.inj H;go_wp2;go_ret;exact ⟨zzR,zzh3⟩
     ·
      replace C2:=Bool.eq_false_iff.mpr C2;subst C2;replace H:=zzIf H;have H':=zzm H;clear H;obtain ⟨E1,E2,E3,E4,E5,E6,E7,E8,E9,F0,F1,F2⟩:=zzc6 a3.out;go_wp2;go_loopg [54] F8 (fun kq L6 w'=>∃ (a0:Int),L6 = .int .i64 a0∧Aside0 (Qd.l0 kq a1 (a1.length:Int) a0 c9 c0 b4 b8 b9 a1=some r)∧Aside0 (kq≤F8)∧Aside0 (w'.heap[b0]? = some (.cells #[.bool c9,.bool c0,.int .i64 b4,.int .i64 b8,.int .i64 b9,(.slice j9 a1.length d0)] 26 (0,0)))∧Aside0 (Below w.heap.size w w'))
      case atStart=>exact ⟨(0),(by first|rfl|(simp;done)|(simp [*];done)),H',⟨Nat.le_refl _⟩,⟨zzE a3.out⟩,⟨zzh3⟩⟩
      case round=>
       clear H';try clear c1
       try clear c2
       try clear p2
       try clear c3
       try clear c4
       try clear c5
       try clear h7
       try clear B2
       try clear c6
       try clear B3
       try clear B5
       try clear c7
       try clear B7
       try clear B8
       try clear c8
       try clear G3
       try clear w4
       try clear w5
       try clear w6
       try clear x1
       try clear x2
       try clear C2
       try clear k0
       try clear k1
       try clear k2
       try clear k4
       try clear k5
       try clear k6
       try clear l4
       try clear l5
       try clear l6
       try clear l7
       try clear l8
       try clear l9
       try clear m6
       try clear m7
       try clear m8
       try clear m9
       try clear n0
       try clear n1
       try clear n8
       try clear n9
       try clear o0
       try clear o1
       try clear o2
       try clear o3
       try clear p0
       try clear p1
       try clear p3
       try clear p4
       try clear p5
       try clear p6
       try clear q3
       try clear q4
       try clear q5
       try clear q6
       try clear q7
       try clear q8
       try clear r5
       try clear r6
       try clear r7
       try clear r8
       try clear r9
       try clear s0
       try clear x3
       try clear x4
       try clear x5
       try clear x6
       try clear x7
       try clear x8
       try clear y5
       try clear y6
       try clear y7
       try clear y8
       try clear y9
       try clear z0
       try clear z7
       try clear z8
       try clear z9
       try clear A0
       try clear A1
       try clear A2
       try clear E1
       try clear E2
       try clear E3
       try clear E4
       try clear E5
       try clear E6
       try clear s9
       try clear t0
       try clear t1
       try clear t2
       try clear t3
       try clear t4
       try clear v1
       try clear v2
       try clear v3
       try clear v4
       try clear v5
       try clear v6
       try clear k7
       try clear k8
       try clear k9
       try clear l1
       try clear l2
       try clear l3
       try clear m0
       try clear m1
       try clear m2
       try clear m3
       try clear m4
       try clear m5
       try clear n2
       try clear n3
       try clear n4
       try clear n5
       try clear n6
       try clear n7
       try clear o4
       try clear o5
       try clear o6
       try clear o7
       try clear o8
       try clear o9
       try clear p7
       try clear p8
       try clear p9
       try clear q0
       try clear q1
       try clear q2
       try clear q9
       try clear r0
       try clear r1
       try clear r2
       try clear r3
       try clear r4
       try clear s1
       try clear s2
       try clear s3
       try clear s4
       try clear s5
       try clear s6
       try clear x9
       try clear y0
       try clear y1
       try clear y2
       try clear y3
       try clear y4
       try clear z1
       try clear z2
       try clear z3
       try clear z4
       try clear z5
       try clear z6
       try clear A3
       try clear A4
       try clear A5
       try clear A6
       try clear A7
       try clear A8
       try clear E7
       try clear E8
       try clear E9
       try clear F0
       try clear F1
       try clear F2
       try clear t5
       try clear t6
       try clear t7
       try clear t8
       try clear t9
       try clear v0
       try clear v7
       try clear v8
       try clear v9
       try clear w0
       try clear w1
       try clear w2
       try clear p2
       obtain ⟨a0,rfl,HA,HK3,a3,HB⟩:=hrel;cases gk with
       | zero=>exact absurd HA.out (by simp [Qd.l0])
       | succ k3=>
        have H:=HA.out;clear HA;simp only [Qd.l0] at H;by_cases A9:a0 < (a1.length:Int)
        ·
         rw [if_pos A9] at H;have F9:decide (a0 < (a1.length:Int))=true:=decide_eq_true A9;clear A9;by_cases D2 : 0≤a0
         ·
          rw [if_pos D2] at H;have M4:decide (0≤a0)=true:=decide_eq_true D2;clear D2;by_cases D3:a0 < (a1.length:Int)
          ·
           rw [if_pos D3] at H;have M5:decide (a0 < (a1.length:Int))=true:=decide_eq_true D3;clear D3;obtain ⟨G5,C3,H⟩:=zzG H;by_cases D4:G5=true
           ·
            subst D4;replace H:=zzIt H;by_cases B0:a0 > 0
            ·
             rw [if_pos B0] at H;have G0:decide (0 < a0)=true:=decide_eq_true B0;clear B0;obtain ⟨b3,hji38⟩:∃ j_:Int,(wrap64 (a0 - 1))=j_:=⟨_,rfl⟩;replace H:(if 0≤(b3) then (if (b3) < (a1.length:Int) then (if ((Qa a1 (b3)).f0) ≥ ((Qa a1 a0).f0) then (some false) else (Qd.l0 k3 a1 (a1.length:Int) (wrap64 (a0+1)) c9 c0 b4 b8 b9 a1)) else (none)) else (none))=some r:=by first|(rw [hji38] at H;exact H)|(simp only [hji38] at H ⊢;exact H)
             (try rw [hji38] at C3);have hji38w:(IntKind.i64.wrap (a0 - 1))=b3:=(i64_w _).trans hji38;by_cases D5 : 0≤(b3)
             ·
              rw [if_pos D5] at H;have M6:decide (0≤(b3))=true:=decide_eq_true D5;clear D5;by_cases D6:(b3) < (a1.length:Int)
              ·
               rw [if_pos D6] at H;have M7:decide ((b3) < (a1.length:Int))=true:=decide_eq_true D6;clear D6;by_cases B1:((Qa a1 (b3)).f0) ≥ ((Qa a1 a0).f0)
               ·
                rw [if_pos B1] at H;have G1:decide (((Qa a1 a0).f0)≤((Qa a1 (b3)).f0))=true:=decide_eq_true B1;clear B1;obtain rfl:=Option.some.inj H;have e9 : 0≤(a0:Int):=zzt;have g0:a0 < (a1.length:Int):=zzt;obtain ⟨a9,a6,a7,b1,b2,j5,d2,d3,d4,d5,d6,d7,d8,d9,e0,e1⟩:=Rp j4.out a0 e9 g0;cases j5;replace d2:=zzx HB.out d2;replace d3:=zzx HB.out d3;replace d4:=zzx HB.out d4;replace d5:=zzx HB.out d5;replace d6:=zzx HB.out d6;replace d7:=zzx HB.out d7;have g1:=zzm d9;have g2:=zzm d8;clear d9 d8;have g3:=zzm e1;have g4:=zzm e0;clear e1 e0;replace e9:=eq_true e9;replace g0:=eq_true g0;try go_wp2_with (first|((with_reducible refine gate_dst (N:=4) rfl ?_);(try (refine gate_guard (by rfl) ?_;dsimp only));refine box_event ?hg (N:=4) ?hd (cs:=#[.int .i64 0,.int .i64 0,.bool false,.slice none 0 0,.bool false,.slice none 0 0]) (t:=75) ?hr ?_;(case hd=>rfl);(case hg=>rfl);(case hr=>first|(go_simp;done)|(go_simp;rfl));intro a2 hg D7 hbox hb;have b5:=zzm (zzh (g:=b0) (o:=.cells #[.bool c9,.bool c0,.int .i64 b4,.int .i64 b8,.int .i64 b9,.slice (some a9) a1.length d0] 26 (0,0)) (zzE a3.out) hb);have b6:=zzm (zzp zzh2 hb);have b7:=zzm (hbox);have g5:=zzm ((by rw [hg];exact (zzo zzh2):w.heap.size≤a2));have h8:=zzm ((by rw [hg];exact (zzo zzh2):w.heap.size≤a2));have h9:=zzm ((by rw [hg];exact Nat.ne_of_lt (blk_lt (g:=b0) (o:=.cells #[.bool c9,.bool c0,.int .i64 b4,.int .i64 b8,.int .i64 b9,.slice (some a9) a1.length d0] 26 (0,0)) (zzE a3.out)):b0≠a2));have j3:=zzm ((by rw [hg];exact Nat.ne_of_gt (blk_lt (g:=b0) (o:=.cells #[.bool c9,.bool c0,.int .i64 b4,.int .i64 b8,.int .i64 b9,.slice (some a9) a1.length d0] 26 (0,0)) (zzE a3.out)):a2≠b0));clear a3 HB;have a3:=b5;have HB:=b6;have a4:=b7;have B9:=g5;have C0:=h8;have a5:=h9;have e2:=j3;clear b5 b6 b7 g5 h8 h9 j3 hb hbox hg;have M8:=e2.out;have M9:=a5.out;obtain ⟨G6,G7,G8,G9,H0,H1,H2,H3,H4,H5,H6,H7⟩:=zzc6 a4.out))
                have b5:Aside0 (((((((D7.setCell ⟨a2,0,none⟩ (.int .i64 ((Qa a1 a0).f0))).setCell ⟨a2,1,none⟩ (.int .i64 ((Qa a1 a0).f1))).setCell ⟨a2,2,none⟩ (.bool ((Qa a1 a0).f2))).setCell ⟨a2,3,none⟩ (.slice a6 ((Qa a1 a0).f3).length a7)).setCell ⟨a2,4,none⟩ (.bool ((Qa a1 a0).f4))).setCell ⟨a2,5,none⟩ (.slice b1 ((Qa a1 a0).f5).length b2)).heap[b0]? = some (.cells #[.bool c9,.bool c0,.int .i64 b4,.int .i64 b8,.int .i64 b9,.slice (some a9) a1.length d0] 26 (0,0))):=⟨by (with_reducible repeat (first|apply zzf|apply zzg|apply zze));refine zzj ?_ a5.out _;(with_reducible repeat (first|apply zzf|apply zzg|apply zze));refine zzj ?_ a5.out _;(with_reducible repeat (first|apply zzf|apply zzg|apply zze));refine zzj ?_ a5.out _;(with_reducible repeat (first|apply zzf|apply zzg|apply zze));refine zzj ?_ a5.out _;(with_reducible repeat (first|apply zzf|apply zzg|apply zze));refine zzj ?_ a5.out _;(with_reducible repeat (first|apply zzf|apply zzg|apply zze));refine zzj ?_ a5.out _;(with_reducible repeat (first|apply zzf|apply zzg|apply zze));exact a3.out⟩;have b6:Aside0 (((((((D7.setCell ⟨a2,0,none⟩ (.int .i64 ((Qa a1 a0).f0))).setCell ⟨a2,1,none⟩ (.int .i64 ((Qa a1 a0).f1))).setCell ⟨a2,2,none⟩ (.bool ((Qa a1 a0).f2))).setCell ⟨a2,3,none⟩ (.slice a6 ((Qa a1 a0).f3).length a7)).setCell ⟨a2,4,none⟩ (.bool ((Qa a1 a0).f4))).setCell ⟨a2,5,none⟩ (.slice b1 ((Qa a1 a0).f5).length b2)).heap[a2]? = some (.cells #[.int .i64 ((Qa a1 a0).f0),.int .i64 ((Qa a1 a0).f1),.bool ((Qa a1 a0).f2),.slice a6 ((Qa a1 a0).f3).length a7,.bool ((Qa a1 a0).f4),.slice b1 ((Qa a1 a0).f5).length b2] 75 (0,0))):=⟨by (with_reducible repeat (first|apply zzf|apply zzg|apply zze));refine zzi (cs:=#[.int .i64 ((Qa a1 a0).f0),.int .i64 ((Qa a1 a0).f1),.bool ((Qa a1 a0).f2),.slice a6 ((Qa a1 a0).f3).length a7,.bool ((Qa a1 a0).f4),.slice none 0 0]) ?_ 5 _ rfl;refine zzi (cs:=#[.int .i64 ((Qa a1 a0).f0),.int .i64 ((Qa a1 a0).f1),.bool ((Qa a1 a0).f2),.slice a6 ((Qa a1 a0).f3).length a7,.bool false,.slice none 0 0]) ?_ 4 _ rfl;refine zzi (cs:=#[.int .i64 ((Qa a1 a0).f0),.int .i64 ((Qa a1 a0).f1),.bool ((Qa a1 a0).f2),.slice none 0 0,.bool false,.slice none 0 0]) ?_ 3 _ rfl;refine zzi (cs:=#[.int .i64 ((Qa a1 a0).f0),.int .i64 ((Qa a1 a0).f1),.bool false,.slice none 0 0,.bool false,.slice none 0 0]) ?_ 2 _ rfl;refine zzi (cs:=#[.int .i64 ((Qa a1 a0).f0),.int .i64 0,.bool false,.slice none 0 0,.bool false,.slice none 0 0]) ?_ 1 _ rfl;refine zzi (cs:=#[.int .i64 0,.int .i64 0,.bool false,.slice none 0 0,.bool false,.slice none 0 0]) ?_ 0 _ rfl;(with_reducible repeat (first|apply zzf|apply zzg|apply zze));exact a4.out⟩;have b7:Aside0 (Below w.heap.size w ((((((D7.setCell ⟨a2,0,none⟩ (.int .i64 ((Qa a1 a0).f0))).setCell ⟨a2,1,none⟩ (.int .i64 ((Qa a1 a0).f1))).setCell ⟨a2,2,none⟩ (.bool ((Qa a1 a0).f2))).setCell ⟨a2,3,none⟩ (.slice a6 ((Qa a1 a0).f3).length a7)).setCell ⟨a2,4,none⟩ (.bool ((Qa a1 a0).f4))).setCell ⟨a2,5,none⟩ (.slice b1 ((Qa a1 a0).f5).length b2))):=⟨zzh3⟩
                (try clear a3)
                (try clear a4)
                (try clear HB);generalize ((((((D7.setCell ⟨a2,0,none⟩ (.int .i64 ((Qa a1 a0).f0))).setCell ⟨a2,1,none⟩ (.int .i64 ((Qa a1 a0).f1))).setCell ⟨a2,2,none⟩ (.bool ((Qa a1 a0).f2))).setCell ⟨a2,3,none⟩ (.slice a6 ((Qa a1 a0).f3).length a7)).setCell ⟨a2,4,none⟩ (.bool ((Qa a1 a0).f4))).setCell ⟨a2,5,none⟩ (.slice b1 ((Qa a1 a0).f5).length b2))=L7 at b5 b6 b7 ⊢;have a3:=b5;have a4:=b6;have HB:=b7;clear b5 b6 b7;have b5:=zzm (zzg a3.out);have b6:=zzm (zzg a4.out);have b7:=zzm (zzc HB.out);clear a3 a4 HB;have a3:=b5;have a4:=b6;have HB:=b7;clear b5 b6 b7;have j6 : 0≤((b3):Int):=zzt;have j7:(b3) < (a1.length:Int):=zzt;obtain ⟨C1,w7,w8,w9,x0,C8,e3,e4,e5,e6,e7,e8,g6,g7,g8,g9⟩:=Rp j4.out (b3) j6 j7;have h0:=e8;have h1:=e7;have h2:=e6;have h3:=e5;have h4:=e4;have h5:=e3;obtain rfl:a9=C1:=(by injection C8);replace e3:=zzx HB.out e3;replace e4:=zzx HB.out e4;replace e5:=zzx HB.out e5;replace e6:=zzx HB.out e6;replace e7:=zzx HB.out e7;replace e8:=zzx HB.out e8;have s7:=zzm g7;have F3:=zzm g6;clear g7 g6;have s8:=zzm g9;have F4:=zzm g8;clear g9 g8;replace j6:=eq_true j6;replace j7:=eq_true j7;refine start_ (n:=19) (S:=fun w'=>w'.cell? ⟨a2,0,none⟩=some (.int .i64 ((Qa a1 a0).f0))∧w'.cell? ⟨a2,1,none⟩=some (.int .i64 ((Qa a1 a0).f1))∧w'.cell? ⟨a2,2,none⟩=some (.bool ((Qa a1 a0).f2))∧w'.cell? ⟨a2,3,none⟩=some (.slice a6 ((Qa a1 a0).f3).length a7)∧w'.cell? ⟨a2,4,none⟩=some (.bool ((Qa a1 a0).f4))∧w'.cell? ⟨a2,5,none⟩=some (.slice b1 ((Qa a1 a0).f5).length b2)∧w'.cell? ⟨b0,0,none⟩=some (.bool c9)∧w'.cell? ⟨b0,1,none⟩=some (.bool c0)∧w'.cell? ⟨b0,2,none⟩=some (.int .i64 b4)∧w'.cell? ⟨b0,3,none⟩=some (.int .i64 b8)∧w'.cell? ⟨b0,4,none⟩=some (.int .i64 b9)∧w'.cell? ⟨b0,5,none⟩=some (.slice (some a9) a1.length d0)∧w'.cell? (a9.add (((b3)).toNat * 6))=some (.int .i64 ((Qa a1 (b3)).f0))∧w'.cell? ⟨(a9.add (((b3)).toNat * 6)).block,(a9.add (((b3)).toNat * 6)).off+1,none⟩=some (.int .i64 ((Qa a1 (b3)).f1))∧w'.cell? ⟨(a9.add (((b3)).toNat * 6)).block,(a9.add (((b3)).toNat * 6)).off+2,none⟩=some (.bool ((Qa a1 (b3)).f2))∧w'.cell? ⟨(a9.add (((b3)).toNat * 6)).block,(a9.add (((b3)).toNat * 6)).off+3,none⟩=some (.slice w7 ((Qa a1 (b3)).f3).length w8)∧w'.cell? ⟨(a9.add (((b3)).toNat * 6)).block,(a9.add (((b3)).toNat * 6)).off+4,none⟩=some (.bool ((Qa a1 (b3)).f4))∧w'.cell? ⟨(a9.add (((b3)).toNat * 6)).block,(a9.add (((b3)).toNat * 6)).off+5,none⟩=some (.slice w9 ((Qa a1 (b3)).f5).length x0)) (ds:=[]) (zzB 19 0) (by kernel_rfl) rfl rfl ⟨(zzk a4.out 0).trans rfl,(zzk a4.out 1).trans rfl,(zzk a4.out 2).trans rfl,(zzk a4.out 3).trans rfl,(zzk a4.out 4).trans rfl,(zzk a4.out 5).trans rfl,(zzk a3.out 0).trans rfl,(zzk a3.out 1).trans rfl,(zzk a3.out 2).trans rfl,(zzk a3.out 3).trans rfl,(zzk a3.out 4).trans rfl,(zzk a3.out 5).trans rfl,(zzx HB.out h5),(zzx HB.out h4),(zzx HB.out h3),(zzx HB.out h2),(zzx HB.out h1),(zzx HB.out h0)⟩ (fun d1=>?_);refine with_tabW Qd.tab11 Qd.bits11 (fun a8 h6=>?_);generalize L7.drew=N6 at a3 a4 HB s7 s8 e3 e4 e5 e6 e7 e8 d1 ⊢;refine zzT 0 59 19 1 a8 h6 d1 ?_
                refine one_ (i:=1) (N:=some 60) (zzB 19 3) rfl rfl (one_of a8.out (by kernel_rfl)) (by decide) (fun K hK=>?_);refine goes_ Try.func41 (by kernel_rfl) rfl #[.agg #[.int .i64 ((Qa a1 a0).f0),.int .i64 ((Qa a1 a0).f1),.bool ((Qa a1 a0).f2),.slice a6 ((Qa a1 a0).f3).length a7,.bool ((Qa a1 a0).f4),.slice b1 ((Qa a1 a0).f5).length b2]] (by rfl) rfl rfl zzM2 ?_;with_reducible refine (Ra.calls k3 ((Qa a1 a0).f0) ((Qa a1 a0).f1) ((Qa a1 a0).f2) _ _ ((Qa a1 a0).f3) ((Qa a1 a0).f4) _ _ ((Qa a1 a0).f5) true _ ?side1 ?side2 ?side3 ?side4 C3.out).mono ?_
                (case side1=>exact zzcb g1 HB)
                (case side2=>exact g2.out)
                (case side3=>exact zzcb g3 HB)
                (case side4=>exact g4.out);rintro e N7 ⟨rfl,hb⟩;refine ⟨_,rfl,?_⟩;have b5:=zzm (zzh (g:=b0) (o:=.cells #[.bool c9,.bool c0,.int .i64 b4,.int .i64 b8,.int .i64 b9,.slice (some a9) a1.length d0] 26 (0,0)) (zzE a3.out) hb);have b6:=zzm (zzh (g:=a2) (o:=.cells #[.int .i64 ((Qa a1 a0).f0),.int .i64 ((Qa a1 a0).f1),.bool ((Qa a1 a0).f2),.slice a6 ((Qa a1 a0).f3).length a7,.bool ((Qa a1 a0).f4),.slice b1 ((Qa a1 a0).f5).length b2] 75 (0,0)) (zzE a4.out) hb);have b7:=zzm (zzp zzh2 hb);clear a3 a4 HB;have a3:=b5;have a4:=b6;have HB:=b7;clear b5 b6 b7
                (try clear hb)
                (try clear hb2)
                (try clear hk)
                (try clear hi);refine hK.out _ _ ⟨(zzk a4.out 0).trans rfl,(zzk a4.out 1).trans rfl,(zzk a4.out 2).trans rfl,(zzk a4.out 3).trans rfl,(zzk a4.out 4).trans rfl,(zzk a4.out 5).trans rfl,(zzk a3.out 0).trans rfl,(zzk a3.out 1).trans rfl,(zzk a3.out 2).trans rfl,(zzk a3.out 3).trans rfl,(zzk a3.out 4).trans rfl,(zzk a3.out 5).trans rfl,(zzx HB.out h5),(zzx HB.out h4),(zzx HB.out h3),(zzx HB.out h2),(zzx HB.out h1),(zzx HB.out h0)⟩ (fun d1=>?_);clear hK K;refine zzO 60 ?_
                refine zzP 2 61 19 7 a8 ?_
                refine zzP 3 62 19 15 a8 ?_
                refine zzP 4 63 19 31 a8 ?_
                refine zzP 5 64 19 63 a8 ?_
                refine zzP 6 65 19 127 a8 ?_
                refine zzP 7 66 19 255 a8 ?_
                refine zzP 9 68 19 767 a8 ?_
                refine zzP 10 69 19 1791 a8 ?_
                refine zzP 14 73 19 18175 a8 ?_
                refine zzT 8 67 19 18431 a8 h6 d1 ?_
                refine zzP 11 70 19 20479 a8 ?_
                refine zzP 12 71 19 24575 a8 ?_
                refine zzT 13 72 19 32767 a8 h6 d1 ?_
                refine zzT 15 74 19 65535 a8 h6 d1 ?_
                refine zzP 16 75 19 131071 a8 ?_
                refine zzP 17 76 19 262143 a8 ?_
                refine zzP 18 77 19 524287 a8 ?_
                refine done_ (done_of a8.out (by kernel_rfl)) ?_;try go_wp2
                go_ret;exact ⟨by first|rfl|(simp [errW_none,errW_some] <;> rfl)|(simp only [← hji38];first|rfl|(simp [errW_none,errW_some] <;> rfl))|(simp [*,errW_none,errW_some] <;> rfl),zzh3⟩
               ·
                rw [if_neg B1] at H;have G1:decide (((Qa a1 a0).f0)≤((Qa a1 (b3)).f0))=false:=decide_eq_false B1;clear B1;have H':=zzm H;clear H;have e9 : 0≤(a0:Int):=zzt;have g0:a0 < (a1.length:Int):=zzt;obtain ⟨a9,a6,a7,b1,b2,j5,d2,d3,d4,d5,d6,d7,d8,d9,e0,e1⟩:=Rp j4.out a0 e9 g0;cases j5;replace d2:=zzx HB.out d2;replace d3:=zzx HB.out d3;replace d4:=zzx HB.out d4;replace d5:=zzx HB.out d5;replace d6:=zzx HB.out d6;replace d7:=zzx HB.out d7;have g1:=zzm d9;have g2:=zzm d8;clear d9 d8;have g3:=zzm e1;have g4:=zzm e0;clear e1 e0;replace e9:=eq_true e9;replace g0:=eq_true g0;try go_wp2_with (first|((with_reducible refine gate_dst (N:=4) rfl ?_);(try (refine gate_guard (by rfl) ?_;dsimp only));refine box_event ?hg (N:=4) ?hd (cs:=#[.int .i64 0,.int .i64 0,.bool false,.slice none 0 0,.bool false,.slice none 0 0]) (t:=75) ?hr ?_;(case hd=>rfl);(case hg=>rfl);(case hr=>first|(go_simp;done)|(go_simp;rfl));intro a2 hg D8 hbox hb;have b5:=zzm (zzh (g:=b0) (o:=.cells #[.bool c9,.bool c0,.int .i64 b4,.int .i64 b8,.int .i64 b9,.slice (some a9) a1.length d0] 26 (0,0)) (zzE a3.out) hb);have b6:=zzm (zzp zzh2 hb);have b7:=zzm (hbox);have g5:=zzm ((by rw [hg];exact (zzo zzh2):w.heap.size≤a2));have h8:=zzm ((by rw [hg];exact (zzo zzh2):w.heap.size≤a2));have h9:=zzm ((by rw [hg];exact Nat.ne_of_lt (blk_lt (g:=b0) (o:=.cells #[.bool c9,.bool c0,.int .i64 b4,.int .i64 b8,.int .i64 b9,.slice (some a9) a1.length d0] 26 (0,0)) (zzE a3.out)):b0≠a2));have j3:=zzm ((by rw [hg];exact Nat.ne_of_gt (blk_lt (g:=b0) (o:=.cells #[.bool c9,.bool c0,.int .i64 b4,.int .i64 b8,.int .i64 b9,.slice (some a9) a1.length d0] 26 (0,0)) (zzE a3.out)):a2≠b0));clear a3 HB;have a3:=b5;have HB:=b6;have a4:=b7;have B9:=g5;have C0:=h8;have a5:=h9;have e2:=j3;clear b5 b6 b7 g5 h8 h9 j3 hb hbox hg;have N0:=e2.out;have N1:=a5.out;obtain ⟨H8,H9,I0,I1,I2,I3,I4,I5,I6,I7,I8,I9⟩:=zzc6 a4.out))
                have b5:Aside0 (((((((D8.setCell ⟨a2,0,none⟩ (.int .i64 ((Qa a1 a0).f0))).setCell ⟨a2,1,none⟩ (.int .i64 ((Qa a1 a0).f1))).setCell ⟨a2,2,none⟩ (.bool ((Qa a1 a0).f2))).setCell ⟨a2,3,none⟩ (.slice a6 ((Qa a1 a0).f3).length a7)).setCell ⟨a2,4,none⟩ (.bool ((Qa a1 a0).f4))).setCell ⟨a2,5,none⟩ (.slice b1 ((Qa a1 a0).f5).length b2)).heap[b0]? = some (.cells #[.bool c9,.bool c0,.int .i64 b4,.int .i64 b8,.int .i64 b9,.slice (some a9) a1.length d0] 26 (0,0))):=⟨by (with_reducible repeat (first|apply zzf|apply zzg|apply zze));refine zzj ?_ a5.out _;(with_reducible repeat (first|apply zzf|apply zzg|apply zze));refine zzj ?_ a5.out _;(with_reducible repeat (first|apply zzf|apply zzg|apply zze));refine zzj ?_ a5.out _;(with_reducible repeat (first|apply zzf|apply zzg|apply zze));refine zzj ?_ a5.out _;(with_reducible repeat (first|apply zzf|apply zzg|apply zze));refine zzj ?_ a5.out _;(with_reducible repeat (first|apply zzf|apply zzg|apply zze));refine zzj ?_ a5.out _;(with_reducible repeat (first|apply zzf|apply zzg|apply zze));exact a3.out⟩;have b6:Aside0 (((((((D8.setCell ⟨a2,0,none⟩ (.int .i64 ((Qa a1 a0).f0))).setCell ⟨a2,1,none⟩ (.int .i64 ((Qa a1 a0).f1))).setCell ⟨a2,2,none⟩ (.bool ((Qa a1 a0).f2))).setCell ⟨a2,3,none⟩ (.slice a6 ((Qa a1 a0).f3).length a7)).setCell ⟨a2,4,none⟩ (.bool ((Qa a1 a0).f4))).setCell ⟨a2,5,none⟩ (.slice b1 ((Qa a1 a0).f5).length b2)).heap[a2]? = some (.cells #[.int .i64 ((Qa a1 a0).f0),.int .i64 ((Qa a1 a0).f1),.bool ((Qa a1 a0).f2),.slice a6 ((Qa a1 a0).f3).length a7,.bool ((Qa a1 a0).f4),.slice b1 ((Qa a1 a0).f5).length b2] 75 (0,0))):=⟨by (with_reducible repeat (first|apply zzf|apply zzg|apply zze));refine zzi (cs:=#[.int .i64 ((Qa a1 a0).f0),.int .i64 ((Qa a1 a0).f1),.bool ((Qa a1 a0).f2),.slice a6 ((Qa a1 a0).f3).length a7,.bool ((Qa a1 a0).f4),.slice none 0 0]) ?_ 5 _ rfl;refine zzi (cs:=#[.int .i64 ((Qa a1 a0).f0),.int .i64 ((Qa a1 a0).f1),.bool ((Qa a1 a0).f2),.slice a6 ((Qa a1 a0).f3).length a7,.bool false,.slice none 0 0]) ?_ 4 _ rfl;refine zzi (cs:=#[.int .i64 ((Qa a1 a0).f0),.int .i64 ((Qa a1 a0).f1),.bool ((Qa a1 a0).f2),.slice none 0 0,.bool false,.slice none 0 0]) ?_ 3 _ rfl;refine zzi (cs:=#[.int .i64 ((Qa a1 a0).f0),.int .i64 ((Qa a1 a0).f1),.bool false,.slice none 0 0,.bool false,.slice none 0 0]) ?_ 2 _ rfl;refine zzi (cs:=#[.int .i64 ((Qa a1 a0).f0),.int .i64 0,.bool false,.slice none 0 0,.bool false,.slice none 0 0]) ?_ 1 _ rfl;refine zzi (cs:=#[.int .i64 0,.int .i64 0,.bool false,.slice none 0 0,.bool false,.slice none 0 0]) ?_ 0 _ rfl;(with_reducible repeat (first|apply zzf|apply zzg|apply zze));exact a4.out⟩;have b7:Aside0 (Below w.heap.size w ((((((D8.setCell ⟨a2,0,none⟩ (.int .i64 ((Qa a1 a0).f0))).setCell ⟨a2,1,none⟩ (.int .i64 ((Qa a1 a0).f1))).setCell ⟨a2,2,none⟩ (.bool ((Qa a1 a0).f2))).setCell ⟨a2,3,none⟩ (.slice a6 ((Qa a1 a0).f3).length a7)).setCell ⟨a2,4,none⟩ (.bool ((Qa a1 a0).f4))).setCell ⟨a2,5,none⟩ (.slice b1 ((Qa a1 a0).f5).length b2))):=⟨zzh3⟩
                (try clear a3)
                (try clear a4)
                (try clear HB);generalize ((((((D8.setCell ⟨a2,0,none⟩ (.int .i64 ((Qa a1 a0).f0))).setCell ⟨a2,1,none⟩ (.int .i64 ((Qa a1 a0).f1))).setCell ⟨a2,2,none⟩ (.bool ((Qa a1 a0).f2))).setCell ⟨a2,3,none⟩ (.slice a6 ((Qa a1 a0).f3).length a7)).setCell ⟨a2,4,none⟩ (.bool ((Qa a1 a0).f4))).setCell ⟨a2,5,none⟩ (.slice b1 ((Qa a1 a0).f5).length b2))=L8 at b5 b6 b7 ⊢;have a3:=b5;have a4:=b6;have HB:=b7;clear b5 b6 b7;have b5:=zzm (zzg a3.out);have b6:=zzm (zzg a4.out);have b7:=zzm (zzc HB.out);clear a3 a4 HB;have a3:=b5;have a4:=b6;have HB:=b7;clear b5 b6 b7;have j6 : 0≤((b3):Int):=zzt;have j7:(b3) < (a1.length:Int):=zzt;obtain ⟨C1,w7,w8,w9,x0,C8,e3,e4,e5,e6,e7,e8,g6,g7,g8,g9⟩:=Rp j4.out (b3) j6 j7;have h0:=e8;have h1:=e7;have h2:=e6;have h3:=e5;have h4:=e4;have h5:=e3;obtain rfl:a9=C1:=(by injection C8);replace e3:=zzx HB.out e3;replace e4:=zzx HB.out e4;replace e5:=zzx HB.out e5;replace e6:=zzx HB.out e6;replace e7:=zzx HB.out e7;replace e8:=zzx HB.out e8;have s7:=zzm g7;have F3:=zzm g6;clear g7 g6;have s8:=zzm g9;have F4:=zzm g8;clear g9 g8;replace j6:=eq_true j6;replace j7:=eq_true j7;refine start_ (n:=19) (S:=fun w'=>w'.cell? ⟨a2,0,none⟩=some (.int .i64 ((Qa a1 a0).f0))∧w'.cell? ⟨a2,1,none⟩=some (.int .i64 ((Qa a1 a0).f1))∧w'.cell? ⟨a2,2,none⟩=some (.bool ((Qa a1 a0).f2))∧w'.cell? ⟨a2,3,none⟩=some (.slice a6 ((Qa a1 a0).f3).length a7)∧w'.cell? ⟨a2,4,none⟩=some (.bool ((Qa a1 a0).f4))∧w'.cell? ⟨a2,5,none⟩=some (.slice b1 ((Qa a1 a0).f5).length b2)∧w'.cell? ⟨b0,0,none⟩=some (.bool c9)∧w'.cell? ⟨b0,1,none⟩=some (.bool c0)∧w'.cell? ⟨b0,2,none⟩=some (.int .i64 b4)∧w'.cell? ⟨b0,3,none⟩=some (.int .i64 b8)∧w'.cell? ⟨b0,4,none⟩=some (.int .i64 b9)∧w'.cell? ⟨b0,5,none⟩=some (.slice (some a9) a1.length d0)∧w'.cell? (a9.add (((b3)).toNat * 6))=some (.int .i64 ((Qa a1 (b3)).f0))∧w'.cell? ⟨(a9.add (((b3)).toNat * 6)).block,(a9.add (((b3)).toNat * 6)).off+1,none⟩=some (.int .i64 ((Qa a1 (b3)).f1))∧w'.cell? ⟨(a9.add (((b3)).toNat * 6)).block,(a9.add (((b3)).toNat * 6)).off+2,none⟩=some (.bool ((Qa a1 (b3)).f2))∧w'.cell? ⟨(a9.add (((b3)).toNat * 6)).block,(a9.add (((b3)).toNat * 6)).off+3,none⟩=some (.slice w7 ((Qa a1 (b3)).f3).length w8)∧w'.cell? ⟨(a9.add (((b3)).toNat * 6)).block,(a9.add (((b3)).toNat * 6)).off+4,none⟩=some (.bool ((Qa a1 (b3)).f4))∧w'.cell? ⟨(a9.add (((b3)).toNat * 6)).block,(a9.add (((b3)).toNat * 6)).off+5,none⟩=some (.slice w9 ((Qa a1 (b3)).f5).length x0)) (ds:=[]) (zzB 19 0) (by kernel_rfl) rfl rfl ⟨(zzk a4.out 0).trans rfl,(zzk a4.out 1).trans rfl,(zzk a4.out 2).trans rfl,(zzk a4.out 3).trans rfl,(zzk a4.out 4).trans rfl,(zzk a4.out 5).trans rfl,(zzk a3.out 0).trans rfl,(zzk a3.out 1).trans rfl,(zzk a3.out 2).trans rfl,(zzk a3.out 3).trans rfl,(zzk a3.out 4).trans rfl,(zzk a3.out 5).trans rfl,(zzx HB.out h5),(zzx HB.out h4),(zzx HB.out h3),(zzx HB.out h2),(zzx HB.out h1),(zzx HB.out h0)⟩ (fun d1=>?_);refine with_tabW Qd.tab11 Qd.bits11 (fun a8 h6=>?_);generalize L8.drew=N8 at a3 a4 HB s7 s8 e3 e4 e5 e6 e7 e8 d1 ⊢;refine zzT 0 59 19 1 a8 h6 d1 ?_
                refine one_ (i:=1) (N:=some 60) (zzB 19 3) rfl rfl (one_of a8.out (by kernel_rfl)) (by decide) (fun K hK=>?_);refine goes_ Try.func41 (by kernel_rfl) rfl #[.agg #[.int .i64 ((Qa a1 a0).f0),.int .i64 ((Qa a1 a0).f1),.bool ((Qa a1 a0).f2),.slice a6 ((Qa a1 a0).f3).length a7,.bool ((Qa a1 a0).f4),.slice b1 ((Qa a1 a0).f5).length b2]] (by rfl) rfl rfl zzM2 ?_;with_reducible refine (Ra.calls k3 ((Qa a1 a0).f0) ((Qa a1 a0).f1) ((Qa a1 a0).f2) _ _ ((Qa a1 a0).f3) ((Qa a1 a0).f4) _ _ ((Qa a1 a0).f5) true _ ?side1 ?side2 ?side3 ?side4 C3.out).mono ?_
                (case side1=>exact zzcb g1 HB)
                (case side2=>exact g2.out)
                (case side3=>exact zzcb g3 HB)
                (case side4=>exact g4.out);rintro e N9 ⟨rfl,hb⟩;refine ⟨_,rfl,?_⟩;have b5:=zzm (zzh (g:=b0) (o:=.cells #[.bool c9,.bool c0,.int .i64 b4,.int .i64 b8,.int .i64 b9,.slice (some a9) a1.length d0] 26 (0,0)) (zzE a3.out) hb);have b6:=zzm (zzh (g:=a2) (o:=.cells #[.int .i64 ((Qa a1 a0).f0),.int .i64 ((Qa a1 a0).f1),.bool ((Qa a1 a0).f2),.slice a6 ((Qa a1 a0).f3).length a7,.bool ((Qa a1 a0).f4),.slice b1 ((Qa a1 a0).f5).length b2] 75 (0,0)) (zzE a4.out) hb);have b7:=zzm (zzp zzh2 hb);clear a3 a4 HB;have a3:=b5;have a4:=b6;have HB:=b7;clear b5 b6 b7
                (try clear hb)
                (try clear hb2)
                (try clear hk)
                (try clear hi);refine hK.out _ _ ⟨(zzk a4.out 0).trans rfl,(zzk a4.out 1).trans rfl,(zzk a4.out 2).trans rfl,(zzk a4.out 3).trans rfl,(zzk a4.out 4).trans rfl,(zzk a4.out 5).trans rfl,(zzk a3.out 0).trans rfl,(zzk a3.out 1).trans rfl,(zzk a3.out 2).trans rfl,(zzk a3.out 3).trans rfl,(zzk a3.out 4).trans rfl,(zzk a3.out 5).trans rfl,(zzx HB.out h5),(zzx HB.out h4),(zzx HB.out h3),(zzx HB.out h2),(zzx HB.out h1),(zzx HB.out h0)⟩ (fun d1=>?_);clear hK K;refine zzO 60 ?_
                refine zzP 2 61 19 7 a8 ?_
                refine zzP 3 62 19 15 a8 ?_
                refine zzP 4 63 19 31 a8 ?_
                refine zzP 5 64 19 63 a8 ?_
                refine zzP 6 65 19 127 a8 ?_
                refine zzP 7 66 19 255 a8 ?_
                refine zzP 9 68 19 767 a8 ?_
                refine zzP 10 69 19 1791 a8 ?_
                refine zzP 14 73 19 18175 a8 ?_
                refine zzT 8 67 19 18431 a8 h6 d1 ?_
                refine zzP 11 70 19 20479 a8 ?_
                refine zzP 12 71 19 24575 a8 ?_
                refine zzT 13 72 19 32767 a8 h6 d1 ?_
                refine zzT 15 74 19 65535 a8 h6 d1 ?_
                refine zzP 16 75 19 131071 a8 ?_
                refine zzP 17 76 19 262143 a8 ?_
                refine zzP 18 77 19 524287 a8 ?_
                refine done_ (done_of a8.out (by kernel_rfl)) ?_;try go_wp2
                go_roundg k3
                case measure=>have:=HJ1.out;have:=HJ22.out;have:=HK3.out;omega
                case rel=>exact ⟨(wrap64 (a0+1)),(by first|rfl|(simp;done)|(simp [*];done)),H',⟨by have:=HJ1.out;have:=HJ22.out;have:=HK3.out;omega⟩,⟨zzE a3.out⟩,⟨zzh3⟩⟩
              ·
               rw [if_neg D6] at H;exact absurd H (by simp)
             ·
              rw [if_neg D5] at H;exact absurd H (by simp)
            ·
             rw [if_neg B0] at H;have G0:decide (0 < a0)=false:=decide_eq_false B0;clear B0;have H':=zzm H;clear H;have e9 : 0≤(a0:Int):=zzt;have g0:a0 < (a1.length:Int):=zzt;obtain ⟨a9,a6,a7,b1,b2,j5,d2,d3,d4,d5,d6,d7,d8,d9,e0,e1⟩:=Rp j4.out a0 e9 g0;cases j5;replace d2:=zzx HB.out d2;replace d3:=zzx HB.out d3;replace d4:=zzx HB.out d4;replace d5:=zzx HB.out d5;replace d6:=zzx HB.out d6;replace d7:=zzx HB.out d7;have g1:=zzm d9;have g2:=zzm d8;clear d9 d8;have g3:=zzm e1;have g4:=zzm e0;clear e1 e0;replace e9:=eq_true e9;replace g0:=eq_true g0;try go_wp2_with (first|((with_reducible refine gate_dst (N:=4) rfl ?_);(try (refine gate_guard (by rfl) ?_;dsimp only));refine box_event ?hg (N:=4) ?hd (cs:=#[.int .i64 0,.int .i64 0,.bool false,.slice none 0 0,.bool false,.slice none 0 0]) (t:=75) ?hr ?_;(case hd=>rfl);(case hg=>rfl);(case hr=>first|(go_simp;done)|(go_simp;rfl));intro a2 hg D9 hbox hb;have b5:=zzm (zzh (g:=b0) (o:=.cells #[.bool c9,.bool c0,.int .i64 b4,.int .i64 b8,.int .i64 b9,.slice (some a9) a1.length d0] 26 (0,0)) (zzE a3.out) hb);have b6:=zzm (zzp zzh2 hb);have b7:=zzm (hbox);have g5:=zzm ((by rw [hg];exact (zzo zzh2):w.heap.size≤a2));have h8:=zzm ((by rw [hg];exact (zzo zzh2):w.heap.size≤a2));have h9:=zzm ((by rw [hg];exact Nat.ne_of_lt (blk_lt (g:=b0) (o:=.cells #[.bool c9,.bool c0,.int .i64 b4,.int .i64 b8,.int .i64 b9,.slice (some a9) a1.length d0] 26 (0,0)) (zzE a3.out)):b0≠a2));have j3:=zzm ((by rw [hg];exact Nat.ne_of_gt (blk_lt (g:=b0) (o:=.cells #[.bool c9,.bool c0,.int .i64 b4,.int .i64 b8,.int .i64 b9,.slice (some a9) a1.length d0] 26 (0,0)) (zzE a3.out)):a2≠b0));clear a3 HB;have a3:=b5;have HB:=b6;have a4:=b7;have B9:=g5;have C0:=h8;have a5:=h9;have e2:=j3;clear b5 b6 b7 g5 h8 h9 j3 hb hbox hg;have N2:=e2.out;have N3:=a5.out;obtain ⟨J0,J1,J2,J3,J4,J5,J6,J7,J8,J9,K0,K1⟩:=zzc6 a4.out))
             have b5:Aside0 (((((((D9.setCell ⟨a2,0,none⟩ (.int .i64 ((Qa a1 a0).f0))).setCell ⟨a2,1,none⟩ (.int .i64 ((Qa a1 a0).f1))).setCell ⟨a2,2,none⟩ (.bool ((Qa a1 a0).f2))).setCell ⟨a2,3,none⟩ (.slice a6 ((Qa a1 a0).f3).length a7)).setCell ⟨a2,4,none⟩ (.bool ((Qa a1 a0).f4))).setCell ⟨a2,5,none⟩ (.slice b1 ((Qa a1 a0).f5).length b2)).heap[b0]? = some (.cells #[.bool c9,.bool c0,.int .i64 b4,.int .i64 b8,.int .i64 b9,.slice (some a9) a1.length d0] 26 (0,0))):=⟨by (with_reducible repeat (first|apply zzf|apply zzg|apply zze));refine zzj ?_ a5.out _;(with_reducible repeat (first|apply zzf|apply zzg|apply zze));refine zzj ?_ a5.out _;(with_reducible repeat (first|apply zzf|apply zzg|apply zze));refine zzj ?_ a5.out _;(with_reducible repeat (first|apply zzf|apply zzg|apply zze));refine zzj ?_ a5.out _;(with_reducible repeat (first|apply zzf|apply zzg|apply zze));refine zzj ?_ a5.out _;(with_reducible repeat (first|apply zzf|apply zzg|apply zze));refine zzj ?_ a5.out _;(with_reducible repeat (first|apply zzf|apply zzg|apply zze));exact a3.out⟩;have b6:Aside0 (((((((D9.setCell ⟨a2,0,none⟩ (.int .i64 ((Qa a1 a0).f0))).setCell ⟨a2,1,none⟩ (.int .i64 ((Qa a1 a0).f1))).setCell ⟨a2,2,none⟩ (.bool ((Qa a1 a0).f2))).setCell ⟨a2,3,none⟩ (.slice a6 ((Qa a1 a0).f3).length a7)).setCell ⟨a2,4,none⟩ (.bool ((Qa a1 a0).f4))).setCell ⟨a2,5,none⟩ (.slice b1 ((Qa a1 a0).f5).length b2)).heap[a2]? = some (.cells #[.int .i64 ((Qa a1 a0).f0),.int .i64 ((Qa a1 a0).f1),.bool ((Qa a1 a0).f2),.slice a6 ((Qa a1 a0).f3).length a7,.bool ((Qa a1 a0).f4),.slice b1 ((Qa a1 a0).f5).length b2] 75 (0,0))):=⟨by (with_reducible repeat (first|apply zzf|apply zzg|apply zze));refine zzi (cs:=#[.int .i64 ((Qa a1 a0).f0),.int .i64 ((Qa a1 a0).f1),.bool ((Qa a1 a0).f2),.slice a6 ((Qa a1 a0).f3).length a7,.bool ((Qa a1 a0).f4),.slice none 0 0]) ?_ 5 _ rfl;refine zzi (cs:=#[.int .i64 ((Qa a1 a0).f0),.int .i64 ((Qa a1 a0).f1),.bool ((Qa a1 a0).f2),.slice a6 ((Qa a1 a0).f3).length a7,.bool false,.slice none 0 0]) ?_ 4 _ rfl;refine zzi (cs:=#[.int .i64 ((Qa a1 a0).f0),.int .i64 ((Qa a1 a0).f1),.bool ((Qa a1 a0).f2),.slice none 0 0,.bool false,.slice none 0 0]) ?_ 3 _ rfl;refine zzi (cs:=#[.int .i64 ((Qa a1 a0).f0),.int .i64 ((Qa a1 a0).f1),.bool false,.slice none 0 0,.bool false,.slice none 0 0]) ?_ 2 _ rfl;refine zzi (cs:=#[.int .i64 ((Qa a1 a0).f0),.int .i64 0,.bool false,.slice none 0 0,.bool false,.slice none 0 0]) ?_ 1 _ rfl;refine zzi (cs:=#[.int .i64 0,.int .i64 0,.bool false,.slice none 0 0,.bool false,.slice none 0 0]) ?_ 0 _ rfl;(with_reducible repeat (first|apply zzf|apply zzg|apply zze));exact a4.out⟩;have b7:Aside0 (Below w.heap.size w ((((((D9.setCell ⟨a2,0,none⟩ (.int .i64 ((Qa a1 a0).f0))).setCell ⟨a2,1,none⟩ (.int .i64 ((Qa a1 a0).f1))).setCell ⟨a2,2,none⟩ (.bool ((Qa a1 a0).f2))).setCell ⟨a2,3,none⟩ (.slice a6 ((Qa a1 a0).f3).length a7)).setCell ⟨a2,4,none⟩ (.bool ((Qa a1 a0).f4))).setCell ⟨a2,5,none⟩ (.slice b1 ((Qa a1 a0).f5).length b2))):=⟨zzh3⟩
             (try clear a3)
             (try clear a4)
             (try clear HB);generalize ((((((D9.setCell ⟨a2,0,none⟩ (.int .i64 ((Qa a1 a0).f0))).setCell ⟨a2,1,none⟩ (.int .i64 ((Qa a1 a0).f1))).setCell ⟨a2,2,none⟩ (.bool ((Qa a1 a0).f2))).setCell ⟨a2,3,none⟩ (.slice a6 ((Qa a1 a0).f3).length a7)).setCell ⟨a2,4,none⟩ (.bool ((Qa a1 a0).f4))).setCell ⟨a2,5,none⟩ (.slice b1 ((Qa a1 a0).f5).length b2))=L9 at b5 b6 b7 ⊢;have a3:=b5;have a4:=b6;have HB:=b7;clear b5 b6 b7;have b5:=zzm (zzg a3.out);have b6:=zzm (zzg a4.out);have b7:=zzm (zzc HB.out);clear a3 a4 HB;have a3:=b5;have a4:=b6;have HB:=b7;clear b5 b6 b7;refine start_ (n:=19) (S:=fun w'=>w'.cell? ⟨a2,0,none⟩=some (.int .i64 ((Qa a1 a0).f0))∧w'.cell? ⟨a2,1,none⟩=some (.int .i64 ((Qa a1 a0).f1))∧w'.cell? ⟨a2,2,none⟩=some (.bool ((Qa a1 a0).f2))∧w'.cell? ⟨a2,3,none⟩=some (.slice a6 ((Qa a1 a0).f3).length a7)∧w'.cell? ⟨a2,4,none⟩=some (.bool ((Qa a1 a0).f4))∧w'.cell? ⟨a2,5,none⟩=some (.slice b1 ((Qa a1 a0).f5).length b2)) (ds:=[]) (zzB 19 0) (by kernel_rfl) rfl rfl ⟨(zzk a4.out 0).trans rfl,(zzk a4.out 1).trans rfl,(zzk a4.out 2).trans rfl,(zzk a4.out 3).trans rfl,(zzk a4.out 4).trans rfl,(zzk a4.out 5).trans rfl⟩ (fun d1=>?_);refine with_tabW Qd.tab11 Qd.bits11 (fun a8 h6=>?_);generalize L9.drew=O0 at a3 a4 HB d1 ⊢;refine zzT 0 59 19 1 a8 h6 d1 ?_
             refine one_ (i:=1) (N:=some 60) (zzB 19 3) rfl rfl (one_of a8.out (by kernel_rfl)) (by decide) (fun K hK=>?_);refine goes_ Try.func41 (by kernel_rfl) rfl #[.agg #[.int .i64 ((Qa a1 a0).f0),.int .i64 ((Qa a1 a0).f1),.bool ((Qa a1 a0).f2),.slice a6 ((Qa a1 a0).f3).length a7,.bool ((Qa a1 a0).f4),.slice b1 ((Qa a1 a0).f5).length b2]] (by rfl) rfl rfl zzM2 ?_;with_reducible refine (Ra.calls k3 ((Qa a1 a0).f0) ((Qa a1 a0).f1) ((Qa a1 a0).f2) _ _ ((Qa a1 a0).f3) ((Qa a1 a0).f4) _ _ ((Qa a1 a0).f5) true _ ?side1 ?side2 ?side3 ?side4 C3.out).mono ?_
             (case side1=>exact zzcb g1 HB)
             (case side2=>exact g2.out)
             (case side3=>exact zzcb g3 HB)
             (case side4=>exact g4.out);rintro e O1 ⟨rfl,hb⟩;refine ⟨_,rfl,?_⟩;have b5:=zzm (zzh (g:=b0) (o:=.cells #[.bool c9,.bool c0,.int .i64 b4,.int .i64 b8,.int .i64 b9,.slice (some a9) a1.length d0] 26 (0,0)) (zzE a3.out) hb);have b6:=zzm (zzh (g:=a2) (o:=.cells #[.int .i64 ((Qa a1 a0).f0),.int .i64 ((Qa a1 a0).f1),.bool ((Qa a1 a0).f2),.slice a6 ((Qa a1 a0).f3).length a7,.bool ((Qa a1 a0).f4),.slice b1 ((Qa a1 a0).f5).length b2] 75 (0,0)) (zzE a4.out) hb);have b7:=zzm (zzp zzh2 hb);clear a3 a4 HB;have a3:=b5;have a4:=b6;have HB:=b7;clear b5 b6 b7
             (try clear hb)
             (try clear hb2)
             (try clear hk)
             (try clear hi);refine hK.out _ _ ⟨(zzk a4.out 0).trans rfl,(zzk a4.out 1).trans rfl,(zzk a4.out 2).trans rfl,(zzk a4.out 3).trans rfl,(zzk a4.out 4).trans rfl,(zzk a4.out 5).trans rfl⟩ (fun d1=>?_);clear hK K;refine zzO 60 ?_
             refine zzP 2 61 19 7 a8 ?_
             refine zzP 3 62 19 15 a8 ?_
             refine zzP 4 63 19 31 a8 ?_
             refine zzP 5 64 19 63 a8 ?_
             refine zzP 6 65 19 127 a8 ?_
             refine zzU 7 66 19 255 a8 ?_
             refine zzU 8 67 19 511 a8 ?_
             refine zzU 9 68 19 1023 a8 ?_
             refine zzU 10 69 19 2047 a8 ?_
             refine zzU 11 70 19 4095 a8 ?_
             refine zzU 12 71 19 8191 a8 ?_
             refine zzU 13 72 19 16383 a8 ?_
             refine zzU 14 73 19 32767 a8 ?_
             refine zzU 15 74 19 65535 a8 ?_
             refine zzU 16 75 19 131071 a8 ?_
             refine zzP 17 76 19 262143 a8 ?_
             refine zzP 18 77 19 524287 a8 ?_
             refine done_ (done_of a8.out (by kernel_rfl)) ?_;try go_wp2
             go_roundg k3
             case measure=>have:=HJ1.out;have:=HJ22.out;have:=HK3.out;omega
             case rel=>exact ⟨(wrap64 (a0+1)),(by first|rfl|(simp;done)|(simp [*];done)),H',⟨by have:=HJ1.out;have:=HJ22.out;have:=HK3.out;omega⟩,⟨zzE a3.out⟩,⟨zzh3⟩⟩
           ·
            replace D4:=Bool.eq_false_iff.mpr D4;subst D4;replace H:=zzIf H;obtain rfl:=Option.some.inj H;have e9 : 0≤(a0:Int):=zzt;have g0:a0 < (a1.length:Int):=zzt;obtain ⟨a9,a6,a7,b1,b2,j5,d2,d3,d4,d5,d6,d7,d8,d9,e0,e1⟩:=Rp j4.out a0 e9 g0;cases j5;replace d2:=zzx HB.out d2;replace d3:=zzx HB.out d3;replace d4:=zzx HB.out d4;replace d5:=zzx HB.out d5;replace d6:=zzx HB.out d6;replace d7:=zzx HB.out d7;have g1:=zzm d9;have g2:=zzm d8;clear d9 d8;have g3:=zzm e1;have g4:=zzm e0;clear e1 e0;replace e9:=eq_true e9;replace g0:=eq_true g0;try go_wp2_with (first|((with_reducible refine gate_dst (N:=4) rfl ?_);(try (refine gate_guard (by rfl) ?_;dsimp only));refine box_event ?hg (N:=4) ?hd (cs:=#[.int .i64 0,.int .i64 0,.bool false,.slice none 0 0,.bool false,.slice none 0 0]) (t:=75) ?hr ?_;(case hd=>rfl);(case hg=>rfl);(case hr=>first|(go_simp;done)|(go_simp;rfl));intro a2 hg E0 hbox hb;have b5:=zzm (zzh (g:=b0) (o:=.cells #[.bool c9,.bool c0,.int .i64 b4,.int .i64 b8,.int .i64 b9,.slice (some a9) a1.length d0] 26 (0,0)) (zzE a3.out) hb);have b6:=zzm (zzp zzh2 hb);have b7:=zzm (hbox);have g5:=zzm ((by rw [hg];exact (zzo zzh2):w.heap.size≤a2));have h8:=zzm ((by rw [hg];exact (zzo zzh2):w.heap.size≤a2));have h9:=zzm ((by rw [hg];exact Nat.ne_of_lt (blk_lt (g:=b0) (o:=.cells #[.bool c9,.bool c0,.int .i64 b4,.int .i64 b8,.int .i64 b9,.slice (some a9) a1.length d0] 26 (0,0)) (zzE a3.out)):b0≠a2));have j3:=zzm ((by rw [hg];exact Nat.ne_of_gt (blk_lt (g:=b0) (o:=.cells #[.bool c9,.bool c0,.int .i64 b4,.int .i64 b8,.int .i64 b9,.slice (some a9) a1.length d0] 26 (0,0)) (zzE a3.out)):a2≠b0));clear a3 HB;have a3:=b5;have HB:=b6;have a4:=b7;have B9:=g5;have C0:=h8;have a5:=h9;have e2:=j3;clear b5 b6 b7 g5 h8 h9 j3 hb hbox hg;have N4:=e2.out;have N5:=a5.out;obtain ⟨K2,K3,K4,K5,K6,K7,K8,K9,L0,L1,L2,L3⟩:=zzc6 a4.out))
            have b5:Aside0 (((((((E0.setCell ⟨a2,0,none⟩ (.int .i64 ((Qa a1 a0).f0))).setCell ⟨a2,1,none⟩ (.int .i64 ((Qa a1 a0).f1))).setCell ⟨a2,2,none⟩ (.bool ((Qa a1 a0).f2))).setCell ⟨a2,3,none⟩ (.slice a6 ((Qa a1 a0).f3).length a7)).setCell ⟨a2,4,none⟩ (.bool ((Qa a1 a0).f4))).setCell ⟨a2,5,none⟩ (.slice b1 ((Qa a1 a0).f5).length b2)).heap[b0]? = some (.cells #[.bool c9,.bool c0,.int .i64 b4,.int .i64 b8,.int .i64 b9,.slice (some a9) a1.length d0] 26 (0,0))):=⟨by (with_reducible repeat (first|apply zzf|apply zzg|apply zze));refine zzj ?_ a5.out _;(with_reducible repeat (first|apply zzf|apply zzg|apply zze));refine zzj ?_ a5.out _;(with_reducible repeat (first|apply zzf|apply zzg|apply zze));refine zzj ?_ a5.out _;(with_reducible repeat (first|apply zzf|apply zzg|apply zze));refine zzj ?_ a5.out _;(with_reducible repeat (first|apply zzf|apply zzg|apply zze));refine zzj ?_ a5.out _;(with_reducible repeat (first|apply zzf|apply zzg|apply zze));refine zzj ?_ a5.out _;(with_reducible repeat (first|apply zzf|apply zzg|apply zze));exact a3.out⟩;have b6:Aside0 (((((((E0.setCell ⟨a2,0,none⟩ (.int .i64 ((Qa a1 a0).f0))).setCell ⟨a2,1,none⟩ (.int .i64 ((Qa a1 a0).f1))).setCell ⟨a2,2,none⟩ (.bool ((Qa a1 a0).f2))).setCell ⟨a2,3,none⟩ (.slice a6 ((Qa a1 a0).f3).length a7)).setCell ⟨a2,4,none⟩ (.bool ((Qa a1 a0).f4))).setCell ⟨a2,5,none⟩ (.slice b1 ((Qa a1 a0).f5).length b2)).heap[a2]? = some (.cells #[.int .i64 ((Qa a1 a0).f0),.int .i64 ((Qa a1 a0).f1),.bool ((Qa a1 a0).f2),.slice a6 ((Qa a1 a0).f3).length a7,.bool ((Qa a1 a0).f4),.slice b1 ((Qa a1 a0).f5).length b2] 75 (0,0))):=⟨by (with_reducible repeat (first|apply zzf|apply zzg|apply zze));refine zzi (cs:=#[.int .i64 ((Qa a1 a0).f0),.int .i64 ((Qa a1 a0).f1),.bool ((Qa a1 a0).f2),.slice a6 ((Qa a1 a0).f3).length a7,.bool ((Qa a1 a0).f4),.slice none 0 0]) ?_ 5 _ rfl;refine zzi (cs:=#[.int .i64 ((Qa a1 a0).f0),.int .i64 ((Qa a1 a0).f1),.bool ((Qa a1 a0).f2),.slice a6 ((Qa a1 a0).f3).length a7,.bool false,.slice none 0 0]) ?_ 4 _ rfl;refine zzi (cs:=#[.int .i64 ((Qa a1 a0).f0),.int .i64 ((Qa a1 a0).f1),.bool ((Qa a1 a0).f2),.slice none 0 0,.bool false,.slice none 0 0]) ?_ 3 _ rfl;refine zzi (cs:=#[.int .i64 ((Qa a1 a0).f0),.int .i64 ((Qa a1 a0).f1),.bool false,.slice none 0 0,.bool false,.slice none 0 0]) ?_ 2 _ rfl;refine zzi (cs:=#[.int .i64 ((Qa a1 a0).f0),.int .i64 0,.bool false,.slice none 0 0,.bool false,.slice none 0 0]) ?_ 1 _ rfl;refine zzi (cs:=#[.int .i64 0,.int .i64 0,.bool false,.slice none 0 0,.bool false,.slice none 0 0]) ?_ 0 _ rfl;(with_reducible repeat (first|apply zzf|apply zzg|apply zze));exact a4.out⟩;have b7:Aside0 (Below w.heap.size w ((((((E0.setCell ⟨a2,0,none⟩ (.int .i64 ((Qa a1 a0).f0))).setCell ⟨a2,1,none⟩ (.int .i64 ((Qa a1 a0).f1))).setCell ⟨a2,2,none⟩ (.bool ((Qa a1 a0).f2))).setCell ⟨a2,3,none⟩ (.slice a6 ((Qa a1 a0).f3).length a7)).setCell ⟨a2,4,none⟩ (.bool ((Qa a1 a0).f4))).setCell ⟨a2,5,none⟩ (.slice b1 ((Qa a1 a0).f5).length b2))):=⟨zzh3⟩
            (try clear a3)
            (try clear a4)
            (try clear HB);generalize ((((((E0.setCell ⟨a2,0,none⟩ (.int .i64 ((Qa a1 a0).f0))).setCell ⟨a2,1,none⟩ (.int .i64 ((Qa a1 a0).f1))).setCell ⟨a2,2,none⟩ (.bool ((Qa a1 a0).f2))).setCell ⟨a2,3,none⟩ (.slice a6 ((Qa a1 a0).f3).length a7)).setCell ⟨a2,4,none⟩ (.bool ((Qa a1 a0).f4))).setCell ⟨a2,5,none⟩ (.slice b1 ((Qa a1 a0).f5).length b2))=M0 at b5 b6 b7 ⊢;have a3:=b5;have a4:=b6;have HB:=b7;clear b5 b6 b7;have b5:=zzm (zzg a3.out);have b6:=zzm (zzg a4.out);have b7:=zzm (zzc HB.out);clear a3 a4 HB;have a3:=b5;have a4:=b6;have HB:=b7;clear b5 b6 b7;refine start_ (n:=19) (S:=fun w'=>w'.cell? ⟨a2,0,none⟩=some (.int .i64 ((Qa a1 a0).f0))∧w'.cell? ⟨a2,1,none⟩=some (.int .i64 ((Qa a1 a0).f1))∧w'.cell? ⟨a2,2,none⟩=some (.bool ((Qa a1 a0).f2))∧w'.cell? ⟨a2,3,none⟩=some (.slice a6 ((Qa a1 a0).f3).length a7)∧w'.cell? ⟨a2,4,none⟩=some (.bool ((Qa a1 a0).f4))∧w'.cell? ⟨a2,5,none⟩=some (.slice b1 ((Qa a1 a0).f5).length b2)) (ds:=[]) (zzB 19 0) (by kernel_rfl) rfl rfl ⟨(zzk a4.out 0).trans rfl,(zzk a4.out 1).trans rfl,(zzk a4.out 2).trans rfl,(zzk a4.out 3).trans rfl,(zzk a4.out 4).trans rfl,(zzk a4.out 5).trans rfl⟩ (fun d1=>?_);refine with_tabW Qd.tab11 Qd.bits11 (fun a8 h6=>?_);generalize M0.drew=O2 at a3 a4 HB d1 ⊢;refine zzT 0 59 19 1 a8 h6 d1 ?_
            refine one_ (i:=1) (N:=some 60) (zzB 19 3) rfl rfl (one_of a8.out (by kernel_rfl)) (by decide) (fun K hK=>?_);refine goes_ Try.func41 (by kernel_rfl) rfl #[.agg #[.int .i64 ((Qa a1 a0).f0),.int .i64 ((Qa a1 a0).f1),.bool ((Qa a1 a0).f2),.slice a6 ((Qa a1 a0).f3).length a7,.bool ((Qa a1 a0).f4),.slice b1 ((Qa a1 a0).f5).length b2]] (by rfl) rfl rfl zzM2 ?_;with_reducible refine (Ra.calls k3 ((Qa a1 a0).f0) ((Qa a1 a0).f1) ((Qa a1 a0).f2) _ _ ((Qa a1 a0).f3) ((Qa a1 a0).f4) _ _ ((Qa a1 a0).f5) false _ ?side1 ?side2 ?side3 ?side4 C3.out).mono ?_
            (case side1=>exact zzcb g1 HB)
            (case side2=>exact g2.out)
            (case side3=>exact zzcb g3 HB)
            (case side4=>exact g4.out);rintro e O3 ⟨rfl,hb⟩;refine ⟨_,rfl,?_⟩;have b5:=zzm (zzh (g:=b0) (o:=.cells #[.bool c9,.bool c0,.int .i64 b4,.int .i64 b8,.int .i64 b9,.slice (some a9) a1.length d0] 26 (0,0)) (zzE a3.out) hb);have b6:=zzm (zzh (g:=a2) (o:=.cells #[.int .i64 ((Qa a1 a0).f0),.int .i64 ((Qa a1 a0).f1),.bool ((Qa a1 a0).f2),.slice a6 ((Qa a1 a0).f3).length a7,.bool ((Qa a1 a0).f4),.slice b1 ((Qa a1 a0).f5).length b2] 75 (0,0)) (zzE a4.out) hb);have b7:=zzm (zzp zzh2 hb);clear a3 a4 HB;have a3:=b5;have a4:=b6;have HB:=b7;clear b5 b6 b7
            (try clear hb)
            (try clear hb2)
            (try clear hk)
            (try clear hi);refine hK.out _ _ ⟨(zzk a4.out 0).trans rfl,(zzk a4.out 1).trans rfl,(zzk a4.out 2).trans rfl,(zzk a4.out 3).trans rfl,(zzk a4.out 4).trans rfl,(zzk a4.out 5).trans rfl⟩ (fun d1=>?_);clear hK K;refine zzO 60 ?_
            refine zzP 2 61 19 7 a8 ?_
            refine zzP 3 62 19 15 a8 ?_
            refine zzU 4 63 19 31 a8 ?_
            refine zzU 5 64 19 63 a8 ?_
            refine zzU 6 65 19 127 a8 ?_
            refine zzU 7 66 19 255 a8 ?_
            refine zzU 8 67 19 511 a8 ?_
            refine zzU 9 68 19 1023 a8 ?_
            refine zzU 10 69 19 2047 a8 ?_
            refine zzU 11 70 19 4095 a8 ?_
            refine zzU 12 71 19 8191 a8 ?_
            refine zzU 13 72 19 16383 a8 ?_
            refine zzU 14 73 19 32767 a8 ?_
            refine zzU 15 74 19 65535 a8 ?_
            refine zzU 16 75 19 131071 a8 ?_
            refine zzU 17 76 19 262143 a8 ?_
            refine zzP 18 77 19 524287 a8 ?_
            refine done_ (done_of a8.out (by kernel_rfl)) ?_;try go_wp2
            go_ret;exact ⟨zzR,zzh3⟩
          ·
           rw [if_neg D3] at H;exact absurd H (by simp)
         ·
          rw [if_neg D2] at H;exact absurd H (by simp)
        ·
         rw [if_neg A9] at H;have F9:decide (a0 < (a1.length:Int))=false:=decide_eq_false A9;clear A9;obtain rfl:=Option.some.inj H;go_wp2;go_ret;exact ⟨zzR,zzh3⟩

set_option linter.unusedVariables false
set_option linter.unusedSimpArgs false
structure SlotV where
 u:Bool
 a:Int
 b:Int
 c:Int
def slot0:SlotV:=⟨false,0,0,0⟩
def HasSlots (w:World) (g:Nat) (f:Nat→SlotV):Prop:=∃ cells:Array Value,w.heap[g]? = some (.cells cells 90 (0,0))∧cells.size=1020 ∧
 ∀ i,i < 255→cells[i * 4]? = some (.bool (f i).u)∧cells[i * 4+1]? = some (.int .i64 (f i).a)∧cells[i * 4+2]? = some (.int .i64 (f i).b)∧cells[i * 4+3]? = some (.int .i64 (f i).c)
theorem HasSlots.lt {w:World} {g:Nat} {f:Nat→SlotV} (h:HasSlots w g f):g < w.heap.size:=by
 obtain ⟨cells,h1,_⟩:=h;exact blk_lt h1
theorem HasSlots.below {w w1:World} {g:Nat} {f:Nat→SlotV} (h:HasSlots w g f) (hb:Below w.heap.size w w1):HasSlots w1 g f:=by
 obtain ⟨cells,h1,h2⟩:=h;exact ⟨cells,zzh h1 hb,h2⟩
theorem HasSlots.at_ {w:World} {g:Nat} {f:Nat→SlotV} (h:HasSlots w g f) (i:Nat) (hi:i < 255) :
  w.cell? ⟨g,i * 4,none⟩=some (.bool (f i).u)∧w.cell? ⟨g,i * 4+1,none⟩=some (.int .i64 (f i).a)∧w.cell? ⟨g,i * 4+2,none⟩=some (.int .i64 (f i).b)∧w.cell? ⟨g,i * 4+3,none⟩=some (.int .i64 (f i).c):=by
 obtain ⟨cells,h1,_,h3⟩:=h;obtain ⟨k0,k1,k2,k3⟩:=h3 i hi;exact ⟨(zzk h1 _).trans k0,(zzk h1 _).trans k1,(zzk h1 _).trans k2,(zzk h1 _).trans k3⟩
theorem HasSlots.free {w:World} {g:Nat} {f:Nat→SlotV} (h:HasSlots w g f) (j:Nat):w.frozen? ⟨g,j,none⟩=false:=by
 obtain ⟨cells,h1,_⟩:=h;exact zzl h1 j
theorem HasSlots.put {w:World} {g:Nat} {f:Nat→SlotV} (h:HasSlots w g f) (i:Nat) (hi:i < 255) (u:Bool) (a b c:Int) :
  HasSlots ((((w.setCell ⟨g,i * 4,none⟩ (.bool u)).setCell ⟨g,i * 4+1,none⟩ (.int .i64 a)).setCell ⟨g,i * 4+2,none⟩ (.int .i64 b)).setCell ⟨g,i * 4+3,none⟩ (.int .i64 c)) g (fun k=>if k=i then ⟨u,a,b,c⟩ else f k):=by
 obtain ⟨cells,h1,h2,h3⟩:=h;refine ⟨(((cells.setIfInBounds (i * 4) (.bool u)).setIfInBounds (i * 4+1) (.int .i64 a)).setIfInBounds (i * 4+2) (.int .i64 b)).setIfInBounds (i * 4+3) (.int .i64 c),blk_set (blk_set (blk_set (blk_set h1 _ _) _ _) _ _) _ _,by simp [h2],?_⟩;intro j hj;by_cases hji:j=i
 ·
  subst hji;simp only [if_true];refine ⟨?_,?_,?_,?_⟩
  ·
   rw [Array.getElem?_setIfInBounds_ne (by omega),Array.getElem?_setIfInBounds_ne (by omega),Array.getElem?_setIfInBounds_ne (by omega),Array.getElem?_setIfInBounds_self_of_lt (by omega)]
  ·
   rw [Array.getElem?_setIfInBounds_ne (by omega),Array.getElem?_setIfInBounds_ne (by omega),Array.getElem?_setIfInBounds_self_of_lt (by simp;omega)]
  ·
   rw [Array.getElem?_setIfInBounds_ne (by omega),Array.getElem?_setIfInBounds_self_of_lt (by simp;omega)]
  ·
   rw [Array.getElem?_setIfInBounds_self_of_lt (by simp;omega)]
 ·
  simp only [if_neg hji];obtain ⟨k0,k1,k2,k3⟩:=h3 j hj;refine ⟨?_,?_,?_,?_⟩
  ·
   rw [Array.getElem?_setIfInBounds_ne (by omega),Array.getElem?_setIfInBounds_ne (by omega),Array.getElem?_setIfInBounds_ne (by omega),Array.getElem?_setIfInBounds_ne (by omega)];exact k0
  ·
   rw [Array.getElem?_setIfInBounds_ne (by omega),Array.getElem?_setIfInBounds_ne (by omega),Array.getElem?_setIfInBounds_ne (by omega),Array.getElem?_setIfInBounds_ne (by omega)];exact k1
  ·
   rw [Array.getElem?_setIfInBounds_ne (by omega),Array.getElem?_setIfInBounds_ne (by omega),Array.getElem?_setIfInBounds_ne (by omega),Array.getElem?_setIfInBounds_ne (by omega)];exact k2
  ·
   rw [Array.getElem?_setIfInBounds_ne (by omega),Array.getElem?_setIfInBounds_ne (by omega),Array.getElem?_setIfInBounds_ne (by omega),Array.getElem?_setIfInBounds_ne (by omega)];exact k3
def zeroSlots:Array Value:=(List.flatten (List.replicate 255 [Value.bool false,.int .i64 0,.int .i64 0,.int .i64 0])).toArray
theorem flat_at {x0 x1 x2 x3:Value} : ∀ (n i:Nat),i < n→(List.flatten (List.replicate n [x0,x1,x2,x3]))[i * 4]? = some x0∧(List.flatten (List.replicate n [x0,x1,x2,x3]))[i * 4+1]? = some x1∧(List.flatten (List.replicate n [x0,x1,x2,x3]))[i * 4+2]? = some x2∧(List.flatten (List.replicate n [x0,x1,x2,x3]))[i * 4+3]? = some x3
 | 0,i,h=>by omega
 | n+1,0,h=>by
  rw [List.replicate_succ,List.flatten_cons]
  exact ⟨rfl,rfl,rfl,rfl⟩
 | n+1,i+1,h=>by
  obtain ⟨k0,k1,k2,k3⟩:=flat_at (x0:=x0) (x1:=x1) (x2:=x2) (x3:=x3) n i (by omega)
  rw [List.replicate_succ,List.flatten_cons]
  refine ⟨?_,?_,?_,?_⟩
  ·
   rw [List.getElem?_append_right (by simp;omega),show (i+1) * 4 - [x0,x1,x2,x3].length=i * 4 by simp;omega];exact k0
  ·
   rw [List.getElem?_append_right (by simp;omega),show (i+1) * 4+1 - [x0,x1,x2,x3].length=i * 4+1 by simp;omega];exact k1
  ·
   rw [List.getElem?_append_right (by simp;omega),show (i+1) * 4+2 - [x0,x1,x2,x3].length=i * 4+2 by simp;omega];exact k2
  ·
   rw [List.getElem?_append_right (by simp;omega),show (i+1) * 4+3 - [x0,x1,x2,x3].length=i * 4+3 by simp;omega];exact k3
theorem flat_len {x0 x1 x2 x3:Value} : ∀ n:Nat,(List.flatten (List.replicate n [x0,x1,x2,x3])).length=n * 4
 | 0=>rfl
 | n+1=>by rw [List.replicate_succ,List.flatten_cons,List.length_append,flat_len n];simp;omega
theorem HasSlots.zero {w:World} {g:Nat} (h:w.heap[g]? = some (.cells zeroSlots 90 (0,0))):HasSlots w g (fun _=>slot0):=by
 refine ⟨zeroSlots,h,by unfold zeroSlots;rw [List.size_toArray,flat_len],fun i hi=>?_⟩;obtain ⟨k0,k1,k2,k3⟩:=flat_at (x0:=Value.bool false) (x1:=.int .i64 0) (x2:=.int .i64 0) (x3:=.int .i64 0) 255 i hi;unfold zeroSlots;simp only [List.getElem?_toArray];exact ⟨k0,k1,k2,k3⟩
def slotPut (f:Nat→SlotV) (p:S67):Nat→SlotV:=fun k=>if k=p.f0.toNat then ⟨true,p.f0,p.f1,p.f2⟩ else f k
def slotFn (l:List S67):Nat→SlotV:=l.foldl slotPut (fun _=>slot0)
theorem slotFn_snoc (l:List S67) (p:S67):slotFn (l ++ [p])=slotPut (slotFn l) p:=by simp [slotFn]
theorem slotFn_take (l:List S67) (k:Nat) (h:k < l.length):slotFn (l.take (k+1))=slotPut (slotFn (l.take k)) (Qc l (k:Int)):=by
 rw [List.take_succ_eq_append_getElem h,slotFn_snoc];congr 1;simp [Qc,List.getD_eq_getElem?_getD,List.getElem?_eq_getElem h]
theorem infoAT:(Try.prog.info? 90).map (fun i=>(i.zero,i.size,i.bytes))=some (some (.agg zeroSlots),1020,8160):=by kernel_rfl
theorem alloc_slots {o:Oper} (ρ:Operand→Value) (ho:o.op = .alloc 90) (W:World):(execOp ρ o).run Try.prog W = .ok (.value (.pointer (some ⟨W.heap.size,0,none⟩))) (W.alloc (.cells zeroSlots 90 (0,0))):=by
 obtain ⟨i0,hi,hz0,hz1,hz2⟩:=info_parts infoAT;have hz:(zeroValue 90).run Try.prog W = .ok (.agg zeroSlots) W:=by simp [zeroValue,typeInfo,hi,hz0,go_sem]
 obtain ⟨op,dst,guard,pos,x1,x2⟩:=o;subst ho;simp [execOp,Instr.alloc,hz,newVar,newRow,go_sem]
theorem HasSlots.far {w:World} {g:Nat} {f:Nat→SlotV} (h:HasSlots w g f) {p:Addr} (hp:g≠p.block) (v:Value):HasSlots (w.setCell p v) g f:=by
 obtain ⟨cells,h1,h2⟩:=h;exact ⟨cells,zzj h1 hp v,h2⟩
theorem HasSlots.drew {w:World} {g:Nat} {f:Nat→SlotV} (h:HasSlots w g f):HasSlots w.drew g f:=h
set_option maxHeartbeats 8000000 in
theorem impl_slotsOf.calls (A0:Option Addr) (c0:Nat) (l0:List S67) (w:World) (a6:Kd.C k67 w A0 l0.length l0) (hid:∀ j:Nat,j < l0.length→0≤(Qc l0 (j:Int)).f0∧(Qc l0 (j:Int)).f0 < 255) :
  Calls Try.prog 33 #[.slice A0 l0.length c0] w fun e w'=>∃ g:Nat,e = .returned (.pointer (some ⟨g,0,none⟩))∧w.heap.size≤g∧HasSlots w' g (slotFn l0)∧Below w.heap.size w w':=by
 have hmax:l0.length≤9223372036854775807:=a6.2.1;have HR:=zzm a6;have HI:=zzm hid;clear a6 hid;go_enter Try.func33,Try.ntmps33;go_wp2_with ((with_reducible refine gate_dst (N:=6) rfl ?_);refine box_event ?hg (N:=6) ?hd (cs:=zeroSlots) (t:=90) ?hr ?_;(case hd=>rfl);(case hg=>rfl);(case hr=>exact alloc_slots _ rfl _);intro g hg w1 hbox hb;have HS0:=zzm (HasSlots.zero hbox);have HB0:=zzm hb;have HG:=zzm (show w.heap.size≤g from Nat.le_of_eq hg.symm);clear hb hbox hg);go_loopw [9,5] (fun i i5 W=>∃ k:Nat,k≤l0.length∧i = .int .i64 k∧Aside0 (HasSlots W g (slotFn (l0.take k)))∧Aside0 (Below w.heap.size w W)) (fun i _ _=>l0.length - (intOf i).toNat)
 case atStart=>exact ⟨0,Nat.zero_le _,rfl,HS0,HB0⟩
 case round=>
  obtain ⟨k,hk,rfl,HS,HB⟩:=hrel;by_cases hlt:k < l0.length
  ·
   obtain ⟨ad,he,a1,a2,a3⟩:=Q8 HR.out (k:Int) (by omega) (by omega);subst he;replace a1:=zzx HB.out a1;replace a2:=zzx HB.out a2;replace a3:=zzx HB.out a3;simp only [Int.toNat_natCast] at a1 a2 a3;have HN:=zzm (slotFn_take l0 k hlt);obtain ⟨b0,b1⟩:=HI.out k hlt;obtain ⟨p,hp⟩:∃ p,p=Qc l0 (k:Int):=⟨_,rfl⟩;simp only [← hp] at a1 a2 a3 b0 b1;rw [← hp] at HN;clear hp;obtain ⟨m,hm⟩:∃ m:Nat,p.f0=(m:Int):=⟨p.f0.toNat,by omega⟩;have hm2:m < 255:=by omega
   go_wp2_with ((with_reducible refine gate_dst (N:=5) rfl ?_);refine box_event ?hg (N:=5) ?hd (cs:=#[.int .i64 0,.int .i64 0,.int .i64 0]) (t:=67) ?hr ?_;(case hd=>rfl);(case hg=>rfl);(case hr=>first|(go_simp;done)|(go_simp;rfl));intro gb hg a4 hbox hb;have HS13:=zzm (HS.out.below hb);have HB13:=zzm (zzp HB.out hb);have BK:=zzm hbox;have GE:=zzm (show w.heap.size≤gb by rw [hg];exact HB.out.size);have NE:=zzm (show g≠gb by have:=HS.out.lt;omega);clear hb hbox hg;have a7:a4.cell? ⟨gb,0,none⟩=some (.int .i64 0):=(zzk BK.out 0).trans rfl;have a8:a4.cell? ⟨gb,1,none⟩=some (.int .i64 0):=(zzk BK.out 1).trans rfl;have a9:a4.cell? ⟨gb,2,none⟩=some (.int .i64 0):=(zzk BK.out 2).trans rfl;have hf0:=zzl BK.out 0;have hf1:=zzl BK.out 1;have hf2:=zzl BK.out 2);have a5:=zzm (blk_set (blk_set (blk_set BK.out 0 (.int .i64 (m:Int))) 1 (.int .i64 p.f1)) 2 (.int .i64 p.f2));have HS2:=zzm (((HS13.out.far (p:=⟨gb,0,none⟩) NE.out (.int .i64 (m:Int))).far (p:=⟨gb,1,none⟩) NE.out (.int .i64 p.f1)).far (p:=⟨gb,2,none⟩) NE.out (.int .i64 p.f2));have HB2:=zzm (zzd (zzd (zzd HB13.out GE.out (j:=0) (v:=.int .i64 (m:Int))) GE.out (j:=1) (v:=.int .i64 p.f1)) GE.out (j:=2) (v:=.int .i64 p.f2));clear a7 a8 a9 hf0 hf1 hf2 BK HS13 HB13 a1 a2 a3;generalize ((a4.setCell ⟨gb,0,none⟩ (.int .i64 (m:Int))).setCell ⟨gb,1,none⟩ (.int .i64 p.f1)).setCell ⟨gb,2,none⟩ (.int .i64 p.f2)=a0 at a5 HS2 HB2 ⊢;have b2:a0.cell? ⟨gb,0,none⟩=some (.int .i64 (m:Int)):=(zzk a5.out 0).trans rfl;have b3:a0.cell? ⟨gb,1,none⟩=some (.int .i64 p.f1):=(zzk a5.out 1).trans rfl;have b4:a0.cell? ⟨gb,2,none⟩=some (.int .i64 p.f2):=(zzk a5.out 2).trans rfl;have fz:∀ j,a0.frozen? ⟨g,j,none⟩=false:=HS2.out.free;have fz0:=fz (m * 4);have fz1:=fz (m * 4+1);have fz2:=fz (m * 4+2);have fz3:=fz (m * 4+3);clear fz;obtain ⟨vz0,hz0⟩:∃ v,a0.cell? ⟨g,m * 4,none⟩=some v:=⟨_,(HS2.out.at_ m hm2).1⟩;obtain ⟨vz1,hz1⟩:∃ v,a0.cell? ⟨g,m * 4+1,none⟩=some v:=⟨_,(HS2.out.at_ m hm2).2.1⟩;obtain ⟨vz2,hz2⟩:∃ v,a0.cell? ⟨g,m * 4+2,none⟩=some v:=⟨_,(HS2.out.at_ m hm2).2.2.1⟩;obtain ⟨vz3,hz3⟩:∃ v,a0.cell? ⟨g,m * 4+3,none⟩=some v:=⟨_,(HS2.out.at_ m hm2).2.2.2⟩;have hmi:(m:Int) < 255:=by omega
   have hmi0 : 0≤(m:Int):=by omega
   go_region;have HSF:=HasSlots.drew (HS2.out.put m hm2 true (m:Int) p.f1 p.f2);have HBF:=zzc (zzd (zzd (zzd (zzd HB2.out HG.out (j:=m * 4) (v:=.bool true)) HG.out (j:=m * 4+1) (v:=.int .i64 (m:Int))) HG.out (j:=m * 4+2) (v:=.int .i64 p.f1)) HG.out (j:=m * 4+3) (v:=.int .i64 p.f2));have heq:slotFn (l0.take (k+1))=fun k'=>if k' = m then ⟨true,(m:Int),p.f1,p.f2⟩ else slotFn (l0.take k) k':=by
    rw [HN.out];unfold slotPut;rw [hm,Int.toNat_natCast]
   rw [← heq] at HSF;have HSF':=zzm HSF;have HBF':=zzm HBF;clear HSF HBF heq hz0 hz1 hz2 hz3 fz0 fz1 fz2 fz3 b2 b3 b4 hm;go_wp2;go_roundw
   case rel=>exact ⟨k+1,by omega,by go_num,HSF',HBF'⟩
   case measure=>simp [intOf];omega
  ·
   have hk2:k=l0.length:=by omega
   subst hk2;rw [List.take_length] at HS;go_wp2;go_ret;exact ⟨g,rfl,HG.out,HS.out,HB.out⟩
def seqCode (s n:Int):Int:=if s < n then 1 else if s > n then 2 else 0
def codeAt (f:Nat→SlotV) (p e s:Int):Int:=
 if p=255 then 4 else if (f p.toNat).u=true then (if (f p.toNat).b > e then 3 else if (f p.toNat).b=e then seqCode s (f p.toNat).c else seqCode s 0) else seqCode s 0
set_option maxHeartbeats 8000000 in
theorem impl_slots_check.calls (g:Nat) (f:Nat→SlotV) (b0 b1:Bool) (b2 b3 b4:Int) (v5:Value) (a8:v5.oneCell' = true) (w:World) (hs:HasSlots w g f) (hb0 : 0≤b2) (hb1:b2≤255) :
  Calls Try.prog 34 #[.pointer (some ⟨g,0,none⟩),.agg #[.bool b0,.bool b1,.int .i64 b2,.int .i64 b3,.int .i64 b4,v5]] w fun e w'=>e = .returned (.int .i64 (codeAt f b2 b3 b4))∧Below w.heap.size w w':=by
 have HS:=zzm hs;have HB:=zzm (Below.refl w.heap.size w);obtain ⟨m,rfl⟩:∃ m:Nat,b2=(m:Int):=⟨b2.toNat,by omega⟩;clear hs hb0;by_cases h255:m=255
 ·
  subst h255;have hcode:codeAt f ((255:Nat):Int) b3 b4=4:=rfl;have HC:=zzm hcode;clear hcode;go_enter Try.func34,Try.ntmps34;go_wp2_with ((with_reducible refine gate_dst (N:=3) rfl ?_);refine box_event ?hg (N:=3) ?hd (cs:=#[.bool b0,.bool b1,.int .i64 ((255:Nat):Int),.int .i64 b3,.int .i64 b4,v5]) (t:=26) ?hr ?_;(case hd=>rfl);(case hg=>rfl);(case hr=>first|(go_simp;done)|(go_simp;rfl));intro gb hg w8 hbox hb;have HB1:=zzm (zzp HB.out hb);have a2:w8.cell? ⟨gb,2,none⟩=some (.int .i64 255):=(zzk hbox 2).trans rfl;have hf2:=zzl hbox 2;clear hb hbox hg);go_ret;exact ⟨by rw [HC.out];rfl,HB1.out⟩
 ·
  have hm2:m < 255:=by omega
  have hne:((m:Int)==255)=false:=by simp;omega
  go_enter Try.func34,Try.ntmps34;go_wp2_with ((with_reducible refine gate_dst (N:=3) rfl ?_);refine box_event ?hg (N:=3) ?hd (cs:=#[.bool b0,.bool b1,.int .i64 (m:Int),.int .i64 b3,.int .i64 b4,v5]) (t:=26) ?hr ?_;(case hd=>rfl);(case hg=>rfl);(case hr=>first|(go_simp;done)|(go_simp;rfl));intro gb hg w8 hbox hb;have HB1:=zzm (zzp HB.out hb);have HS1:=zzm (HS.out.below hb);have BK:=zzm hbox;have a2:w8.cell? ⟨gb,2,none⟩=some (.int .i64 (m:Int)):=(zzk hbox 2).trans rfl;have hf2:=zzl hbox 2;clear hb hbox hg);obtain ⟨a4,a5,a6,a7⟩:=HS1.out.at_ m hm2;have hg8:=HS1.out.lt;have hgb:=blk_lt BK.out;have hmi:(m:Int) < 255:=by omega
  have hmi0 : 0≤(m:Int):=by omega
  go_region;have HB9:=zzm (zzc (zza HB1.out (.cells #[.bool (f m).u,.int .i64 (f m).a,.int .i64 (f m).b,.int .i64 (f m).c] 69)));have a1:=zzm (zzg (blk_new w8 (.cells #[.bool (f m).u,.int .i64 (f m).a,.int .i64 (f m).b,.int .i64 (f m).c] 69)));have BG9:=zzm (zzg (zzh BK.out (zza (Below.refl _ _) (.cells #[.bool (f m).u,.int .i64 (f m).a,.int .i64 (f m).b,.int .i64 (f m).c] 69))));clear a4 a5 a6 a7 a2 hf2 hg8 hgb HB1 HS1 BK;generalize (w8.alloc (.cells #[.bool (f m).u,.int .i64 (f m).a,.int .i64 (f m).b,.int .i64 (f m).c] 69)).drew=w9 at HB9 a1 BG9 ⊢;generalize w8.heap.size=gs at a1 ⊢;have HC:∀ r,codeAt f (m:Int) b3 b4=r→Aside0 (codeAt f (m:Int) b3 b4=r):=fun r h=>⟨h⟩;have HF:codeAt f (m:Int) b3 b4=if (f m).u=true then (if (f m).b > b3 then 3 else if (f m).b=b3 then seqCode b4 (f m).c else seqCode b4 0) else seqCode b4 0:=by
   unfold codeAt;rw [if_neg (by omega),Int.toNat_natCast]
  clear HC;obtain ⟨r,a3⟩:∃ r,r=codeAt f (m:Int) b3 b4:=⟨_,rfl⟩;rw [← a3] at HF;have a0:=zzm a3;clear a3;obtain ⟨x,hx⟩:∃ x,x=f m:=⟨_,rfl⟩;rw [← hx] at a1 HF;try rw [← hx]
  clear hx;obtain ⟨u,a,b,c⟩:=x;have HF':=zzm HF;clear HF;have d0:w9.cell? ⟨gs,0,none⟩=some (.bool u):=(zzk a1.out 0).trans rfl;have d2:w9.cell? ⟨gs,2,none⟩=some (.int .i64 b):=(zzk a1.out 2).trans rfl;have d3:w9.cell? ⟨gs,3,none⟩=some (.int .i64 c):=(zzk a1.out 3).trans rfl;have e3:w9.cell? ⟨gb,3,none⟩=some (.int .i64 b3):=(zzk BG9.out 3).trans rfl;have e4:w9.cell? ⟨gb,4,none⟩=some (.int .i64 b4):=(zzk BG9.out 4).trans rfl;have fin:∀ n:Int,seqCode b4 n=if b4 < n then 1 else if b4 > n then 2 else 0:=fun n=>rfl;cases u with
  | false=>
   have hr:r=if b4 < 0 then 1 else if b4 > 0 then 2 else 0:=by have:=HF'.out;simpa [seqCode] using this
   have HR:=zzm hr;clear hr HF' fin;rcases Int.lt_trichotomy b4 0 with h|h|h
   ·
    have HE:=zzm (show r=1 by have:=HR.out;rw [if_pos h] at this;exact this);go_wp2;go_ret;exact ⟨by rw [← a0.out,HE.out];rfl,HB9.out⟩
   ·
    subst h;have HE:=zzm (show r=0 by have:=HR.out;simpa using this);go_wp2;go_ret;exact ⟨by rw [← a0.out,HE.out];rfl,HB9.out⟩
   ·
    have HE:=zzm (show r=2 by have:=HR.out;rw [if_neg (by omega),if_pos h] at this;exact this);have h1:decide (b4 < 0)=false:=by simp;omega
    have h2:decide (0 < b4)=true:=by simp;omega
    go_wp2;go_ret;exact ⟨by rw [← a0.out,HE.out];rfl,HB9.out⟩
  | true=>
   by_cases hgt:b3 < b
   ·
    have HE:=zzm (show r=3 by have:=HF'.out;simpa [hgt] using this);clear HF' fin;go_wp2;go_ret;exact ⟨by rw [← a0.out,HE.out];rfl,HB9.out⟩
   ·
    have hgt' : decide (b3 < b)=false:=by simp;omega
    by_cases heq:b=b3
    ·
     subst heq;have hr:r=if b4 < c then 1 else if b4 > c then 2 else 0:=by have:=HF'.out;simpa [seqCode] using this
     have HR:=zzm hr;clear hr HF' fin hgt hgt';rcases Int.lt_trichotomy b4 c with h|h|h
     ·
      have HE:=zzm (show r=1 by have:=HR.out;rw [if_pos h] at this;exact this);go_wp2;go_ret;exact ⟨by rw [← a0.out,HE.out];rfl,HB9.out⟩
     ·
      subst h;have HE:=zzm (show r=0 by have:=HR.out;simpa using this);go_wp2;go_ret;exact ⟨by rw [← a0.out,HE.out];rfl,HB9.out⟩
     ·
      have HE:=zzm (show r=2 by have:=HR.out;rw [if_neg (by omega),if_pos h] at this;exact this);have h1:decide (b4 < c)=false:=by simp;omega
      have h2:decide (c < b4)=true:=by simp;omega
      go_wp2;go_ret;exact ⟨by rw [← a0.out,HE.out];rfl,HB9.out⟩
    ·
     have heq' : (b==b3)=false:=by simpa using heq
     have hr:r=if b4 < 0 then 1 else if b4 > 0 then 2 else 0:=by have:=HF'.out;simpa [seqCode,hgt,heq] using this
     have HR:=zzm hr;clear hr HF' fin heq;rcases Int.lt_trichotomy b4 0 with h|h|h
     ·
      have HE:=zzm (show r=1 by have:=HR.out;rw [if_pos h] at this;exact this);go_wp2;go_ret;exact ⟨by rw [← a0.out,HE.out];rfl,HB9.out⟩
     ·
      subst h;have HE:=zzm (show r=0 by have:=HR.out;simpa using this);go_wp2;go_ret;exact ⟨by rw [← a0.out,HE.out];rfl,HB9.out⟩
     ·
      have HE:=zzm (show r=2 by have:=HR.out;rw [if_neg (by omega),if_pos h] at this;exact this);have h1:decide (b4 < 0)=false:=by simp;omega
      have h2:decide (0 < b4)=true:=by simp;omega
      go_wp2;go_ret;exact ⟨by rw [← a0.out,HE.out];rfl,HB9.out⟩
def slotList (f:Nat→SlotV) (n:Nat):List S67:=(List.range n).filterMap fun i=>if (f i).u=true then some ⟨(f i).a,(f i).b,(f i).c⟩ else none
theorem slotList_no (f:Nat→SlotV) (n:Nat) (h:(f n).u=false):slotList f (n+1)=slotList f n:=by
 simp [slotList,List.range_succ,List.filterMap_append,h]
theorem slotList_yes (f:Nat→SlotV) (n:Nat) (h:(f n).u=true):slotList f (n+1)=slotList f n ++ [⟨(f n).a,(f n).b,(f n).c⟩]:=by
 simp [slotList,List.range_succ,List.filterMap_append,h]
theorem slotList_len (f:Nat→SlotV) (n:Nat):(slotList f n).length≤n:=by
 have:=List.length_filterMap_le (fun i=>if (f i).u=true then some (⟨(f i).a,(f i).b,(f i).c⟩:S67) else none) (List.range n);rw [List.length_range] at this;exact this
set_option maxHeartbeats 8000000 in
theorem Ru.calls (g:Nat) (f:Nat→SlotV) (w:World) (hs:HasSlots w g f) :
  Calls Try.prog 35 #[.pointer (some ⟨g,0,none⟩)] w fun e w'=>∃ a5:Value,e = .returned a5∧Kd.R k67 67 w' w.heap.size (fun _=>True) a5 (slotList f 255)∧Below w.heap.size w w':=by
 have HS:=zzm hs;have HB:=zzm (Below.refl w.heap.size w);clear hs;obtain ⟨y,hy⟩:∃ y:List S67,y = []:=⟨_,rfl⟩;have Ny:=zzm hy;clear hy;go_enter Try.func35,Try.ntmps35;go_wp2_with ((with_reducible refine gate_dst (N:=6) rfl ?_);refine Kd.R_lit k67 _ 67 ?hg (N:=6) ?hd (xs:=([]:List (S67))) (inner:=[]) (ok:=fun _=>True) (okp:=fun _=>True) ?hr ?hp (fun _ hk=>hk) trivial (Below.refl _ _) (Nat.le_refl _) (by simp) ?_;(case hd=>rfl);(case hg=>rfl);(case hr=>first|(go_simp;done)|(go_simp;rfl));(case hp=>exact (Reps.none _ _));intro v1 w1 ho1 hb hg_ hnew_;clear hg_ hnew_;rw [← Ny.out] at ho1;have a6:=zzm (zzp HB.out hb);have a7:=zzm ho1;clear HB;have HB:=a6;have HO:=a7;clear a6 a7 hb ho1);go_loopw [3,9,5] (fun v i i5 W=>∃ k:Nat,k≤255∧i = .int .i64 k∧Aside0 (Kd.R k67 67 W w.heap.size (fun _=>True) v (slotList f k))∧Aside0 (Below w.heap.size w W)) (fun _ i _ _=>255 - (intOf i).toNat)
 case atStart=>exact ⟨0,Nat.zero_le _,rfl,⟨by rw [Ny.out] at HO;exact HO.out⟩,HB⟩
 case round=>
  obtain ⟨k,hk,rfl,HO,HB⟩:=hrel;by_cases hlt:k < 255
  ·
   obtain ⟨a8,a9,b0,b1⟩:=(HS.out.below HB.out).at_ k hlt;have HY:=zzm (slotList_yes f k);have HN:=zzm (slotList_no f k);obtain ⟨x,hx⟩:∃ x,x=f k:=⟨_,rfl⟩;rw [← hx] at a8 a9 b0 b1 HY HN;clear hx;obtain ⟨u,a,b,c⟩:=x;have hki:(k:Int) < 255:=by omega
   have hki0 : 0≤(k:Int):=by omega
   go_upto_region 5 with ((with_reducible refine gate_dst (N:=5) rfl ?_);refine box_event ?hg (N:=5) ?hd (cs:=#[.bool false,.int .i64 0,.int .i64 0,.int .i64 0]) (t:=69) ?hr ?_;(case hd=>rfl);(case hg=>rfl);(case hr=>first|(go_simp;done)|(go_simp;rfl));intro gb hg a1 hbox hb;have a3:=zzm (Kd.R_below (Kd.R_elderB HO.out gb (Nat.le_of_eq hg.symm)) hb);have HB13:=zzm (zzp HB.out hb);have BK:=zzm hbox;have GE:=zzm (show w.heap.size≤gb by rw [hg];exact HB.out.size);clear hb hbox hg;have b2:a1.cell? ⟨gb,0,none⟩=some (.bool false):=(zzk BK.out 0).trans rfl;have b3:a1.cell? ⟨gb,1,none⟩=some (.int .i64 0):=(zzk BK.out 1).trans rfl;have b4:a1.cell? ⟨gb,2,none⟩=some (.int .i64 0):=(zzk BK.out 2).trans rfl;have b5:a1.cell? ⟨gb,3,none⟩=some (.int .i64 0):=(zzk BK.out 3).trans rfl;have hf0:=zzl BK.out 0;have hf1:=zzl BK.out 1;have hf2:=zzl BK.out 2;have hf3:=zzl BK.out 3);have a0:=zzm (blk_set (blk_set (blk_set (blk_set BK.out 0 (.bool u)) 1 (.int .i64 a)) 2 (.int .i64 b)) 3 (.int .i64 c));have a4:=zzm (Kd.R_far (p:=⟨gb,3,none⟩) (Kd.R_far (p:=⟨gb,2,none⟩) (Kd.R_far (p:=⟨gb,1,none⟩) (Kd.R_far (p:=⟨gb,0,none⟩) a3.out (fun _ hk=>hk.2) (.bool u)) (fun _ hk=>hk.2) (.int .i64 a)) (fun _ hk=>hk.2) (.int .i64 b)) (fun _ hk=>hk.2) (.int .i64 c));have HB2:=zzm (zzd (zzd (zzd (zzd HB13.out GE.out (j:=0) (v:=.bool u)) GE.out (j:=1) (v:=.int .i64 a)) GE.out (j:=2) (v:=.int .i64 b)) GE.out (j:=3) (v:=.int .i64 c));clear b2 b3 b4 b5 hf0 hf1 hf2 hf3 BK a3 HB13 a8 a9 b0 b1;generalize (((a1.setCell ⟨gb,0,none⟩ (.bool u)).setCell ⟨gb,1,none⟩ (.int .i64 a)).setCell ⟨gb,2,none⟩ (.int .i64 b)).setCell ⟨gb,3,none⟩ (.int .i64 c)=a2 at a0 a4 HB2 ⊢;have d0:a2.cell? ⟨gb,0,none⟩=some (.bool u):=(zzk a0.out 0).trans rfl;have d1:a2.cell? ⟨gb,1,none⟩=some (.int .i64 a):=(zzk a0.out 1).trans rfl;have d2:a2.cell? ⟨gb,2,none⟩=some (.int .i64 b):=(zzk a0.out 2).trans rfl;have d3:a2.cell? ⟨gb,3,none⟩=some (.int .i64 c):=(zzk a0.out 3).trans rfl;have HL:=zzm (show (slotList f k).length < 255 by have:=slotList_len f k;omega);cases u with
   | false=>
    have HE:=zzm (HN.out rfl);clear HN HY;go_wp2;go_roundw
    case rel=>exact ⟨k+1,by omega,by go_num,⟨by rw [HE.out];exact Kd.R_mono a4.out (fun _ _=>trivial)⟩,HB2⟩
    case measure=>simp [intOf];omega
   | true=>
    have HE:=zzm (HY.out rfl);clear HN HY;go_wp2_with ((with_reducible refine gate_builtin (b:=.append) (xs:=#[.tmp 16,.tmp 19]) rfl ?_);at_builtin;refine Kd.R_append k67 (w0:=w) w.heap.size rfl (.tmp 16) (.tmp 19) 23 67 (.agg #[(.int .i64 0),(.int .i64 0),(.int .i64 0)]) 24 rfl Try.underlying23 info67 rfl (by decide) (by omega) u3 (slotList f k) (⟨a,b,c⟩:S67) [.int .i64 a,.int .i64 b,.int .i64 c] (fun k_=>k_≠gb) (fun _=>False) rfl (by first|(go_simp;done)|(go_simp;rfl)) ?aP (fun _ hk=>hk.elim) ?aF ?aO ?aB ?aS ?aL ?_;(case aP=>exact k67_mkM _ _ _ (⟨a,b,c⟩:S67));(case aB=>exact (by repeat (first|exact HB2.out|apply zza|apply zzc)));(case aF=>exact (fun k_ hk=>Kd.freshB (g:=gb) (zzE a0.out) k_ hk));(case aO=>exact (by (with_reducible repeat (first|apply Kd.R_alloc|apply Kd.R_drewN|apply Kd.R_drew));exact Kd.R_mono a4.out (fun _ hk=>hk.2)));(case aS=>exact (zzo (by repeat (first|exact HB2.out|apply zza|apply zzc))));(case aL=>have:=HL.out;omega);intro b7 b8 ho hb hg hat;rw [← HE.out] at ho;have b6:=zzm ho;have HB3:=zzm hb;clear ho hb hg hat);go_roundw
    case rel=>exact ⟨k+1,by omega,by go_num,⟨Kd.R_mono b6.out (fun _ _=>trivial)⟩,HB3⟩
    case measure=>simp [intOf];omega
  ·
   have hk2:k=255:=by omega
   subst hk2;go_wp2;go_ret;exact ⟨_,rfl,HO.out,HB.out⟩
def idsOk (l:List S67):Bool:=l.all fun t=>decide (0≤t.f0∧t.f0 < 255)
theorem idsOk_at {l:List S67} (h:idsOk l=true) (j:Nat) (hj:j < l.length) : 0≤(Qc l (j:Int)).f0∧(Qc l (j:Int)).f0 < 255:=by
 have h1:=List.all_eq_true.mp h _ (List.getElem_mem hj);have h2:Qc l (j:Int)=l[j]:=by simp [Qc,List.getD_eq_getElem?_getD,List.getElem?_eq_getElem hj]
 rw [h2];simpa using h1
def prodOk (l:List S67) (p:Int):Bool:=idsOk l&&decide (0≤p∧p≤255)
theorem prodOk_at {l:List S67} {p:Int} (h:prodOk l p=true):idsOk l=true∧0≤p∧p≤255:=by
 simpa [prodOk] using h
end Go.Proofs.Ytmophgccpnpgfaa.T
