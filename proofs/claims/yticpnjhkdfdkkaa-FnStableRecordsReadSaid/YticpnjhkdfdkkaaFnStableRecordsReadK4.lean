/- The law FnStableRecordsRead holds (part 5 of 7; merged by pack2.py). -/
import Derived.LaidEqlPtr
import Derived.Lib.Builder
import Derived.Lib.SliceRun
import Derived.Test.YticpnjhkdfdkkaaFnStableRecordsReadK3
open List (setIfInBounds_toArray set_cons_zero set_cons_succ map_toArray map_cons map_nil length_drop length_take)
namespace Go.Proofs.Yticpnjhkdfdkkaa.U
open Go.RowKit Go.Proofs.YticpnjhkdfdkkaaW.PrintWords Go.Proofs.YticpnjhkdfdkkaaW.PrintLast Go.Proofs.YticpnjhkdfdkkaaW.PrintMore
attribute [local go_sem] max2_int max_two
set_option linter.unusedVariables false
set_option linter.unusedSimpArgs false
abbrev rootCells (a c n:Nat):Array Value:=#[.pointer (some ⟨a,0,none⟩),.pointer (some ⟨c,0,none⟩),.pointer none,.nilIface,.int .i64 (n:Int)]
abbrev nodeCells (a c g v:Nat):Array Value:=#[.pointer (some ⟨a,0,none⟩),.pointer (some ⟨c,0,none⟩),.pointer (some ⟨g,0,none⟩),.iface 3 (.int .i64 (v:Int))]
structure IsList (w:World) (g:Nat) (r:Nat→Nat) (vs:List Nat):Prop where
 r0:r 0=g
 rn:r (vs.length+1)=g
 inj:∀ i j,i≤vs.length→j≤vs.length→r i=r j→i=j
 root:w.heap[g]? = some (.cells (rootCells (r 1) (r vs.length) vs.length) 116 (0,0))
 node:∀ j (h:j < vs.length),w.heap[r (j+1)]? = some (.cells (nodeCells (r (j+2)) (r j) g vs[j]) 105 (0,0))
theorem IsList.of_heap {w w1:World} {g:Nat} {r:Nat→Nat} {vs:List Nat} (h:IsList w g r vs) (hm:∀ i,i≤vs.length→w1.heap[r i]? = w.heap[r i]?):IsList w1 g r vs:=
 ⟨h.r0,h.rn,h.inj,by have:=hm 0 (Nat.zero_le _);rw [h.r0] at this;exact this.trans h.root,fun j hj=>(hm (j+1) hj).trans (h.node j hj)⟩
theorem IsList.lt {w:World} {g:Nat} {r:Nat→Nat} {vs:List Nat} (h:IsList w g r vs) (i:Nat) (hi:i≤vs.length):r i < w.heap.size:=by
 cases i with
 | zero=>rw [h.r0];exact blk_lt h.root
 | succ i=>exact blk_lt (h.node i hi)
theorem IsList.below {w w1:World} {g:Nat} {r:Nat→Nat} {vs:List Nat} (h:IsList w g r vs) (hb:Below w.heap.size w w1):IsList w1 g r vs:=h.of_heap fun i hi=>hb.block _ (h.lt i hi)
abbrev zeroRoot:Array Value:=#[.pointer none,.pointer none,.pointer none,.nilIface,.int .i64 0]
set_option maxHeartbeats 8000000 in
set_option maxRecDepth 100000 in
theorem list_Init.calls (g:Nat) (w:World) (hg:w.heap[g]? = some (.cells zeroRoot 116 (0,0))) :
  Calls Try.prog 102 #[.pointer (some ⟨g,0,none⟩)] w fun e w'=>e = .returned (.pointer (some ⟨g,0,none⟩))∧w'.heap[g]? = some (.cells (rootCells g g 0) 116 (0,0))∧∀ B,B≤g→Below B w w':=by
 have HG:=zzm hg;have hf0:=zzl hg 0;have hf1:=zzl hg 1;have hf4:=zzl hg 4;have hc0:w.cell? ⟨g,0,none⟩=some (.pointer none):=(zzk hg 0).trans rfl;have hc1:w.cell? ⟨g,1,none⟩=some (.pointer none):=(zzk hg 1).trans rfl;have hc4:w.cell? ⟨g,4,none⟩=some (.int .i64 0):=(zzk hg 4).trans rfl;clear hg;go_enter Try.func102,Try.ntmps102;go_wp2;go_ret;exact ⟨rfl,zzi (zzi (zzi HG.out 0 _ rfl) 1 _ rfl) 4 _ rfl,fun B hB=>(((Below.refl _ _).setCell (p:=⟨g,0,none⟩) hB _).setCell (p:=⟨g,1,none⟩) hB _).setCell (p:=⟨g,4,none⟩) hB _⟩
theorem alloc_root {o:Oper} (ρ:Operand→Value) (ho:o.op = .alloc 116) (W:World):(execOp ρ o).run Try.prog W = .ok (.value (.pointer (some ⟨W.heap.size,0,none⟩))) (W.alloc (.cells zeroRoot 116 (0,0))):=by
 obtain ⟨i0,hi,hz0,hz1,hz2⟩:=info_parts (show (Try.prog.info? 116).map (fun i=>(i.zero,i.size,i.bytes))=some (some (.agg zeroRoot),5,48) by kernel_rfl);have hz:(zeroValue 116).run Try.prog W = .ok (.agg zeroRoot) W:=by simp [zeroValue,typeInfo,hi,hz0,go_sem]
 obtain ⟨op,dst,guard,pos,x1,x2⟩:=o;subst ho;simp [execOp,Instr.alloc,hz,newVar,newRow,go_sem]
set_option maxHeartbeats 8000000 in
set_option maxRecDepth 100000 in
theorem list_New.calls (w:World) :
  Calls Try.prog 88 #[] w fun e w'=>∃ g r,e = .returned (.pointer (some ⟨g,0,none⟩))∧IsList w' g r []∧w.heap.size≤g∧Below w.heap.size w w':=by
 have HB:=zzm (Below.refl w.heap.size w);go_enter Try.func88,Try.ntmps88;go_wp2_with (first|((with_reducible refine gate_dst (N:=1) rfl ?_);refine box_event ?hg (N:=1) ?hd (cs:=zeroRoot) (t:=116) ?hr ?_;(case hd=>rfl);(case hg=>rfl);(case hr=>exact alloc_root _ rfl _);intro g hg w1 hbox hb;have BK:=zzm hbox;have HB0:=zzm (zzp HB.out hb);have HG:=zzm (show w.heap.size≤g by rw [hg];exact HB.out.size);clear hb hbox hg)|((with_reducible refine gate_callee (f:=102) rfl ?_);refine goesL_ (some 2) rfl rfl Try.func102 (by kernel_rfl) rfl #[.pointer (some ⟨g,0,none⟩)] rfl (by (try simp only [map_toArray,map_cons,map_nil]);first|done|rfl) ?_;(with_reducible refine (list_Init.calls _ _ BK.out).mono ?_);rintro e w9 ⟨rfl,hx,hb⟩;refine ⟨_,rfl,?_⟩;have BK2:=zzm hx;have HB2:=zzm (below_weaken HB0.out HG.out (hb _ (Nat.le_refl _)));clear hb hx));go_ret;refine ⟨g,fun _=>g,rfl,⟨rfl,rfl,fun i j hi hj _=>by simp at hi hj;omega,BK2.out,fun j h=>absurd h (by simp)⟩,HG.out,HB2.out⟩
theorem neq_ptr_other {w:World} {c g:Nat} {cc cg:Array Value} {tc tg:TypeId} (hne:c≠g) (hc:w.heap[c]? = some (.cells cc tc (0,0))) (hg:w.heap[g]? = some (.cells cg tg (0,0))) :
  (binOp .neq 101 (.pointer (some ⟨c,0,none⟩)) (.pointer (some ⟨g,0,none⟩))).run Try.prog w = .ok (.bool true) w:=by
 obtain ⟨i0,hi,hz0,hz1,hz2⟩:=info_parts (show (Try.prog.info? 105).map (fun i=>(i.zero,i.size,i.bytes))=some (some (.agg #[.pointer none,.pointer none,.pointer none,.nilIface]),4,40) by kernel_rfl);have hne' : (⟨c,0,none⟩:Addr)≠⟨g,0,none⟩:=fun e=>hne (by injection e);have h:∀ d:Nat,(Op.equalIn (d+1) 101 (.pointer (some ⟨c,0,none⟩)) (.pointer (some ⟨g,0,none⟩))).run Try.prog w = .ok false w:=fun d=>by
  simp [Op.equalIn,run_underlying Try.underlying101,sizeOf,typeInfo,hi,show i0.size≠0 by omega,run_sameAddr_other w hne' hc hg]
 simp only [binOp];simp [Op.equal,Op.maxDepth,h 9999]
theorem neq_ptr_same {w:World} {g:Nat} : (binOp .neq 101 (.pointer (some ⟨g,0,none⟩)) (.pointer (some ⟨g,0,none⟩))).run Try.prog w = .ok (.bool false) w:=by
 obtain ⟨i0,hi,hz0,hz1,hz2⟩:=info_parts (show (Try.prog.info? 105).map (fun i=>(i.zero,i.size,i.bytes))=some (some (.agg #[.pointer none,.pointer none,.pointer none,.nilIface]),4,40) by kernel_rfl);exact Lib.run_neq_ptr_same w _ Try.underlying101 hi
theorem eql_ptr_same {w:World} {g:Nat} : (binOp .eql 99 (.pointer (some ⟨g,0,none⟩)) (.pointer (some ⟨g,0,none⟩))).run Try.prog w = .ok (.bool true) w:=by
 obtain ⟨i0,hi,hz0,hz1,hz2⟩:=info_parts (show (Try.prog.info? 116).map (fun i=>(i.zero,i.size,i.bytes))=some (some (.agg zeroRoot),5,48) by kernel_rfl);exact run_eql_ptr_same w _ Try.underlying99 hi
set_option maxHeartbeats 8000000 in
set_option maxRecDepth 100000 in
theorem list_Front.calls (g:Nat) (r:Nat→Nat) (vs:List Nat) (w:World) (h:IsList w g r vs) (hn:vs.length < 1000000000000) :
  Calls Try.prog 90 #[.pointer (some ⟨g,0,none⟩)] w fun e w'=>e = .returned (.pointer (if 0 < vs.length then some ⟨r 1,0,none⟩ else none))∧Drawn0 w w':=by
 have hc0:w.cell? ⟨g,0,none⟩=some (.pointer (some ⟨r 1,0,none⟩)):=(zzk h.root 0).trans rfl;have hc4:w.cell? ⟨g,4,none⟩=some (.int .i64 (vs.length:Int)):=(zzk h.root 4).trans rfl;clear h;by_cases hz:vs.length=0
 ·rw [hz] at hc4
  rw [if_neg (by omega)];clear hz;go_enter Try.func90,Try.ntmps90;go_wp2;go_ret;exact ⟨rfl,by repeat (first|exact Drawn0.refl _|apply Drawn0.step)⟩
 ·have hz' : ((vs.length:Int)==0)=false:=by simpa using hz
  rw [if_pos (by omega)];clear hz;go_enter Try.func90,Try.ntmps90;go_wp2;go_ret;exact ⟨rfl,by repeat (first|exact Drawn0.refl _|apply Drawn0.step)⟩
set_option maxHeartbeats 8000000 in
set_option maxRecDepth 100000 in
theorem list_Next.calls (g:Nat) (r:Nat→Nat) (vs:List Nat) (w:World) (h:IsList w g r vs) (p:Nat) (hp:p < vs.length) :
  Calls Try.prog 91 #[.pointer (some ⟨r (p+1),0,none⟩)] w fun e w'=>e = .returned (.pointer (if p+1 < vs.length then some ⟨r (p+2),0,none⟩ else none))∧Drawn0 w w':=by
 have hc0:w.cell? ⟨r (p+1),0,none⟩=some (.pointer (some ⟨r (p+2),0,none⟩)):=(zzk (h.node p hp) 0).trans rfl;have hc2:w.cell? ⟨r (p+1),2,none⟩=some (.pointer (some ⟨g,0,none⟩)):=(zzk (h.node p hp) 2).trans rfl;by_cases hz:p+1 < vs.length
 ·have hne:r (p+2)≠g:=by
   intro e;have:=h.inj (p+2) 0 (by omega) (by omega) (by rw [e,h.r0]);omega
  rw [if_pos hz];have hq:=neq_ptr_other hne (h.node (p+1) hz) h.root;generalize r (p+2)=c at hc0 hne hq ⊢;generalize r (p+1)=b at hc0 hc2 ⊢;clear h hz;go_enter Try.func91,Try.ntmps91;go_wp2;go_ret;exact ⟨rfl,by repeat (first|exact Drawn0.refl _|apply Drawn0.step)⟩
 ·have he:r (p+2)=g:=by rw [show p+2=vs.length+1 by omega];exact h.rn
  rw [if_neg hz];have hq:=neq_ptr_same (w:=w) (g:=g);rw [he] at hc0;generalize r (p+1)=b at hc0 hc2 ⊢;clear h hz he;go_enter Try.func91,Try.ntmps91;go_wp2;go_ret;exact ⟨rfl,by repeat (first|exact Drawn0.refl _|apply Drawn0.step)⟩
set_option maxHeartbeats 8000000 in
set_option maxRecDepth 100000 in
theorem list_lazyInit.calls (g:Nat) (r:Nat→Nat) (vs:List Nat) (w:World) (h:IsList w g r vs) :
  Calls Try.prog 103 #[.pointer (some ⟨g,0,none⟩)] w fun e w'=>e = .returned (.tuple #[])∧Drawn0 w w':=by
 have hc0:w.cell? ⟨g,0,none⟩=some (.pointer (some ⟨r 1,0,none⟩)):=(zzk h.root 0).trans rfl;generalize r 1=c at hc0;clear h;go_enter Try.func103,Try.ntmps103;go_wp2;go_end0;exact ⟨rfl,by repeat (first|exact Drawn0.refl _|apply Drawn0.step)⟩
abbrev freshNode (v:Nat):Array Value:=#[.pointer none,.pointer none,.pointer none,.iface 3 (.int .i64 (v:Int))]
def insW (w:World) (g a b n:Nat):World:=(((((w.setCell ⟨b,1,none⟩ (.pointer (some ⟨a,0,none⟩))).setCell ⟨b,0,none⟩ (.pointer (some ⟨g,0,none⟩))).setCell ⟨a,0,none⟩ (.pointer (some ⟨b,0,none⟩))).setCell ⟨g,1,none⟩ (.pointer (some ⟨b,0,none⟩))).setCell ⟨b,2,none⟩ (.pointer (some ⟨g,0,none⟩))).setCell ⟨g,4,none⟩ (.int .i64 ((n:Int)+1))
set_option maxHeartbeats 8000000 in
set_option maxRecDepth 100000 in
theorem insert_core (w:World) (g a b n:Nat) (x4:Value) (hb0:w.cell? ⟨b,0,none⟩=some (.pointer none)) (hb1:w.cell? ⟨b,1,none⟩=some (.pointer none)) (hb2:w.cell? ⟨b,2,none⟩=some (.pointer none)) (ha0:w.cell? ⟨a,0,none⟩=some (.pointer (some ⟨g,0,none⟩))) (hg1:w.cell? ⟨g,1,none⟩=some x4) (hg4:w.cell? ⟨g,4,none⟩=some (.int .i64 (n:Int)))
  (fb0:w.frozen? ⟨b,0,none⟩=false) (fb1:w.frozen? ⟨b,1,none⟩=false) (fb2:w.frozen? ⟨b,2,none⟩=false) (fa0:w.frozen? ⟨a,0,none⟩=false) (fg1:w.frozen? ⟨g,1,none⟩=false) (fg4:w.frozen? ⟨g,4,none⟩=false)
  (hgb:g≠b) (hab:a≠b) (hw:wrap64 ((n:Int)+1)=(n:Int)+1) :
  Calls Try.prog 111 #[.pointer (some ⟨g,0,none⟩),.pointer (some ⟨b,0,none⟩),.pointer (some ⟨a,0,none⟩)] w fun e w'=>e = .returned (.pointer (some ⟨b,0,none⟩))∧w' = insW w g a b n:=by
 have hbg:b≠g:=fun e=>hgb e.symm;have hba:b≠a:=fun e=>hab e.symm;by_cases hag:a=g
 ·subst hag
  go_enter Try.func111,Try.ntmps111;go_wp2;go_ret;exact ⟨rfl,rfl⟩
 ·have hga:g≠a:=fun e=>hag e.symm
  go_enter Try.func111,Try.ntmps111;go_wp2;go_ret;exact ⟨rfl,rfl⟩
def rAdd (r:Nat→Nat) (n b g:Nat):Nat→Nat:=fun i=>if i≤n then r i else if i=n+1 then b else g
theorem far_eq {w:World} {k:Nat} {p:Addr} {u:Value} {o:Option Obj} (hne:k≠p.block) (h:w.heap[k]? = o):(w.setCell p u).heap[k]? = o:=(Below.heap_setCell w p u k hne).trans h
theorem insW_far {w:World} {g a b n k:Nat} (h1:k≠g) (h2:k≠a) (h3:k≠b):(insW w g a b n).heap[k]? = w.heap[k]?:=
 far_eq h1 (far_eq h3 (far_eq h1 (far_eq h2 (far_eq h3 (far_eq h3 rfl)))))
theorem insW_b {w:World} {g a b n v:Nat} (hgb:g≠b) (hab:a≠b) (h:w.heap[b]? = some (.cells (freshNode v) 105 (0,0))):(insW w g a b n).heap[b]? = some (.cells (nodeCells g a g v) 105 (0,0)):=
 far_eq (Ne.symm hgb) (zzi (far_eq (Ne.symm hgb) (far_eq (Ne.symm hab) (zzi (zzi h 1 _ rfl) 0 _ rfl))) 2 _ rfl)
theorem insW_g {w:World} {g a b n c d:Nat} (hgb:g≠b) (hga:g≠a) (h:w.heap[g]? = some (.cells (rootCells c d n) 116 (0,0))):(insW w g a b n).heap[g]? = some (.cells (rootCells c b (n+1)) 116 (0,0)):=
 zzi (far_eq hgb (zzi (far_eq hga (far_eq hgb (far_eq hgb h))) 1 _ rfl)) 4 _ rfl
theorem insW_g0 {w:World} {g b n c d:Nat} (hgb:g≠b) (h:w.heap[g]? = some (.cells (rootCells c d n) 116 (0,0))):(insW w g g b n).heap[g]? = some (.cells (rootCells b b (n+1)) 116 (0,0)):=
 zzi (far_eq hgb (zzi (zzi (far_eq hgb (far_eq hgb h)) 0 _ rfl) 1 _ rfl)) 4 _ rfl
theorem insW_a {w:World} {g a b n c d v:Nat} (hag:a≠g) (hab:a≠b) (h:w.heap[a]? = some (.cells (nodeCells c d g v) 105 (0,0))):(insW w g a b n).heap[a]? = some (.cells (nodeCells b d g v) 105 (0,0)):=
 far_eq hag (far_eq hab (far_eq hag (zzi (far_eq hab (far_eq hab h)) 0 _ rfl)))
theorem insW_size {w:World} {g a b n:Nat} : (insW w g a b n).heap.size=w.heap.size:=by simp [insW]
theorem insW_list {w:World} {g:Nat} {r:Nat→Nat} {vs:List Nat} {v b:Nat} (h:IsList w g r vs) (hb:w.heap[b]? = some (.cells (freshNode v) 105 (0,0))) (hbn:∀ i,i≤vs.length→r i≠b):IsList (insW w g (r vs.length) b vs.length) g (rAdd r vs.length b g) (vs ++ [v]):=by
 have hgb:g≠b:=by have:=hbn 0 (Nat.zero_le _);rwa [h.r0] at this
 have hlen:(vs ++ [v]).length=vs.length+1:=by simp
 refine ⟨?_,?_,?_,?_,?_⟩
 ·unfold rAdd;rw [if_pos (Nat.zero_le _)];exact h.r0
 ·unfold rAdd;rw [hlen,if_neg (by omega),if_neg (by omega)]
 ·intro i j hi hj he
  rw [hlen] at hi hj;unfold rAdd at he;by_cases h1:i≤vs.length
  ·by_cases h2:j≤vs.length
   ·rw [if_pos h1,if_pos h2] at he;exact h.inj i j h1 h2 he
   ·rw [if_pos h1,if_neg h2,if_pos (by omega)] at he;exact absurd he (hbn i h1)
  ·by_cases h2:j≤vs.length
   ·rw [if_neg h1,if_pos (by omega),if_pos h2] at he;exact absurd he.symm (hbn j h2)
   ·omega
 ·rw [hlen]
  unfold rAdd;rw [if_neg (show ¬ vs.length+1≤vs.length by omega),if_pos rfl];by_cases hz:vs.length=0
  ·rw [if_neg (by omega),if_pos (by omega)]
   have:r vs.length=g:=by rw [hz];exact h.r0
   rw [this];exact insW_g0 hgb h.root
  ·rw [if_pos (by omega)]
   have hga:g≠r vs.length:=fun e=>hz (h.inj vs.length 0 (Nat.le_refl _) (Nat.zero_le _) (by rw [h.r0];exact e.symm));exact insW_g hgb hga h.root
 ·intro j hj
  rw [hlen] at hj;by_cases hl:j=vs.length
  ·subst hl
   have e1:(vs ++ [v])[vs.length]'(by simp)=v:=by simp
   rw [e1];unfold rAdd;rw [if_neg (show ¬ vs.length+1≤vs.length by omega),if_pos rfl,if_neg (show ¬ vs.length+2≤vs.length by omega),if_neg (show ¬ vs.length+2=vs.length+1 by omega),if_pos (Nat.le_refl _)];exact insW_b hgb (hbn _ (Nat.le_refl _)) hb
  ·have hj' : j < vs.length:=by omega
   have e1:(vs ++ [v])[j]'(by simp;omega)=vs[j]:=by simp [List.getElem_append,hj']
   rw [e1];have hne0:r (j+1)≠g:=fun e=>by have:=h.inj (j+1) 0 (by omega) (Nat.zero_le _) (by rw [h.r0];exact e);omega
   unfold rAdd;rw [if_pos (show j+1≤vs.length by omega),if_pos (show j≤vs.length by omega)];by_cases hlast:j+1=vs.length
   ·rw [if_neg (show ¬ j+2≤vs.length by omega),if_pos (show j+2=vs.length+1 by omega)]
    have h3:=h.node j hj';rw [hlast] at h3 hne0 ⊢;exact insW_a hne0 (hbn _ (Nat.le_refl _)) h3
   ·rw [if_pos (show j+2≤vs.length by omega)]
    refine (insW_far hne0 (fun e=>?_) (hbn _ (by omega))).trans (h.node j hj');have:=h.inj (j+1) vs.length (by omega) (Nat.le_refl _) e;omega
theorem insW_below {w:World} {B g a b n:Nat} (h1:B≤g) (h2:B≤a) (h3:B≤b):Below B w (insW w g a b n):=
 ((((((Below.refl _ _).setCell (p:=⟨b,1,none⟩) h3 _).setCell (p:=⟨b,0,none⟩) h3 _).setCell (p:=⟨a,0,none⟩) h2 _).setCell (p:=⟨g,1,none⟩) h1 _).setCell (p:=⟨b,2,none⟩) h3 _).setCell (p:=⟨g,4,none⟩) h1 _
theorem list_insert.calls (g:Nat) (r:Nat→Nat) (vs:List Nat) (v b:Nat) (w:World) (h:IsList w g r vs) (hn:vs.length < 1000000000000) (hb:w.heap[b]? = some (.cells (freshNode v) 105 (0,0))) (hbn:∀ i,i≤vs.length→r i≠b) :
  Calls Try.prog 111 #[.pointer (some ⟨g,0,none⟩),.pointer (some ⟨b,0,none⟩),.pointer (some ⟨r vs.length,0,none⟩)] w fun e w'=>e = .returned (.pointer (some ⟨b,0,none⟩))∧w' = insW w g (r vs.length) b vs.length:=by
 have hgb:g≠b:=by have:=hbn 0 (Nat.zero_le _);rwa [h.r0] at this
 have ha0:w.cell? ⟨r vs.length,0,none⟩=some (.pointer (some ⟨g,0,none⟩))∧w.frozen? ⟨r vs.length,0,none⟩=false:=by
  by_cases hz:vs.length=0
  ·have e0:r vs.length=g:=by rw [hz];exact h.r0
   have e1:r 1=g:=by have:=h.rn;rwa [hz] at this
   have h1:=(zzk h.root 0).trans rfl;rw [e1] at h1;rw [e0];exact ⟨h1,zzl h.root 0⟩
  ·obtain ⟨m,hm⟩:∃ m,vs.length=m+1:=⟨vs.length - 1,by omega⟩
   have h2:=h.node m (by omega);have h1:=(zzk h2 0).trans rfl;have e1:r (m+2)=g:=by have:=h.rn;rwa [hm] at this
   rw [e1] at h1;rw [hm];exact ⟨h1,zzl h2 0⟩
 exact insert_core w g (r vs.length) b vs.length _ ((zzk hb 0).trans rfl) ((zzk hb 1).trans rfl) ((zzk hb 2).trans rfl) ha0.1 ((zzk h.root 1).trans rfl) ((zzk h.root 4).trans rfl) (zzl hb 0) (zzl hb 1) (zzl hb 2) ha0.2 (zzl h.root 1) (zzl h.root 4) hgb (hbn _ (Nat.le_refl _)) (by unfold wrap64;omega)
theorem IsList.fresh {w:World} {g:Nat} {r:Nat→Nat} {vs:List Nat} (h:IsList w g r vs) {b:Nat} (hb:w.heap.size≤b):∀ i,i≤vs.length→r i≠b:=fun i hi e=>by have:=h.lt i hi;omega
def ListKept (w w' : World) (r:Nat→Nat) (n:Nat):Prop:=Kept w w' (fun k=>∃ i,i≤n∧k=r i)
theorem kept_ins {w w1:World} {g b:Nat} {r:Nat→Nat} {n:Nat} (hr0:r 0=g) (hb:Below w.heap.size w w1) (hbs:w.heap.size≤b):ListKept w (insW w1 g (r n) b n) r n:=by
 refine ⟨by rw [insW_size];exact hb.size,fun k hk hS=>?_⟩;refine (insW_far (fun e=>hS ⟨0,Nat.zero_le _,by rw [hr0];exact e⟩) (fun e=>hS ⟨n,Nat.le_refl _,e⟩) (by omega)).trans (hb.block k hk)
set_option maxHeartbeats 8000000 in
set_option maxRecDepth 100000 in
theorem list_insertValue.calls (g:Nat) (r:Nat→Nat) (vs:List Nat) (v:Nat) (w:World) (h:IsList w g r vs) (hn:vs.length < 1000000000000) :
  Calls Try.prog 104 #[.pointer (some ⟨g,0,none⟩),.iface 3 (.int .i64 (v:Int)),.pointer (some ⟨r vs.length,0,none⟩)] w fun e w'=>∃ b,e = .returned (.pointer (some ⟨b,0,none⟩))∧w.heap.size≤b∧IsList w' g (rAdd r vs.length b g) (vs ++ [v])∧ListKept w w' r vs.length∧∀ B,B≤w.heap.size→(∀ i,i≤vs.length→B≤r i)→Below B w w':=by
 have HL:=zzm h;have HN:=zzm hn;have HB:=zzm (Below.refl w.heap.size w);have HR0:=zzm h.r0;clear hn h;generalize ha:r vs.length=a;have HA:=zzm ha;clear ha;go_enter Try.func104,Try.ntmps104;go_wp2_with (first|((with_reducible refine gate_dst (N:=10) rfl ?_);refine box_event ?hg (N:=10) ?hd (cs:=freshNode v) (t:=105) ?hr ?_;(case hd=>rfl);(case hg=>rfl);(case hr=>first|(go_simp;done)|(go_simp;rfl));intro b hg w1 hbox hb;have BK:=zzm hbox;have HB0:=zzm (zzp HB.out hb);have HG:=zzm (show w.heap.size≤b by rw [hg];exact HB.out.size);have HL1:=zzm (HL.out.below hb);clear hb hbox hg)|((with_reducible refine gate_callee (f:=111) rfl ?_);refine goesL_ (some 12) rfl rfl Try.func111 (by kernel_rfl) rfl #[.pointer (some ⟨g,0,none⟩),.pointer (some ⟨b,0,none⟩),.pointer (some ⟨a,0,none⟩)] rfl (by (try simp only [map_toArray,map_cons,map_nil]);first|done|rfl) ?_;rw [← HA.out];(with_reducible refine (list_insert.calls g r vs v b _ HL1.out HN.out BK.out (HL.out.fresh HG.out)).mono ?_);rintro e w9 ⟨rfl,hx⟩;refine ⟨_,rfl,?_⟩;have HX:=zzm hx;clear hx));go_ret;have hL:=HL.out;refine ⟨b,rfl,HG.out,?_,?_,?_⟩
 ·rw [HX.out];exact insW_list HL1.out BK.out (hL.fresh HG.out)
 ·rw [HX.out];exact kept_ins HR0.out HB0.out HG.out
 ·intro B hB hi
  rw [HX.out];exact (HB0.out.mono hB).trans (insW_below (by rw [← HR0.out];exact hi 0 (Nat.zero_le _)) (hi _ (Nat.le_refl _)) (Nat.le_trans hB HG.out))
set_option maxHeartbeats 8000000 in
set_option maxRecDepth 100000 in
theorem list_PushBack.calls (g:Nat) (r:Nat→Nat) (vs:List Nat) (v:Nat) (w:World) (h:IsList w g r vs) (hn:vs.length < 1000000000000) :
  Calls Try.prog 89 #[.pointer (some ⟨g,0,none⟩),.iface 3 (.int .i64 (v:Int))] w fun e w'=>∃ b,e = .returned (.pointer (some ⟨b,0,none⟩))∧w.heap.size≤b∧IsList w' g (rAdd r vs.length b g) (vs ++ [v])∧ListKept w w' r vs.length∧∀ B,B≤w.heap.size→(∀ i,i≤vs.length→B≤r i)→Below B w w':=by
 have HL:=zzm h;have HN:=zzm hn;have hc1:w.cell? ⟨g,1,none⟩=some (.pointer (some ⟨r vs.length,0,none⟩)):=(zzk h.root 1).trans rfl;clear hn h;generalize ha:r vs.length=a at hc1;have HA:=zzm ha;clear ha;go_enter Try.func89,Try.ntmps89;go_wp2_with (first|((with_reducible refine gate_callee (f:=103) rfl ?_);refine goesL_ (some 6) rfl rfl Try.func103 (by kernel_rfl) rfl #[.pointer (some ⟨g,0,none⟩)] rfl (by (try simp only [map_toArray,map_cons,map_nil]);first|done|rfl) ?_;(with_reducible refine (list_lazyInit.calls g r vs _ HL.out).mono ?_);rintro e w9 ⟨rfl,hd⟩;refine ⟨_,rfl,?_⟩;obtain ⟨m,rfl⟩:=hd.out;have HL1:=zzm (show IsList (w.drewN m) g r vs from HL.out.below (zzb (Below.refl _ _) m));clear hd)|((with_reducible refine gate_callee (f:=104) rfl ?_);refine goesL_ (some 14) rfl rfl Try.func104 (by kernel_rfl) rfl #[.pointer (some ⟨g,0,none⟩),.iface 3 (.int .i64 (v:Int)),.pointer (some ⟨a,0,none⟩)] rfl (by (try simp only [map_toArray,map_cons,map_nil]);first|done|rfl) ?_;rw [← HA.out];(with_reducible refine (list_insertValue.calls g r vs v _ HL1.out HN.out).mono ?_);rintro e w9 ⟨b,rfl,hx⟩;refine ⟨_,rfl,?_⟩;have HX:=zzm hx;clear hx));go_ret;obtain ⟨h1,h2,h3,h4⟩:=HX.out;exact ⟨b,rfl,h1,h2,h3,fun B h5 h6=>(zzb (Below.refl _ _) m).trans (h4 B h5 h6)⟩
def remW (w:World) (g a b c n:Nat):World:=(((((w.setCell ⟨a,0,none⟩ (.pointer (some ⟨c,0,none⟩))).setCell ⟨c,1,none⟩ (.pointer (some ⟨a,0,none⟩))).setCell ⟨b,0,none⟩ (.pointer none)).setCell ⟨b,1,none⟩ (.pointer none)).setCell ⟨b,2,none⟩ (.pointer none)).setCell ⟨g,4,none⟩ (.int .i64 ((n:Int) - 1))
set_option maxHeartbeats 8000000 in
set_option maxRecDepth 100000 in
theorem remove_core (w:World) (g a b c n:Nat) (x2 x4 x5:Value) (hb0:w.cell? ⟨b,0,none⟩=some (.pointer (some ⟨c,0,none⟩))) (hb1:w.cell? ⟨b,1,none⟩=some (.pointer (some ⟨a,0,none⟩))) (hb2:w.cell? ⟨b,2,none⟩=some x2) (ha0:w.cell? ⟨a,0,none⟩=some x4) (hc1:w.cell? ⟨c,1,none⟩=some x5) (hg4:w.cell? ⟨g,4,none⟩=some (.int .i64 (n:Int)))
  (fb0:w.frozen? ⟨b,0,none⟩=false) (fb1:w.frozen? ⟨b,1,none⟩=false) (fb2:w.frozen? ⟨b,2,none⟩=false) (fa0:w.frozen? ⟨a,0,none⟩=false) (fc1:w.frozen? ⟨c,1,none⟩=false) (fg4:w.frozen? ⟨g,4,none⟩=false)
  (hgb:g≠b) (hab:a≠b) (hcb:c≠b) (hag:a=g∨a≠g) (hcg:c=g∨c≠g) (hac:a=c∨a≠c) (h3:a=c→a=g) (hw:wrap64 ((n:Int) - 1)=(n:Int) - 1) :
  Calls Try.prog 106 #[.pointer (some ⟨g,0,none⟩),.pointer (some ⟨b,0,none⟩)] w fun e w'=>e = .returned (.tuple #[])∧w' = (remW w g a b c n).drew.drew:=by
 have hbg:b≠g:=fun e=>hgb e.symm;have hba:b≠a:=fun e=>hab e.symm;have hbc:b≠c:=fun e=>hcb e.symm;rcases hac with rfl|hac
 ·rcases hag with rfl|hag
  ·clear hcg
   go_enter Try.func106,Try.ntmps106;go_wp2;go_region;go_wp2;go_region;go_wp2;go_end0;exact ⟨rfl,rfl⟩
  ·exact absurd (h3 rfl) hag
 ·have hca:c≠a:=fun e=>hac e.symm
  rcases hag with rfl|hag
  ·clear hcg
   go_enter Try.func106,Try.ntmps106;go_wp2;go_region;go_wp2;go_region;go_wp2;go_end0;exact ⟨rfl,rfl⟩
  ·have hga:g≠a:=fun e=>hag e.symm
   rcases hcg with rfl|hcg
   ·go_enter Try.func106,Try.ntmps106
    go_wp2;go_region;go_wp2;go_region;go_wp2;go_end0;exact ⟨rfl,rfl⟩
   ·have hgc:g≠c:=fun e=>hcg e.symm
    go_enter Try.func106,Try.ntmps106;go_wp2;go_region;go_wp2;go_region;go_wp2;go_end0;exact ⟨rfl,rfl⟩
section
variable {w:World} {g a b c n k x y d v:Nat}
theorem remW_far (h1:k≠g) (h2:k≠a) (h3:k≠b) (h4:k≠c):(remW w g a b c n).heap[k]? = w.heap[k]?:=
 far_eq h1 (far_eq h3 (far_eq h3 (far_eq h3 (far_eq h4 (far_eq h2 rfl)))))
theorem remW_size:(remW w g a b c n).heap.size=w.heap.size:=by simp [remW]
theorem cast_pred:(.int .i64 (((n+1:Nat):Int) - 1):Value) = .int .i64 (n:Int):=by
 congr 1;omega
theorem remW_g (hgb:g≠b) (hga:g≠a) (hgc:g≠c) (h:w.heap[g]? = some (.cells (rootCells x y (n+1)) 116 (0,0))):(remW w g a b c (n+1)).heap[g]? = some (.cells (rootCells x y n) 116 (0,0)):=
 zzi (far_eq hgb (far_eq hgb (far_eq hgb (far_eq hgc (far_eq hga h))))) 4 _ (by rw [cast_pred];rfl)
theorem remW_ga (hgb:g≠b) (hgc:g≠c) (h:w.heap[g]? = some (.cells (rootCells x y (n+1)) 116 (0,0))):(remW w g g b c (n+1)).heap[g]? = some (.cells (rootCells c y n) 116 (0,0)):=
 zzi (far_eq hgb (far_eq hgb (far_eq hgb (far_eq hgc (zzi h 0 _ rfl))))) 4 _ (by rw [cast_pred];rfl)
theorem remW_gc (hgb:g≠b) (hga:g≠a) (h:w.heap[g]? = some (.cells (rootCells x y (n+1)) 116 (0,0))):(remW w g a b g (n+1)).heap[g]? = some (.cells (rootCells x a n) 116 (0,0)):=
 zzi (far_eq hgb (far_eq hgb (far_eq hgb (zzi (far_eq hga h) 1 _ rfl)))) 4 _ (by rw [cast_pred];rfl)
theorem remW_gg (hgb:g≠b) (h:w.heap[g]? = some (.cells (rootCells x y (n+1)) 116 (0,0))):(remW w g g b g (n+1)).heap[g]? = some (.cells (rootCells g g n) 116 (0,0)):=
 zzi (far_eq hgb (far_eq hgb (far_eq hgb (zzi (zzi h 0 _ rfl) 1 _ rfl)))) 4 _ (by rw [cast_pred];rfl)
theorem remW_a (hag:a≠g) (hab:a≠b) (hac:a≠c) (h:w.heap[a]? = some (.cells (nodeCells x y d v) 105 (0,0))):(remW w g a b c n).heap[a]? = some (.cells (nodeCells c y d v) 105 (0,0)):=
 far_eq hag (far_eq hab (far_eq hab (far_eq hab (far_eq hac (zzi h 0 _ rfl)))))
theorem remW_c (hcg:c≠g) (hcb:c≠b) (hca:c≠a) (h:w.heap[c]? = some (.cells (nodeCells x y d v) 105 (0,0))):(remW w g a b c n).heap[c]? = some (.cells (nodeCells x a d v) 105 (0,0)):=
 far_eq hcg (far_eq hcb (far_eq hcb (far_eq hcb (zzi (far_eq hca h) 1 _ rfl))))
theorem remW_v (hbg:b≠g) (hba:b≠a) (hbc:b≠c) (h:w.heap[b]? = some (.cells (nodeCells x y d v) 105 (0,0))):(remW w g a b c n).cell? ⟨b,3,none⟩=some (.iface 3 (.int .i64 (v:Int))):=by
 have h1:(remW w g a b c n).heap[b]? = some (.cells #[.pointer none,.pointer none,.pointer none,.iface 3 (.int .i64 (v:Int))] 105 (0,0)):=far_eq hbg (zzi (zzi (zzi (far_eq hbc (far_eq hba h)) 0 _ rfl) 1 _ rfl) 2 _ rfl);exact (zzk h1 3).trans rfl
theorem remW_below {B:Nat} (h1:B≤g) (h2:B≤a) (h3:B≤b) (h4:B≤c):Below B w (remW w g a b c n):=
 ((((((Below.refl _ _).setCell (p:=⟨a,0,none⟩) h2 _).setCell (p:=⟨c,1,none⟩) h4 _).setCell (p:=⟨b,0,none⟩) h3 _).setCell (p:=⟨b,1,none⟩) h3 _).setCell (p:=⟨b,2,none⟩) h3 _).setCell (p:=⟨g,4,none⟩) h1 _
end
def rRem (r:Nat→Nat) (p:Nat):Nat→Nat:=fun i=>if i≤p then r i else r (i+1)
theorem IsList.ne_root {w:World} {g:Nat} {r:Nat→Nat} {vs:List Nat} (h:IsList w g r vs) {i:Nat} (h0 : 0 < i) (hi:i≤vs.length):r i≠g:=fun e=>by
 have:=h.inj i 0 hi (Nat.zero_le _) (by rw [h.r0];exact e)
 omega
theorem IsList.ne_of {w:World} {g:Nat} {r:Nat→Nat} {vs:List Nat} (h:IsList w g r vs) {i j:Nat} (hi:i≤vs.length) (hj:j≤vs.length+1) (hne:i≠j) (h0:i=0→j≠vs.length+1):r i≠r j:=fun e=>by
 by_cases hl:j=vs.length+1
 ·rw [hl,h.rn] at e
  by_cases hz:i=0
  ·exact h0 hz hl
  ·exact h.ne_root (by omega) hi e
 ·exact hne (h.inj i j hi (by omega) e)
theorem remW_list {w:World} {g:Nat} {r:Nat→Nat} {vs:List Nat} (h:IsList w g r vs) (p:Nat) (hp:p < vs.length):IsList (remW w g (r p) (r (p+1)) (r (p+2)) vs.length) g (rRem r p) (vs.eraseIdx p):=by
 obtain ⟨m,hm⟩:∃ m,vs.length=m+1:=⟨vs.length - 1,by omega⟩;have hlen:(vs.eraseIdx p).length=m:=by rw [List.length_eraseIdx_of_lt hp];omega
 have hgb:g≠r (p+1):=(h.ne_root (by omega) (by omega)).symm;refine ⟨?_,?_,?_,?_,?_⟩
 ·unfold rRem;rw [if_pos (Nat.zero_le _)];exact h.r0
 ·unfold rRem;rw [hlen,if_neg (by omega)];have:=h.rn;rwa [hm] at this
 ·intro i j hi hj he
  rw [hlen] at hi hj;unfold rRem at he;by_cases h1:i≤p
  ·by_cases h2:j≤p
   ·rw [if_pos h1,if_pos h2] at he;exact h.inj i j (by omega) (by omega) he
   ·rw [if_pos h1,if_neg h2] at he;have:=h.inj i (j+1) (by omega) (by omega) he;omega
  ·by_cases h2:j≤p
   ·rw [if_neg h1,if_pos h2] at he;have:=h.inj (i+1) j (by omega) (by omega) he;omega
   ·rw [if_neg h1,if_neg h2] at he;have:=h.inj (i+1) (j+1) (by omega) (by omega) he;omega
 ·rw [hlen,hm]
  have hroot:=h.root;rw [hm] at hroot;unfold rRem;by_cases h1:p=0
  ·subst h1
   rw [if_neg (show ¬ 1≤0 by omega)];by_cases h2:m=0
   ·subst h2
    rw [if_pos (Nat.le_refl _)];have e1:r (0+2)=g:=by have:=h.rn;rwa [hm] at this
    rw [e1,h.r0];exact remW_gg hgb hroot
   ·rw [if_neg (show ¬ m≤0 by omega),h.r0]
    exact remW_ga hgb (h.ne_root (show 0 < 0+2 by omega) (by omega)).symm hroot
  ·rw [if_pos (show 1≤p by omega)]
   by_cases h2:p=m
   ·subst h2
    rw [if_pos (Nat.le_refl _)];have e1:r (p+2)=g:=by have:=h.rn;rwa [hm] at this
    rw [e1];exact remW_gc hgb (h.ne_root (by omega) (by omega)).symm hroot
   ·rw [if_neg (show ¬ m≤p by omega)]
    exact remW_g hgb (h.ne_root (by omega) (by omega)).symm (h.ne_root (by omega) (by omega)).symm hroot
 ·intro j hj
  rw [hlen] at hj;rw [List.getElem_eraseIdx];unfold rRem;by_cases h1:j+1≤p
  ·rw [dif_pos (show j < p by omega),if_pos h1,if_pos (show j≤p by omega)]
   have hj':=h.node j (by omega);have n1:r (j+1)≠g:=h.ne_root (by omega) (by omega);have n2:r (j+1)≠r (p+1):=h.ne_of (by omega) (by omega) (by omega) (by omega);have n3:r (j+1)≠r (p+2):=h.ne_of (by omega) (by omega) (by omega) (by omega);by_cases h2:j+1=p
   ·rw [if_neg (show ¬ j+2≤p by omega)]
    subst h2;exact remW_a n1 n2 n3 hj'
   ·rw [if_pos (show j+2≤p by omega)]
    exact (remW_far n1 (h.ne_of (by omega) (by omega) (by omega) (by omega)) n2 n3).trans hj'
  ·rw [dif_neg (show ¬ j < p by omega),if_neg h1,if_neg (show ¬ j+2≤p by omega)]
   have hj':=h.node (j+1) (by omega);have n1:r (j+2)≠g:=h.ne_root (by omega) (by omega);have n2:r (j+2)≠r (p+1):=h.ne_of (by omega) (by omega) (by omega) (by omega);have n3:r (j+2)≠r p:=h.ne_of (by omega) (by omega) (by omega) (by omega);by_cases h2:j=p
   ·rw [if_pos (show j≤p by omega)]
    subst h2;exact remW_c n1 n2 n3 hj'
   ·rw [if_neg (show ¬ j≤p by omega)]
    exact (remW_far n1 n3 n2 (h.ne_of (by omega) (by omega) (by omega) (by omega))).trans hj'
theorem IsList.drew {w:World} {g:Nat} {r:Nat→Nat} {vs:List Nat} (h:IsList w g r vs):IsList w.drew g r vs:=⟨h.r0,h.rn,h.inj,h.root,h.node⟩
theorem heap_drew2 (W:World):W.drew.drew.heap=W.heap:=rfl
theorem cell_drew2 (W:World) (a:Addr):W.drew.drew.cell? a=W.cell? a:=rfl
set_option maxHeartbeats 8000000 in
set_option maxRecDepth 100000 in
theorem list_Remove.calls (g:Nat) (r:Nat→Nat) (vs:List Nat) (p:Nat) (w:World) (h:IsList w g r vs) (hn:vs.length < 1000000000000) (hp:p < vs.length) :
  Calls Try.prog 93 #[.pointer (some ⟨g,0,none⟩),.pointer (some ⟨r (p+1),0,none⟩)] w fun e w'=>e = .returned (.iface 3 (.int .i64 (vs[p]:Int)))∧IsList w' g (rRem r p) (vs.eraseIdx p)∧ListKept w w' r vs.length∧∀ B,(∀ i,i≤vs.length→B≤r i)→Below B w w':=by
 have hb:=h.node p hp;have hb2:w.cell? ⟨r (p+1),2,none⟩=some (.pointer (some ⟨g,0,none⟩)):=(zzk hb 2).trans rfl;have hgb:g≠r (p+1):=(h.ne_root (by omega) (by omega)).symm;have hba:r (p+1)≠r p:=h.ne_of (by omega) (by omega) (by omega) (by omega);have hbc:r (p+1)≠r (p+2):=h.ne_of (by omega) (by omega) (by omega) (by omega);have hlast:p+2=vs.length+1→r (p+2)=g:=fun e=>by rw [e];exact h.rn
 have hfirst:p=0→r p=g:=fun e=>by rw [e];exact h.r0
 have ha:(∃ x,w.cell? ⟨r p,0,none⟩=some x)∧w.frozen? ⟨r p,0,none⟩=false:=by
  by_cases hz:p=0
  ·rw [hfirst hz];exact ⟨⟨_,(zzk h.root 0).trans rfl⟩,zzl h.root 0⟩
  ·have h2:=h.node (p - 1) (by omega)
   rw [show p - 1+1=p by omega] at h2;exact ⟨⟨_,(zzk h2 0).trans rfl⟩,zzl h2 0⟩
 have hc:(∃ x,w.cell? ⟨r (p+2),1,none⟩=some x)∧w.frozen? ⟨r (p+2),1,none⟩=false:=by
  by_cases hz:p+2=vs.length+1
  ·rw [hlast hz];exact ⟨⟨_,(zzk h.root 1).trans rfl⟩,zzl h.root 1⟩
  ·have h2:=h.node (p+1) (by omega)
   exact ⟨⟨_,(zzk h2 1).trans rfl⟩,zzl h2 1⟩
 obtain ⟨⟨x4,ha0⟩,fa0⟩:=ha;obtain ⟨⟨x5,hc1⟩,fc1⟩:=hc;have hac:r p=r (p+2)→r p=g:=fun e=>by
  by_cases hz:p=0
  ·exact hfirst hz
  ·exact absurd e (h.ne_of (by omega) (by omega) (by omega) (by omega))
 have core:=remove_core w g (r p) (r (p+1)) (r (p+2)) vs.length _ _ _ ((zzk hb 0).trans rfl) ((zzk hb 1).trans rfl) hb2 ha0 hc1 ((zzk h.root 4).trans rfl) (zzl hb 0) (zzl hb 1) (zzl hb 2) fa0 fc1 (zzl h.root 4) hgb hba.symm hbc.symm (Decidable.em _) (Decidable.em _) (Decidable.em _) hac (by unfold wrap64;omega);have hL:IsList (remW w g (r p) (r (p+1)) (r (p+2)) vs.length).drew.drew g (rRem r p) (vs.eraseIdx p):=(remW_list h p hp).drew.drew;have hK:ListKept w (remW w g (r p) (r (p+1)) (r (p+2)) vs.length).drew.drew r vs.length:=by
  refine ⟨by rw [World.size_drew,World.size_drew,remW_size];exact Nat.le_refl _,fun k hk hS=>?_⟩;rw [heap_drew2];refine remW_far (fun e=>hS ⟨0,Nat.zero_le _,by rw [h.r0];exact e⟩) (fun e=>hS ⟨p,by omega,e⟩) (fun e=>hS ⟨p+1,by omega,e⟩) (fun e=>?_);by_cases hz:p+2=vs.length+1
  ·exact hS ⟨0,Nat.zero_le _,by rw [h.r0,e];exact hlast hz⟩
  ·exact hS ⟨p+2,by omega,e⟩
 have hB:∀ B,(∀ i,i≤vs.length→B≤r i)→Below B w (remW w g (r p) (r (p+1)) (r (p+2)) vs.length).drew.drew:=fun B hi=>by
  have h0:B≤g:=by rw [← h.r0];exact hi 0 (Nat.zero_le _)
  refine (remW_below h0 (hi _ (by omega)) (hi _ (by omega)) ?_).drew.drew;by_cases hz:p+2=vs.length+1
  ·rw [hlast hz];exact h0
  ·exact hi _ (by omega)
 have hv:(remW w g (r p) (r (p+1)) (r (p+2)) vs.length).drew.drew.cell? ⟨r (p+1),3,none⟩=some (.iface 3 (.int .i64 (vs[p]:Int))):=by rw [cell_drew2];exact remW_v hgb.symm hba hbc hb
 have hq:=eql_ptr_same (w:=w) (g:=g);have CO:=zzm core;have HR:=zzm (And.intro hL (And.intro hK hB));clear core hL hK hB ha0 fa0 hc1 fc1 hac hlast hfirst hgb hba hbc hb h hn;generalize (remW w g (r p) (r (p+1)) (r (p+2)) vs.length).drew.drew=W at CO HR hv;generalize r (p+1)=b at CO HR hv hb2 ⊢;generalize vs[p]=v at hv ⊢;go_enter Try.func93,Try.ntmps93;go_wp2_with ((with_reducible refine gate_callee (f:=106) rfl ?_);refine goesL_ (some 13) rfl rfl Try.func106 (by kernel_rfl) rfl #[.pointer (some ⟨g,0,none⟩),.pointer (some ⟨b,0,none⟩)] rfl (by (try simp only [map_toArray,map_cons,map_nil]);first|done|rfl) ?_;(with_reducible refine CO.out.mono ?_);rintro e w9 ⟨rfl,hx⟩;refine ⟨_,rfl,?_⟩;rw [← hx] at hv HR;clear hx);go_ret;exact ⟨rfl,HR.out.1,HR.out.2.1,HR.out.2.2⟩
def ints (l:List Int):Array Value:=(l.map fun x=>Value.int .i64 x).toArray
theorem ints_at {l:List Int} {i:Nat} (h:i < l.length):(ints l)[i]? = some (.int .i64 (l.getD i 0)):=by
 simp [ints,List.getD_eq_getElem?_getD,h]
theorem ints_set (l:List Int) (i:Nat) (x:Int):(ints l).setIfInBounds i (.int .i64 x)=ints (l.set i x):=by
 simp [ints,List.map_set]
structure FSt where
 ws:List Int
 bs:List Int
 op:List Nat
def tellsP (b:S27):Bool:=decide ((rd_T34 b.f5 0).f5 = [1])
def fin1 (l:List S27) (i:Nat) (s:FSt) (k:Nat):FSt:=
 if (rd_T27 l (k:Int)).f2=(rd_T27 l (i:Int)).f2 then ⟨s.ws.set k (if tellsP (rd_T27 l (i:Int))=true then 1 else 2),s.bs.set k (i:Int),s.op⟩ else ⟨s.ws,s.bs,s.op ++ [k]⟩
def fstep (l:List S27) (s:FSt) (i:Nat):FSt:=
 if (rd_T27 l (i:Int)).f2=255 then ⟨s.ws.set i 1,s.bs.set i (-1),s.op⟩
 else if (rd_T27 l (i:Int)).f1=false then ⟨s.ws,s.bs.set i (-1),s.op ++ [i]⟩
 else s.op.foldl (fin1 l i) ⟨s.ws.set i 3,s.bs.set i (-1),[]⟩
def fates0 (n:Nat):FSt:=⟨List.replicate n 0,List.replicate n 0,[]⟩
def fatesTo (l:List S27) (k:Nat):FSt:=(List.range k).foldl (fstep l) (fates0 l.length)
theorem fatesTo_succ (l:List S27) (k:Nat):fatesTo l (k+1)=fstep l (fatesTo l k) k:=by
 unfold fatesTo;rw [List.range_succ,List.foldl_append];rfl
structure FOk (n:Nat) (m:Nat) (s:FSt):Prop where
 lw:s.ws.length=n
 lb:s.bs.length=n
 lo:s.op.length≤m
 op:∀ x∈s.op,x < n
theorem FOk.fin1 {n m:Nat} {s:FSt} (h:FOk n m s) (l:List S27) (i k:Nat) (hk:k < n):FOk n (m+1) (fin1 l i s k):=by
 unfold Yticpnjhkdfdkkaa.U.fin1;split
 ·exact ⟨by simpa using h.lw,by simpa using h.lb,by have:=h.lo;simp only;omega,h.op⟩
 ·refine ⟨h.lw,h.lb,by have:=h.lo;simp;omega,fun x hx=>?_⟩
  rcases List.mem_append.1 hx with hx|hx
  ·exact h.op x hx
  ·rw [List.mem_singleton.1 hx];exact hk
theorem FOk.mono {n m m' : Nat} {s:FSt} (h:FOk n m s) (hm:m≤m'):FOk n m' s:=⟨h.lw,h.lb,Nat.le_trans h.lo hm,h.op⟩
theorem FOk.fold {n:Nat} (l:List S27) (i:Nat):∀ (xs:List Nat) (m:Nat) (s:FSt),FOk n m s→(∀ x∈xs,x < n)→FOk n (m+xs.length) (xs.foldl (Yticpnjhkdfdkkaa.U.fin1 l i) s)
 | [],_,_,h,_=>h
 | x::xs,m,s,h,hx=>by
  have:=FOk.fold l i xs (m+1) _ (h.fin1 l i x (hx x (by simp))) (fun y hy=>hx y (by simp [hy]))
  rw [List.foldl_cons,List.length_cons,show m+(xs.length+1)=m+1+xs.length by omega]
  exact this
theorem FOk.step {n m:Nat} {s:FSt} (h:FOk n m s) (l:List S27) (i:Nat) (hi:i < n):FOk n (m+1) (fstep l s i):=by
 unfold fstep;split
 ·exact ⟨by simpa using h.lw,by simpa using h.lb,by have:=h.lo;simp only;omega,h.op⟩
 ·split
  ·refine ⟨h.lw,by simpa using h.lb,by have:=h.lo;simp;omega,fun x hx=>?_⟩
   rcases List.mem_append.1 hx with hx|hx
   ·exact h.op x hx
   ·rw [List.mem_singleton.1 hx];exact hi
  ·have:=FOk.fold l i s.op 0 ⟨s.ws.set i 3,s.bs.set i (-1),[]⟩ ⟨by simpa using h.lw,by simpa using h.lb,by simp,by simp⟩ h.op
   exact this.mono (by have:=h.lo;omega)
theorem fates_ok (l:List S27):∀ k,k≤l.length→FOk l.length k (fatesTo l k)
 | 0,_=>⟨by simp [fatesTo,fates0],by simp [fatesTo,fates0],by simp [fatesTo,fates0],by simp [fatesTo,fates0]⟩
 | k+1,h=>by
  rw [fatesTo_succ]
  exact (fates_ok l k (by omega)).step l k (by omega)
structure FS (w W:World) (n g2 g3 gW gB gl:Nat) (r:Nat→Nat) (s:FSt):Prop where
 ok:FOk n n s
 res:W.heap[g2]? = some (.cells #[.slice none 0 0,.slice none 0 0] 72 (0,0))
 f:W.heap[g3]? = some (.cells #[.slice (some ⟨gW,0,none⟩) n n,.slice (some ⟨gB,0,none⟩) n n] 72 (0,0))
 ww:W.heap[gW]? = some (.cells (ints s.ws) 74 (0,0))
 bb:W.heap[gB]? = some (.cells (ints s.bs) 3 (0,0))
 l:IsList W gl r s.op
 n23:g2≠g3
 below:Below w.heap.size w W
 ge2:w.heap.size≤g2
 ge3:w.heap.size≤g3
 geW:w.heap.size≤gW
 geB:w.heap.size≤gB
 geL:∀ i,i≤s.op.length→w.heap.size≤r i
theorem IsList.ne_ty {W:World} {g x t:Nat} {r:Nat→Nat} {vs:List Nat} {cs:Array Value} (h:IsList W g r vs) (hx:W.heap[x]? = some (.cells cs t (0,0))) (h1 : 116≠t) (h2 : 105≠t):∀ i,i≤vs.length→r i≠x
 | 0,_=>by rw [h.r0];exact blk_ne h.root hx h1
 | i+1,hi=>blk_ne (h.node i hi) hx h2
section
variable {w W W' : World} {n g2 g3 gW gB gl:Nat} {r:Nat→Nat} {s:FSt}
theorem FS.mono (h:FS w W n g2 g3 gW gB gl r s) (hb:Below W.heap.size W W'):FS w W' n g2 g3 gW gB gl r s:=
 ⟨h.ok,zzh h.res hb,zzh h.f hb,zzh h.ww hb,zzh h.bb hb,h.l.below hb,h.n23,zzp h.below hb,h.ge2,h.ge3,h.geW,h.geB,h.geL⟩
theorem FS.setW (h:FS w W n g2 g3 gW gB gl r s) (k:Nat) (x:Int):FS w (W.setCell ⟨gW,k,none⟩ (.int .i64 x)) n g2 g3 gW gB gl r ⟨s.ws.set k x,s.bs,s.op⟩:=
  ⟨⟨by simpa using h.ok.lw,h.ok.lb,h.ok.lo,h.ok.op⟩,zzj h.res (blk_ne h.res h.ww (by decide)) _,zzj h.f (blk_ne h.f h.ww (by decide)) _,zzi h.ww k _ (ints_set _ _ _),zzj h.bb (blk_ne h.bb h.ww (by decide)) _,
   h.l.of_heap (fun i hi=>Below.heap_setCell _ _ _ _ (h.l.ne_ty h.ww (by decide) (by decide) i hi)),h.n23,zzd h.below h.geW,h.ge2,h.ge3,h.geW,h.geB,h.geL⟩
theorem FS.setB (h:FS w W n g2 g3 gW gB gl r s) (k:Nat) (x:Int):FS w (W.setCell ⟨gB,k,none⟩ (.int .i64 x)) n g2 g3 gW gB gl r ⟨s.ws,s.bs.set k x,s.op⟩:=
  ⟨⟨h.ok.lw,by simpa using h.ok.lb,h.ok.lo,h.ok.op⟩,zzj h.res (blk_ne h.res h.bb (by decide)) _,zzj h.f (blk_ne h.f h.bb (by decide)) _,zzj h.ww (blk_ne h.ww h.bb (by decide)) _,zzi h.bb k _ (ints_set _ _ _),
   h.l.of_heap (fun i hi=>Below.heap_setCell _ _ _ _ (h.l.ne_ty h.bb (by decide) (by decide) i hi)),h.n23,zzd h.below h.geB,h.ge2,h.ge3,h.geW,h.geB,h.geL⟩
theorem kept_at {r:Nat→Nat} {m x t:Nat} {cs:Array Value} {gl:Nat} {vs:List Nat} (hl:IsList W gl r vs) (hk:ListKept W W' r vs.length) (hx:W.heap[x]? = some (.cells cs t (0,0))) (h1 : 116≠t) (h2 : 105≠t):W'.heap[x]? = some (.cells cs t (0,0)):=
 (hk.2 x (blk_lt hx) (fun ⟨i,hi,he⟩=>hl.ne_ty hx h1 h2 i hi he.symm)).trans hx
theorem FS.list (h:FS w W n g2 g3 gW gB gl r s) {r' : Nat→Nat} {op' : List Nat} (hl:IsList W' gl r' op') (hk:ListKept W W' r s.op.length) (hb:Below w.heap.size W W') (hr:∀ i,i≤op'.length→w.heap.size≤r' i) (ho:op'.length≤n) (hx:∀ x∈op',x < n):FS w W' n g2 g3 gW gB gl r' ⟨s.ws,s.bs,op'⟩:=
 ⟨⟨h.ok.lw,h.ok.lb,ho,hx⟩,kept_at (m:=0) h.l hk h.res (by decide) (by decide),kept_at (m:=0) h.l hk h.f (by decide) (by decide),kept_at (m:=0) h.l hk h.ww (by decide) (by decide),kept_at (m:=0) h.l hk h.bb (by decide) (by decide),hl,h.n23,h.below.trans hb,h.ge2,h.ge3,h.geW,h.geB,hr⟩
theorem FS.cellW (h:FS w W n g2 g3 gW gB gl r s) (k:Nat) (hk:k < n):(∃ v,W.cell? ⟨gW,k,none⟩=some v)∧W.frozen? ⟨gW,k,none⟩=false:=
 ⟨⟨_,(zzk h.ww k).trans (ints_at (by rw [h.ok.lw];exact hk))⟩,zzl h.ww k⟩
theorem FS.cellB (h:FS w W n g2 g3 gW gB gl r s) (k:Nat) (hk:k < n):(∃ v,W.cell? ⟨gB,k,none⟩=some v)∧W.frozen? ⟨gB,k,none⟩=false:=
 ⟨⟨_,(zzk h.bb k).trans (ints_at (by rw [h.ok.lb];exact hk))⟩,zzl h.bb k⟩
theorem FS.f0 (h:FS w W n g2 g3 gW gB gl r s):W.cell? ⟨g3,0,none⟩=some (.slice (some ⟨gW,0,none⟩) n n):=(zzk h.f 0).trans rfl
theorem FS.f1 (h:FS w W n g2 g3 gW gB gl r s):W.cell? ⟨g3,1,none⟩=some (.slice (some ⟨gB,0,none⟩) n n):=(zzk h.f 1).trans rfl
theorem ints_R {e:Nat} {l:List Int} {g base:Nat} (h:W.heap[g]? = some (.cells (ints l) e (0,0))) (hg:base≤g) (hm:l.length≤maxLen):(Kd.int .i64).R e W base (fun _=>True) (.slice (some ⟨g,0,none⟩) l.length l.length) l:=by
 refine Kd.R_of_own ?_ (fun _ _=>trivial);refine ⟨by simp [encs],.inr ⟨g,l.length,ints l,rfl,hg,h,Nat.le_refl _,hm,by simp [ints],?_⟩⟩;simp [ints,encs];rw [← List.map_take,List.take_length]
end
theorem eq_loop (a b:List Int) (hl:a.length=b.length) (hm:a.length≤9223372036854775807):∀ (d i:Nat),a.length - i=d→i≤a.length→∀ k,d < k→slices_Equal_int_int.l0 k a b (a.length:Int) (i:Int)=some (decide (a.drop i=b.drop i)):=by
 intro d;induction d with
 | zero=>
  intro i hd hi k hk;obtain ⟨k,rfl⟩:∃ k',k=k' + 1:=⟨k - 1,by omega⟩;rw [show a.drop i = [] from List.drop_eq_nil_of_le (by omega),show b.drop i = [] from List.drop_eq_nil_of_le (by omega)];simp only [slices_Equal_int_int.l0,if_neg (show ¬ (i:Int) < (a.length:Int) by omega),decide_true]
 | succ d ih=>
  intro i hd hi k hk;obtain ⟨k,rfl⟩:∃ k',k=k' + 1:=⟨k - 1,by omega⟩;have e1:wrap64 ((i:Int)+1)=((i+1:Nat):Int):=by unfold wrap64;omega
  have r1:∀ l:List Int,i < l.length→l.drop i=rd l (i:Int)::l.drop (i+1):=fun l h=>by
   rw [List.drop_eq_getElem_cons h];simp [rd,List.getD_eq_getElem?_getD,List.getElem?_eq_getElem h]
  rw [r1 a (by omega),r1 b (by omega)];simp only [slices_Equal_int_int.l0,if_pos (show (i:Int) < (a.length:Int) by omega),if_pos (show (0:Int)≤i by omega),if_pos (show (i:Int) < (b.length:Int) by omega),e1];by_cases h0:rd a i=rd b i
  ·rw [if_pos h0,ih (i+1) (by omega) (by omega) k (by omega)]
   simp [h0]
  ·rw [if_neg h0,decide_eq_false (by simp [h0])]
theorem eq_f (a b:List Int) (hm:a.length≤9223372036854775807):slices_Equal_int_int.f (a.length+1) a b=some (decide (a=b)):=by
 unfold slices_Equal_int_int.f;by_cases h:(a.length:Int)=(b.length:Int)
 ·rw [if_pos h]
  have:=eq_loop a b (by omega) hm a.length 0 (by omega) (by omega) (a.length+1) (by omega);simpa using this
 ·rw [if_neg h,decide_eq_false (fun e=>h (by rw [e]))]
theorem tells_calls (b0 b1:Bool) (b2 b3 b4:Int) (A5:Option Addr) (c5:Nat) (l5:List S34) (w:World) (hr:Kd.C k34 w A5 l5.length l5) (hc:l5.length≤c5) (hp : 0 < l5.length) :
  Calls Try.prog 92 #[.agg #[.bool b0,.bool b1,.int .i64 b2,.int .i64 b3,.int .i64 b4,.slice A5 l5.length c5]] w fun e w'=>e = .returned (.bool (decide ((rd_T34 l5 0).f5 = [1])))∧Below w.heap.size w w':=by
 obtain ⟨_,_,_,_,_,_,_,_,_,_,_,_,_,_,_,g5⟩:=at_T34 hr 0 (by omega) (by omega);have hm:=Kd.C_max g5;refine impl_Batch_tells.calls ((rd_T34 l5 0).f5.length+1) b0 b1 b2 b3 b4 A5 c5 l5 _ w hr hc ?_;unfold impl_Batch_tells.f;rw [if_pos (show (0:Int) < (l5.length:Int) by omega),eq_f _ _ hm];rfl
theorem made_ints (n:Nat):madeCells (Value.int .i64 0).cells n=ints (List.replicate n 0):=by
 apply Array.ext
 ·simp [madeCells,ints]
 ·intro i h1 h2
  have:i % 1=0:=by omega
  simp [madeCells,ints,Value.cells,this]
theorem make70 (n:Nat) (hn:n≤1000000) (W:World):(Instr.makeSlice 70 (.int .i64 (n:Int)) (.int .i64 (n:Int))).run Try.prog W = .ok (.slice (some ⟨W.heap.size,0,none⟩) n n) (W.alloc (.cells (ints (List.replicate n 0)) 74 (0,0))):=by
 obtain ⟨i0,hi,hz0,hz1,hz2⟩:=info_parts (show (Try.prog.info? 74).map (fun i=>(i.zero,i.size,i.bytes))=some (some (.int .i64 0),1,8) by kernel_rfl);have:=run_make (P:=Try.prog) W 70 74 i0 _ Try.underlying70 hi hz0 .i64 .i64 (n:Int) (n:Int) (by omega) (by omega) (by rw [hz2];omega) (by omega);rw [this,hz1,Nat.mul_one,Int.toNat_natCast,made_ints]
theorem make32 (n:Nat) (hn:n≤1000000) (W:World):(Instr.makeSlice 32 (.int .i64 (n:Int)) (.int .i64 (n:Int))).run Try.prog W = .ok (.slice (some ⟨W.heap.size,0,none⟩) n n) (W.alloc (.cells (ints (List.replicate n 0)) 3 (0,0))):=by
 obtain ⟨i0,hi,hz0,hz1,hz2⟩:=info_parts info3;have:=run_make (P:=Try.prog) W 32 3 i0 _ Try.underlying32 hi hz0 .i64 .i64 (n:Int) (n:Int) (by omega) (by omega) (by rw [hz2];omega) (by omega);rw [this,hz1,Nat.mul_one,Int.toNat_natCast,made_ints]
theorem al3_0 (W:World) (a b c:Obj):(((W.alloc a).alloc b).alloc c).heap[W.heap.size]? = some a:=zze (zze (blk_new W a) b) c
theorem al3_1 (W:World) (a b c:Obj):(((W.alloc a).alloc b).alloc c).heap[W.heap.size+1]? = some b:=by
 have:=blk_new (W.alloc a) b;rw [World.size_alloc] at this;exact zze this c
theorem al3_2 (W:World) (a b c:Obj):(((W.alloc a).alloc b).alloc c).heap[W.heap.size+1+1]? = some c:=by
 have:=blk_new ((W.alloc a).alloc b) c;rw [World.size_alloc,World.size_alloc] at this;exact this
theorem assert_int (x:Int) (W:World):(Instr.typeAssert (.iface 3 (.int .i64 x)) 20 3 false).run Try.prog W = .ok (.int .i64 x) W:=by
 simp [Instr.typeAssert,run_underlying Try.underlying3]
set_option maxHeartbeats 8000000 in
set_option maxRecDepth 100000 in
theorem impl_fatesOf.core (A0:Option Addr) (c0:Nat) (l0:List S27) (w:World) (hr0:Kd.C k27 w A0 l0.length l0) (hc0:l0.length≤c0) (hn:l0.length≤1000000) (hp:∀ j:Nat,j < l0.length→0 < (rd_T27 l0 (j:Int)).f5.length) :
  Calls Try.prog 62 #[.slice A0 l0.length c0] w fun e w'=>∃ v1 v2:Value,e = .returned (.agg #[v1,v2])∧Kd.R (Kd.int .i64) 74 w' w.heap.size (fun _=>True) v1 (fatesTo l0 l0.length).ws∧Kd.R (Kd.int .i64) 3 w' w.heap.size (fun _=>True) v2 (fatesTo l0 l0.length).bs∧Below w.heap.size w w':=by
 have HR:=zzm hr0;have HN:=zzm hn;have HP:=zzm hp;have HB:=zzm (Below.refl w.heap.size w);have hm1:=make70 l0.length hn;have hm2:=make32 l0.length hn;clear hr0 hc0 hn hp;go_enter Try.func62,Try.ntmps62;go_upto_region 1 with ((with_reducible refine gate_dst (N:=2) rfl ?_);refine box_event ?hg (N:=2) ?hd (cs:=#[.slice none 0 0,.slice none 0 0]) (t:=72) ?hr ?_;(case hd=>rfl);(case hg=>rfl);(case hr=>first|(go_simp;done)|(go_simp;rfl));intro g2 hg w1 hbox hb;have HB1:=zzm (zzp HB.out hb);have BK1:=zzm hbox;have GE1:=zzm (show w.heap.size≤g2 by rw [hg];exact HB.out.size);clear hb hbox hg);refine wp_mono (Q:=fun e a' W=>match e with | .normal=>∃ gW gB g3:Nat,a' = ⟨#[.slice A0 l0.length c0,undef,.pointer (some ⟨g2,0,none⟩),.pointer (some ⟨g3,0,none⟩),undef,undef,undef,undef,undef,undef,.slice A0 l0.length c0,.int .i64 (l0.length:Int),.slice (some ⟨gW,0,none⟩) l0.length l0.length,.slice A0 l0.length c0,.int .i64 (l0.length:Int),.slice (some ⟨gB,0,none⟩) l0.length l0.length,.agg #[.slice (some ⟨gW,0,none⟩) l0.length l0.length,.slice (some ⟨gB,0,none⟩) l0.length l0.length],undef,undef,undef,undef,undef,undef,undef,undef,undef,undef,undef,undef,undef,undef,undef,undef,undef,undef,undef,undef,undef,undef,undef,undef,undef,undef,undef,undef,undef,undef,undef,undef,undef,undef,undef,undef,undef,undef,undef,undef,undef,undef,undef,undef,undef,undef,undef,undef,undef,undef,undef,undef,undef,undef,undef,undef,undef,undef,undef,undef,undef,undef,undef,undef,undef,undef,undef,undef,undef,undef,undef,undef],[]⟩∧Aside0 (W.heap[g2]? = some (.cells #[.slice none 0 0,.slice none 0 0] 72 (0,0)))∧Aside0 (W.heap[g3]? = some (.cells #[.slice (some ⟨gW,0,none⟩) l0.length l0.length,.slice (some ⟨gB,0,none⟩) l0.length l0.length] 72 (0,0)))∧Aside0 (W.heap[gW]? = some (.cells (ints (List.replicate l0.length 0)) 74 (0,0)))∧Aside0 (W.heap[gB]? = some (.cells (ints (List.replicate l0.length 0)) 3 (0,0)))∧Aside0 (Below w.heap.size w W)∧Aside0 (w.heap.size≤g3∧w.heap.size≤gW∧w.heap.size≤gB∧g2≠g3)|_=>False) ?_ ?_
 ·refine wp_region_any (by kernel_rfl) ?_
  change wpAny _ _ _ _ _ _ _ (World.drew _);refine wpAny_take (i:=0) (v:=.slice A0 l0.length c0) rfl (by kernel_rfl) (by kernel_rfl) (by kernel_rfl) (fun _ _ _ h=>h) (Or.inl ⟨by rfl,by intro w;go_simp⟩) ?_;refine wpAny_take (i:=3) (v:=.slice A0 l0.length c0) rfl (by kernel_rfl) (by kernel_rfl) (by kernel_rfl) (fun _ _ _ h=>h) (Or.inl ⟨by rfl,by intro w;go_simp⟩) ?_;refine wpAny_take (i:=1) (v:=.int .i64 (l0.length:Int)) rfl (by kernel_rfl) (by kernel_rfl) (by kernel_rfl) (fun _ _ _ h=>h) (Or.inl ⟨by rfl,by intro w;go_simp⟩) ?_;refine wpAny_take (i:=4) (v:=.int .i64 (l0.length:Int)) rfl (by kernel_rfl) (by kernel_rfl) (by kernel_rfl) (fun _ _ _ h=>h) (Or.inl ⟨by rfl,by intro w;go_simp⟩) ?_;refine wpAny_ready (rs:=[2,5,7]) (by kernel_rfl) (by simp) ?_;refine AllReady.cons rfl (fun K hK=>?_) ?_
  ·go_simp
   refine hK _ _ ?_;clear hK K;refine wpAny_ready (rs:=[5,7]) (by kernel_rfl) (by simp) ?_;refine AllReady.cons rfl (fun K hK=>?_) ?_
   ·go_simp
    refine hK _ _ ?_;clear hK K;refine wpAny_take (i:=6) (v:=?_) rfl (by kernel_rfl) (by kernel_rfl) (by kernel_rfl) (fun _ _ _ h=>h) (Or.inl ⟨by rfl,?_⟩) ?_;rotate_left
    ·intro w
     go_simp;with_reducible rfl
    refine wpAny_ready (rs:=[7]) (by kernel_rfl) (by simp) ?_;refine AllReady.cons rfl (fun K hK=>?_) ?_
    ·go_simp
     refine hK _ _ ?_;clear hK K;refine wpAny_ready (rs:=[8]) (by kernel_rfl) (by simp) ?_;refine AllReady.cons rfl (fun K hK=>?_) AllReady.nil;go_simp;refine hK _ _ ?_;clear hK K;refine wpAny_done (by kernel_rfl) ?_ _;refine ⟨_,_,_,rfl,?_,?_,?_,?_,?_,?_⟩
     ·exact ⟨zzg (zze (zze (zze BK1.out _) _) _)⟩
     ·exact ⟨by first|exact zzg (al3_0 _ _ _ _)|exact zzg (al3_1 _ _ _ _)|exact zzg (al3_2 _ _ _ _)⟩
     ·exact ⟨by first|exact zzg (al3_0 _ _ _ _)|exact zzg (al3_1 _ _ _ _)|exact zzg (al3_2 _ _ _ _)⟩
     ·exact ⟨by first|exact zzg (al3_0 _ _ _ _)|exact zzg (al3_1 _ _ _ _)|exact zzg (al3_2 _ _ _ _)⟩
     ·exact ⟨zzc (zza (zza (zza HB1.out _) _) _)⟩
     ·exact ⟨by have h1:=HB1.out.size;have h2:=blk_lt BK1.out;refine ⟨?_,?_,?_,?_⟩ <;> omega⟩
    exact AllReady.nil
   refine AllReady.cons rfl (fun K hK=>?_) ?_
   ·go_simp
    refine hK _ _ ?_;clear hK K;refine wpAny_ready (rs:=[5]) (by kernel_rfl) (by simp) ?_;refine AllReady.cons rfl (fun K hK=>?_) ?_
    ·go_simp
     refine hK _ _ ?_;clear hK K;refine wpAny_take (i:=6) (v:=?_) rfl (by kernel_rfl) (by kernel_rfl) (by kernel_rfl) (fun _ _ _ h=>h) (Or.inl ⟨by rfl,?_⟩) ?_;rotate_left
     ·intro w
      go_simp;with_reducible rfl
     refine wpAny_ready (rs:=[8]) (by kernel_rfl) (by simp) ?_;refine AllReady.cons rfl (fun K hK=>?_) AllReady.nil;go_simp;refine hK _ _ ?_;clear hK K;refine wpAny_done (by kernel_rfl) ?_ _;refine ⟨_,_,_,rfl,?_,?_,?_,?_,?_,?_⟩
     ·exact ⟨zzg (zze (zze (zze BK1.out _) _) _)⟩
     ·exact ⟨by first|exact zzg (al3_0 _ _ _ _)|exact zzg (al3_1 _ _ _ _)|exact zzg (al3_2 _ _ _ _)⟩
     ·exact ⟨by first|exact zzg (al3_0 _ _ _ _)|exact zzg (al3_1 _ _ _ _)|exact zzg (al3_2 _ _ _ _)⟩
     ·exact ⟨by first|exact zzg (al3_0 _ _ _ _)|exact zzg (al3_1 _ _ _ _)|exact zzg (al3_2 _ _ _ _)⟩
     ·exact ⟨zzc (zza (zza (zza HB1.out _) _) _)⟩
     ·exact ⟨by have h1:=HB1.out.size;have h2:=blk_lt BK1.out;refine ⟨?_,?_,?_,?_⟩ <;> omega⟩
    exact AllReady.nil
   exact AllReady.nil
  refine AllReady.cons rfl (fun K hK=>?_) ?_
  ·go_simp
   refine hK _ _ ?_;clear hK K;refine wpAny_ready (rs:=[2,7]) (by kernel_rfl) (by simp) ?_;refine AllReady.cons rfl (fun K hK=>?_) ?_
   ·go_simp
    refine hK _ _ ?_;clear hK K;refine wpAny_take (i:=6) (v:=?_) rfl (by kernel_rfl) (by kernel_rfl) (by kernel_rfl) (fun _ _ _ h=>h) (Or.inl ⟨by rfl,?_⟩) ?_;rotate_left
    ·intro w
     go_simp;with_reducible rfl
    refine wpAny_ready (rs:=[7]) (by kernel_rfl) (by simp) ?_;refine AllReady.cons rfl (fun K hK=>?_) ?_
    ·go_simp
     refine hK _ _ ?_;clear hK K;refine wpAny_ready (rs:=[8]) (by kernel_rfl) (by simp) ?_;refine AllReady.cons rfl (fun K hK=>?_) AllReady.nil;go_simp;refine hK _ _ ?_;clear hK K;refine wpAny_done (by kernel_rfl) ?_ _;refine ⟨_,_,_,rfl,?_,?_,?_,?_,?_,?_⟩
     ·exact ⟨zzg (zze (zze (zze BK1.out _) _) _)⟩
     ·exact ⟨by first|exact zzg (al3_0 _ _ _ _)|exact zzg (al3_1 _ _ _ _)|exact zzg (al3_2 _ _ _ _)⟩
     ·exact ⟨by first|exact zzg (al3_0 _ _ _ _)|exact zzg (al3_1 _ _ _ _)|exact zzg (al3_2 _ _ _ _)⟩
     ·exact ⟨by first|exact zzg (al3_0 _ _ _ _)|exact zzg (al3_1 _ _ _ _)|exact zzg (al3_2 _ _ _ _)⟩
     ·exact ⟨zzc (zza (zza (zza HB1.out _) _) _)⟩
     ·exact ⟨by have h1:=HB1.out.size;have h2:=blk_lt BK1.out;refine ⟨?_,?_,?_,?_⟩ <;> omega⟩
    exact AllReady.nil
   refine AllReady.cons rfl (fun K hK=>?_) ?_
   ·go_simp
    refine hK _ _ ?_;clear hK K;refine wpAny_ready (rs:=[2]) (by kernel_rfl) (by simp) ?_;refine AllReady.cons rfl (fun K hK=>?_) ?_
    ·go_simp
     refine hK _ _ ?_;clear hK K;refine wpAny_take (i:=6) (v:=?_) rfl (by kernel_rfl) (by kernel_rfl) (by kernel_rfl) (fun _ _ _ h=>h) (Or.inl ⟨by rfl,?_⟩) ?_;rotate_left
     ·intro w
      go_simp;with_reducible rfl
     refine wpAny_ready (rs:=[8]) (by kernel_rfl) (by simp) ?_;refine AllReady.cons rfl (fun K hK=>?_) AllReady.nil;go_simp;refine hK _ _ ?_;clear hK K;refine wpAny_done (by kernel_rfl) ?_ _;refine ⟨_,_,_,rfl,?_,?_,?_,?_,?_,?_⟩
     ·exact ⟨zzg (zze (zze (zze BK1.out _) _) _)⟩
     ·exact ⟨by first|exact zzg (al3_0 _ _ _ _)|exact zzg (al3_1 _ _ _ _)|exact zzg (al3_2 _ _ _ _)⟩
     ·exact ⟨by first|exact zzg (al3_0 _ _ _ _)|exact zzg (al3_1 _ _ _ _)|exact zzg (al3_2 _ _ _ _)⟩
     ·exact ⟨by first|exact zzg (al3_0 _ _ _ _)|exact zzg (al3_1 _ _ _ _)|exact zzg (al3_2 _ _ _ _)⟩
     ·exact ⟨zzc (zza (zza (zza HB1.out _) _) _)⟩
     ·exact ⟨by have h1:=HB1.out.size;have h2:=blk_lt BK1.out;refine ⟨?_,?_,?_,?_⟩ <;> omega⟩
    exact AllReady.nil
   exact AllReady.nil
  refine AllReady.cons rfl (fun K hK=>?_) ?_
  ·go_simp
   refine hK _ _ ?_;clear hK K;refine wpAny_ready (rs:=[2,5]) (by kernel_rfl) (by simp) ?_;refine AllReady.cons rfl (fun K hK=>?_) ?_
   ·go_simp
    refine hK _ _ ?_;clear hK K;refine wpAny_ready (rs:=[5]) (by kernel_rfl) (by simp) ?_;refine AllReady.cons rfl (fun K hK=>?_) ?_
    ·go_simp
     refine hK _ _ ?_;clear hK K;refine wpAny_take (i:=6) (v:=?_) rfl (by kernel_rfl) (by kernel_rfl) (by kernel_rfl) (fun _ _ _ h=>h) (Or.inl ⟨by rfl,?_⟩) ?_;rotate_left
     ·intro w
      go_simp;with_reducible rfl
     refine wpAny_ready (rs:=[8]) (by kernel_rfl) (by simp) ?_;refine AllReady.cons rfl (fun K hK=>?_) AllReady.nil;go_simp;refine hK _ _ ?_;clear hK K;refine wpAny_done (by kernel_rfl) ?_ _;refine ⟨_,_,_,rfl,?_,?_,?_,?_,?_,?_⟩
     ·exact ⟨zzg (zze (zze (zze BK1.out _) _) _)⟩
     ·exact ⟨by first|exact zzg (al3_0 _ _ _ _)|exact zzg (al3_1 _ _ _ _)|exact zzg (al3_2 _ _ _ _)⟩
     ·exact ⟨by first|exact zzg (al3_0 _ _ _ _)|exact zzg (al3_1 _ _ _ _)|exact zzg (al3_2 _ _ _ _)⟩
     ·exact ⟨by first|exact zzg (al3_0 _ _ _ _)|exact zzg (al3_1 _ _ _ _)|exact zzg (al3_2 _ _ _ _)⟩
     ·exact ⟨zzc (zza (zza (zza HB1.out _) _) _)⟩
     ·exact ⟨by have h1:=HB1.out.size;have h2:=blk_lt BK1.out;refine ⟨?_,?_,?_,?_⟩ <;> omega⟩
    exact AllReady.nil
   refine AllReady.cons rfl (fun K hK=>?_) ?_
   ·go_simp
    refine hK _ _ ?_;clear hK K;refine wpAny_ready (rs:=[2]) (by kernel_rfl) (by simp) ?_;refine AllReady.cons rfl (fun K hK=>?_) ?_
    ·go_simp
     refine hK _ _ ?_;clear hK K;refine wpAny_take (i:=6) (v:=?_) rfl (by kernel_rfl) (by kernel_rfl) (by kernel_rfl) (fun _ _ _ h=>h) (Or.inl ⟨by rfl,?_⟩) ?_;rotate_left
     ·intro w
      go_simp;with_reducible rfl
     refine wpAny_ready (rs:=[8]) (by kernel_rfl) (by simp) ?_;refine AllReady.cons rfl (fun K hK=>?_) AllReady.nil;go_simp;refine hK _ _ ?_;clear hK K;refine wpAny_done (by kernel_rfl) ?_ _;refine ⟨_,_,_,rfl,?_,?_,?_,?_,?_,?_⟩
     ·exact ⟨zzg (zze (zze (zze BK1.out _) _) _)⟩
     ·exact ⟨by first|exact zzg (al3_0 _ _ _ _)|exact zzg (al3_1 _ _ _ _)|exact zzg (al3_2 _ _ _ _)⟩
     ·exact ⟨by first|exact zzg (al3_0 _ _ _ _)|exact zzg (al3_1 _ _ _ _)|exact zzg (al3_2 _ _ _ _)⟩
     ·exact ⟨by first|exact zzg (al3_0 _ _ _ _)|exact zzg (al3_1 _ _ _ _)|exact zzg (al3_2 _ _ _ _)⟩
     ·exact ⟨zzc (zza (zza (zza HB1.out _) _) _)⟩
     ·exact ⟨by have h1:=HB1.out.size;have h2:=blk_lt BK1.out;refine ⟨?_,?_,?_,?_⟩ <;> omega⟩
    exact AllReady.nil
   exact AllReady.nil
  exact AllReady.nil
 ·intro e a' w2 hq
  cases e with
  | normal=>?_
  | _=>exact hq.elim
  obtain ⟨gW,gB,g3,rfl,H2,H3,HW0,HY0,HB2,HGE⟩:=hq;clear hm1 hm2 HB1 BK1;have HS0:=zzm (And.intro H2.out (And.intro H3.out (And.intro HW0.out HY0.out)));go_wp2_with ((with_reducible refine gate_callee (f:=88) rfl ?_);refine goesL_ (some 17) rfl rfl Try.func88 (by kernel_rfl) rfl #[] rfl (by (try simp only [map_toArray,map_cons,map_nil]);first|done|rfl) ?_;(with_reducible refine (list_New.calls _).mono ?_);rintro e w3 ⟨gl,r0,rfl,hl,hge,hb⟩;refine ⟨_,rfl,?_⟩;have HS1:=zzm (show FS w w3 l0.length g2 g3 gW gB gl r0 (fatesTo l0 0) from ⟨(fates_ok l0 0 (Nat.zero_le _)).mono (Nat.zero_le _),zzh HS0.out.1 hb,zzh HS0.out.2.1 hb,zzh HS0.out.2.2.1 hb,zzh HS0.out.2.2.2 hb,hl,HGE.out.2.2.2,zzp HB2.out hb,GE1.out,HGE.out.1,HGE.out.2.1,HGE.out.2.2.1,fun i hi=>by have h0:i=0:=Nat.le_zero.1 hi;subst h0;exact Nat.le_trans (Nat.le_trans HB2.out.size hge) (Nat.le_of_eq hl.r0.symm)⟩);clear hl hge hb);clear HS0 H2 H3 HW0 HY0 HB2 HGE;go_loopw [20] (fun i W=>∃ k:Nat,∃ r,k≤l0.length∧i = .int .i64 k∧Aside0 (FS w W l0.length g2 g3 gW gB gl r (fatesTo l0 k))) (fun i _=>l0.length - (intOf i).toNat)
  case atStart=>exact ⟨0,r0,Nat.zero_le _,rfl,HS1⟩
  case round=>
   clear HS1;obtain ⟨k,r,hk,rfl,HS⟩:=hrel;by_cases hlt:k < l0.length
   ·obtain ⟨ad,A5,c5,he,hx0,hx1,hx2,hx3,hx4,hx5,l5,g5⟩:=at_T27 HR.out (k:Int) (by omega) (by omega)
    subst he;have hbl:=HS.out.below;replace hx0:=(hbl.cell (zzn w _ hx0)).trans hx0;replace hx1:=(hbl.cell (zzn w _ hx1)).trans hx1;replace hx2:=(hbl.cell (zzn w _ hx2)).trans hx2;replace hx3:=(hbl.cell (zzn w _ hx3)).trans hx3;replace hx4:=(hbl.cell (zzn w _ hx4)).trans hx4;replace hx5:=(hbl.cell (zzn w _ hx5)).trans hx5;simp only [Int.toNat_natCast] at hx0 hx1 hx2 hx3 hx4 hx5;have L5:=zzm l5;have G5:=zzm g5;have P5:=zzm (HP.out k hlt);have hsu:=fatesTo_succ l0 k;unfold fstep at hsu;have HF:=zzm (fates_ok l0 k hk);clear hbl l5 g5;obtain ⟨b,hb_⟩:∃ b,b=rd_T27 l0 (k:Int):=⟨_,rfl⟩;rw [← hb_] at hx0 hx1 hx2 hx3 hx4 hx5 L5 G5 P5 hsu;have HSU:=zzm hsu;have HBE:=zzm hb_;clear hsu hb_;obtain ⟨s,hs_⟩:∃ s,s=fatesTo l0 k:=⟨_,rfl⟩;rw [← hs_] at HS HSU HF;clear hs_;have hks:k < 1000000:=by have:=HN.out;omega
    have hki:(k:Int) < (l0.length:Int):=by omega
    have hki0 : 0≤(k:Int):=by omega
    go_upto_region 6 with ((with_reducible refine gate_dst (N:=6) rfl ?_);refine box_event ?hg (N:=6) ?hd (cs:=#[.bool false,.bool false,.int .i64 0,.int .i64 0,.int .i64 0,.slice none 0 0]) (t:=27) ?hr ?_;(case hd=>rfl);(case hg=>rfl);(case hr=>first|(go_simp;done)|(go_simp;rfl));intro gb hg w13 hbox hb;have HX:=zzm hb;have BX:=zzm hbox;have GX:=zzm (Nat.le_of_eq hg.symm);clear hb hbox hg;have hz0:w13.cell? ⟨_,0,none⟩=some _:=(zzk BX.out 0).trans rfl;have hf0:=zzl BX.out 0;have hz1:w13.cell? ⟨_,1,none⟩=some _:=(zzk BX.out 1).trans rfl;have hf1:=zzl BX.out 1;have hz2:w13.cell? ⟨_,2,none⟩=some _:=(zzk BX.out 2).trans rfl;have hf2:=zzl BX.out 2;have hz3:w13.cell? ⟨_,3,none⟩=some _:=(zzk BX.out 3).trans rfl;have hf3:=zzl BX.out 3;have hz4:w13.cell? ⟨_,4,none⟩=some _:=(zzk BX.out 4).trans rfl;have hf4:=zzl BX.out 4;have hz5:w13.cell? ⟨_,5,none⟩=some _:=(zzk BX.out 5).trans rfl;have hf5:=zzl BX.out 5);have HS4:=zzm (HS.out.mono (((((((HX.out).setCell (p:=⟨gb,0,none⟩) GX.out (.bool b.f0)).setCell (p:=⟨gb,1,none⟩) GX.out (.bool b.f1)).setCell (p:=⟨gb,2,none⟩) GX.out (.int .i64 b.f2)).setCell (p:=⟨gb,3,none⟩) GX.out (.int .i64 b.f3)).setCell (p:=⟨gb,4,none⟩) GX.out (.int .i64 b.f4)).setCell (p:=⟨gb,5,none⟩) GX.out (.slice A5 b.f5.length c5)));have BG4:=zzm (zzi (cs:=#[.bool b.f0,.bool b.f1,.int .i64 b.f2,.int .i64 b.f3,.int .i64 b.f4,.slice none 0 0]) (cs':=#[.bool b.f0,.bool b.f1,.int .i64 b.f2,.int .i64 b.f3,.int .i64 b.f4,.slice A5 b.f5.length c5]) (zzi (cs:=#[.bool b.f0,.bool b.f1,.int .i64 b.f2,.int .i64 b.f3,.int .i64 0,.slice none 0 0]) (cs':=#[.bool b.f0,.bool b.f1,.int .i64 b.f2,.int .i64 b.f3,.int .i64 b.f4,.slice none 0 0]) (zzi (cs:=#[.bool b.f0,.bool b.f1,.int .i64 b.f2,.int .i64 0,.int .i64 0,.slice none 0 0]) (cs':=#[.bool b.f0,.bool b.f1,.int .i64 b.f2,.int .i64 b.f3,.int .i64 0,.slice none 0 0]) (zzi (cs:=#[.bool b.f0,.bool b.f1,.int .i64 0,.int .i64 0,.int .i64 0,.slice none 0 0]) (cs':=#[.bool b.f0,.bool b.f1,.int .i64 b.f2,.int .i64 0,.int .i64 0,.slice none 0 0]) (zzi (cs:=#[.bool b.f0,.bool false,.int .i64 0,.int .i64 0,.int .i64 0,.slice none 0 0]) (cs':=#[.bool b.f0,.bool b.f1,.int .i64 0,.int .i64 0,.int .i64 0,.slice none 0 0]) (zzi (cs:=#[.bool false,.bool false,.int .i64 0,.int .i64 0,.int .i64 0,.slice none 0 0]) (cs':=#[.bool b.f0,.bool false,.int .i64 0,.int .i64 0,.int .i64 0,.slice none 0 0]) (BX.out) 0 (.bool b.f0) rfl) 1 (.bool b.f1) rfl) 2 (.int .i64 b.f2) rfl) 3 (.int .i64 b.f3) rfl) 4 (.int .i64 b.f4) rfl) 5 (.slice A5 b.f5.length c5) rfl);clear hz0 hz1 hz2 hz3 hz4 hz5 hf0 hf1 hf2 hf3 hf4 hf5 hx0 hx1 hx2 hx3 hx4 hx5 HS BX;generalize (((((w13.setCell ⟨gb,0,none⟩ (.bool b.f0)).setCell ⟨gb,1,none⟩ (.bool b.f1)).setCell ⟨gb,2,none⟩ (.int .i64 b.f2)).setCell ⟨gb,3,none⟩ (.int .i64 b.f3)).setCell ⟨gb,4,none⟩ (.int .i64 b.f4)).setCell ⟨gb,5,none⟩ (.slice A5 b.f5.length c5)=w14 at HS4 BG4 ⊢;have hc1:=HS4.out.f1;obtain ⟨⟨vy,hy⟩,hfy⟩:=HS4.out.cellB k hlt;go_upto_region 19 with fail;have HS5:=zzm (HS4.out.setB k (-1));have BG5:=zzm (zzj (p:=⟨gB,k,none⟩) BG4.out (blk_ne BG4.out HS4.out.bb (by decide)) (.int .i64 (-1)));clear hc1 hy hfy HS4 BG4;generalize w14.setCell ⟨gB,k,none⟩ (.int .i64 (-1))=w15 at HS5 BG5 ⊢;have d1:w15.cell? ⟨gb,1,none⟩=some (.bool b.f1):=(zzk BG5.out 1).trans rfl;have d2:w15.cell? ⟨gb,2,none⟩=some (.int .i64 b.f2):=(zzk BG5.out 2).trans rfl;have hc0:=HS5.out.f0;obtain ⟨⟨vw,hw_⟩,hfw⟩:=HS5.out.cellW k hlt;by_cases h255:b.f2=255
    ·have HQ:=zzm (HSU.out.trans (if_pos h255))
     rw [h255] at d2;clear h255;go_wp2;go_roundw
     case rel=>exact ⟨k+1,r,by omega,by go_num,⟨by rw [HQ.out];exact HS5.out.setW k 1⟩⟩
     case measure=>simp [intOf];omega
    ·have h255' : (b.f2==255)=false:=by simpa using h255
     rw [if_neg h255] at HSU;clear h255;have HSU0:=HSU.out;cases hm:b.f1 with
     | false=>
      have HQ:=zzm (HSU0.trans (if_pos hm));rw [hm] at d1;clear HSU0 hm;go_wp2_with ((with_reducible refine gate_callee (f:=89) rfl ?_);refine goesL_ (some 86) rfl rfl Try.func89 (by kernel_rfl) rfl #[.pointer (some ⟨gl,0,none⟩),.iface 3 (.int .i64 (k:Int))] rfl (by (try simp only [map_toArray,map_cons,map_nil]);first|done|rfl) ?_;(with_reducible refine (list_PushBack.calls gl r s.op k _ HS5.out.l (by have:=HF.out.lo;have:=HN.out;omega)).mono ?_);rintro e w16 ⟨nb,rfl,hge,hl,hkp,hbl⟩;refine ⟨_,rfl,?_⟩;have HNB:=zzm hge;have HL6:=zzm hl;have HK6:=zzm hkp;have HB6:=zzm (hbl w.heap.size HS5.out.below.size HS5.out.geL);clear hge hl hkp hbl);go_roundw
      case rel=>
       have hge:∀ i,i≤(s.op ++ [k]).length→w.heap.size≤rAdd r s.op.length nb gl i:=by
        intro i hi;unfold rAdd;split
        ·exact HS5.out.geL i (by assumption)
        ·split
         ·exact Nat.le_trans HS5.out.below.size HNB.out
         ·have:=HS5.out.geL 0 (Nat.zero_le _);rw [HS5.out.l.r0] at this;exact this
       have hlo:=HF.out.lo;exact ⟨k+1,rAdd r s.op.length nb gl,by omega,by go_num,⟨by rw [HQ.out];exact HS5.out.list HL6.out HK6.out HB6.out hge (by simp;omega) (fun x hx=>by rcases List.mem_append.1 hx with hx|hx;exact HF.out.op x hx;rw [List.mem_singleton.1 hx];exact hlt)⟩⟩
      case measure=>simp [intOf];omega
     | true=>
      rw [if_neg (by rw [hm];simp)] at HSU0;have HQ:=zzm HSU0;rw [hm] at d1;clear HSU0 hm;have BG0:=BG5;go_upto_region 8 with fail;have HS6:=zzm (HS5.out.setW k 3);have BG6:=zzm (zzj (p:=⟨gW,k,none⟩) BG5.out (blk_ne BG5.out HS5.out.ww (by decide)) (.int .i64 3));clear hc0 hw_ hfw d1 d2 HS5 BG5 BG0;generalize w15.setCell ⟨gW,k,none⟩ (.int .i64 3)=w16 at HS6 BG6 ⊢;go_wp2_with ((with_reducible refine gate_callee (f:=90) rfl ?_);refine goesL_ (some 34) rfl rfl Try.func90 (by kernel_rfl) rfl #[.pointer (some ⟨gl,0,none⟩)] rfl (by (try simp only [map_toArray,map_cons,map_nil]);first|done|rfl) ?_;(with_reducible refine (list_Front.calls gl r s.op _ HS6.out.l (by have:=HF.out.lo;have:=HN.out;omega)).mono ?_);rintro e w17 ⟨he,hd⟩;obtain ⟨ev,rfl⟩:∃ ev,e = .returned ev:=⟨_,he⟩;have HEV:=zzm (Ending.returned.inj he);clear he;refine ⟨_,rfl,?_⟩;obtain ⟨m,rfl⟩:=hd.out;have HS7:=zzm (HS6.out.mono (zzb (Below.refl _ _) m));have BG7:=zzm (zzf BG6.out m);clear hd HS6 BG6;generalize w16.drewN m=w17 at HS7 BG7 ⊢);go_loopg [7] s.op.length (fun gk v W=>∃ j:Nat,∃ r' : Nat→Nat,∃ st:FSt,j+gk=s.op.length∧st=(s.op.take j).foldl (fin1 l0 k) ⟨s.ws.set k 3,s.bs.set k (-1),[]⟩∧v = .pointer (if j < s.op.length then some ⟨r' (st.op.length+1),0,none⟩ else none)∧Aside0 (FS w W l0.length g2 g3 gW gB gl r' ⟨st.ws,st.bs,st.op++s.op.drop j⟩)∧Aside0 (W.heap[gb]? = some (.cells #[.bool b.f0,.bool b.f1,.int .i64 b.f2,.int .i64 b.f3,.int .i64 b.f4,.slice A5 b.f5.length c5] 27 (0,0))))
      case atStart=>exact ⟨0,r,_,by omega,rfl,by simpa using HEV.out,⟨by simpa using HS7.out⟩,BG7⟩
      case round=>
       clear HS7 BG7;obtain ⟨j,r',st,hjk,hst,rfl,HS,BG⟩:=hrel;by_cases hj:j < s.op.length
       ·have hst2:=hst
        rw [if_pos hj] at *;obtain ⟨x,hx⟩:∃ x,x=s.op[j]:=⟨_,rfl⟩;have hdrop:s.op.drop j=x::s.op.drop (j+1):=by rw [hx];exact List.drop_eq_getElem_cons hj
        have hxn:x < l0.length:=by rw [hx];exact HF.out.op _ (List.getElem_mem hj)
        have htk:s.op.take (j+1)=s.op.take j ++ [x]:=by rw [hx];exact List.take_succ_eq_append_getElem hj
        have hnx:(s.op.take (j+1)).foldl (fin1 l0 k) ⟨s.ws.set k 3,s.bs.set k (-1),[]⟩=fin1 l0 k st x:=by rw [htk,List.foldl_append,← hst];rfl
        have hlen:(st.op++s.op.drop j).length=st.op.length+(s.op.length - j):=by simp
        have hp:st.op.length < (st.op++s.op.drop j).length:=by omega
        have hvx:(st.op++s.op.drop j)[st.op.length]'hp=x:=by simp [hdrop]
        have hlo:st.op.length≤1000000:=by have:=HS.out.ok.lo;have h2:=HN.out;simp only [hlen] at this;omega
        have hlo2:(st.op++s.op.drop j).length < 1000000000000:=by have:=HS.out.ok.lo;have h2:=HN.out;simp only at this;omega
        have hL:=HS.out.l;have hvc:wr.cell? ⟨r' (st.op.length+1),3,none⟩=some (.iface 3 (.int .i64 (x:Int))):=by have:=(zzk (hL.node st.op.length hp) 3).trans rfl;rw [hvx] at this;exact this
        have hNX:=zzm (And.intro hnx (And.intro hst2 (And.intro hdrop (And.intro hxn hjk))));have HLO:=zzm (And.intro hlo2 hp);have HJ:=zzm hj;obtain ⟨ad2,A6,c6,he2,ha0,ha1,ha2,ha3,ha4,ha5,l6,g6⟩:=at_T27 HR.out (x:Int) (by omega) (by omega);injection he2 with he2;subst he2;replace ha2:=(HS.out.below.cell (zzn w _ ha2)).trans ha2;simp only [Int.toNat_natCast] at ha2;have d2:wr.cell? ⟨gb,2,none⟩=some (.int .i64 b.f2):=(zzk BG.out 2).trans rfl;have hxi:(x:Int) < (l0.length:Int):=by omega
        have hxi0 : 0≤(x:Int):=by omega
        clear hst2 hnx htk hdrop hxn hvx hlo hlo2 hp hlen hL hst hjk hj ha0 ha1 ha3 ha4 ha5 l6 g6 hx;have hxn:x < l0.length:=by omega
        have hta:∀ W:World,(Instr.typeAssert (.iface 3 (.int .i64 (x:Int))) 20 3 false).run Try.prog W = .ok (.int .i64 (x:Int)) W:=fun W=>assert_int _ W;have hP8:∀ W:World,Below wr.heap.size wr W→Aside0 (FS w W l0.length g2 g3 gW gB gl r' ⟨st.ws,st.bs,st.op++s.op.drop j⟩)∧Aside0 (W.heap[gb]? = some (.cells #[.bool b.f0,.bool b.f1,.int .i64 b.f2,.int .i64 b.f3,.int .i64 b.f4,.slice A5 b.f5.length c5] 27 (0,0))):=fun W hb=>⟨⟨HS.out.mono hb⟩,⟨zzh BG.out hb⟩⟩;have HP8:=zzm hP8;clear hP8;by_cases hxe:(rd_T27 l0 (x:Int)).f2=b.f2
        ·have HXE:=zzm hxe
         rw [hxe] at ha2;clear hxe;go_upto_region 12 with (((with_reducible refine gate_callee (f:=91) rfl ?_);refine goesL_ (some 38) rfl rfl Try.func91 (by kernel_rfl) rfl #[.pointer (some ⟨r' (st.op.length+1),0,none⟩)] rfl (by (try simp only [map_toArray,map_cons,map_nil]);first|done|rfl) ?_;(with_reducible refine (list_Next.calls gl r' (st.op++s.op.drop j) _ HS.out.l st.op.length HLO.out.2).mono ?_);rintro e w18 ⟨he,hd⟩;obtain ⟨ev2,rfl⟩:∃ ev,e = .returned ev:=⟨_,he⟩;have HEV2:=zzm (Ending.returned.inj he);clear he;refine ⟨_,rfl,?_⟩;obtain ⟨m2,rfl⟩:=hd.out;clear hd));go_region;obtain ⟨HS8,BG8⟩:=HP8.out _ (zzb (Below.refl _ _) (m2+1));clear hvc ha2 d2 HS BG HP8 hta;generalize wr.drewN (m2+1)=w18 at HS8 BG8 ⊢;obtain ⟨tv,htl⟩:∃ tv,tellsP b=tv:=⟨_,rfl⟩;have HTL:=zzm htl;clear htl;cases tv with
         | true=>
          have hc0:=HS8.out.f0;obtain ⟨⟨vw,hw_⟩,hfw⟩:=HS8.out.cellW x hxn;go_upto_region 14 with fail;have HS9:=zzm (HS8.out.setW x 2);have BG9:=zzm (zzj (p:=⟨gW,x,none⟩) BG8.out (blk_ne BG8.out HS8.out.ww (by decide)) (.int .i64 2));clear hc0 hw_ hfw HS8 BG8;generalize w18.setCell ⟨gW,x,none⟩ (.int .i64 2)=w19 at HS9 BG9 ⊢;have b0:w19.cell? ⟨gb,0,none⟩=some (.bool b.f0):=(zzk BG9.out 0).trans rfl;have b1:w19.cell? ⟨gb,1,none⟩=some (.bool b.f1):=(zzk BG9.out 1).trans rfl;have b2:w19.cell? ⟨gb,2,none⟩=some (.int .i64 b.f2):=(zzk BG9.out 2).trans rfl;have b3:w19.cell? ⟨gb,3,none⟩=some (.int .i64 b.f3):=(zzk BG9.out 3).trans rfl;have b4:w19.cell? ⟨gb,4,none⟩=some (.int .i64 b.f4):=(zzk BG9.out 4).trans rfl;have b5:w19.cell? ⟨gb,5,none⟩=some (.slice A5 b.f5.length c5):=(zzk BG9.out 5).trans rfl;go_upto_region 15 with (((with_reducible refine gate_callee (f:=92) rfl ?_);refine goesL_ (some 57) rfl rfl Try.func92 (by kernel_rfl) rfl #[.agg #[.bool b.f0,.bool b.f1,.int .i64 b.f2,.int .i64 b.f3,.int .i64 b.f4,.slice A5 b.f5.length c5]] rfl (by (try simp only [map_toArray,map_cons,map_nil]);first|done|rfl) ?_;(with_reducible refine (tells_calls _ _ _ _ _ _ _ b.f5 _ ?s1 L5.out P5.out).mono ?_);(case s1=>exact Kd.C_below G5.out HS9.out.below);rintro e w20 ⟨he,hb⟩;rw [show decide ((rd_T34 b.f5 0).f5 = [1])=true from HTL.out] at he;subst he;refine ⟨_,rfl,?_⟩;have HS10:=zzm (HS9.out.mono hb);have BG10:=zzm (zzh BG9.out hb);clear hb));clear b0 b1 b2 b3 b4 b5 HS9 BG9;have hc0:=HS10.out.f0;obtain ⟨⟨vw,hw_⟩,hfw⟩:=HS10.out.cellW x hxn;go_upto_region 16 with fail;have HS11:=zzm (HS10.out.setW x 1);have BG11:=zzm (zzj (p:=⟨gW,x,none⟩) BG10.out (blk_ne BG10.out HS10.out.ww (by decide)) (.int .i64 1));rw [List.set_set] at HS11;clear hc0 hw_ hfw HS10 BG10;generalize w20.setCell ⟨gW,x,none⟩ (.int .i64 1)=w21 at HS11 BG11 ⊢;have hc1:=HS11.out.f1;obtain ⟨⟨vy,hy⟩,hfy⟩:=HS11.out.cellB x hxn;go_upto_region 17 with fail;have HS12:=zzm (HS11.out.setB x (k:Int));have BG12:=zzm (zzj (p:=⟨gB,x,none⟩) BG11.out (blk_ne BG11.out HS11.out.bb (by decide)) (.int .i64 (k:Int)));clear hc1 hy hfy HS11 BG11;generalize w21.setCell ⟨gB,x,none⟩ (.int .i64 (k:Int))=w22 at HS12 BG12 ⊢;go_wp2_with (((with_reducible refine gate_callee (f:=93) rfl ?_);refine goesL_ (some 69) rfl rfl Try.func93 (by kernel_rfl) rfl #[.pointer (some ⟨gl,0,none⟩),.pointer (some ⟨r' (st.op.length+1),0,none⟩)] rfl (by (try simp only [map_toArray,map_cons,map_nil]);first|done|rfl) ?_;(with_reducible refine (list_Remove.calls gl r' (st.op++s.op.drop j) st.op.length _ HS12.out.l HLO.out.1 HLO.out.2).mono ?_);rintro e w23 ⟨rfl,hl,hkp,hbl⟩;refine ⟨_,rfl,?_⟩;have HL13:=zzm hl;have HK13:=zzm hkp;have HB13:=zzm (hbl w.heap.size HS12.out.geL);have BG13:=zzm (kept_at (m:=0) HS12.out.l hkp BG12.out (by decide) (by decide));clear hl hkp hbl));go_roundg (gk - 1)
          case measure=>have h1:=hNX.out.2.2.2.2;have h2:=HJ.out;omega
          case rel=>
           obtain ⟨hnx,hst2,hdrop,hxn_,hjk⟩:=hNX.out;have hj:=HJ.out;have hf:fin1 l0 k st x=⟨st.ws.set x 1,st.bs.set x (k:Int),st.op⟩:=by unfold fin1;rw [if_pos (by rw [← HBE.out];exact HXE.out),← HBE.out,HTL.out];rfl
           have her:(st.op++s.op.drop j).eraseIdx st.op.length=st.op++s.op.drop (j+1):=by rw [hdrop];simp [List.eraseIdx_append_of_length_le]
           have hlen:(st.op++s.op.drop j).length=st.op.length+(s.op.length - j):=by simp
           have hEV:=HEV2.out;have hgl:=HS12.out.geL;have hll:=HL13.out;rw [her] at hll;refine ⟨j+1,rRem r' st.op.length,_,by omega,hnx.symm,?_,?_,BG13⟩
           ·rw [hf,hEV,hlen]
            unfold rRem;rw [if_neg (show ¬ st.op.length+1≤st.op.length by omega)];by_cases hj2:j+1 < s.op.length
            ·rw [if_pos (show st.op.length+1 < st.op.length+(s.op.length - j) by omega),if_pos hj2]
            ·rw [if_neg (show ¬ st.op.length+1 < st.op.length+(s.op.length - j) by omega),if_neg hj2]
           ·rw [hf]
            refine ⟨HS12.out.list hll HK13.out HB13.out (fun i hi=>?_) ?_ (fun y hy=>?_)⟩
            ·have hi2:i+1≤(st.op++s.op.drop j).length:=by rw [hlen];simp at hi;omega
             unfold rRem;split
             ·exact hgl i (by simp only;omega)
             ·exact hgl (i+1) hi2
            ·have:=HS12.out.ok.lo;simp only [hlen] at this;simp;omega
            ·refine HS12.out.ok.op y ?_
             rw [show (st.op++s.op.drop j)=st.op++x::s.op.drop (j+1) by rw [hdrop]];rcases List.mem_append.1 hy with h|h
             ·exact List.mem_append_left _ h
             ·exact List.mem_append_right _ (List.mem_cons_of_mem _ h)
         | false=>
          have hc0:=HS8.out.f0;obtain ⟨⟨vw,hw_⟩,hfw⟩:=HS8.out.cellW x hxn;go_upto_region 14 with fail;have HS9:=zzm (HS8.out.setW x 2);have BG9:=zzm (zzj (p:=⟨gW,x,none⟩) BG8.out (blk_ne BG8.out HS8.out.ww (by decide)) (.int .i64 2));clear hc0 hw_ hfw HS8 BG8;generalize w18.setCell ⟨gW,x,none⟩ (.int .i64 2)=w19 at HS9 BG9 ⊢;have b0:w19.cell? ⟨gb,0,none⟩=some (.bool b.f0):=(zzk BG9.out 0).trans rfl;have b1:w19.cell? ⟨gb,1,none⟩=some (.bool b.f1):=(zzk BG9.out 1).trans rfl;have b2:w19.cell? ⟨gb,2,none⟩=some (.int .i64 b.f2):=(zzk BG9.out 2).trans rfl;have b3:w19.cell? ⟨gb,3,none⟩=some (.int .i64 b.f3):=(zzk BG9.out 3).trans rfl;have b4:w19.cell? ⟨gb,4,none⟩=some (.int .i64 b.f4):=(zzk BG9.out 4).trans rfl;have b5:w19.cell? ⟨gb,5,none⟩=some (.slice A5 b.f5.length c5):=(zzk BG9.out 5).trans rfl;go_upto_region 16 with (((with_reducible refine gate_callee (f:=92) rfl ?_);refine goesL_ (some 57) rfl rfl Try.func92 (by kernel_rfl) rfl #[.agg #[.bool b.f0,.bool b.f1,.int .i64 b.f2,.int .i64 b.f3,.int .i64 b.f4,.slice A5 b.f5.length c5]] rfl (by (try simp only [map_toArray,map_cons,map_nil]);first|done|rfl) ?_;(with_reducible refine (tells_calls _ _ _ _ _ _ _ b.f5 _ ?s1 L5.out P5.out).mono ?_);(case s1=>exact Kd.C_below G5.out HS9.out.below);rintro e w20 ⟨he,hb⟩;rw [show decide ((rd_T34 b.f5 0).f5 = [1])=false from HTL.out] at he;subst he;refine ⟨_,rfl,?_⟩;have HS10:=zzm (HS9.out.mono hb);have BG10:=zzm (zzh BG9.out hb);clear hb));clear b0 b1 b2 b3 b4 b5 HS9 BG9;have HS11:=HS10;have BG11:=BG10;clear HS10 BG10;have hc1:=HS11.out.f1;obtain ⟨⟨vy,hy⟩,hfy⟩:=HS11.out.cellB x hxn;go_upto_region 17 with fail;have HS12:=zzm (HS11.out.setB x (k:Int));have BG12:=zzm (zzj (p:=⟨gB,x,none⟩) BG11.out (blk_ne BG11.out HS11.out.bb (by decide)) (.int .i64 (k:Int)));clear hc1 hy hfy HS11 BG11;generalize w20.setCell ⟨gB,x,none⟩ (.int .i64 (k:Int))=w22 at HS12 BG12 ⊢;go_wp2_with (((with_reducible refine gate_callee (f:=93) rfl ?_);refine goesL_ (some 69) rfl rfl Try.func93 (by kernel_rfl) rfl #[.pointer (some ⟨gl,0,none⟩),.pointer (some ⟨r' (st.op.length+1),0,none⟩)] rfl (by (try simp only [map_toArray,map_cons,map_nil]);first|done|rfl) ?_;(with_reducible refine (list_Remove.calls gl r' (st.op++s.op.drop j) st.op.length _ HS12.out.l HLO.out.1 HLO.out.2).mono ?_);rintro e w23 ⟨rfl,hl,hkp,hbl⟩;refine ⟨_,rfl,?_⟩;have HL13:=zzm hl;have HK13:=zzm hkp;have HB13:=zzm (hbl w.heap.size HS12.out.geL);have BG13:=zzm (kept_at (m:=0) HS12.out.l hkp BG12.out (by decide) (by decide));clear hl hkp hbl));go_roundg (gk - 1)
          case measure=>have h1:=hNX.out.2.2.2.2;have h2:=HJ.out;omega
          case rel=>
           obtain ⟨hnx,hst2,hdrop,hxn_,hjk⟩:=hNX.out;have hj:=HJ.out;have hf:fin1 l0 k st x=⟨st.ws.set x 2,st.bs.set x (k:Int),st.op⟩:=by unfold fin1;rw [if_pos (by rw [← HBE.out];exact HXE.out),← HBE.out,HTL.out];rfl
           have her:(st.op++s.op.drop j).eraseIdx st.op.length=st.op++s.op.drop (j+1):=by rw [hdrop];simp [List.eraseIdx_append_of_length_le]
           have hlen:(st.op++s.op.drop j).length=st.op.length+(s.op.length - j):=by simp
           have hEV:=HEV2.out;have hgl:=HS12.out.geL;have hll:=HL13.out;rw [her] at hll;refine ⟨j+1,rRem r' st.op.length,_,by omega,hnx.symm,?_,?_,BG13⟩
           ·rw [hf,hEV,hlen]
            unfold rRem;rw [if_neg (show ¬ st.op.length+1≤st.op.length by omega)];by_cases hj2:j+1 < s.op.length
            ·rw [if_pos (show st.op.length+1 < st.op.length+(s.op.length - j) by omega),if_pos hj2]
            ·rw [if_neg (show ¬ st.op.length+1 < st.op.length+(s.op.length - j) by omega),if_neg hj2]
           ·rw [hf]
            refine ⟨HS12.out.list hll HK13.out HB13.out (fun i hi=>?_) ?_ (fun y hy=>?_)⟩
            ·have hi2:i+1≤(st.op++s.op.drop j).length:=by rw [hlen];simp at hi;omega
             unfold rRem;split
             ·exact hgl i (by simp only;omega)
             ·exact hgl (i+1) hi2
            ·have:=HS12.out.ok.lo;simp only [hlen] at this;simp;omega
            ·refine HS12.out.ok.op y ?_
             rw [show (st.op++s.op.drop j)=st.op++x::s.op.drop (j+1) by rw [hdrop]];rcases List.mem_append.1 hy with h|h
             ·exact List.mem_append_left _ h
             ·exact List.mem_append_right _ (List.mem_cons_of_mem _ h)
        ·have hxeb:((rd_T27 l0 (x:Int)).f2==b.f2)=false:=by simpa using hxe
         have HXE:=zzm hxe;clear hxe;go_upto_region 12 with (((with_reducible refine gate_callee (f:=91) rfl ?_);refine goesL_ (some 38) rfl rfl Try.func91 (by kernel_rfl) rfl #[.pointer (some ⟨r' (st.op.length+1),0,none⟩)] rfl (by (try simp only [map_toArray,map_cons,map_nil]);first|done|rfl) ?_;(with_reducible refine (list_Next.calls gl r' (st.op++s.op.drop j) _ HS.out.l st.op.length HLO.out.2).mono ?_);rintro e w18 ⟨he,hd⟩;obtain ⟨ev2,rfl⟩:∃ ev,e = .returned ev:=⟨_,he⟩;have HEV2:=zzm (Ending.returned.inj he);clear he;refine ⟨_,rfl,?_⟩;obtain ⟨m2,rfl⟩:=hd.out;clear hd));go_region;obtain ⟨HS8,BG8⟩:=HP8.out _ (zzb (Below.refl _ _) (m2+1));clear hvc ha2 d2 HS BG HP8 hta hxeb;generalize wr.drewN (m2+1)=w18 at HS8 BG8 ⊢;go_wp2;go_roundg (gk - 1)
         case measure=>have h1:=hNX.out.2.2.2.2;have h2:=HJ.out;omega
         case rel=>
          obtain ⟨hnx,hst2,hdrop,hxn_,hjk⟩:=hNX.out;have hj:=HJ.out;have hf:fin1 l0 k st x=⟨st.ws,st.bs,st.op ++ [x]⟩:=by unfold fin1;rw [if_neg (by rw [← HBE.out];exact HXE.out)]
          have hlen:(st.op++s.op.drop j).length=st.op.length+(s.op.length - j):=by simp
          have hEV:=HEV2.out;refine ⟨j+1,r',_,by omega,hnx.symm,?_,?_,BG8⟩
          ·rw [hf,hEV,hlen]
           simp only [List.length_append,List.length_singleton];by_cases hj2:j+1 < s.op.length
           ·rw [if_pos (show st.op.length+1 < st.op.length+(s.op.length - j) by omega),if_pos hj2]
           ·rw [if_neg (show ¬ st.op.length+1 < st.op.length+(s.op.length - j) by omega),if_neg hj2]
          ·rw [hf]
           have:=HS8.out;rw [hdrop] at this;refine ⟨?_⟩;simpa using this
       ·have hjl:j=s.op.length:=by omega
        have hfull:st=s.op.foldl (fin1 l0 k) ⟨s.ws.set k 3,s.bs.set k (-1),[]⟩:=by rw [hst,hjl,List.take_length]
        have HFU:=zzm hfull;have HS':=HS.out;rw [hjl,List.drop_length,List.append_nil] at HS';have HSE:=zzm HS';rw [if_neg hj];clear hst hfull HS' HS hjl hj;go_wp2;go_roundw
        case rel=>exact ⟨k+1,r',by omega,by go_num,⟨by rw [HQ.out,← HFU.out];exact HSE.out⟩⟩
        case measure=>simp [intOf];omega
   ·have hk2:k=l0.length:=by omega
    subst hk2;have hc0:=HS.out.f0;have hc1:=HS.out.f1;have hr0:wr.cell? ⟨g2,0,none⟩=some (.slice none 0 0):=(zzk HS.out.res 0).trans rfl;have hr1:wr.cell? ⟨g2,1,none⟩=some (.slice none 0 0):=(zzk HS.out.res 1).trans rfl;have fr0:=zzl HS.out.res 0;have fr1:=zzl HS.out.res 1;have h23:=HS.out.n23;go_wp2;refine bodyPost_ret (results_cell_row rfl _ _ g2 72 #[.slice (some ⟨gW,0,none⟩) l0.length l0.length,.slice (some ⟨gB,0,none⟩) l0.length l0.length] (0,0) _ rfl (zzi (zzi HS.out.res 0 _ rfl) 1 _ rfl) Try.underlying72 rfl (by kernel_rfl)) rfl ?_;have hH:=HS.out;have hmx:l0.length≤maxLen:=by have:=HN.out;unfold maxLen;omega
    have r1:=ints_R (e:=74) (zzj (p:=⟨g2,1,none⟩) (zzj (p:=⟨g2,0,none⟩) hH.ww (blk_ne hH.ww hH.res (by decide)) (.slice (some ⟨gW,0,none⟩) l0.length l0.length)) (blk_ne hH.ww hH.res (by decide)) (.slice (some ⟨gB,0,none⟩) l0.length l0.length)) hH.geW (by rw [hH.ok.lw];exact hmx);have r2:=ints_R (e:=3) (zzj (p:=⟨g2,1,none⟩) (zzj (p:=⟨g2,0,none⟩) hH.bb (blk_ne hH.bb hH.res (by decide)) (.slice (some ⟨gW,0,none⟩) l0.length l0.length)) (blk_ne hH.bb hH.res (by decide)) (.slice (some ⟨gB,0,none⟩) l0.length l0.length)) hH.geB (by rw [hH.ok.lb];exact hmx);rw [hH.ok.lw] at r1;rw [hH.ok.lb] at r2;exact ⟨_,_,rfl,r1,r2,zzd (zzd hH.below hH.ge2) hH.ge2⟩
def fatesFit (l0:List S27):Bool:=decide (l0.length≤1000000)&&l0.all fun b=>decide (0 < b.f5.length)
def impl_fatesOf.f (l0:List S27):Option (List Int×List Int):=if fatesFit l0=true then some ((fatesTo l0 l0.length).ws,(fatesTo l0 l0.length).bs) else none
theorem impl_fatesOf.calls (A0:Option Addr) (c0:Nat) (l0:List (S27)) (r1:List Int) (r2:List Int) (w:World) (hr0:Kd.C k27 w A0 l0.length l0) (hc0:l0.length≤c0) (h:impl_fatesOf.f l0=some (r1,r2)) :
  Calls Try.prog 62 #[.slice A0 l0.length c0] w fun e w'=>∃ v0_ v1_:Value,e = .returned (.agg #[v0_,v1_])∧Kd.R (Kd.int .i64) 74 w' w.heap.size (fun _=>True) v0_ r1∧Kd.R (Kd.int .i64) 3 w' w.heap.size (fun _=>True) v1_ r2∧Below w.heap.size w w':=by
 unfold impl_fatesOf.f at h;split at h
 ·rename_i hf
  obtain ⟨rfl,rfl⟩:=Prod.mk.inj (Option.some.inj h);unfold fatesFit at hf;rw [Bool.and_eq_true,decide_eq_true_eq,List.all_eq_true] at hf;refine impl_fatesOf.core A0 c0 l0 w hr0 hc0 hf.1 (fun j hj=>?_);have h2:rd_T27 l0 (j:Int)=l0[j]:=by simp [rd_T27,List.getD_eq_getElem?_getD,List.getElem?_eq_getElem hj]
  rw [h2];simpa using hf.2 _ (List.getElem_mem hj)
 ·cases h
theorem field_fates (v1 v2:Value) (W:World):(Instr.field 72 (.agg #[v1,v2]) 0).run Try.prog W = .ok v1 W:=by
 have hu:=Try.underlying72;simp [Instr.field,go_sem,asAgg]
section
variable {P:Program} {ops:Array Oper} {rest:List Oper} {o:Oper} {a:Act} {W:World} {Q:Exit→Act→World→Prop} {Kc:Act→World→Prop} {α:Type}
theorem run_make0 (t:TypeId) (x y:Operand) (ho:o.op = .makeSlice t x y) (n:Int) (hx:a.eval x = .int .i64 0) (hy:a.eval y = .int .i64 n) {e sz:Nat}
  (ht:P.underlying t=some (.slice e)) (z:Value) (bytes:Nat) (hinfo:(P.info? e).map (fun i=>(i.zero,i.size,i.bytes))=some (some z,sz,bytes)) (hb0 : 0 < bytes) (h0 : 0≤n) (hl:n.toNat * bytes≤281474976710656) :
  (execOp a.eval o).run P W = .ok (.value (.slice (some ⟨W.heap.size,0,none⟩) 0 n.toNat)) (W.alloc (.cells (madeCells z.cells (n.toNat * sz)) e)):=by
 obtain ⟨m,rfl⟩:=Int.eq_ofNat_of_zero_le h0;simp only [Int.toNat_natCast] at hl ⊢;obtain ⟨i0,hi,hzz⟩:=Option.map_eq_some_iff.1 hinfo;simp only [Prod.mk.injEq] at hzz;obtain ⟨hz0,hz1,hz2⟩:=hzz;have hm:m≤281474976710656:=Nat.le_trans (Nat.le_mul_of_pos_right _ hb0) hl;have hr:=run_make (P:=P) W t e i0 z ht hi hz0 .i64 .i64 0 (m:Int) (by omega) (by omega)
  (by
   have h3:((i0.bytes * m:Nat):Int)≤281474976710656:=by rw [hz2,Nat.mul_comm];omega
   rwa [Int.natCast_mul] at h3) (by omega)
 simp only [Int.toNat_natCast,Int.toNat_zero] at hr;rw [hz1] at hr;simp [execOp,ho,hx,hy,hr]
theorem made0_R (d:Kd α) (e base m:Nat) (z:Value) {ok:Nat→Prop} (hfresh:ok W.heap.size) (hbase:base≤W.heap.size) (hm:m≤9223372036854775807) :
  d.R e (W.alloc (.cells (madeCells z.cells (m * d.sz)) e)) base ok (.slice (some ⟨W.heap.size,0,none⟩) 0 m) []:=by
 refine ⟨fun k hk=>?_,[],?_,by simp,fun j p hj=>by simp at hj⟩
 ·
  have:W.heap.size=k:=by simpa [Value.ownBlock] using hk
  subst this;exact hfresh
 ·
  have h2:=own_take (World.ownsRow_lit (base:=base) (e:=e) (size:=d.sz) W (madeCells z.cells (m * d.sz)) m hbase (by simpa [maxLen] using hm) (by simp [size_madeCells])) (Nat.zero_le m);simpa using h2
theorem rmake0_R (d:Kd α) {w0:World} (base e:Nat) (hgd:o.guard=none) {N:Tmp} (_hd:o.dst=some N) (t:TypeId) (x y:Operand) (ho:o.op = .makeSlice t x y) (n:Int) (hx:a.eval x = .int .i64 0) (hy:a.eval y = .int .i64 n)
  (ht:P.underlying t=some (.slice e)) (z:Value) (bytes:Nat) (hinfo:(P.info? e).map (fun i=>(i.zero,i.size,i.bytes))=some (some z,d.sz,bytes)) (hs0 : 0 < d.sz) (hb0 : 0 < bytes)
  {ok:Nat→Prop} (hfresh:ok W.heap.size) (h0 : 0≤n) (hl:n.toNat * bytes≤281474976710656) (HB:Below base w0 W) (hbase:base≤W.heap.size)
  (h:∀ v1 w1,d.R e w1 base ok v1 []→Below base w0 w1→W.grownBy w1 none→(∃ b,v1.ownBlock=some b∧W.heap.size≤b)→wpList P ops Q rest (a.put o.dst v1) w1):wpList P ops Q (o::rest) a W:=
 Kd.event_run hgd (run_make0 t x y ho n hx hy ht z bytes hinfo hb0 h0 hl) (h _ _ (made0_R d e base _ z hfresh hbase (by have:=Nat.le_mul_of_pos_right n.toNat hb0;omega)) (HB.alloc hbase _) (World.grownBy_alloc W _ none) ⟨W.heap.size,by simp [Value.ownBlock],Nat.le_refl _⟩)
theorem rmake0_S (d:Kd α) {w0:World} (base e:Nat) (hgd:o.guard=none) {N:Tmp} (_hd:o.dst=some N) (t:TypeId) (x y:Operand) (ho:o.op = .makeSlice t x y) (n:Int) (hx:a.eval x = .int .i64 0) (hy:a.eval y = .int .i64 n)
  (ht:P.underlying t=some (.slice e)) (z:Value) (bytes:Nat) (hinfo:(P.info? e).map (fun i=>(i.zero,i.size,i.bytes))=some (some z,d.sz,bytes)) (hs0 : 0 < d.sz) (hb0 : 0 < bytes)
  {ok:Nat→Prop} (hfresh:ok W.heap.size) (h0 : 0≤n) (hl:n.toNat * bytes≤281474976710656) (HB:Below base w0 W) (hbase:base≤W.heap.size)
  (h:∀ v1 w1,Kd.S d e w1 base ok v1 []→Below base w0 w1→W.grownBy w1 none→(∃ b,v1.ownBlock=some b∧W.heap.size≤b)→wpList P ops Q rest (a.put o.dst v1) w1):wpList P ops Q (o::rest) a W:=
 rmake0_R (Kd.bare d) base e hgd _hd t x y ho n hx hy ht z bytes hinfo hs0 hb0 hfresh h0 hl HB hbase (fun v1 w1 hr=>h v1 w1 (Kd.S_bare (xs:=[]) hr))
end
def slices_Clone_int_int.f (l0:List Int):Option (List Int):=if l0.length < 8796093022208 then some l0 else none
set_option maxHeartbeats 8000000 in
set_option maxRecDepth 100000 in
theorem slices_Clone_int_int.calls (A0:Option Addr) (c0:Nat) (l0:List (Int)) (r:List (Int)) (w:World) (hr0:Kd.C (Kd.int .i64) w A0 l0.length l0) (hc0:l0.length≤c0) (h:slices_Clone_int_int.f l0=some r) :
  Calls Try.prog 97 #[.slice A0 l0.length c0] w fun e w'=>∃ v0_:Value,e = .returned (v0_)∧Kd.R (Kd.int .i64) 3 w' w.heap.size (fun _=>True) v0_ r∧Below w.heap.size w w':=by
 unfold slices_Clone_int_int.f at h;by_cases hlt:l0.length < 8796093022208
 ·
  rw [if_pos hlt] at h;obtain rfl:=Option.some.inj h;have LM:=zzm hlt;clear hlt h;have HR0:=zzm hr0;have HC0:=zzm hc0;clear hr0 hc0;have HB:=zzm (Below.refl w.heap.size w);have q23:∀ (w:World) (a:Option Addr) (n c n' c' : Nat),(binOp .eql 32 (.slice a n c) (.slice none n' c')).run Try.prog w = .ok (.bool a.isNone) w:=fun w a n c n' c'=>Lib.run_eql_slice_nil w _ _ a n c n' c' Try.underlying32;cases A0 with
  | none=>
   have hl:l0 = []:=by
    cases l0 with
    | nil=>rfl
    | cons a l=>
     obtain ⟨ad,e,_⟩:=HR0.out.2.2 (by simp);cases e
   subst hl;go_enter Try.func97,Try.ntmps97;go_wp2;go_ret;exact ⟨_,rfl,Kd.R_nil _ _ _ _ _,HB.out⟩
  | some ad=>
   obtain ⟨y,hy⟩:∃ y:List Int,y = []:=⟨_,rfl⟩;have Ny:=zzm hy;clear hy;go_enter Try.func97,Try.ntmps97;go_wp2_with (first
    | ((with_reducible refine gate_dst (N:=5) rfl ?_);refine Kd.R_lit (Kd.int .i64) _ 3 ?hg (N:=5) ?hd (xs:=([]:List (Int))) (inner:=[]) (ok:=fun _=>True) (okp:=fun _=>True) ?hr ?hp (fun _ hk=>hk) trivial (Below.refl _ _) (Nat.le_refl _) (by simp) ?_;(case hd=>rfl);(case hg=>rfl);(case hr=>first|(go_simp;done)|(go_simp;rfl));(case hp=>exact (Reps.none _ _));intro v1 w1 ho1 hb hg_ hnew_;clear hg_ hnew_;rw [← Ny.out] at ho1;have n1_:=zzm (zzp HB.out hb);have n2_:=zzm ho1;clear HB;have HB:=n1_;have HO:=n2_;clear n1_ n2_ hb ho1)
    | ((with_reducible refine gate_dst (N:=7) rfl ?_);refine Kd.R_append_rows (Kd.int .i64) (w0:=w) w.heap.size rfl (.tmp 5) (.tmp 6) 32 3 (.int .i64 0) 8 rfl Try.underlying32 info3 rfl (by decide) (by omega) v1 y l0 _ _ _ (fun _=>True) (fun _=>False) rfl rfl ?aO ?aR (fun _ _ h=>h) (fun _ h=>h.elim) ?aF ?aB ?aS ?aL ?_;(case aR=>exact (Kd.C_below HR0.out HB.out));(case aB=>exact HB.out);(case aF=>exact fun _ _=>trivial);(case aO=>exact HO.out);(case aS=>exact HB.out.size);(case aL=>have:=LM.out;rw [Ny.out];simp only [List.length_nil];omega);intro v2 w2 ho2 hb2 hg2 hat2;rw [Ny.out,List.nil_append] at ho2;have HO2:=zzm ho2;have HB2:=zzm hb2;clear ho2 hb2 hg2 hat2))
   go_ret;exact ⟨_,rfl,HO2.out,HB2.out⟩
 ·
  rw [if_neg hlt] at h;cases h
def impl_Record_copyOf.f (a0_0:Int) (a0_1:Int) (a0_2:Bool) (l0_3:List Int) (a0_4:Bool) (l0_5:List Int):Option (Int×Int×Bool×List Int×Bool×List Int):=(slices_Clone_int_int.f l0_3).bind fun t341=>((slices_Clone_int_int.f l0_5).bind fun t344=>(some (a0_0,a0_1,a0_2,t341,a0_4,t344)))
set_option maxHeartbeats 8000000 in
set_option maxRecDepth 100000 in
theorem impl_Record_copyOf.calls (a0_0:Int) (a0_1:Int) (a0_2:Bool) (A0_3:Option Addr) (c0_3:Nat) (l0_3:List Int) (a0_4:Bool) (A0_5:Option Addr) (c0_5:Nat) (l0_5:List Int) (r1:Int) (r2:Int) (r3:Bool) (r4:List Int) (r5:Bool) (r6:List Int) (w:World) (hr0_3:Kd.C (Kd.int .i64) w A0_3 l0_3.length l0_3) (hc0_3:l0_3.length≤c0_3) (hr0_5:Kd.C (Kd.int .i64) w A0_5 l0_5.length l0_5) (hc0_5:l0_5.length≤c0_5) (h:impl_Record_copyOf.f a0_0 a0_1 a0_2 l0_3 a0_4 l0_5=some (r1,r2,r3,r4,r5,r6)) :
  Calls Try.prog 78 #[.agg #[.int .i64 a0_0,.int .i64 a0_1,.bool a0_2,.slice A0_3 l0_3.length c0_3,.bool a0_4,.slice A0_5 l0_5.length c0_5]] w fun e w'=>∃ v3_ v5_:Value,e = .returned (.agg #[.int .i64 r1,.int .i64 r2,.bool r3,v3_,.bool r5,v5_])∧Kd.R (Kd.int .i64) 3 w' w.heap.size (fun k_=>some k_≠(v5_:Value).ownBlock) v3_ r4∧Kd.R (Kd.int .i64) 3 w' w.heap.size (fun k_=>some k_≠(v3_:Value).ownBlock) v5_ r6∧Below w.heap.size w w':=by
 have hu34:=Try.underlying34;have HR0_3:=zzm hr0_3;have HC0_3:=zzm hc0_3;clear hr0_3 hc0_3;have HR0_5:=zzm hr0_5;have HC0_5:=zzm hc0_5;clear hr0_5 hc0_5;have HB:=zzm (Below.refl w.heap.size w);have H:((slices_Clone_int_int.f l0_3).bind fun t341=>((slices_Clone_int_int.f l0_5).bind fun t344=>(some (a0_0,a0_1,a0_2,t341,a0_4,t344))))=some (r1,r2,r3,r4,r5,r6):=h;clear h;replace H:=Option.bind_eq_some_iff.mp H;obtain ⟨t341,A20,H⟩:=H;replace H:((slices_Clone_int_int.f l0_5).bind fun t344=>(some (a0_0,a0_1,a0_2,t341,a0_4,t344)))=some (r1,r2,r3,r4,r5,r6):=H;have A2:=zzm A20;clear A20;replace H:=Option.bind_eq_some_iff.mp H;obtain ⟨t344,A30,H⟩:=H;replace H:(some (a0_0,a0_1,a0_2,t341,a0_4,t344))=some (r1,r2,r3,r4,r5,r6):=H;have A3:=zzm A30;clear A30;simp only [Option.some.injEq,Prod.mk.injEq] at H;obtain ⟨rfl,rfl,rfl,rfl,rfl,rfl⟩:=H;go_enter Try.func78,Try.ntmps78;go_wp2_with (first|((with_reducible refine gate_dst (N:=1) rfl ?_);refine box_event ?hg (N:=1) ?hd (cs:=#[.int .i64 a0_0,.int .i64 a0_1,.bool a0_2,.slice A0_3 l0_3.length c0_3,.bool a0_4,.slice A0_5 l0_5.length c0_5]) (t:=34) ?hr ?_;(case hd=>rfl);(case hg=>rfl);(case hr=>first|(go_simp;done)|(go_simp;rfl));intro gb339 hg w4 hbox hb;have n0_:=zzm (zzp zzh1 hb);have n1_:=zzm (hbox);have n2_:=zzm ((by rw [hg];exact (zzo zzh1):w.heap.size≤gb339));have n3_:=zzm ((by rw [hg];exact (zzo zzh1):w.heap.size≤gb339));clear HB;have HB:=n0_;have BK339:=n1_;have GW339:=n2_;have GE339:=n3_;clear n0_ n1_ n2_ n3_ hb hbox hg)|((with_reducible refine gate_dst (N:=2) rfl ?_);refine box_event ?hg (N:=2) ?hd (cs:=#[.int .i64 0,.int .i64 0,.bool false,.slice none 0 0,.bool false,.slice none 0 0]) (t:=34) ?hr ?_;(case hd=>rfl);(case hg=>rfl);(case hr=>first|(go_simp;done)|(go_simp;rfl));intro gb340 hg w5 hbox hb;have n0_:=zzm (zzh (g:=gb339) (o:=.cells #[.int .i64 a0_0,.int .i64 a0_1,.bool a0_2,.slice A0_3 l0_3.length c0_3,.bool a0_4,.slice A0_5 l0_5.length c0_5] 34 (0,0)) (zzE BK339.out) hb);have n1_:=zzm (zzp zzh2 hb);have n2_:=zzm (hbox);have n3_:=zzm ((by rw [hg];exact (zzo zzh2):w.heap.size≤gb340));have n4_:=zzm ((by rw [hg];exact (zzo zzh2):w.heap.size≤gb340));have n5_:=zzm ((by rw [hg];exact Nat.ne_of_lt (blk_lt (g:=gb339) (o:=.cells #[.int .i64 a0_0,.int .i64 a0_1,.bool a0_2,.slice A0_3 l0_3.length c0_3,.bool a0_4,.slice A0_5 l0_5.length c0_5] 34 (0,0)) (zzE BK339.out)):gb339≠gb340));have n6_:=zzm ((by rw [hg];exact Nat.ne_of_gt (blk_lt (g:=gb339) (o:=.cells #[.int .i64 a0_0,.int .i64 a0_1,.bool a0_2,.slice A0_3 l0_3.length c0_3,.bool a0_4,.slice A0_5 l0_5.length c0_5] 34 (0,0)) (zzE BK339.out)):gb340≠gb339));clear BK339 HB;have BK339:=n0_;have HB:=n1_;have BK340:=n2_;have GW340:=n3_;have GE340:=n4_;have NB339_340:=n5_;have NB340_339:=n6_;clear n0_ n1_ n2_ n3_ n4_ n5_ n6_ hb hbox hg;have hnb6:=NB339_340.out;have hnc6:=NB340_339.out;obtain ⟨hcz7_0,hcz7_1,hcz7_2,hcz7_3,hcz7_4,hcz7_5,hfz7_0,hfz7_1,hfz7_2,hfz7_3,hfz7_4,hfz7_5⟩:=zzc6 BK339.out)|((with_reducible refine gate_callee (f:=97) rfl ?_);refine goesL_ (some 5) rfl rfl Try.func97 (by kernel_rfl) rfl #[.slice A0_3 l0_3.length c0_3] rfl zzM2 ?_;(with_reducible refine (slices_Clone_int_int.calls _ _ l0_3 t341 _ ?side1 ?side2 A2.out).mono ?_);(case side1=>repeat (first|exact (Kd.C_below HR0_3.out HB.out)|(with_reducible refine Kd.C_alloc ?_ _)|(with_reducible refine Kd.C_drewN ?_ _)|(with_reducible refine Kd.C_drew ?_)));(case side2=>exact HC0_3.out);rintro e w8 ⟨v342,rfl,ho0,hb⟩;refine ⟨_,rfl,?_⟩;have n0_:=zzm (Kd.R_lower ho0 (zzo zzh2));have n1_:=zzm (zzh (g:=gb339) (o:=.cells #[.int .i64 a0_0,.int .i64 a0_1,.bool a0_2,.slice A0_3 l0_3.length c0_3,.bool a0_4,.slice A0_5 l0_5.length c0_5] 34 (0,0)) (zzE BK339.out) hb);have n2_:=zzm (zzh (g:=gb340) (o:=.cells #[.int .i64 0,.int .i64 0,.bool false,.slice none 0 0,.bool false,.slice none 0 0] 34 (0,0)) (zzE BK340.out) hb);have n3_:=zzm (zzp zzh2 hb);clear BK339 BK340 HB;have HO343:=n0_;have BK339:=n1_;have BK340:=n2_;have HB:=n3_;clear n0_ n1_ n2_ n3_;(try clear hb);(try clear hb2);(try clear hk);(try clear hi);(try clear ho0);obtain ⟨Ao9,co9,eo9⟩:=Kd.R_slice HO343.out;subst eo9;obtain ⟨hcz10_0,hcz10_1,hcz10_2,hcz10_3,hcz10_4,hcz10_5,hfz10_0,hfz10_1,hfz10_2,hfz10_3,hfz10_4,hfz10_5⟩:=zzc6 BK339.out)|((with_reducible refine gate_callee (f:=97) rfl ?_);refine goesL_ (some 9) rfl rfl Try.func97 (by kernel_rfl) rfl #[.slice A0_5 l0_5.length c0_5] rfl zzM2 ?_;(with_reducible refine (slices_Clone_int_int.calls _ _ l0_5 t344 _ ?side1 ?side2 A3.out).mono ?_);(case side1=>exact Kd.C_below HR0_5.out zzh2);(case side2=>exact HC0_5.out);rintro e w11 ⟨v345,rfl,ho0,hb⟩;refine ⟨_,rfl,?_⟩;have n0_:=zzm (Kd.R_elder' (by (with_reducible repeat (first|apply Kd.R_alloc|apply Kd.R_drewN|apply Kd.R_drew));exact (Kd.R_mono (Kd.R_far (p:=⟨gb339,3,none⟩) (Kd.R_types HO343.out BK339.out (by decide)) (fun _ hk=>hk.2) (.slice Ao9 t341.length co9)) (fun _ h_=>h_.1))) (Kd.R_base ho0) hb);have n1_:=zzm (Kd.R_lower (Kd.R_new' ho0 (Kd.R_lt (by (with_reducible repeat (first|apply Kd.R_alloc|apply Kd.R_drewN|apply Kd.R_drew));exact (Kd.R_mono (Kd.R_far (p:=⟨gb339,3,none⟩) (Kd.R_types HO343.out BK339.out (by decide)) (fun _ hk=>hk.2) (.slice Ao9 t341.length co9)) (fun _ h_=>h_.1))))) (zzo zzh2));have n2_:=zzm (zzh (g:=gb339) (o:=.cells #[.int .i64 a0_0,.int .i64 a0_1,.bool a0_2,.slice Ao9 t341.length co9,.bool a0_4,.slice A0_5 l0_5.length c0_5] 34 (0,0)) (by (with_reducible repeat (first|apply zzf|apply zzg|apply zze));refine zzi (cs:=#[.int .i64 a0_0,.int .i64 a0_1,.bool a0_2,.slice A0_3 l0_3.length c0_3,.bool a0_4,.slice A0_5 l0_5.length c0_5]) ?_ 3 _ rfl;(with_reducible repeat (first|apply zzf|apply zzg|apply zze));exact BK339.out) hb);have n3_:=zzm (zzh (g:=gb340) (o:=.cells #[.int .i64 0,.int .i64 0,.bool false,.slice none 0 0,.bool false,.slice none 0 0] 34 (0,0)) (by (with_reducible repeat (first|apply zzf|apply zzg|apply zze));refine zzj ?_ NB340_339.out _;(with_reducible repeat (first|apply zzf|apply zzg|apply zze));exact BK340.out) hb);have n4_:=zzm (zzp zzh2 hb);clear HO343 BK339 BK340 HB;have HO343:=n0_;have HO346:=n1_;have BK339:=n2_;have BK340:=n3_;have HB:=n4_;clear n0_ n1_ n2_ n3_ n4_;(try clear hb);(try clear hb2);(try clear hk);(try clear hi);(try clear ho0);obtain ⟨Ao12,co12,eo12⟩:=Kd.R_slice HO346.out;subst eo12;obtain ⟨hcz13_0,hcz13_1,hcz13_2,hcz13_3,hcz13_4,hcz13_5,hfz13_0,hfz13_1,hfz13_2,hfz13_3,hfz13_4,hfz13_5⟩:=zzc6 BK339.out;obtain ⟨hcz14_0,hcz14_1,hcz14_2,hcz14_3,hcz14_4,hcz14_5,hfz14_0,hfz14_1,hfz14_2,hfz14_3,hfz14_4,hfz14_5⟩:=zzc6 BK340.out));refine bodyPost_ret (results_cell_row rfl _ _ gb340 34 #[.int .i64 a0_0,.int .i64 a0_1,.bool a0_2,.slice Ao9 t341.length co9,.bool a0_4,.slice Ao12 t344.length co12] (0,0) _ rfl (by (with_reducible repeat (first|apply zzf|apply zzg|apply zze));refine zzi (cs:=#[.int .i64 a0_0,.int .i64 a0_1,.bool a0_2,.slice Ao9 t341.length co9,.bool a0_4,.slice none 0 0]) ?_ 5 _ rfl;(with_reducible repeat (first|apply zzf|apply zzg|apply zze));refine zzi (cs:=#[.int .i64 a0_0,.int .i64 a0_1,.bool a0_2,.slice Ao9 t341.length co9,.bool false,.slice none 0 0]) ?_ 4 _ rfl;(with_reducible repeat (first|apply zzf|apply zzg|apply zze));refine zzi (cs:=#[.int .i64 a0_0,.int .i64 a0_1,.bool a0_2,.slice none 0 0,.bool false,.slice none 0 0]) ?_ 3 _ rfl;(with_reducible repeat (first|apply zzf|apply zzg|apply zze));refine zzi (cs:=#[.int .i64 a0_0,.int .i64 a0_1,.bool false,.slice none 0 0,.bool false,.slice none 0 0]) ?_ 2 _ rfl;(with_reducible repeat (first|apply zzf|apply zzg|apply zze));refine zzi (cs:=#[.int .i64 a0_0,.int .i64 0,.bool false,.slice none 0 0,.bool false,.slice none 0 0]) ?_ 1 _ rfl;(with_reducible repeat (first|apply zzf|apply zzg|apply zze));refine zzi (cs:=#[.int .i64 0,.int .i64 0,.bool false,.slice none 0 0,.bool false,.slice none 0 0]) ?_ 0 _ rfl;(with_reducible repeat (first|apply zzf|apply zzg|apply zze));refine zzj ?_ NB340_339.out _;(with_reducible repeat (first|apply zzf|apply zzg|apply zze));exact BK340.out) Try.underlying34 rfl (by kernel_rfl)) rfl ?_;exact ⟨_,_,by first|rfl|(simp [errW_none,errW_some] <;> rfl)|(simp [*,errW_none,errW_some] <;> rfl),by (with_reducible repeat (first|apply Kd.R_alloc|apply Kd.R_drewN|apply Kd.R_drew));exact Kd.R_mono (Kd.R_far (p:=⟨gb340,5,none⟩) (Kd.R_far (p:=⟨gb340,4,none⟩) (Kd.R_far (p:=⟨gb340,3,none⟩) (Kd.R_far (p:=⟨gb340,2,none⟩) (Kd.R_far (p:=⟨gb340,1,none⟩) (Kd.R_far (p:=⟨gb340,0,none⟩) (Kd.R_far (p:=⟨gb339,5,none⟩) (Kd.R_types (Kd.R_types HO343.out BK339.out (by decide)) BK340.out (by decide)) (fun _ hk=>hk.1.2) (.slice Ao12 t344.length co12)) (fun _ hk=>hk.2) (.int .i64 a0_0)) (fun _ hk=>hk.2) (.int .i64 a0_1)) (fun _ hk=>hk.2) (.bool a0_2)) (fun _ hk=>hk.2) (.slice Ao9 t341.length co9)) (fun _ hk=>hk.2) (.bool a0_4)) (fun _ hk=>hk.2) (.slice Ao12 t344.length co12)) (fun _ hk=>hk.1.1.2),by (with_reducible repeat (first|apply Kd.R_alloc|apply Kd.R_drewN|apply Kd.R_drew));exact Kd.R_mono (Kd.R_far (p:=⟨gb340,5,none⟩) (Kd.R_far (p:=⟨gb340,4,none⟩) (Kd.R_far (p:=⟨gb340,3,none⟩) (Kd.R_far (p:=⟨gb340,2,none⟩) (Kd.R_far (p:=⟨gb340,1,none⟩) (Kd.R_far (p:=⟨gb340,0,none⟩) (Kd.R_far (p:=⟨gb339,5,none⟩) (Kd.R_types (Kd.R_types HO346.out BK339.out (by decide)) BK340.out (by decide)) (fun _ hk=>hk.1.2) (.slice Ao12 t344.length co12)) (fun _ hk=>hk.2) (.int .i64 a0_0)) (fun _ hk=>hk.2) (.int .i64 a0_1)) (fun _ hk=>hk.2) (.bool a0_2)) (fun _ hk=>hk.2) (.slice Ao9 t341.length co9)) (fun _ hk=>hk.2) (.bool a0_4)) (fun _ hk=>hk.2) (.slice Ao12 t344.length co12)) (fun _ hk=>hk.1.1.2),by repeat (first|(with_reducible first|exact HB.out|apply zza|apply zzb|apply zzc|refine zzd ?_ GE339.out|refine zzd ?_ GE340.out)|exact HB.out)⟩
def impl_copyRecords.l0:Nat→List (S34)→List (S34)→Int→Int→Option ((List (S34)))
 | 0,_,_,_,_=>none
 | k+1,x3,x9,x10,x11=>if x11 < x10 then (if 0≤x11 then (if x11 < (x9.length:Int) then ((impl_Record_copyOf.f ((rd_T34 x9 x11).f0) ((rd_T34 x9 x11).f1) ((rd_T34 x9 x11).f2) ((rd_T34 x9 x11).f3) ((rd_T34 x9 x11).f4) ((rd_T34 x9 x11).f5)).bind fun bt352=>(if x3.length < 1759218604441 then (impl_copyRecords.l0 k (x3 ++ [(⟨bt352.1,bt352.2.1,bt352.2.2.1,bt352.2.2.2.1,bt352.2.2.2.2.1,bt352.2.2.2.2.2⟩:S34)]) x9 x10 (wrap64 (x11+1))) else (none))) else (none)) else (none)) else (some x3)
def impl_copyRecords.f (k:Nat) (l0:List (S34)):Option ((List (S34))):=if 0≤(l0.length:Int) then (if ((l0.length:Int):Int).toNat≤3518437208883 then (impl_copyRecords.l0 k (([]:List (S34))) l0 (l0.length:Int) 0) else (none)) else (none)
set_option maxHeartbeats 8000000 in
set_option maxRecDepth 100000 in
theorem impl_copyRecords.calls (k:Nat) (A0:Option Addr) (c0:Nat) (l0:List (S34)) (r:List (S34)) (w:World) (hr0:Kd.C k34 w A0 l0.length l0) (hc0:l0.length≤c0) (h:impl_copyRecords.f k l0=some r) :
  Calls Try.prog 72 #[.slice A0 l0.length c0] w fun e w'=>∃ v0_:Value,e = .returned (v0_)∧Kd.S k34 34 w' w.heap.size (fun _=>True) v0_ r∧Below w.heap.size w w':=by
 have hu34:=Try.underlying34;have HR0:=zzm hr0;have HC0:=zzm hc0;clear hr0 hc0;have HB:=zzm (Below.refl w.heap.size w);have H:(if 0≤(l0.length:Int) then (if ((l0.length:Int):Int).toNat≤3518437208883 then (impl_copyRecords.l0 k (([]:List (S34))) l0 (l0.length:Int) 0) else (none)) else (none))=some r:=h;clear h;by_cases c2 : 0≤(l0.length:Int)
 ·
  rw [if_pos c2] at H;have c2b0:=eq_true c2;have c2b1:decide (0≤(l0.length:Int))=true:=decide_eq_true c2;clear c2;by_cases c3:((l0.length:Int):Int).toNat≤3518437208883
  ·
   rw [if_pos c3] at H;have c3b0:=eq_true c3;have c3b1:decide (((l0.length:Int):Int).toNat≤3518437208883)=true:=decide_eq_true c3;clear c3;obtain ⟨y347,hy347⟩:∃ y_:List (S34),y_=(([]:List (S34))):=⟨_,rfl⟩;replace H:(impl_copyRecords.l0 k y347 l0 (l0.length:Int) 0)=some r:=by first|(rw [hy347];with_reducible exact H)|(have H2_:=(Option.bind_some _ _).symm.trans H;rw [hy347];with_reducible exact H2_)|(have H2_:=(Option.bind_some _ _).symm.trans H;with_reducible exact H2_)|with_reducible exact H|(rw [hy347];exact H)|exact H
   have Ny347:=zzm hy347;clear hy347;have H':=zzm H;clear H;go_enter Try.func72,Try.ntmps72;go_wp2_with (first|((with_reducible refine gate_dst (N:=8) rfl ?_);refine rmake0_S k34 _ 34 rfl (N:=8) rfl 25 _ _ rfl (l0.length:Int) rfl rfl Try.underlying25 (.agg #[(.int .i64 0),(.int .i64 0),(.bool false),(.slice none 0 0),(.bool false),(.slice none 0 0)]) 80 info34 (by decide) (by omega) (ok:=fun _=>True) (trivial) (zzt) (Nat.le_trans (Nat.mul_le_mul_right _ (zzt:(l0.length:Int).toNat≤3518437208883)) (by omega)) (Below.refl _ _) (Nat.le_refl _) ?_;intro v348 w4 ho5 hb hg_ hnew_;clear hg_ hnew_;(first|rw [← Ny347.out] at ho5|(simp only [Int.reduceToNat] at ho5;rw [← Ny347.out] at ho5));have n0_:=zzm (Kd.S_lower ho5 (zzo zzh1));have n1_:=zzm (zzp zzh1 hb);clear HB;have HO349:=n0_;have HB:=n1_;clear n0_ n1_ hb ho5));go_loopg [3,11] k (fun kq v3 v11 w'=>∃ (x3_1:List (S34)) (x11_1:Int),v11 = .int .i64 x11_1∧Aside0 (impl_copyRecords.l0 kq x3_1 l0 (l0.length:Int) x11_1=some r)∧Aside0 (kq≤k)∧Aside0 (Kd.S k34 34 w' w.heap.size (fun _=>True) v3 x3_1)∧Aside0 (Below w.heap.size w w'))
   case atStart=>exact ⟨(y347),(0),(by first|rfl|(simp;done)|(simp [*];done)),H',⟨Nat.le_refl _⟩,⟨by (with_reducible repeat (first|apply Kd.S_alloc|apply Kd.S_drewN|apply Kd.S_drew));exact HO349.out⟩,⟨zzh1⟩⟩
   case round=>
    clear H';try clear c2
    try clear c2b0
    try clear c2b1
    try clear p2
    try clear c3
    try clear c3b0
    try clear c3b1
    obtain ⟨x3_1,x11_1,rfl,HA,HK1,HO_3,HB⟩:=hrel;cases gk with
    | zero=>exact absurd HA.out (by simp [impl_copyRecords.l0])
    | succ k1=>
     have H:=HA.out;clear HA;simp only [impl_copyRecords.l0] at H;by_cases c6:x11_1 < (l0.length:Int)
     ·
      rw [if_pos c6] at H;have c6b0:decide (x11_1 < (l0.length:Int))=true:=decide_eq_true c6;clear c6;by_cases c7 : 0≤x11_1
      ·
       rw [if_pos c7] at H;have c7b0:decide (0≤x11_1)=true:=decide_eq_true c7;clear c7;by_cases c8:x11_1 < (l0.length:Int)
       ·
        rw [if_pos c8] at H;have c8b0:decide (x11_1 < (l0.length:Int))=true:=decide_eq_true c8;clear c8;replace H:=Option.bind_eq_some_iff.mp H;obtain ⟨⟨t352,t353,t354,t355,t358,t359⟩,A90,H⟩:=H;replace H:(if x3_1.length < 1759218604441 then (impl_copyRecords.l0 k1 (x3_1 ++ [(⟨t352,t353,t354,t355,t358,t359⟩:S34)]) l0 (l0.length:Int) (wrap64 (x11_1+1))) else (none))=some r:=H;have A9:=zzm A90;clear A90;by_cases c10:x3_1.length < 1759218604441
        ·
         rw [if_pos c10] at H;have LMc10:=zzm c10;clear c10;obtain ⟨y362,hy362⟩:∃ y_:List (S34),y_=(x3_1 ++ [(⟨t352,t353,t354,t355,t358,t359⟩:S34)]):=⟨_,rfl⟩;replace H:(impl_copyRecords.l0 k1 y362 l0 (l0.length:Int) (wrap64 (x11_1+1)))=some r:=by first|(rw [hy362];with_reducible exact H)|(have H2_:=(Option.bind_some _ _).symm.trans H;rw [hy362];with_reducible exact H2_)|(have H2_:=(Option.bind_some _ _).symm.trans H;with_reducible exact H2_)|with_reducible exact H|(rw [hy362];exact H)|exact H
         have Ny362:=zzm hy362;clear hy362;have H':=zzm H;clear H;have p350 : 0≤(x11_1:Int):=zzt;have q350:x11_1 < (l0.length:Int):=zzt;obtain ⟨ad350,A350_3,c350_3,A350_5,c350_5,e350,hx350_0,hx350_1,hx350_2,hx350_3,hx350_4,hx350_5,hl350_3,hi350_3,hl350_5,hi350_5⟩:=at_T34 HR0.out x11_1 p350 q350;cases e350;replace hx350_0:=zzx HB.out hx350_0;replace hx350_1:=zzx HB.out hx350_1;replace hx350_2:=zzx HB.out hx350_2;replace hx350_3:=zzx HB.out hx350_3;replace hx350_4:=zzx HB.out hx350_4;replace hx350_5:=zzx HB.out hx350_5;have HR350_3:=zzm hi350_3;have HC350_3:=zzm hl350_3;clear hi350_3 hl350_3;have HR350_5:=zzm hi350_5;have HC350_5:=zzm hl350_5;clear hi350_5 hl350_5;replace p350:=eq_true p350;replace q350:=eq_true q350;go_wp2_with (first|((with_reducible refine gate_dst (N:=5) rfl ?_);refine box_event ?hg (N:=5) ?hd (cs:=#[.int .i64 0,.int .i64 0,.bool false,.slice none 0 0,.bool false,.slice none 0 0]) (t:=34) ?hr ?_;(case hd=>rfl);(case hg=>rfl);(case hr=>first|(go_simp;done)|(go_simp;rfl));intro gb351 hg w11 hbox hb;have n0_:=zzm (Kd.S_below (Kd.S_elderB (zzS HO_3.out) gb351 (Nat.le_of_eq hg.symm)) hb);have n1_:=zzm (zzp zzh1 hb);have n2_:=zzm (hbox);have n3_:=zzm ((by rw [hg];exact (zzo zzh1):w.heap.size≤gb351));have n4_:=zzm ((by rw [hg];exact (zzo zzh1):w.heap.size≤gb351));clear HO_3 HB;have HO_3:=n0_;have HB:=n1_;have BK351:=n2_;have GW351:=n3_;have GE351:=n4_;clear n0_ n1_ n2_ n3_ n4_ hb hbox hg;obtain ⟨hcz12_0,hcz12_1,hcz12_2,hcz12_3,hcz12_4,hcz12_5,hfz12_0,hfz12_1,hfz12_2,hfz12_3,hfz12_4,hfz12_5⟩:=zzc6 BK351.out)|((with_reducible refine gate_callee (f:=78) rfl ?_);refine goesL_ (some 17) rfl rfl Try.func78 (by kernel_rfl) rfl #[.agg #[.int .i64 ((rd_T34 l0 x11_1).f0),.int .i64 ((rd_T34 l0 x11_1).f1),.bool ((rd_T34 l0 x11_1).f2),.slice A350_3 ((rd_T34 l0 x11_1).f3).length c350_3,.bool ((rd_T34 l0 x11_1).f4),.slice A350_5 ((rd_T34 l0 x11_1).f5).length c350_5]] rfl zzM2 ?_;(with_reducible refine (impl_Record_copyOf.calls ((rd_T34 l0 x11_1).f0) ((rd_T34 l0 x11_1).f1) ((rd_T34 l0 x11_1).f2) _ _ ((rd_T34 l0 x11_1).f3) ((rd_T34 l0 x11_1).f4) _ _ ((rd_T34 l0 x11_1).f5) t352 t353 t354 t355 t358 t359 _ ?side1 ?side2 ?side3 ?side4 A9.out).mono ?_);(case side1=>exact Kd.C_below HR350_3.out zzh2);(case side2=>exact HC350_3.out);(case side3=>exact Kd.C_below HR350_5.out zzh2);(case side4=>exact HC350_5.out);rintro e w13 ⟨v356,v360,rfl,ho0,ho1,hb⟩;refine ⟨_,rfl,?_⟩;have n0_:=zzm (Kd.S_mono (Kd.S_told (Kd.S_told (Kd.S_old (zzS ((Kd.S_mono (Kd.S_far (p:=⟨gb351,5,none⟩) (Kd.S_far (p:=⟨gb351,4,none⟩) (Kd.S_far (p:=⟨gb351,3,none⟩) (Kd.S_far (p:=⟨gb351,2,none⟩) (Kd.S_far (p:=⟨gb351,1,none⟩) (Kd.S_far (p:=⟨gb351,0,none⟩) (Kd.S_mono HO_3.out (fun k_ hk=>(⟨hk,hk.2⟩:_∧k_≠gb351))) (fun _ hk=>hk.2) (.int .i64 ((rd_T34 l0 x11_1).f0))) (fun _ hk=>hk.2) (.int .i64 ((rd_T34 l0 x11_1).f1))) (fun _ hk=>hk.2) (.bool ((rd_T34 l0 x11_1).f2))) (fun _ hk=>hk.2) (.slice A350_3 ((rd_T34 l0 x11_1).f3).length c350_3)) (fun _ hk=>hk.2) (.bool ((rd_T34 l0 x11_1).f4))) (fun _ hk=>hk.2) (.slice A350_5 ((rd_T34 l0 x11_1).f5).length c350_5)) (fun _ h_=>h_.1)))) hb) (Kd.R_base ho0)) (Kd.R_base ho1)) (fun _ h_=>h_.1));have n1_:=zzm (Kd.R_lower ho0 (zzo zzh2));have n2_:=zzm (Kd.R_lower ho1 (zzo zzh2));have n3_:=zzm (zzh (g:=gb351) (o:=.cells #[.int .i64 ((rd_T34 l0 x11_1).f0),.int .i64 ((rd_T34 l0 x11_1).f1),.bool ((rd_T34 l0 x11_1).f2),.slice A350_3 ((rd_T34 l0 x11_1).f3).length c350_3,.bool ((rd_T34 l0 x11_1).f4),.slice A350_5 ((rd_T34 l0 x11_1).f5).length c350_5] 34 (0,0)) (by (with_reducible repeat (first|apply zzf|apply zzg|apply zze));refine zzi (cs:=#[.int .i64 ((rd_T34 l0 x11_1).f0),.int .i64 ((rd_T34 l0 x11_1).f1),.bool ((rd_T34 l0 x11_1).f2),.slice A350_3 ((rd_T34 l0 x11_1).f3).length c350_3,.bool ((rd_T34 l0 x11_1).f4),.slice none 0 0]) ?_ 5 _ rfl;(with_reducible repeat (first|apply zzf|apply zzg|apply zze));refine zzi (cs:=#[.int .i64 ((rd_T34 l0 x11_1).f0),.int .i64 ((rd_T34 l0 x11_1).f1),.bool ((rd_T34 l0 x11_1).f2),.slice A350_3 ((rd_T34 l0 x11_1).f3).length c350_3,.bool false,.slice none 0 0]) ?_ 4 _ rfl;(with_reducible repeat (first|apply zzf|apply zzg|apply zze));refine zzi (cs:=#[.int .i64 ((rd_T34 l0 x11_1).f0),.int .i64 ((rd_T34 l0 x11_1).f1),.bool ((rd_T34 l0 x11_1).f2),.slice none 0 0,.bool false,.slice none 0 0]) ?_ 3 _ rfl;(with_reducible repeat (first|apply zzf|apply zzg|apply zze));refine zzi (cs:=#[.int .i64 ((rd_T34 l0 x11_1).f0),.int .i64 ((rd_T34 l0 x11_1).f1),.bool false,.slice none 0 0,.bool false,.slice none 0 0]) ?_ 2 _ rfl;(with_reducible repeat (first|apply zzf|apply zzg|apply zze));refine zzi (cs:=#[.int .i64 ((rd_T34 l0 x11_1).f0),.int .i64 0,.bool false,.slice none 0 0,.bool false,.slice none 0 0]) ?_ 1 _ rfl;(with_reducible repeat (first|apply zzf|apply zzg|apply zze));refine zzi (cs:=#[.int .i64 0,.int .i64 0,.bool false,.slice none 0 0,.bool false,.slice none 0 0]) ?_ 0 _ rfl;(with_reducible repeat (first|apply zzf|apply zzg|apply zze));exact BK351.out) hb);have n4_:=zzm (zzp zzh2 hb);clear HO_3 BK351 HB;have HO_3:=n0_;have HO357:=n1_;have HO361:=n2_;have BK351:=n3_;have HB:=n4_;clear n0_ n1_ n2_ n3_ n4_;(try clear hb);(try clear hb2);(try clear hk);(try clear hi);(try clear ho0);(try clear ho1);obtain ⟨Ao15,co15,eo15⟩:=Kd.R_slice HO357.out;subst eo15;obtain ⟨Ao16,co16,eo16⟩:=Kd.R_slice HO361.out;subst eo16)|((with_reducible refine gate_builtin (b:=.append) (xs:=#[.tmp 15,.tmp 18]) rfl ?_);at_builtin;refine Kd.S_append k34 (w0:=w) w.heap.size rfl (.tmp 15) (.tmp 18) 25 34 (.agg #[(.int .i64 0),(.int .i64 0),(.bool false),(.slice none 0 0),(.bool false),(.slice none 0 0)]) 80 rfl Try.underlying25 info34 rfl (by decide) (by omega) u3 x3_1 (⟨t352,t353,t354,t355,t358,t359⟩:S34) [.int .i64 t352,.int .i64 t353,.bool t354,.slice Ao15 t355.length co15,.bool t358,.slice Ao16 t359.length co16] (fun k_=>k_≠gb351) (fun k_=>some k_=(.slice Ao15 t355.length co15:Value).ownBlock∨some k_=(.slice Ao16 t359.length co16:Value).ownBlock) rfl rfl ?aP (fun k_ hk_=>hk_.elim (fun h_=>((Kd.R_mono (ok':=fun k_=>((fun k_=>k_≠gb351)) k_∧some k_≠(u3:Value).ownBlock) (Kd.R_types (Kd.R_apart' (HO357.out) (Kd.S_typed HO_3.out) (by decide)) BK351.out (by decide)) (fun k_ hk=>⟨hk.2,hk.1.2⟩))).1 k_ h_.symm) (fun h_=>((Kd.R_mono (ok':=fun k_=>((fun k_=>k_≠gb351)) k_∧some k_≠(u3:Value).ownBlock) (Kd.R_types (Kd.R_apart' (HO361.out) (Kd.S_typed HO_3.out) (by decide)) BK351.out (by decide)) (fun k_ hk=>⟨hk.2,hk.1.2⟩))).1 k_ h_.symm)) ?aF ?aO ?aB ?aS ?aL ?_;(case aP=>exact k34_mkM _ _ _ (⟨t352,t353,t354,t355,t358,t359⟩:S34) (Kd.R_mono (Kd.R_tight rfl (Kd.R_mono (ok':=fun k_=>((fun k_=>k_≠gb351)) k_∧some k_≠(u3:Value).ownBlock) (Kd.R_types (Kd.R_apart' (HO357.out) (Kd.S_typed HO_3.out) (by decide)) BK351.out (by decide)) (fun k_ hk=>⟨hk.2,hk.1.2⟩))) (fun _ h_=>Or.inl h_)) (Kd.R_mono (Kd.R_tight rfl (Kd.R_mono (ok':=fun k_=>((fun k_=>k_≠gb351)) k_∧some k_≠(u3:Value).ownBlock) (Kd.R_types (Kd.R_apart' (HO361.out) (Kd.S_typed HO_3.out) (by decide)) BK351.out (by decide)) (fun k_ hk=>⟨hk.2,hk.1.2⟩))) (fun _ h_=>Or.inr (h_))));(case aB=>exact zzh2);(case aF=>exact (fun k_ hk=>Kd.freshB (g:=gb351) (o:=.cells #[.int .i64 ((rd_T34 l0 x11_1).f0),.int .i64 ((rd_T34 l0 x11_1).f1),.bool ((rd_T34 l0 x11_1).f2),.slice A350_3 ((rd_T34 l0 x11_1).f3).length c350_3,.bool ((rd_T34 l0 x11_1).f4),.slice A350_5 ((rd_T34 l0 x11_1).f5).length c350_5] 34 (0,0)) (zzE BK351.out) k_ hk));(case aO=>exact (zzS (Kd.S_mono HO_3.out (fun k_ hk=>⟨hk.1.1.2,fun e_=>e_.elim (fun h_=>hk.1.2 h_) (fun h_=>hk.2 h_)⟩))));(case aS=>exact (zzo zzh2));(case aL=>have:=LMc10.out;omega);intro v363 w14 ho hb hg hat;rw [← Ny362.out] at ho;have n0_:=zzm (blk_grown (g:=gb351) (o:=.cells #[.int .i64 ((rd_T34 l0 x11_1).f0),.int .i64 ((rd_T34 l0 x11_1).f1),.bool ((rd_T34 l0 x11_1).f2),.slice A350_3 ((rd_T34 l0 x11_1).f3).length c350_3,.bool ((rd_T34 l0 x11_1).f4),.slice A350_5 ((rd_T34 l0 x11_1).f5).length c350_5] 34 (0,0)) (zzE BK351.out) hg (Kd.S_away HO_3.out (fun _ hk=>hk.1.1.2)));have n1_:=zzm (hb);have n2_:=zzm (ho);clear BK351 HB HO_3 HO357 HO361;have BK351:=n0_;have HB:=n1_;have HO364:=n2_;clear n0_ n1_ n2_ ho hb hg hat));go_roundg k1
         case measure=>have:=HK1.out;omega
         case rel=>exact ⟨(y362),(wrap64 (x11_1+1)),(by first|rfl|(simp;done)|(simp [*];done)),H',⟨by have:=HK1.out;omega⟩,⟨by (with_reducible repeat (first|apply Kd.S_alloc|apply Kd.S_drewN|apply Kd.S_drew));exact Kd.S_mono HO364.out (fun _ hk=>trivial)⟩,⟨by repeat (first|(with_reducible first|exact HB.out|apply zza|apply zzb|apply zzc|refine zzd ?_ GE351.out)|exact HB.out)⟩⟩
        ·
         rw [if_neg c10] at H;exact absurd H (by simp)
       ·
        rw [if_neg c8] at H;exact absurd H (by simp)
      ·
       rw [if_neg c7] at H;exact absurd H (by simp)
     ·
      rw [if_neg c6] at H;have c6b0:decide (x11_1 < (l0.length:Int))=false:=decide_eq_false c6;clear c6;obtain rfl:=Option.some.inj H;go_wp2;go_ret;exact ⟨_,by first|rfl|(simp [errW_none,errW_some] <;> rfl)|(simp [*,errW_none,errW_some] <;> rfl),by (with_reducible repeat (first|apply Kd.S_alloc|apply Kd.S_drewN|apply Kd.S_drew));exact HO_3.out,zzh1⟩
  ·
   rw [if_neg c3] at H;exact absurd H (by simp)
 ·
  rw [if_neg c2] at H;exact absurd H (by simp)
def impl_StableRecords.l0:Nat→List (S27)→List (S34)→List Int→Int→Int→Option ((List (S34)))
 | 0,_,_,_,_,_=>none
 | k+1,x0,x3,x13,x14,x15=>if x15 < x14 then (if 0≤x15 then (if x15 < (x13.length:Int) then (if (rd x13 x15)=0 then (some x3) else (if (rd x13 x15)=1 then (if x15 < (x0.length:Int) then ((impl_copyRecords.f k ((rd_T27 x0 x15).f5)).bind fun t377=>(if x3.length+t377.length < 1759218604441 then (impl_StableRecords.l0 k x0 (x3++t377) x13 x14 (wrap64 (x15+1))) else (none))) else (none)) else (impl_StableRecords.l0 k x0 x3 x13 x14 (wrap64 (x15+1))))) else (none)) else (none)) else (some x3)
def impl_StableRecords.f (k:Nat) (l0:List (S27)):Option ((List (S34))):=(some (([]:List (S34)):List (S34))).bind fun y365=>((impl_LogValid.f k l0).bind fun t368=>(if t368=true then ((impl_fatesOf.f l0).bind fun bt369=>(impl_StableRecords.l0 k l0 y365 bt369.1 (bt369.1.length:Int) 0)) else (some y365)))
set_option maxHeartbeats 8000000 in
set_option maxRecDepth 100000 in
theorem impl_StableRecords.calls (k:Nat) (A0:Option Addr) (c0:Nat) (l0:List (S27)) (r:List (S34)) (w:World) (hr0:Kd.C k27 w A0 l0.length l0) (hc0:l0.length≤c0) (h:impl_StableRecords.f k l0=some r) :
  Calls Try.prog 37 #[.slice A0 l0.length c0] w fun e w'=>∃ v0_:Value,e = .returned (v0_)∧Kd.N k34 34 w' w.heap.size (fun k_=>(w.heap.size≤k_)) v0_ r∧Below w.heap.size w w':=by
 have hfld_:=field_fates;have HR0:=zzm hr0;have HC0:=zzm hc0;clear hr0 hc0;have HB:=zzm (Below.refl w.heap.size w);have H:((some (([]:List (S34)):List (S34))).bind fun y365=>((impl_LogValid.f k l0).bind fun t368=>(if t368=true then ((impl_fatesOf.f l0).bind fun bt369=>(impl_StableRecords.l0 k l0 y365 bt369.1 (bt369.1.length:Int) 0)) else (some y365))))=some r:=h;clear h;obtain ⟨y365,hy365⟩:∃ y_:List (S34),y_=(([]:List (S34))):=⟨_,rfl⟩;replace H:((impl_LogValid.f k l0).bind fun t368=>(if t368=true then ((impl_fatesOf.f l0).bind fun bt369=>(impl_StableRecords.l0 k l0 y365 bt369.1 (bt369.1.length:Int) 0)) else (some y365)))=some r:=by first|(rw [hy365];with_reducible exact H)|(have H2_:=(Option.bind_some _ _).symm.trans H;rw [hy365];with_reducible exact H2_)|(have H2_:=(Option.bind_some _ _).symm.trans H;with_reducible exact H2_)|with_reducible exact H|(rw [hy365];exact H)|exact H
 have Ny365:=zzm hy365;clear hy365;replace H:=Option.bind_eq_some_iff.mp H;obtain ⟨t368,A20,H⟩:=H;replace H:(if t368=true then ((impl_fatesOf.f l0).bind fun bt369=>(impl_StableRecords.l0 k l0 y365 bt369.1 (bt369.1.length:Int) 0)) else (some y365))=some r:=H;have A2:=zzm A20;clear A20;by_cases c3:t368=true
 ·
  subst c3;have H1:((impl_fatesOf.f l0).bind fun bt369=>(impl_StableRecords.l0 k l0 y365 bt369.1 (bt369.1.length:Int) 0))=some r:=by rw [if_pos rfl] at H;exact H
  clear H;have H:=H1;clear H1;replace H:=Option.bind_eq_some_iff.mp H;obtain ⟨⟨t369,t372⟩,A40,H⟩:=H;replace H:(impl_StableRecords.l0 k l0 y365 t369 (t369.length:Int) 0)=some r:=H;have A4:=zzm A40;clear A40;have H':=zzm H;clear H;go_enter Try.func37,Try.ntmps37;go_wp2_with (first|((with_reducible refine gate_dst (N:=6) rfl ?_);refine Kd.N_lit k34 _ 34 ?hg (N':=6) ?hd (xs:=([]:List (S34))) (inner:=[]) (ok:=(fun k_=>(w.heap.size≤k_))) (okp:=(fun k_=>(w.heap.size≤k_))) ?hr ?hp (fun _ hk=>hk) ((show ∀ k_,w.heap.size≤k_→(fun k_=>(w.heap.size≤k_)) k_ from fun k_ hk=>(Nat.le_trans (zzo zzh1) hk)) _ (Nat.le_refl _)) (Below.refl _ _) (Nat.le_refl _) (by simp) ?_;(case hd=>rfl);(case hg=>rfl);(case hr=>first|(go_simp;done)|(go_simp;rfl));(case hp=>exact (Reps.none _ _));intro v366 w5 ho6 hb hg_ hnew_;clear hg_ hnew_;(first|rw [← Ny365.out] at ho6|(simp only [Int.reduceToNat] at ho6;rw [← Ny365.out] at ho6));have n0_:=zzm (Kd.N_lower ho6 (zzo zzh1));have n1_:=zzm (zzp zzh1 hb);clear HB;have HO367:=n0_;have HB:=n1_;clear n0_ n1_ hb ho6)|((with_reducible refine gate_callee (f:=61) rfl ?_);refine goesL_ (some 8) rfl rfl Try.func61 (by kernel_rfl) rfl #[.slice A0 l0.length c0] rfl zzM2 ?_;(with_reducible refine (impl_LogValid.calls k _ _ l0 true _ ?side1 ?side2 A2.out).mono ?_);(case side1=>repeat (first|exact (Kd.C_below HR0.out HB.out)|(with_reducible refine Kd.C_alloc ?_ _)|(with_reducible refine Kd.C_drewN ?_ _)|(with_reducible refine Kd.C_drew ?_)));(case side2=>exact HC0.out);rintro e w7 ⟨rfl,hb⟩;refine ⟨_,rfl,?_⟩;have n0_:=zzm (Kd.N_below (zzN HO367.out) hb);have n1_:=zzm (zzp zzh1 hb);clear HO367 HB;have HO367:=n0_;have HB:=n1_;clear n0_ n1_;(try clear hb);(try clear hb2);(try clear hk);(try clear hi))|((with_reducible refine gate_callee (f:=62) rfl ?_);refine goesL_ (some 12) rfl rfl Try.func62 (by kernel_rfl) rfl #[.slice A0 l0.length c0] rfl zzM2 ?_;(with_reducible refine (impl_fatesOf.calls _ _ l0 t369 t372 _ ?side1 ?side2 A4.out).mono ?_);(case side1=>repeat (first|exact (Kd.C_below HR0.out HB.out)|(with_reducible refine Kd.C_alloc ?_ _)|(with_reducible refine Kd.C_drewN ?_ _)|(with_reducible refine Kd.C_drew ?_)));(case side2=>exact HC0.out);rintro e w8 ⟨v370,v373,rfl,ho0,ho1,hb⟩;refine ⟨_,rfl,?_⟩;have n0_:=zzm (Kd.N_mono (Kd.N_told (Kd.N_told (Kd.N_old (zzN HO367.out) hb) (Kd.R_base ho0)) (Kd.R_base ho1)) (fun _ h_=>h_.1));have n1_:=zzm (Kd.R_lower (Kd.R_newM (M:=fun k_=>(w.heap.size≤k_)) ho0 (zzo zzh1) (fun k_ h_=>h_)) (zzo zzh1));have n2_:=zzm (Kd.R_lower (Kd.R_newM (M:=fun k_=>(w.heap.size≤k_)) ho1 (zzo zzh1) (fun k_ h_=>h_)) (zzo zzh1));have n3_:=zzm (zzp zzh1 hb);clear HO367 HB;have HO367:=n0_;have HO371:=n1_;have HO374:=n2_;have HB:=n3_;clear n0_ n1_ n2_ n3_;(try clear hb);(try clear hb2);(try clear hk);(try clear hi);(try clear ho0);(try clear ho1);obtain ⟨Ao9,co9,eo9⟩:=Kd.R_slice HO371.out;subst eo9));go_loopg [3,15] k (fun kq v3 v15 w'=>∃ (x3_1:List (S34)) (x15_1:Int),v15 = .int .i64 x15_1∧Aside0 (impl_StableRecords.l0 kq l0 x3_1 t369 (t369.length:Int) x15_1=some r)∧Aside0 (kq≤k)∧Aside0 (Kd.N k34 34 w' w.heap.size (fun k_=>(w.heap.size≤k_)∧some k_≠((.slice Ao9 t369.length co9):Value).ownBlock) v3 x3_1)∧Aside0 (Kd.R (Kd.int .i64) 74 w' w.heap.size (fun k_=>(w.heap.size≤k_)) (.slice Ao9 t369.length co9) t369)∧Aside0 (Below w.heap.size w w'))
  case atStart=>exact ⟨(y365),(0),(by first|rfl|(simp;done)|(simp [*];done)),H',⟨Nat.le_refl _⟩,⟨by (with_reducible repeat (first|apply Kd.N_alloc|apply Kd.N_drewN|apply Kd.N_drew));exact Kd.N_mono HO367.out (fun _ hk=>⟨hk.1.1,hk.1.2⟩)⟩,⟨by (with_reducible repeat (first|apply Kd.R_alloc|apply Kd.R_drewN|apply Kd.R_drew));exact Kd.R_mono HO371.out (fun _ hk=>hk.1)⟩,⟨zzh1⟩⟩
  case round=>
   clear H';try clear p2
   try clear c3
   try clear c6
   obtain ⟨x3_1,x15_1,rfl,HA,HK1,HO_3,HO_13,HB⟩:=hrel;cases gk with
   | zero=>exact absurd HA.out (by simp [impl_StableRecords.l0])
   | succ k1=>
    have H:=HA.out;clear HA;simp only [impl_StableRecords.l0] at H;by_cases c10:x15_1 < (t369.length:Int)
    ·
     rw [if_pos c10] at H;have c10b0:decide (x15_1 < (t369.length:Int))=true:=decide_eq_true c10;clear c10;by_cases c11 : 0≤x15_1
     ·
      rw [if_pos c11] at H;have c11b0:decide (0≤x15_1)=true:=decide_eq_true c11;clear c11;by_cases c12:x15_1 < (t369.length:Int)
      ·
       rw [if_pos c12] at H;have c12b0:decide (x15_1 < (t369.length:Int))=true:=decide_eq_true c12;clear c12;by_cases c13:(rd t369 x15_1)=0
       ·
        rw [if_pos c13] at H;have c13b0:((rd t369 x15_1)==0)=true:=beq_iff_eq.mpr c13;have c13b1:((rd t369 x15_1) != 0)=false:=bne_eq_false_iff_eq.mpr c13;clear c13;obtain rfl:=Option.some.inj H;have p375 : 0≤(x15_1:Int):=zzt;have q375:x15_1 < (t369.length:Int):=zzt;obtain ⟨ad375,e375,hx375_0⟩:=Kd.at_int (Kd.R_reads' HO_13.out).2.2 x15_1 p375 q375;cases e375;replace p375:=eq_true p375;replace q375:=eq_true q375;go_wp2;go_ret;exact ⟨_,by first|rfl|(simp [errW_none,errW_some] <;> rfl)|(simp [*,errW_none,errW_some] <;> rfl),by (with_reducible repeat (first|apply Kd.N_alloc|apply Kd.N_drewN|apply Kd.N_drew));exact Kd.N_mono HO_3.out (fun _ hk=>hk.1),zzh1⟩
       ·
        rw [if_neg c13] at H;have c13b0:((rd t369 x15_1)==0)=false:=beq_eq_false_iff_ne.mpr c13;have c13b1:((rd t369 x15_1) != 0)=true:=bne_iff_ne.mpr c13;by_cases c14:(rd t369 x15_1)=1
        ·
         rw [if_pos c14] at H;have c14b0:((rd t369 x15_1)==1)=true:=beq_iff_eq.mpr c14;have c14b1:((rd t369 x15_1) != 1)=false:=bne_eq_false_iff_eq.mpr c14;clear c14;by_cases c15:x15_1 < (l0.length:Int)
         ·
          rw [if_pos c15] at H;have c15b0:decide (x15_1 < (l0.length:Int))=true:=decide_eq_true c15;clear c15;replace H:=Option.bind_eq_some_iff.mp H;obtain ⟨t377,A160,H⟩:=H;replace H:(if x3_1.length+t377.length < 1759218604441 then (impl_StableRecords.l0 k1 l0 (x3_1++t377) t369 (t369.length:Int) (wrap64 (x15_1+1))) else (none))=some r:=H;have A16:=zzm A160;clear A160;by_cases c17:x3_1.length+t377.length < 1759218604441
          ·
           rw [if_pos c17] at H;have LMc17:=zzm c17;clear c17;obtain ⟨y380,hy380⟩:∃ y_:List (S34),y_=(x3_1++t377):=⟨_,rfl⟩;replace H:(impl_StableRecords.l0 k1 l0 y380 t369 (t369.length:Int) (wrap64 (x15_1+1)))=some r:=by first|(rw [hy380];with_reducible exact H)|(have H2_:=(Option.bind_some _ _).symm.trans H;rw [hy380];with_reducible exact H2_)|(have H2_:=(Option.bind_some _ _).symm.trans H;with_reducible exact H2_)|with_reducible exact H|(rw [hy380];exact H)|exact H
           have Ny380:=zzm hy380;clear hy380;have H':=zzm H;clear H;have p375 : 0≤(x15_1:Int):=zzt;have q375:x15_1 < (t369.length:Int):=zzt;obtain ⟨ad375,e375,hx375_0⟩:=Kd.at_int (Kd.R_reads' HO_13.out).2.2 x15_1 p375 q375;cases e375;replace p375:=eq_true p375;replace q375:=eq_true q375;have p376 : 0≤(x15_1:Int):=zzt;have q376:x15_1 < (l0.length:Int):=zzt;obtain ⟨ad376,A376_5,c376_5,e376,hx376_0,hx376_1,hx376_2,hx376_3,hx376_4,hx376_5,hl376_5,hi376_5⟩:=at_T27 HR0.out x15_1 p376 q376;cases e376;replace hx376_0:=zzx HB.out hx376_0;replace hx376_1:=zzx HB.out hx376_1;replace hx376_2:=zzx HB.out hx376_2;replace hx376_3:=zzx HB.out hx376_3;replace hx376_4:=zzx HB.out hx376_4;replace hx376_5:=zzx HB.out hx376_5;have HR376_5:=zzm hi376_5;have HC376_5:=zzm hl376_5;clear hi376_5 hl376_5;replace p376:=eq_true p376;replace q376:=eq_true q376;go_wp2_with (first|((with_reducible refine gate_callee (f:=72) rfl ?_);refine goesL_ (some 30) rfl rfl Try.func72 (by kernel_rfl) rfl #[.slice A376_5 ((rd_T27 l0 x15_1).f5).length c376_5] rfl zzM2 ?_;(with_reducible refine (impl_copyRecords.calls k1 _ _ ((rd_T27 l0 x15_1).f5) t377 _ ?side1 ?side2 A16.out).mono ?_);(case side1=>repeat (first|exact (Kd.C_below HR376_5.out HB.out)|(with_reducible refine Kd.C_alloc ?_ _)|(with_reducible refine Kd.C_drewN ?_ _)|(with_reducible refine Kd.C_drew ?_)));(case side2=>exact HC376_5.out);rintro e w18 ⟨v378,rfl,ho0,hb⟩;refine ⟨_,rfl,?_⟩;have n0_:=zzm (Kd.N_elder' (zzN HO_3.out) (by first|exact Kd.N_base ho0|exact Kd.S_base ho0|exact Kd.R_base ho0) hb);have n1_:=zzm (Kd.R_below (by (with_reducible repeat (first|apply Kd.R_alloc|apply Kd.R_drewN|apply Kd.R_drew));exact HO_13.out) hb);have n2_:=zzm (Kd.N_lower (Kd.N_mono (ok':=fun k_=>(w.heap.size≤k_)∧some k_≠(u3:Value).ownBlock∧some k_≠(.slice (some ad375) t369.length co9:Value).ownBlock) (Kd.S_N (Kd.S_bound ho0)) (fun k_ hk_=>⟨(Nat.le_trans (zzo zzh1) hk_.2.1),(Kd.fresh' (Kd.N_lt (zzN HO_3.out)) k_ hk_.2.1),(Kd.fresh' (Kd.R_lt (by (with_reducible repeat (first|apply Kd.R_alloc|apply Kd.R_drewN|apply Kd.R_drew));exact HO_13.out)) k_ hk_.2.1)⟩)) (zzo zzh1));have n3_:=zzm (zzp zzh1 hb);clear HO_3 HO_13 HB;have HO_3:=n0_;have HO_13:=n1_;have HO379:=n2_;have HB:=n3_;clear n0_ n1_ n2_ n3_;(try clear hb);(try clear hb2);(try clear hk);(try clear hi);(try clear ho0);obtain ⟨Ao20,co20,eo20⟩:=Kd.N_slice HO379.out;subst eo20)|((with_reducible refine gate_builtin (b:=.append) (xs:=#[.tmp 24,.tmp 30]) rfl ?_);at_builtin;refine Kd.N_append_rows k34 (w0:=w) w.heap.size rfl (.tmp 24) (.tmp 30) 25 34 (.agg #[(.int .i64 0),(.int .i64 0),(.bool false),(.slice none 0 0),(.bool false),(.slice none 0 0)]) 80 rfl Try.underlying25 info34 rfl (by decide) (by omega) u3 x3_1 t377 _ _ _ (fun k_=>(w.heap.size≤k_)∧some k_≠(.slice (some ad375) t369.length co9:Value).ownBlock) (fun k_=>((fun k_=>(w.heap.size≤k_)∧some k_≠(.slice (some ad375) t369.length co9:Value).ownBlock)) k_∧some k_≠(u3:Value).ownBlock) rfl rfl ?aO ?aR (fun _ hk=>hk) ?aF ?aB ?aS ?aL ?_;(case aR=>exact (by skip;exact Kd.N_F (Kd.N_mono (ok':=(fun k_=>((fun k_=>(w.heap.size≤k_)∧some k_≠(.slice (some ad375) t369.length co9:Value).ownBlock)) k_∧some k_≠(u3:Value).ownBlock)) (HO379.out) (fun k_ hk=>⟨⟨hk.1,hk.2.2⟩,hk.2.1⟩))));(case aB=>exact zzh1);(case aF=>exact (fun k_ hk=>⟨(Nat.le_trans (zzo zzh1) hk),Kd.fresh' (Kd.R_lt (by (with_reducible repeat (first|apply Kd.R_alloc|apply Kd.R_drewN|apply Kd.R_drew));exact HO_13.out)) k_ hk⟩));(case aO=>exact (zzN (Kd.N_mono HO_3.out (fun _ hk=>⟨hk.1.1,hk.1.2⟩))));(case aS=>exact (zzo zzh1));(case aL=>have:=LMc17.out;omega);intro v381 w19 ho hb hg hat;rw [← Ny380.out] at ho;have n0_:=zzm (Kd.R_over' (by (with_reducible repeat (first|apply Kd.R_alloc|apply Kd.R_drewN|apply Kd.R_drew));exact HO_13.out) (Kd.N_typed (zzN HO_3.out)) (by decide) hg);have n1_:=zzm (Kd.N_afterv (ok:=(fun k_=>(w.heap.size≤k_)∧some k_≠(.slice (some ad375) t369.length co9:Value).ownBlock)) (zzN (Kd.N_mono HO379.out (fun _ hk=>⟨⟨hk.1,hk.2.2⟩,hk.2.1⟩))) hg hat);have n2_:=zzm (hb);have n3_:=zzm (ho);clear HO_13 HO379 HB HO_3;have HO_13:=n0_;have HO379:=n1_;have HB:=n2_;have HO382:=n3_;clear n0_ n1_ n2_ n3_ ho hb hg hat));go_roundg k1
           case measure=>have:=HK1.out;omega
           case rel=>exact ⟨(y380),(wrap64 (x15_1+1)),(by first|rfl|(simp;done)|(simp [*];done)),H',⟨by have:=HK1.out;omega⟩,⟨by (with_reducible repeat (first|apply Kd.N_alloc|apply Kd.N_drewN|apply Kd.N_drew));exact HO382.out⟩,⟨by (with_reducible repeat (first|apply Kd.R_alloc|apply Kd.R_drewN|apply Kd.R_drew));exact HO_13.out⟩,⟨zzh1⟩⟩
          ·
           rw [if_neg c17] at H;exact absurd H (by simp)
         ·
          rw [if_neg c15] at H;exact absurd H (by simp)
        ·
         rw [if_neg c14] at H;have c14b0:((rd t369 x15_1)==1)=false:=beq_eq_false_iff_ne.mpr c14;have c14b1:((rd t369 x15_1) != 1)=true:=bne_iff_ne.mpr c14;have H':=zzm H;clear H;have p375 : 0≤(x15_1:Int):=zzt;have q375:x15_1 < (t369.length:Int):=zzt;obtain ⟨ad375,e375,hx375_0⟩:=Kd.at_int (Kd.R_reads' HO_13.out).2.2 x15_1 p375 q375;cases e375;replace p375:=eq_true p375;replace q375:=eq_true q375;go_wp2;go_roundg k1
         case measure=>have:=HK1.out;omega
         case rel=>exact ⟨(x3_1),(wrap64 (x15_1+1)),(by first|rfl|(simp;done)|(simp [*];done)),H',⟨by have:=HK1.out;omega⟩,⟨by (with_reducible repeat (first|apply Kd.N_alloc|apply Kd.N_drewN|apply Kd.N_drew));exact HO_3.out⟩,⟨by (with_reducible repeat (first|apply Kd.R_alloc|apply Kd.R_drewN|apply Kd.R_drew));exact HO_13.out⟩,⟨zzh1⟩⟩
      ·
       rw [if_neg c12] at H;exact absurd H (by simp)
     ·
      rw [if_neg c11] at H;exact absurd H (by simp)
    ·
     rw [if_neg c10] at H;have c10b0:decide (x15_1 < (t369.length:Int))=false:=decide_eq_false c10;clear c10;obtain rfl:=Option.some.inj H;go_wp2;go_ret;exact ⟨_,by first|rfl|(simp [errW_none,errW_some] <;> rfl)|(simp [*,errW_none,errW_some] <;> rfl),by (with_reducible repeat (first|apply Kd.N_alloc|apply Kd.N_drewN|apply Kd.N_drew));exact Kd.N_mono HO_3.out (fun _ hk=>hk.1),zzh1⟩
 ·
  replace c3:=Bool.eq_false_iff.mpr c3;subst c3;have H1:(some y365)=some r:=by rw [if_neg (show ¬ (false=true) by decide)] at H;exact H
  clear H;have H:=H1;clear H1;obtain rfl:=Option.some.inj H;go_enter Try.func37,Try.ntmps37;go_wp2_with (first|((with_reducible refine gate_dst (N:=6) rfl ?_);refine Kd.N_lit k34 _ 34 ?hg (N':=6) ?hd (xs:=([]:List (S34))) (inner:=[]) (ok:=(fun k_=>(w.heap.size≤k_))) (okp:=(fun k_=>(w.heap.size≤k_))) ?hr ?hp (fun _ hk=>hk) ((show ∀ k_,w.heap.size≤k_→(fun k_=>(w.heap.size≤k_)) k_ from fun k_ hk=>(Nat.le_trans (zzo zzh1) hk)) _ (Nat.le_refl _)) (Below.refl _ _) (Nat.le_refl _) (by simp) ?_;(case hd=>rfl);(case hg=>rfl);(case hr=>first|(go_simp;done)|(go_simp;rfl));(case hp=>exact (Reps.none _ _));intro v366 w21 ho22 hb hg_ hnew_;clear hg_ hnew_;(first|rw [← Ny365.out] at ho22|(simp only [Int.reduceToNat] at ho22;rw [← Ny365.out] at ho22));have n0_:=zzm (Kd.N_lower ho22 (zzo zzh1));have n1_:=zzm (zzp zzh1 hb);clear HB;have HO367:=n0_;have HB:=n1_;clear n0_ n1_ hb ho22)|((with_reducible refine gate_callee (f:=61) rfl ?_);refine goesL_ (some 8) rfl rfl Try.func61 (by kernel_rfl) rfl #[.slice A0 l0.length c0] rfl zzM2 ?_;(with_reducible refine (impl_LogValid.calls k _ _ l0 false _ ?side1 ?side2 A2.out).mono ?_);(case side1=>repeat (first|exact (Kd.C_below HR0.out HB.out)|(with_reducible refine Kd.C_alloc ?_ _)|(with_reducible refine Kd.C_drewN ?_ _)|(with_reducible refine Kd.C_drew ?_)));(case side2=>exact HC0.out);rintro e w23 ⟨rfl,hb⟩;refine ⟨_,rfl,?_⟩;have n0_:=zzm (Kd.N_below (zzN HO367.out) hb);have n1_:=zzm (zzp zzh1 hb);clear HO367 HB;have HO367:=n0_;have HB:=n1_;clear n0_ n1_;(try clear hb);(try clear hb2);(try clear hk);(try clear hi)));go_ret;exact ⟨_,by first|rfl|(simp [errW_none,errW_some] <;> rfl)|(simp [*,errW_none,errW_some] <;> rfl),by (with_reducible repeat (first|apply Kd.N_alloc|apply Kd.N_drewN|apply Kd.N_drew));exact HO367.out,zzh1⟩
def spec_DrawStableRecords.f (k:Nat) (l0:List Int):Option ((List (S27))):=(spec_l6Open.f l0).bind fun bt383=>((spec_l92Decided.f k bt383.1 bt383.2).bind fun bt386=>(some bt386.1))
set_option maxHeartbeats 8000000 in
set_option maxRecDepth 100000 in
theorem spec_DrawStableRecords.calls (k:Nat) (A0:Option Addr) (c0:Nat) (l0:List Int) (r:List (S27)) (w:World) (hr0:Kd.C (Kd.int .u8) w A0 l0.length l0) (hc0:l0.length≤c0) (h:spec_DrawStableRecords.f k l0=some r) :
  Calls Try.prog 42 #[.slice A0 l0.length c0] w fun e w'=>∃ v0_:Value,e = .returned (v0_)∧Kd.N k27 27 w' w.heap.size (fun k_=>(w.heap.size≤k_)) v0_ r∧Below w.heap.size w w':=by
 have HR0:=zzm hr0;have HC0:=zzm hc0;clear hr0 hc0;have HB:=zzm (Below.refl w.heap.size w);have H:((spec_l6Open.f l0).bind fun bt383=>((spec_l92Decided.f k bt383.1 bt383.2).bind fun bt386=>(some bt386.1)))=some r:=h;clear h;replace H:=Option.bind_eq_some_iff.mp H;obtain ⟨⟨t383,t384⟩,A20,H⟩:=H;replace H:((spec_l92Decided.f k t383 t384).bind fun bt386=>(some bt386.1))=some r:=H;have A2:=zzm A20;clear A20;replace H:=Option.bind_eq_some_iff.mp H;obtain ⟨⟨t386,t389⟩,A30,H⟩:=H;replace H:(some t386)=some r:=H;have A3:=zzm A30;clear A30;obtain rfl:=Option.some.inj H;go_enter Try.func42,Try.ntmps42;go_wp2_with (first|((with_reducible refine gate_callee (f:=53) rfl ?_);refine goesL_ (some 4) rfl rfl Try.func53 (by kernel_rfl) rfl #[.slice A0 l0.length c0] rfl zzM2 ?_;(with_reducible refine (spec_l6Open.calls _ _ l0 t383 t384 w _ ?side1 ?side2 ?side3 A2.out).mono ?_);(case side1=>repeat (first|(with_reducible first|exact HB.out|apply zza|apply zzb|apply zzc)|exact HB.out));(case side2=>exact HR0.out);(case side3=>exact HC0.out);rintro e w4 ⟨g385,rfl,hi,hb,hb2⟩;refine ⟨_,rfl,?_⟩;have n0_:=zzm (hb);have n1_:=zzm (hi);clear HB;have HB:=n0_;have HI385:=n1_;clear n0_ n1_;(try clear hb);(try clear hb2);(try clear hk);(try clear hi))|((with_reducible refine gate_callee (f:=60) rfl ?_);refine goesL_ (some 5) rfl rfl Try.func60 (by kernel_rfl) rfl #[.pointer (some ⟨g385,0,none⟩)] rfl zzM2 ?_;(with_reducible refine (spec_l92Decided.calls k g385 t383 t384 t386 t389 w _ ?side1 ?side2 A3.out).mono ?_);(case side1=>repeat (first|(with_reducible first|exact HI385.out|apply IsS94.alloc|apply IsS94.drewN|apply IsS94.drew|apply IsS94.set_1)|exact HI385.out));(case side2=>repeat (first|(with_reducible first|exact HB.out|apply zza|apply zzb|apply zzc|refine zzd ?_ (IsS94.ge HI385.out))|exact HB.out));rintro e w5 ⟨v387,rfl,ho0,hi,hb,hk⟩;refine ⟨_,rfl,?_⟩;have n0_:=zzm (Kd.N_lower (Kd.N_mono (ok':=fun k_=>(w.heap.size≤k_)∧k_≠g385) ho0 (fun k_ hk_=>⟨(Nat.le_trans (zzo (by repeat (first|(with_reducible first|exact HB.out|apply zza|apply zzb|apply zzc|refine zzd ?_ (IsS94.ge HI385.out))|exact HB.out))) hk_),(IsS94.fresh (by repeat (first|(with_reducible first|exact HI385.out|apply IsS94.alloc|apply IsS94.drewN|apply IsS94.drew|apply IsS94.set_1)|exact HI385.out)) k_ hk_)⟩)) (zzo (by repeat (first|(with_reducible first|exact HB.out|apply zza|apply zzb|apply zzc|refine zzd ?_ (IsS94.ge HI385.out))|exact HB.out))));have n1_:=zzm (hb);have n2_:=zzm (hi);clear HB HI385;have HO388:=n0_;have HB:=n1_;have HI385:=n2_;clear n0_ n1_ n2_;(try clear hb);(try clear hb2);(try clear hk);(try clear hi);(try clear ho0)));go_ret;exact ⟨_,by first|rfl|(simp [errW_none,errW_some] <;> rfl)|(simp [*,errW_none,errW_some] <;> rfl),by (with_reducible repeat (first|apply Kd.N_alloc|apply Kd.N_drewN|apply Kd.N_drew));exact Kd.N_mono HO388.out (fun _ hk=>hk.1),by repeat (first|(with_reducible first|exact HB.out|apply zza|apply zzb|apply zzc|refine zzd ?_ (IsS94.ge HI385.out))|exact HB.out)⟩
def spec_l22Fine.f (a0_0:Bool) (a0_1:Bool) (a0_2:Int) (a0_3:Int) (a0_4:Int) (l0_5:List (S34)):Option (Bool):=if 0 < (l0_5.length:Int) then (if (((rd_T34 l0_5 0).f5).length:Int)=1 then (if 0 < (((rd_T34 l0_5 0).f5).length:Int) then (some ((rd ((rd_T34 l0_5 0).f5) 0)==1)) else (none)) else (some false)) else (none)
set_option maxHeartbeats 8000000 in
set_option maxRecDepth 100000 in
theorem spec_l22Fine.calls (a0_0:Bool) (a0_1:Bool) (a0_2:Int) (a0_3:Int) (a0_4:Int) (A0_5:Option Addr) (c0_5:Nat) (l0_5:List (S34)) (r:Bool) (w:World) (hr0_5:Kd.C k34 w A0_5 l0_5.length l0_5) (hc0_5:l0_5.length≤c0_5) (h:spec_l22Fine.f a0_0 a0_1 a0_2 a0_3 a0_4 l0_5=some r) :
  Calls Try.prog 69 #[.agg #[.bool a0_0,.bool a0_1,.int .i64 a0_2,.int .i64 a0_3,.int .i64 a0_4,.slice A0_5 l0_5.length c0_5]] w fun e w'=>e = .returned (.bool r)∧Below w.heap.size w w':=by
 have hu27:=Try.underlying27;have HR0_5:=zzm hr0_5;have HC0_5:=zzm hc0_5;clear hr0_5 hc0_5;have HB:=zzm (Below.refl w.heap.size w);have H:(if 0 < (l0_5.length:Int) then (if (((rd_T34 l0_5 0).f5).length:Int)=1 then (if 0 < (((rd_T34 l0_5 0).f5).length:Int) then (some ((rd ((rd_T34 l0_5 0).f5) 0)==1)) else (none)) else (some false)) else (none))=some r:=h;clear h;by_cases c2 : 0 < (l0_5.length:Int)
 ·
  rw [if_pos c2] at H;have c2b0:decide (0 < (l0_5.length:Int))=true:=decide_eq_true c2;have c2b1:decide (0 < l0_5.length)=true:=decide_eq_true (by omega);clear c2;by_cases c3:(((rd_T34 l0_5 0).f5).length:Int)=1
  ·
   rw [if_pos c3] at H;have c3b0:((((rd_T34 l0_5 0).f5).length:Int)==1)=true:=beq_iff_eq.mpr c3;have c3b1:((((rd_T34 l0_5 0).f5).length:Int) != 1)=false:=bne_eq_false_iff_eq.mpr c3;clear c3;by_cases c4 : 0 < (((rd_T34 l0_5 0).f5).length:Int)
   ·
    rw [if_pos c4] at H;have c4b0:decide (0 < (((rd_T34 l0_5 0).f5).length:Int))=true:=decide_eq_true c4;have c4b1:decide (0 < ((rd_T34 l0_5 0).f5).length)=true:=decide_eq_true (by omega);clear c4;obtain rfl:=Option.some.inj H;go_enter Try.func69,Try.ntmps69;go_wp2_with (first|((with_reducible refine gate_dst (N:=1) rfl ?_);refine box_event ?hg (N:=1) ?hd (cs:=#[.bool a0_0,.bool a0_1,.int .i64 a0_2,.int .i64 a0_3,.int .i64 a0_4,.slice A0_5 l0_5.length c0_5]) (t:=27) ?hr ?_;(case hd=>rfl);(case hg=>rfl);(case hr=>first|(go_simp;done)|(go_simp;rfl));intro gb390 hg w5 hbox hb;have n0_:=zzm (zzp zzh1 hb);have n1_:=zzm (hbox);have n2_:=zzm ((by rw [hg];exact (zzo zzh1):w.heap.size≤gb390));have n3_:=zzm ((by rw [hg];exact (zzo zzh1):w.heap.size≤gb390));clear HB;have HB:=n0_;have BK390:=n1_;have GW390:=n2_;have GE390:=n3_;clear n0_ n1_ n2_ n3_ hb hbox hg;obtain ⟨hcz6_0,hcz6_1,hcz6_2,hcz6_3,hcz6_4,hcz6_5,hfz6_0,hfz6_1,hfz6_2,hfz6_3,hfz6_4,hfz6_5⟩:=zzc6 BK390.out;have p391 : 0≤(0:Int):=(by omega);have q391 : 0 < (l0_5.length:Int):=zzt;obtain ⟨ad391,A391_3,c391_3,A391_5,c391_5,e391,hx391_0,hx391_1,hx391_2,hx391_3,hx391_4,hx391_5,hl391_3,hi391_3,hl391_5,hi391_5⟩:=at_T34 HR0_5.out 0 p391 q391;cases e391;have qi391:(0 < l0_5.length)=True:=eq_true (by omega);(try rw [show ((0:Int)).toNat=0 from rfl] at hx391_0);(try rw [show 0 * 6=0 from rfl] at hx391_0);(try rw [Addr.add_zero'] at hx391_0);(try rw [show ((0:Int)).toNat=0 from rfl] at hx391_1);(try rw [show 0 * 6=0 from rfl] at hx391_1);(try rw [Addr.add_zero'] at hx391_1);(try rw [show ((0:Int)).toNat=0 from rfl] at hx391_2);(try rw [show 0 * 6=0 from rfl] at hx391_2);(try rw [Addr.add_zero'] at hx391_2);(try rw [show ((0:Int)).toNat=0 from rfl] at hx391_3);(try rw [show 0 * 6=0 from rfl] at hx391_3);(try rw [Addr.add_zero'] at hx391_3);(try rw [show ((0:Int)).toNat=0 from rfl] at hx391_4);(try rw [show 0 * 6=0 from rfl] at hx391_4);(try rw [Addr.add_zero'] at hx391_4);(try rw [show ((0:Int)).toNat=0 from rfl] at hx391_5);(try rw [show 0 * 6=0 from rfl] at hx391_5);(try rw [Addr.add_zero'] at hx391_5);replace hx391_0:=zzx HB.out hx391_0;replace hx391_1:=zzx HB.out hx391_1;replace hx391_2:=zzx HB.out hx391_2;replace hx391_3:=zzx HB.out hx391_3;replace hx391_4:=zzx HB.out hx391_4;replace hx391_5:=zzx HB.out hx391_5;have HR391_3:=zzm hi391_3;have HC391_3:=zzm hl391_3;clear hi391_3 hl391_3;have HR391_5:=zzm hi391_5;have HC391_5:=zzm hl391_5;clear hi391_5 hl391_5;replace p391:=eq_true p391;replace q391:=eq_true q391;have p392 : 0≤(0:Int):=(by omega);have q392 : 0 < (l0_5.length:Int):=zzt;obtain ⟨ad392,A392_3,c392_3,A392_5,c392_5,e392,hx392_0,hx392_1,hx392_2,hx392_3,hx392_4,hx392_5,hl392_3,hi392_3,hl392_5,hi392_5⟩:=at_T34 HR0_5.out 0 p392 q392;obtain rfl:ad391=ad392:=(by injection e392);have qi392:(0 < l0_5.length)=True:=eq_true (by omega);(try rw [show ((0:Int)).toNat=0 from rfl] at hx392_0);(try rw [show 0 * 6=0 from rfl] at hx392_0);(try rw [Addr.add_zero'] at hx392_0);(try rw [show ((0:Int)).toNat=0 from rfl] at hx392_1);(try rw [show 0 * 6=0 from rfl] at hx392_1);(try rw [Addr.add_zero'] at hx392_1);(try rw [show ((0:Int)).toNat=0 from rfl] at hx392_2);(try rw [show 0 * 6=0 from rfl] at hx392_2);(try rw [Addr.add_zero'] at hx392_2);(try rw [show ((0:Int)).toNat=0 from rfl] at hx392_3);(try rw [show 0 * 6=0 from rfl] at hx392_3);(try rw [Addr.add_zero'] at hx392_3);(try rw [show ((0:Int)).toNat=0 from rfl] at hx392_4);(try rw [show 0 * 6=0 from rfl] at hx392_4);(try rw [Addr.add_zero'] at hx392_4);(try rw [show ((0:Int)).toNat=0 from rfl] at hx392_5);(try rw [show 0 * 6=0 from rfl] at hx392_5);(try rw [Addr.add_zero'] at hx392_5);replace hx392_0:=zzx HB.out hx392_0;replace hx392_1:=zzx HB.out hx392_1;replace hx392_2:=zzx HB.out hx392_2;replace hx392_3:=zzx HB.out hx392_3;replace hx392_4:=zzx HB.out hx392_4;replace hx392_5:=zzx HB.out hx392_5;have HR392_3:=zzm hi392_3;have HC392_3:=zzm hl392_3;clear hi392_3 hl392_3;have HR392_5:=zzm hi392_5;have HC392_5:=zzm hl392_5;clear hi392_5 hl392_5;replace p392:=eq_true p392;replace q392:=eq_true q392;have ea_:=Option.some.inj (hx391_3.symm.trans hx392_3);injection ea_ with ea_ en_ ec_;subst ea_;subst ec_;clear en_;have ea_:=Option.some.inj (hx391_5.symm.trans hx392_5);injection ea_ with ea_ en_ ec_;subst ea_;subst ec_;clear en_;have p393 : 0≤(0:Int):=(by omega);have q393 : 0 < (((rd_T34 l0_5 0).f5).length:Int):=zzt;obtain ⟨ad393,e393,hx393_0⟩:=Kd.at_int HR392_5.out 0 p393 q393;cases e393;have qi393:(0 < ((rd_T34 l0_5 0).f5).length)=True:=eq_true (by omega);(try rw [show ((0:Int)).toNat=0 from rfl] at hx393_0);(try rw [Addr.add_zero'] at hx393_0);replace hx393_0:=zzx HB.out hx393_0;replace p393:=eq_true p393;replace q393:=eq_true q393));go_ret;exact ⟨by first|rfl|(simp [errW_none,errW_some] <;> rfl)|(simp [*,errW_none,errW_some] <;> rfl),by repeat (first|(with_reducible first|exact HB.out|apply zza|apply zzb|apply zzc|refine zzd ?_ GE390.out)|exact HB.out)⟩
   ·
    rw [if_neg c4] at H;exact absurd H (by simp)
  ·
   rw [if_neg c3] at H;have c3b0:((((rd_T34 l0_5 0).f5).length:Int)==1)=false:=beq_eq_false_iff_ne.mpr c3;have c3b1:((((rd_T34 l0_5 0).f5).length:Int) != 1)=true:=bne_iff_ne.mpr c3;obtain rfl:=Option.some.inj H;go_enter Try.func69,Try.ntmps69;go_wp2_with (first|((with_reducible refine gate_dst (N:=1) rfl ?_);refine box_event ?hg (N:=1) ?hd (cs:=#[.bool a0_0,.bool a0_1,.int .i64 a0_2,.int .i64 a0_3,.int .i64 a0_4,.slice A0_5 l0_5.length c0_5]) (t:=27) ?hr ?_;(case hd=>rfl);(case hg=>rfl);(case hr=>first|(go_simp;done)|(go_simp;rfl));intro gb390 hg w7 hbox hb;have n0_:=zzm (zzp zzh1 hb);have n1_:=zzm (hbox);have n2_:=zzm ((by rw [hg];exact (zzo zzh1):w.heap.size≤gb390));have n3_:=zzm ((by rw [hg];exact (zzo zzh1):w.heap.size≤gb390));clear HB;have HB:=n0_;have BK390:=n1_;have GW390:=n2_;have GE390:=n3_;clear n0_ n1_ n2_ n3_ hb hbox hg;obtain ⟨hcz8_0,hcz8_1,hcz8_2,hcz8_3,hcz8_4,hcz8_5,hfz8_0,hfz8_1,hfz8_2,hfz8_3,hfz8_4,hfz8_5⟩:=zzc6 BK390.out;have p391 : 0≤(0:Int):=(by omega);have q391 : 0 < (l0_5.length:Int):=zzt;obtain ⟨ad391,A391_3,c391_3,A391_5,c391_5,e391,hx391_0,hx391_1,hx391_2,hx391_3,hx391_4,hx391_5,hl391_3,hi391_3,hl391_5,hi391_5⟩:=at_T34 HR0_5.out 0 p391 q391;cases e391;have qi391:(0 < l0_5.length)=True:=eq_true (by omega);(try rw [show ((0:Int)).toNat=0 from rfl] at hx391_0);(try rw [show 0 * 6=0 from rfl] at hx391_0);(try rw [Addr.add_zero'] at hx391_0);(try rw [show ((0:Int)).toNat=0 from rfl] at hx391_1);(try rw [show 0 * 6=0 from rfl] at hx391_1);(try rw [Addr.add_zero'] at hx391_1);(try rw [show ((0:Int)).toNat=0 from rfl] at hx391_2);(try rw [show 0 * 6=0 from rfl] at hx391_2);(try rw [Addr.add_zero'] at hx391_2);(try rw [show ((0:Int)).toNat=0 from rfl] at hx391_3);(try rw [show 0 * 6=0 from rfl] at hx391_3);(try rw [Addr.add_zero'] at hx391_3);(try rw [show ((0:Int)).toNat=0 from rfl] at hx391_4);(try rw [show 0 * 6=0 from rfl] at hx391_4);(try rw [Addr.add_zero'] at hx391_4);(try rw [show ((0:Int)).toNat=0 from rfl] at hx391_5);(try rw [show 0 * 6=0 from rfl] at hx391_5);(try rw [Addr.add_zero'] at hx391_5);replace hx391_0:=zzx HB.out hx391_0;replace hx391_1:=zzx HB.out hx391_1;replace hx391_2:=zzx HB.out hx391_2;replace hx391_3:=zzx HB.out hx391_3;replace hx391_4:=zzx HB.out hx391_4;replace hx391_5:=zzx HB.out hx391_5;have HR391_3:=zzm hi391_3;have HC391_3:=zzm hl391_3;clear hi391_3 hl391_3;have HR391_5:=zzm hi391_5;have HC391_5:=zzm hl391_5;clear hi391_5 hl391_5;replace p391:=eq_true p391;replace q391:=eq_true q391));go_ret;exact ⟨by first|rfl|(simp [errW_none,errW_some] <;> rfl)|(simp [*,errW_none,errW_some] <;> rfl),by repeat (first|(with_reducible first|exact HB.out|apply zza|apply zzb|apply zzc|refine zzd ?_ GE390.out)|exact HB.out)⟩
 ·
  rw [if_neg c2] at H;exact absurd H (by simp)
def spec_l12Copy.f (a0_0:Int) (a0_1:Int) (a0_2:Bool) (l0_3:List Int) (a0_4:Bool) (l0_5:List Int):Option (Int×Int×Bool×List Int×Bool×List Int):=(some (([]:List Int):List Int)).bind fun y396=>(if y396.length+l0_3.length < 17592186044416 then ((some (([]:List Int):List Int)).bind fun y402=>(if y402.length+l0_5.length < 17592186044416 then (some (a0_0,a0_1,a0_2,(y396++l0_3),a0_4,(y402++l0_5))) else (none))) else (none))
set_option maxHeartbeats 8000000 in
set_option maxRecDepth 100000 in
theorem spec_l12Copy.calls (a0_0:Int) (a0_1:Int) (a0_2:Bool) (A0_3:Option Addr) (c0_3:Nat) (l0_3:List Int) (a0_4:Bool) (A0_5:Option Addr) (c0_5:Nat) (l0_5:List Int) (r1:Int) (r2:Int) (r3:Bool) (r4:List Int) (r5:Bool) (r6:List Int) (w:World) (hr0_3:Kd.C (Kd.int .i64) w A0_3 l0_3.length l0_3) (hc0_3:l0_3.length≤c0_3) (hr0_5:Kd.C (Kd.int .i64) w A0_5 l0_5.length l0_5) (hc0_5:l0_5.length≤c0_5) (h:spec_l12Copy.f a0_0 a0_1 a0_2 l0_3 a0_4 l0_5=some (r1,r2,r3,r4,r5,r6)) :
  Calls Try.prog 75 #[.agg #[.int .i64 a0_0,.int .i64 a0_1,.bool a0_2,.slice A0_3 l0_3.length c0_3,.bool a0_4,.slice A0_5 l0_5.length c0_5]] w fun e w'=>∃ v3_ v5_:Value,e = .returned (.agg #[.int .i64 r1,.int .i64 r2,.bool r3,v3_,.bool r5,v5_])∧Kd.R (Kd.int .i64) 3 w' w.heap.size (fun k_=>some k_≠(v5_:Value).ownBlock) v3_ r4∧Kd.R (Kd.int .i64) 3 w' w.heap.size (fun k_=>some k_≠(v3_:Value).ownBlock) v5_ r6∧Below w.heap.size w w':=by
 have hu34:=Try.underlying34;have HR0_3:=zzm hr0_3;have HC0_3:=zzm hc0_3;clear hr0_3 hc0_3;have HR0_5:=zzm hr0_5;have HC0_5:=zzm hc0_5;clear hr0_5 hc0_5;have HB:=zzm (Below.refl w.heap.size w);have H:((some (([]:List Int):List Int)).bind fun y396=>(if y396.length+l0_3.length < 17592186044416 then ((some (([]:List Int):List Int)).bind fun y402=>(if y402.length+l0_5.length < 17592186044416 then (some (a0_0,a0_1,a0_2,(y396++l0_3),a0_4,(y402++l0_5))) else (none))) else (none)))=some (r1,r2,r3,r4,r5,r6):=h;clear h;obtain ⟨y396,hy396⟩:∃ y_:List Int,y_=(([]:List Int)):=⟨_,rfl⟩;replace H:(if y396.length+l0_3.length < 17592186044416 then ((some (([]:List Int):List Int)).bind fun y402=>(if y402.length+l0_5.length < 17592186044416 then (some (a0_0,a0_1,a0_2,(y396++l0_3),a0_4,(y402++l0_5))) else (none))) else (none))=some (r1,r2,r3,r4,r5,r6):=by first|(rw [hy396];with_reducible exact H)|(have H2_:=(Option.bind_some _ _).symm.trans H;rw [hy396];with_reducible exact H2_)|(have H2_:=(Option.bind_some _ _).symm.trans H;with_reducible exact H2_)|with_reducible exact H|(rw [hy396];exact H)|exact H
 have Ny396:=zzm hy396;clear hy396;by_cases c2:y396.length+l0_3.length < 17592186044416
 ·
  rw [if_pos c2] at H;have LMc2:=zzm c2;clear c2;obtain ⟨y399,hy399⟩:∃ y_:List Int,y_=(y396++l0_3):=⟨_,rfl⟩;replace H:((some (([]:List Int):List Int)).bind fun y402=>(if y402.length+l0_5.length < 17592186044416 then (some (a0_0,a0_1,a0_2,y399,a0_4,(y402++l0_5))) else (none)))=some (r1,r2,r3,r4,r5,r6):=by first|(rw [hy399];with_reducible exact H)|(have H2_:=(Option.bind_some _ _).symm.trans H;rw [hy399];with_reducible exact H2_)|(have H2_:=(Option.bind_some _ _).symm.trans H;with_reducible exact H2_)|with_reducible exact H|(rw [hy399];exact H)|exact H
  have Ny399:=zzm hy399;clear hy399;obtain ⟨y402,hy402⟩:∃ y_:List Int,y_=(([]:List Int)):=⟨_,rfl⟩;replace H:(if y402.length+l0_5.length < 17592186044416 then (some (a0_0,a0_1,a0_2,y399,a0_4,(y402++l0_5))) else (none))=some (r1,r2,r3,r4,r5,r6):=by first|(rw [hy402];with_reducible exact H)|(have H2_:=(Option.bind_some _ _).symm.trans H;rw [hy402];with_reducible exact H2_)|(have H2_:=(Option.bind_some _ _).symm.trans H;with_reducible exact H2_)|with_reducible exact H|(rw [hy402];exact H)|exact H
  have Ny402:=zzm hy402;clear hy402;by_cases c3:y402.length+l0_5.length < 17592186044416
  ·
   rw [if_pos c3] at H;have LMc3:=zzm c3;clear c3;obtain ⟨y405,hy405⟩:∃ y_:List Int,y_=(y402++l0_5):=⟨_,rfl⟩;replace H:(some (a0_0,a0_1,a0_2,y399,a0_4,y405))=some (r1,r2,r3,r4,r5,r6):=by first|(rw [hy405];with_reducible exact H)|(have H2_:=(Option.bind_some _ _).symm.trans H;rw [hy405];with_reducible exact H2_)|(have H2_:=(Option.bind_some _ _).symm.trans H;with_reducible exact H2_)|with_reducible exact H|(rw [hy405];exact H)|exact H
   have Ny405:=zzm hy405;clear hy405;simp only [Option.some.injEq,Prod.mk.injEq] at H;obtain ⟨rfl,rfl,rfl,rfl,rfl,rfl⟩:=H;go_enter Try.func75,Try.ntmps75;go_wp2_with (first|((with_reducible refine gate_dst (N:=1) rfl ?_);refine box_event ?hg (N:=1) ?hd (cs:=#[.int .i64 a0_0,.int .i64 a0_1,.bool a0_2,.slice A0_3 l0_3.length c0_3,.bool a0_4,.slice A0_5 l0_5.length c0_5]) (t:=34) ?hr ?_;(case hd=>rfl);(case hg=>rfl);(case hr=>first|(go_simp;done)|(go_simp;rfl));intro gb394 hg w4 hbox hb;have n0_:=zzm (zzp zzh1 hb);have n1_:=zzm (hbox);have n2_:=zzm ((by rw [hg];exact (zzo zzh1):w.heap.size≤gb394));have n3_:=zzm ((by rw [hg];exact (zzo zzh1):w.heap.size≤gb394));clear HB;have HB:=n0_;have BK394:=n1_;have GW394:=n2_;have GE394:=n3_;clear n0_ n1_ n2_ n3_ hb hbox hg)|((with_reducible refine gate_dst (N:=2) rfl ?_);refine box_event ?hg (N:=2) ?hd (cs:=#[.int .i64 0,.int .i64 0,.bool false,.slice none 0 0,.bool false,.slice none 0 0]) (t:=34) ?hr ?_;(case hd=>rfl);(case hg=>rfl);(case hr=>first|(go_simp;done)|(go_simp;rfl));intro gb395 hg w5 hbox hb;have n0_:=zzm (zzh (g:=gb394) (o:=.cells #[.int .i64 a0_0,.int .i64 a0_1,.bool a0_2,.slice A0_3 l0_3.length c0_3,.bool a0_4,.slice A0_5 l0_5.length c0_5] 34 (0,0)) (zzE BK394.out) hb);have n1_:=zzm (zzp zzh2 hb);have n2_:=zzm (hbox);have n3_:=zzm ((by rw [hg];exact (zzo zzh2):w.heap.size≤gb395));have n4_:=zzm ((by rw [hg];exact (zzo zzh2):w.heap.size≤gb395));have n5_:=zzm ((by rw [hg];exact Nat.ne_of_lt (blk_lt (g:=gb394) (o:=.cells #[.int .i64 a0_0,.int .i64 a0_1,.bool a0_2,.slice A0_3 l0_3.length c0_3,.bool a0_4,.slice A0_5 l0_5.length c0_5] 34 (0,0)) (zzE BK394.out)):gb394≠gb395));have n6_:=zzm ((by rw [hg];exact Nat.ne_of_gt (blk_lt (g:=gb394) (o:=.cells #[.int .i64 a0_0,.int .i64 a0_1,.bool a0_2,.slice A0_3 l0_3.length c0_3,.bool a0_4,.slice A0_5 l0_5.length c0_5] 34 (0,0)) (zzE BK394.out)):gb395≠gb394));clear BK394 HB;have BK394:=n0_;have HB:=n1_;have BK395:=n2_;have GW395:=n3_;have GE395:=n4_;have NB394_395:=n5_;have NB395_394:=n6_;clear n0_ n1_ n2_ n3_ n4_ n5_ n6_ hb hbox hg)|((with_reducible refine gate_dst (N:=3) rfl ?_);refine Kd.R_lit (Kd.int .i64) _ 3 ?hg (N:=3) ?hd (xs:=([]:List Int)) (inner:=[]) (ok:=fun _=>True) (okp:=fun _=>True) ?hr ?hp (fun _ hk=>hk) trivial (Below.refl _ _) (Nat.le_refl _) (by simp) ?_;(case hd=>rfl);(case hg=>rfl);(case hr=>first|(go_simp;done)|(go_simp;rfl));(case hp=>exact (Reps.none _ _));intro v397 w6 ho7 hb hg_ hnew_;clear hg_ hnew_;(first|rw [← Ny396.out] at ho7|(simp only [Int.reduceToNat] at ho7;rw [← Ny396.out] at ho7));have n0_:=zzm (Kd.R_lower ho7 (zzo zzh2));have n1_:=zzm (zzh (g:=gb394) (o:=.cells #[.int .i64 a0_0,.int .i64 a0_1,.bool a0_2,.slice A0_3 l0_3.length c0_3,.bool a0_4,.slice A0_5 l0_5.length c0_5] 34 (0,0)) (zzE BK394.out) hb);have n2_:=zzm (zzh (g:=gb395) (o:=.cells #[.int .i64 0,.int .i64 0,.bool false,.slice none 0 0,.bool false,.slice none 0 0] 34 (0,0)) (zzE BK395.out) hb);have n3_:=zzm (zzp zzh2 hb);clear BK394 BK395 HB;have HO398:=n0_;have BK394:=n1_;have BK395:=n2_;have HB:=n3_;clear n0_ n1_ n2_ n3_ hb ho7;have hnb8:=NB394_395.out;have hnc8:=NB395_394.out;obtain ⟨hcz9_0,hcz9_1,hcz9_2,hcz9_3,hcz9_4,hcz9_5,hfz9_0,hfz9_1,hfz9_2,hfz9_3,hfz9_4,hfz9_5⟩:=zzc6 BK394.out)|((with_reducible refine gate_builtin (b:=.append) (xs:=#[.tmp 3,.tmp 5]) rfl ?_);at_builtin;refine Kd.R_append_rows (Kd.int .i64) (w0:=w) w.heap.size rfl (.tmp 3) (.tmp 5) 32 3 (.int .i64 0) 8 rfl Try.underlying32 info3 rfl (by decide) (by omega) v397 y396 l0_3 _ _ _ (fun _=>True) (fun _=>False) rfl rfl ?aO ?aR (fun _ _ h=>h) (fun _ h=>h.elim) ?aF ?aB ?aS ?aL ?_;(case aR=>repeat (first|exact (Kd.C_below HR0_3.out HB.out)|(with_reducible refine Kd.C_alloc ?_ _)|(with_reducible refine Kd.C_drewN ?_ _)|(with_reducible refine Kd.C_drew ?_)));(case aB=>exact zzh2);(case aF=>exact (fun _ _=>trivial));(case aO=>exact (by (with_reducible repeat (first|apply Kd.R_alloc|apply Kd.R_drewN|apply Kd.R_drew));exact HO398.out));(case aS=>exact (zzo zzh2));(case aL=>have:=LMc2.out;omega);intro v400 w10 ho hb hg hat;rw [← Ny399.out] at ho;have n0_:=zzm (blk_grown (g:=gb394) (o:=.cells #[.int .i64 a0_0,.int .i64 a0_1,.bool a0_2,.slice A0_3 l0_3.length c0_3,.bool a0_4,.slice A0_5 l0_5.length c0_5] 34 (0,0)) (zzE BK394.out) hg (Kd.R_ne HO398.out BK394.out (by decide)));have n1_:=zzm (blk_grown (g:=gb395) (o:=.cells #[.int .i64 0,.int .i64 0,.bool false,.slice none 0 0,.bool false,.slice none 0 0] 34 (0,0)) (zzE BK395.out) hg (Kd.R_ne HO398.out BK395.out (by decide)));have n2_:=zzm (hb);have n3_:=zzm (ho);clear BK394 BK395 HB HO398;have BK394:=n0_;have BK395:=n1_;have HB:=n2_;have HO401:=n3_;clear n0_ n1_ n2_ n3_ ho hb hg hat;obtain ⟨Ao11,co11,eo11⟩:=Kd.R_slice HO401.out;subst eo11;obtain ⟨hcz12_0,hcz12_1,hcz12_2,hcz12_3,hcz12_4,hcz12_5,hfz12_0,hfz12_1,hfz12_2,hfz12_3,hfz12_4,hfz12_5⟩:=zzc6 BK394.out)|((with_reducible refine gate_dst (N:=8) rfl ?_);refine Kd.R_lit (Kd.int .i64) _ 3 ?hg (N:=8) ?hd (xs:=([]:List Int)) (inner:=[]) (ok:=fun _=>True) (okp:=fun _=>True) ?hr ?hp (fun _ hk=>hk) trivial (Below.refl _ _) (Nat.le_refl _) (by simp) ?_;(case hd=>rfl);(case hg=>rfl);(case hr=>first|(go_simp;done)|(go_simp;rfl));(case hp=>exact (Reps.none _ _));intro v403 w13 ho14 hb hg_ hnew_;clear hg_ hnew_;(first|rw [← Ny402.out] at ho14|(simp only [Int.reduceToNat] at ho14;rw [← Ny402.out] at ho14));have n0_:=zzm (Kd.R_elder' (by (with_reducible repeat (first|apply Kd.R_alloc|apply Kd.R_drewN|apply Kd.R_drew));exact (Kd.R_mono (Kd.R_far (p:=⟨gb394,3,none⟩) (Kd.R_types HO401.out BK394.out (by decide)) (fun _ hk=>hk.2) (.slice Ao11 y399.length co11)) (fun _ h_=>h_.1))) (Kd.R_base ho14) hb);have n1_:=zzm (Kd.R_lower (Kd.R_new' ho14 (Kd.R_lt (by (with_reducible repeat (first|apply Kd.R_alloc|apply Kd.R_drewN|apply Kd.R_drew));exact (Kd.R_mono (Kd.R_far (p:=⟨gb394,3,none⟩) (Kd.R_types HO401.out BK394.out (by decide)) (fun _ hk=>hk.2) (.slice Ao11 y399.length co11)) (fun _ h_=>h_.1))))) (zzo zzh2));have n2_:=zzm (zzh (g:=gb394) (o:=.cells #[.int .i64 a0_0,.int .i64 a0_1,.bool a0_2,.slice Ao11 y399.length co11,.bool a0_4,.slice A0_5 l0_5.length c0_5] 34 (0,0)) (by (with_reducible repeat (first|apply zzf|apply zzg|apply zze));refine zzi (cs:=#[.int .i64 a0_0,.int .i64 a0_1,.bool a0_2,.slice A0_3 l0_3.length c0_3,.bool a0_4,.slice A0_5 l0_5.length c0_5]) ?_ 3 _ rfl;(with_reducible repeat (first|apply zzf|apply zzg|apply zze));exact BK394.out) hb);have n3_:=zzm (zzh (g:=gb395) (o:=.cells #[.int .i64 0,.int .i64 0,.bool false,.slice none 0 0,.bool false,.slice none 0 0] 34 (0,0)) (by (with_reducible repeat (first|apply zzf|apply zzg|apply zze));refine zzj ?_ NB395_394.out _;(with_reducible repeat (first|apply zzf|apply zzg|apply zze));exact BK395.out) hb);have n4_:=zzm (zzp zzh2 hb);clear HO401 BK394 BK395 HB;have HO401:=n0_;have HO404:=n1_;have BK394:=n2_;have BK395:=n3_;have HB:=n4_;clear n0_ n1_ n2_ n3_ n4_ hb ho14;obtain ⟨hcz15_0,hcz15_1,hcz15_2,hcz15_3,hcz15_4,hcz15_5,hfz15_0,hfz15_1,hfz15_2,hfz15_3,hfz15_4,hfz15_5⟩:=zzc6 BK394.out)|((with_reducible refine gate_builtin (b:=.append) (xs:=#[.tmp 8,.tmp 10]) rfl ?_);at_builtin;refine Kd.R_append_rows (Kd.int .i64) (w0:=w) w.heap.size rfl (.tmp 8) (.tmp 10) 32 3 (.int .i64 0) 8 rfl Try.underlying32 info3 rfl (by decide) (by omega) v403 y402 l0_5 _ _ _ (fun k_=>some k_≠(.slice Ao11 y399.length co11:Value).ownBlock) (fun _=>False) rfl rfl ?aO ?aR (fun _ _ h=>h) (fun _ h=>h.elim) ?aF ?aB ?aS ?aL ?_;(case aR=>repeat (first|exact (Kd.C_below HR0_5.out HB.out)|(with_reducible refine Kd.C_alloc ?_ _)|(with_reducible refine Kd.C_drewN ?_ _)|(with_reducible refine Kd.C_drew ?_)));(case aB=>exact zzh2);(case aF=>exact (fun k_ hk=>Kd.fresh' (Kd.R_lt (by (with_reducible repeat (first|apply Kd.R_alloc|apply Kd.R_drewN|apply Kd.R_drew));exact HO401.out)) k_ hk));(case aO=>exact (by (with_reducible repeat (first|apply Kd.R_alloc|apply Kd.R_drewN|apply Kd.R_drew));exact Kd.R_mono HO404.out (fun _ hk=>hk.2)));(case aS=>exact (zzo zzh2));(case aL=>have:=LMc3.out;omega);intro v406 w16 ho hb hg hat;rw [← Ny405.out] at ho;have n0_:=zzm (blk_grown (g:=gb394) (o:=.cells #[.int .i64 a0_0,.int .i64 a0_1,.bool a0_2,.slice Ao11 y399.length co11,.bool a0_4,.slice A0_5 l0_5.length c0_5] 34 (0,0)) (zzE BK394.out) hg (Kd.R_ne HO404.out BK394.out (by decide)));have n1_:=zzm (blk_grown (g:=gb395) (o:=.cells #[.int .i64 0,.int .i64 0,.bool false,.slice none 0 0,.bool false,.slice none 0 0] 34 (0,0)) (zzE BK395.out) hg (Kd.R_ne HO404.out BK395.out (by decide)));have n2_:=zzm (Kd.R_after (ok:=(fun _=>True)) (by (with_reducible repeat (first|apply Kd.R_alloc|apply Kd.R_drewN|apply Kd.R_drew));exact HO401.out) hg hat);have n3_:=zzm (hb);have n4_:=zzm (ho);clear BK394 BK395 HO401 HB HO404;have BK394:=n0_;have BK395:=n1_;have HO401:=n2_;have HB:=n3_;have HO407:=n4_;clear n0_ n1_ n2_ n3_ n4_ ho hb hg hat;obtain ⟨Ao17,co17,eo17⟩:=Kd.R_slice HO407.out;subst eo17;obtain ⟨hcz18_0,hcz18_1,hcz18_2,hcz18_3,hcz18_4,hcz18_5,hfz18_0,hfz18_1,hfz18_2,hfz18_3,hfz18_4,hfz18_5⟩:=zzc6 BK394.out;obtain ⟨hcz19_0,hcz19_1,hcz19_2,hcz19_3,hcz19_4,hcz19_5,hfz19_0,hfz19_1,hfz19_2,hfz19_3,hfz19_4,hfz19_5⟩:=zzc6 BK395.out));refine bodyPost_ret (results_cell_row rfl _ _ gb395 34 #[.int .i64 a0_0,.int .i64 a0_1,.bool a0_2,.slice Ao11 y399.length co11,.bool a0_4,.slice Ao17 y405.length co17] (0,0) _ rfl (by (with_reducible repeat (first|apply zzf|apply zzg|apply zze));refine zzi (cs:=#[.int .i64 a0_0,.int .i64 a0_1,.bool a0_2,.slice Ao11 y399.length co11,.bool a0_4,.slice none 0 0]) ?_ 5 _ rfl;(with_reducible repeat (first|apply zzf|apply zzg|apply zze));refine zzi (cs:=#[.int .i64 a0_0,.int .i64 a0_1,.bool a0_2,.slice Ao11 y399.length co11,.bool false,.slice none 0 0]) ?_ 4 _ rfl;(with_reducible repeat (first|apply zzf|apply zzg|apply zze));refine zzi (cs:=#[.int .i64 a0_0,.int .i64 a0_1,.bool a0_2,.slice none 0 0,.bool false,.slice none 0 0]) ?_ 3 _ rfl;(with_reducible repeat (first|apply zzf|apply zzg|apply zze));refine zzi (cs:=#[.int .i64 a0_0,.int .i64 a0_1,.bool false,.slice none 0 0,.bool false,.slice none 0 0]) ?_ 2 _ rfl;(with_reducible repeat (first|apply zzf|apply zzg|apply zze));refine zzi (cs:=#[.int .i64 a0_0,.int .i64 0,.bool false,.slice none 0 0,.bool false,.slice none 0 0]) ?_ 1 _ rfl;(with_reducible repeat (first|apply zzf|apply zzg|apply zze));refine zzi (cs:=#[.int .i64 0,.int .i64 0,.bool false,.slice none 0 0,.bool false,.slice none 0 0]) ?_ 0 _ rfl;(with_reducible repeat (first|apply zzf|apply zzg|apply zze));refine zzj ?_ NB395_394.out _;(with_reducible repeat (first|apply zzf|apply zzg|apply zze));exact BK395.out) Try.underlying34 rfl (by kernel_rfl)) rfl ?_;exact ⟨_,_,by first|rfl|(simp [errW_none,errW_some] <;> rfl)|(simp [*,errW_none,errW_some] <;> rfl),by (with_reducible repeat (first|apply Kd.R_alloc|apply Kd.R_drewN|apply Kd.R_drew));exact Kd.R_mono (Kd.R_far (p:=⟨gb395,5,none⟩) (Kd.R_far (p:=⟨gb395,4,none⟩) (Kd.R_far (p:=⟨gb395,3,none⟩) (Kd.R_far (p:=⟨gb395,2,none⟩) (Kd.R_far (p:=⟨gb395,1,none⟩) (Kd.R_far (p:=⟨gb395,0,none⟩) (Kd.R_far (p:=⟨gb394,5,none⟩) (Kd.R_types (Kd.R_types HO401.out BK394.out (by decide)) BK395.out (by decide)) (fun _ hk=>hk.1.2) (.slice Ao17 y405.length co17)) (fun _ hk=>hk.2) (.int .i64 a0_0)) (fun _ hk=>hk.2) (.int .i64 a0_1)) (fun _ hk=>hk.2) (.bool a0_2)) (fun _ hk=>hk.2) (.slice Ao11 y399.length co11)) (fun _ hk=>hk.2) (.bool a0_4)) (fun _ hk=>hk.2) (.slice Ao17 y405.length co17)) (fun _ hk=>hk.1.1.2),by (with_reducible repeat (first|apply Kd.R_alloc|apply Kd.R_drewN|apply Kd.R_drew));exact Kd.R_mono (Kd.R_far (p:=⟨gb395,5,none⟩) (Kd.R_far (p:=⟨gb395,4,none⟩) (Kd.R_far (p:=⟨gb395,3,none⟩) (Kd.R_far (p:=⟨gb395,2,none⟩) (Kd.R_far (p:=⟨gb395,1,none⟩) (Kd.R_far (p:=⟨gb395,0,none⟩) (Kd.R_far (p:=⟨gb394,5,none⟩) (Kd.R_types (Kd.R_types HO407.out BK394.out (by decide)) BK395.out (by decide)) (fun _ hk=>hk.1.2) (.slice Ao17 y405.length co17)) (fun _ hk=>hk.2) (.int .i64 a0_0)) (fun _ hk=>hk.2) (.int .i64 a0_1)) (fun _ hk=>hk.2) (.bool a0_2)) (fun _ hk=>hk.2) (.slice Ao11 y399.length co11)) (fun _ hk=>hk.2) (.bool a0_4)) (fun _ hk=>hk.2) (.slice Ao17 y405.length co17)) (fun _ hk=>hk.1.1),by repeat (first|(with_reducible first|exact HB.out|apply zza|apply zzb|apply zzc|refine zzd ?_ GE394.out|refine zzd ?_ GE395.out)|exact HB.out)⟩
  ·
   rw [if_neg c3] at H;exact absurd H (by simp)
 ·
  rw [if_neg c2] at H;exact absurd H (by simp)
def spec_l22Ours.f (a0_0:Bool) (a0_1:Bool) (a0_2:Int) (a0_3:Int) (a0_4:Int) (l0_5:List (S34)):Option (Bool):=if a0_2=255 then (some false) else (some (!a0_1))
set_option maxHeartbeats 8000000 in
set_option maxRecDepth 100000 in
theorem spec_l22Ours.calls (a0_0:Bool) (a0_1:Bool) (a0_2:Int) (a0_3:Int) (a0_4:Int) (A0_5:Option Addr) (c0_5:Nat) (l0_5:List (S34)) (r:Bool) (w:World) (hr0_5:Kd.C k34 w A0_5 l0_5.length l0_5) (hc0_5:l0_5.length≤c0_5) (h:spec_l22Ours.f a0_0 a0_1 a0_2 a0_3 a0_4 l0_5=some r) :
  Calls Try.prog 66 #[.agg #[.bool a0_0,.bool a0_1,.int .i64 a0_2,.int .i64 a0_3,.int .i64 a0_4,.slice A0_5 l0_5.length c0_5]] w fun e w'=>e = .returned (.bool r)∧Below w.heap.size w w':=by
 have hu27:=Try.underlying27;have HR0_5:=zzm hr0_5;have HC0_5:=zzm hc0_5;clear hr0_5 hc0_5;have HB:=zzm (Below.refl w.heap.size w);have H:(if a0_2=255 then (some false) else (some (!a0_1)))=some r:=h;clear h;by_cases c2:a0_2=255
 ·
  rw [if_pos c2] at H;have c2b0:(a0_2==255)=true:=beq_iff_eq.mpr c2;have c2b1:(a0_2 != 255)=false:=bne_eq_false_iff_eq.mpr c2;clear c2;obtain rfl:=Option.some.inj H;go_enter Try.func66,Try.ntmps66;go_wp2_with (first|((with_reducible refine gate_dst (N:=1) rfl ?_);refine box_event ?hg (N:=1) ?hd (cs:=#[.bool a0_0,.bool a0_1,.int .i64 a0_2,.int .i64 a0_3,.int .i64 a0_4,.slice A0_5 l0_5.length c0_5]) (t:=27) ?hr ?_;(case hd=>rfl);(case hg=>rfl);(case hr=>first|(go_simp;done)|(go_simp;rfl));intro gb305 hg w3 hbox hb;have n0_:=zzm (zzp zzh1 hb);have n1_:=zzm (hbox);have n2_:=zzm ((by rw [hg];exact (zzo zzh1):w.heap.size≤gb305));have n3_:=zzm ((by rw [hg];exact (zzo zzh1):w.heap.size≤gb305));clear HB;have HB:=n0_;have BK305:=n1_;have GW305:=n2_;have GE305:=n3_;clear n0_ n1_ n2_ n3_ hb hbox hg;obtain ⟨hcz4_0,hcz4_1,hcz4_2,hcz4_3,hcz4_4,hcz4_5,hfz4_0,hfz4_1,hfz4_2,hfz4_3,hfz4_4,hfz4_5⟩:=zzc6 BK305.out));go_ret;exact ⟨by first|rfl|(simp [errW_none,errW_some] <;> rfl)|(simp [*,errW_none,errW_some] <;> rfl),by repeat (first|(with_reducible first|exact HB.out|apply zza|apply zzb|apply zzc|refine zzd ?_ GE305.out)|exact HB.out)⟩
 ·
  rw [if_neg c2] at H;have c2b0:(a0_2==255)=false:=beq_eq_false_iff_ne.mpr c2;have c2b1:(a0_2 != 255)=true:=bne_iff_ne.mpr c2;obtain rfl:=Option.some.inj H;go_enter Try.func66,Try.ntmps66;go_wp2_with (first|((with_reducible refine gate_dst (N:=1) rfl ?_);refine box_event ?hg (N:=1) ?hd (cs:=#[.bool a0_0,.bool a0_1,.int .i64 a0_2,.int .i64 a0_3,.int .i64 a0_4,.slice A0_5 l0_5.length c0_5]) (t:=27) ?hr ?_;(case hd=>rfl);(case hg=>rfl);(case hr=>first|(go_simp;done)|(go_simp;rfl));intro gb305 hg w5 hbox hb;have n0_:=zzm (zzp zzh1 hb);have n1_:=zzm (hbox);have n2_:=zzm ((by rw [hg];exact (zzo zzh1):w.heap.size≤gb305));have n3_:=zzm ((by rw [hg];exact (zzo zzh1):w.heap.size≤gb305));clear HB;have HB:=n0_;have BK305:=n1_;have GW305:=n2_;have GE305:=n3_;clear n0_ n1_ n2_ n3_ hb hbox hg;obtain ⟨hcz6_0,hcz6_1,hcz6_2,hcz6_3,hcz6_4,hcz6_5,hfz6_0,hfz6_1,hfz6_2,hfz6_3,hfz6_4,hfz6_5⟩:=zzc6 BK305.out));go_ret;exact ⟨by first|rfl|(simp [errW_none,errW_some] <;> rfl)|(simp [*,errW_none,errW_some] <;> rfl),by repeat (first|(with_reducible first|exact HB.out|apply zza|apply zzb|apply zzc|refine zzd ?_ GE305.out)|exact HB.out)⟩
def spec_l22Mark.l0:Nat→List (S27)→Int→Int→Option (Int)
 | 0,_,_,_=>none
 | k+1,x0,x1,x5=>if x5 < (x0.length:Int) then (if 0≤x5 then (if (rd_T27 x0 x5).f1=true then (if 0≤x1 then (if x1 < (x0.length:Int) then (if ((rd_T27 x0 x5).f2)=((rd_T27 x0 x1).f2) then (some x5) else (spec_l22Mark.l0 k x0 x1 (wrap64 (x5+1)))) else (none)) else (none)) else (spec_l22Mark.l0 k x0 x1 (wrap64 (x5+1)))) else (none)) else (some (-1))
def spec_l22Mark.f (k:Nat) (l0:List (S27)) (a1:Int):Option (Int):=spec_l22Mark.l0 k l0 a1 (wrap64 (a1+1))
set_option maxHeartbeats 8000000 in
set_option maxRecDepth 100000 in
theorem spec_l22Mark.calls (k:Nat) (A0:Option Addr) (c0:Nat) (l0:List (S27)) (a1:Int) (r:Int) (w:World) (hr0:Kd.C k27 w A0 l0.length l0) (hc0:l0.length≤c0) (h:spec_l22Mark.f k l0 a1=some r) :
  Calls Try.prog 68 #[.slice A0 l0.length c0,.int .i64 a1] w fun e w'=>e = .returned (.int .i64 r)∧Drawn0 w w':=by
 have HR0:=zzm hr0;have HC0:=zzm hc0;clear hr0 hc0;have H:(spec_l22Mark.l0 k l0 a1 (wrap64 (a1+1)))=some r:=h;clear h;have H':=zzm H;clear H;go_enter Try.func68,Try.ntmps68;go_wp2;repeat (go_quiet (fail);try go_wp2)
 go_loopg [5] k (fun kq v5 w'=>∃ (x5_1:Int),v5 = .int .i64 x5_1∧Aside0 (spec_l22Mark.l0 kq l0 a1 x5_1=some r)∧Aside0 (kq≤k)∧Drawn0 w w')
 case atStart=>exact ⟨(wrap64 (a1+1)),(by first|rfl|(simp;done)|(simp [*];done)),H',⟨Nat.le_refl _⟩,by repeat (first|exact Drawn0.refl _|apply Drawn0.step)⟩
 case round=>
  clear H';try clear p2
  obtain ⟨x5_1,rfl,HA,HK1,⟨m1,rfl⟩⟩:=hrel;cases gk with
  | zero=>exact absurd HA.out (by simp [spec_l22Mark.l0])
  | succ k1=>
   have H:=HA.out;clear HA;simp only [spec_l22Mark.l0] at H;by_cases c3:x5_1 < (l0.length:Int)
   ·
    rw [if_pos c3] at H;have c3b0:decide (x5_1 < (l0.length:Int))=true:=decide_eq_true c3;clear c3;by_cases c4 : 0≤x5_1
    ·
     rw [if_pos c4] at H;have c4b0:decide (0≤x5_1)=true:=decide_eq_true c4;clear c4;obtain ⟨bq5,hbq5⟩:∃ b_:Bool,b_=((rd_T27 l0 x5_1).f1):=⟨_,rfl⟩;replace H:(if bq5=true then (if 0≤a1 then (if a1 < (l0.length:Int) then (if ((rd_T27 l0 x5_1).f2)=((rd_T27 l0 a1).f2) then (some x5_1) else (spec_l22Mark.l0 k1 l0 a1 (wrap64 (x5_1+1)))) else (none)) else (none)) else (spec_l22Mark.l0 k1 l0 a1 (wrap64 (x5_1+1))))=some r:=by rw [← hbq5] at H;exact H
     have Nbq5:=zzm hbq5;clear hbq5;by_cases c6:bq5=true
     ·
      subst c6;have H1:(if 0≤a1 then (if a1 < (l0.length:Int) then (if ((rd_T27 l0 x5_1).f2)=((rd_T27 l0 a1).f2) then (some x5_1) else (spec_l22Mark.l0 k1 l0 a1 (wrap64 (x5_1+1)))) else (none)) else (none))=some r:=by rw [if_pos rfl] at H;exact H
      clear H;have H:=H1;clear H1;by_cases c7 : 0≤a1
      ·
       rw [if_pos c7] at H;have c7b0:decide (0≤a1)=true:=decide_eq_true c7;clear c7;by_cases c8:a1 < (l0.length:Int)
       ·
        rw [if_pos c8] at H;have c8b0:decide (a1 < (l0.length:Int))=true:=decide_eq_true c8;clear c8;by_cases c9:((rd_T27 l0 x5_1).f2)=((rd_T27 l0 a1).f2)
        ·
         rw [if_pos c9] at H;have c9b0:(((rd_T27 l0 x5_1).f2)==((rd_T27 l0 a1).f2))=true:=beq_iff_eq.mpr c9;have c9b1:(((rd_T27 l0 x5_1).f2) != ((rd_T27 l0 a1).f2))=false:=bne_eq_false_iff_eq.mpr c9;clear c9;obtain rfl:=Option.some.inj H;have p306 : 0≤(x5_1:Int):=zzt;have q306:x5_1 < (l0.length:Int):=zzt;obtain ⟨ad306,A306_5,c306_5,e306,hx306_0,hx306_1,hx306_2,hx306_3,hx306_4,hx306_5,hl306_5,hi306_5⟩:=at_T27 HR0.out x5_1 p306 q306
         (try rw [← Nbq5.out] at hx306_0)
         (try rw [← Nbq5.out] at hx306_1);cases e306;have HR306_5:=zzm hi306_5;have HC306_5:=zzm hl306_5;clear hi306_5 hl306_5;replace p306:=eq_true p306;replace q306:=eq_true q306;have p307 : 0≤(x5_1:Int):=zzt;have q307:x5_1 < (l0.length:Int):=zzt;obtain ⟨ad307,A307_5,c307_5,e307,hx307_0,hx307_1,hx307_2,hx307_3,hx307_4,hx307_5,hl307_5,hi307_5⟩:=at_T27 HR0.out x5_1 p307 q307
         (try rw [← Nbq5.out] at hx307_0)
         (try rw [← Nbq5.out] at hx307_1);obtain rfl:ad306=ad307:=(by injection e307);have HR307_5:=zzm hi307_5;have HC307_5:=zzm hl307_5;clear hi307_5 hl307_5;replace p307:=eq_true p307;replace q307:=eq_true q307;have ea_:=Option.some.inj (hx306_5.symm.trans hx307_5);injection ea_ with ea_ en_ ec_;subst ea_;subst ec_;clear en_;have p308 : 0≤(a1:Int):=zzt;have q308:a1 < (l0.length:Int):=zzt;obtain ⟨ad308,A308_5,c308_5,e308,hx308_0,hx308_1,hx308_2,hx308_3,hx308_4,hx308_5,hl308_5,hi308_5⟩:=at_T27 HR0.out a1 p308 q308
         (try rw [← Nbq5.out] at hx308_0)
         (try rw [← Nbq5.out] at hx308_1);obtain rfl:ad306=ad308:=(by injection e308);have HR308_5:=zzm hi308_5;have HC308_5:=zzm hl308_5;clear hi308_5 hl308_5;replace p308:=eq_true p308;replace q308:=eq_true q308;go_wp2;repeat (go_quiet (fail);try go_wp2)
         go_ret;exact ⟨by first|rfl|(simp;done)|(simp [*];done),by repeat (first|exact Drawn0.refl _|apply Drawn0.step)⟩
        ·
         rw [if_neg c9] at H;have c9b0:(((rd_T27 l0 x5_1).f2)==((rd_T27 l0 a1).f2))=false:=beq_eq_false_iff_ne.mpr c9;have c9b1:(((rd_T27 l0 x5_1).f2) != ((rd_T27 l0 a1).f2))=true:=bne_iff_ne.mpr c9;have H':=zzm H;clear H;have p306 : 0≤(x5_1:Int):=zzt;have q306:x5_1 < (l0.length:Int):=zzt;obtain ⟨ad306,A306_5,c306_5,e306,hx306_0,hx306_1,hx306_2,hx306_3,hx306_4,hx306_5,hl306_5,hi306_5⟩:=at_T27 HR0.out x5_1 p306 q306
         (try rw [← Nbq5.out] at hx306_0)
         (try rw [← Nbq5.out] at hx306_1);cases e306;have HR306_5:=zzm hi306_5;have HC306_5:=zzm hl306_5;clear hi306_5 hl306_5;replace p306:=eq_true p306;replace q306:=eq_true q306;have p307 : 0≤(x5_1:Int):=zzt;have q307:x5_1 < (l0.length:Int):=zzt;obtain ⟨ad307,A307_5,c307_5,e307,hx307_0,hx307_1,hx307_2,hx307_3,hx307_4,hx307_5,hl307_5,hi307_5⟩:=at_T27 HR0.out x5_1 p307 q307
         (try rw [← Nbq5.out] at hx307_0)
         (try rw [← Nbq5.out] at hx307_1);obtain rfl:ad306=ad307:=(by injection e307);have HR307_5:=zzm hi307_5;have HC307_5:=zzm hl307_5;clear hi307_5 hl307_5;replace p307:=eq_true p307;replace q307:=eq_true q307;have ea_:=Option.some.inj (hx306_5.symm.trans hx307_5);injection ea_ with ea_ en_ ec_;subst ea_;subst ec_;clear en_;have p308 : 0≤(a1:Int):=zzt;have q308:a1 < (l0.length:Int):=zzt;obtain ⟨ad308,A308_5,c308_5,e308,hx308_0,hx308_1,hx308_2,hx308_3,hx308_4,hx308_5,hl308_5,hi308_5⟩:=at_T27 HR0.out a1 p308 q308
         (try rw [← Nbq5.out] at hx308_0)
         (try rw [← Nbq5.out] at hx308_1);obtain rfl:ad306=ad308:=(by injection e308);have HR308_5:=zzm hi308_5;have HC308_5:=zzm hl308_5;clear hi308_5 hl308_5;replace p308:=eq_true p308;replace q308:=eq_true q308;go_wp2;repeat (go_quiet (fail);try go_wp2)
         go_roundg k1
         case measure=>have:=HK1.out;omega
         case rel=>exact ⟨(wrap64 (x5_1+1)),(by first|rfl|(simp;done)|(simp [*];done)),H',⟨by have:=HK1.out;omega⟩,by repeat (first|exact Drawn0.refl _|apply Drawn0.step)⟩
       ·
        rw [if_neg c8] at H;exact absurd H (by simp)
      ·
       rw [if_neg c7] at H;exact absurd H (by simp)
     ·
      replace c6:=Bool.eq_false_iff.mpr c6;subst c6;have H1:(spec_l22Mark.l0 k1 l0 a1 (wrap64 (x5_1+1)))=some r:=by rw [if_neg (show ¬ (false=true) by decide)] at H;exact H
      clear H;have H:=H1;clear H1;have H':=zzm H;clear H;have p306 : 0≤(x5_1:Int):=zzt;have q306:x5_1 < (l0.length:Int):=zzt;obtain ⟨ad306,A306_5,c306_5,e306,hx306_0,hx306_1,hx306_2,hx306_3,hx306_4,hx306_5,hl306_5,hi306_5⟩:=at_T27 HR0.out x5_1 p306 q306
      (try rw [← Nbq5.out] at hx306_0)
      (try rw [← Nbq5.out] at hx306_1);cases e306;have HR306_5:=zzm hi306_5;have HC306_5:=zzm hl306_5;clear hi306_5 hl306_5;replace p306:=eq_true p306;replace q306:=eq_true q306;go_wp2;repeat (go_quiet (fail);try go_wp2)
      go_roundg k1
      case measure=>have:=HK1.out;omega
      case rel=>exact ⟨(wrap64 (x5_1+1)),(by first|rfl|(simp;done)|(simp [*];done)),H',⟨by have:=HK1.out;omega⟩,by repeat (first|exact Drawn0.refl _|apply Drawn0.step)⟩
    ·
     rw [if_neg c4] at H;exact absurd H (by simp)
   ·
    rw [if_neg c3] at H;have c3b0:decide (x5_1 < (l0.length:Int))=false:=decide_eq_false c3;clear c3;obtain rfl:=Option.some.inj H;go_wp2;repeat (go_quiet (fail);try go_wp2)
    go_ret;exact ⟨by first|rfl|(simp;done)|(simp [*];done),by repeat (first|exact Drawn0.refl _|apply Drawn0.step)⟩
def spec_l22End.l0:Nat→List (S27)→Int→Option (Int)
 | 0,_,_=>none
 | k+1,x0,x3=>if x3 < (x0.length:Int) then (if 0≤x3 then ((spec_l22Ours.f ((rd_T27 x0 x3).f0) ((rd_T27 x0 x3).f1) ((rd_T27 x0 x3).f2) ((rd_T27 x0 x3).f3) ((rd_T27 x0 x3).f4) ((rd_T27 x0 x3).f5)).bind fun t312=>(if t312=true then ((spec_l22Mark.f k x0 x3).bind fun t313=>(if t313 < 0 then (if 0 < (((rd_T27 x0 x3).f5).length:Int) then (some ((rd_T34 ((rd_T27 x0 x3).f5) 0).f0)) else (none)) else (spec_l22End.l0 k x0 (wrap64 (x3+1))))) else (spec_l22End.l0 k x0 (wrap64 (x3+1))))) else (none)) else (if (x0.length:Int)=0 then (some 0) else (if 0≤(wrap64 ((x0.length:Int) - 1)) then (if (wrap64 ((x0.length:Int) - 1)) < (x0.length:Int) then ((spec_l12Last.f ((rd_T27 x0 (wrap64 ((x0.length:Int) - 1))).f0) ((rd_T27 x0 (wrap64 ((x0.length:Int) - 1))).f1) ((rd_T27 x0 (wrap64 ((x0.length:Int) - 1))).f2) ((rd_T27 x0 (wrap64 ((x0.length:Int) - 1))).f3) ((rd_T27 x0 (wrap64 ((x0.length:Int) - 1))).f4) ((rd_T27 x0 (wrap64 ((x0.length:Int) - 1))).f5)).bind fun t310=>(some (wrap64 (t310+1)))) else (none)) else (none)))
def spec_l22End.f (k:Nat) (l0:List (S27)):Option (Int):=spec_l22End.l0 k l0 0
set_option maxHeartbeats 8000000 in
set_option maxRecDepth 100000 in
theorem spec_l22End.calls (k:Nat) (A0:Option Addr) (c0:Nat) (l0:List (S27)) (r:Int) (w:World) (hr0:Kd.C k27 w A0 l0.length l0) (hc0:l0.length≤c0) (h:spec_l22End.f k l0=some r) :
  Calls Try.prog 64 #[.slice A0 l0.length c0] w fun e w'=>e = .returned (.int .i64 r)∧Below w.heap.size w w':=by
 have hu27:=Try.underlying27;have HR0:=zzm hr0;have HC0:=zzm hc0;clear hr0 hc0;have HB:=zzm (Below.refl w.heap.size w);have H:(spec_l22End.l0 k l0 0)=some r:=h;clear h;have H':=zzm H;clear H;go_enter Try.func64,Try.ntmps64;go_wp2;go_loopg [3] k (fun kq v3 w'=>∃ (x3_1:Int),v3 = .int .i64 x3_1∧Aside0 (spec_l22End.l0 kq l0 x3_1=some r)∧Aside0 (kq≤k)∧Aside0 (Below w.heap.size w w'))
 case atStart=>exact ⟨(0),(by first|rfl|(simp;done)|(simp [*];done)),H',⟨Nat.le_refl _⟩,⟨zzh1⟩⟩
 case round=>
  clear H';obtain ⟨x3_1,rfl,HA,HK1,HB⟩:=hrel;cases gk with
  | zero=>exact absurd HA.out (by simp [spec_l22End.l0])
  | succ k1=>
   have H:=HA.out;clear HA;simp only [spec_l22End.l0] at H;by_cases c2:x3_1 < (l0.length:Int)
   ·
    rw [if_pos c2] at H;have c2b0:decide (x3_1 < (l0.length:Int))=true:=decide_eq_true c2;clear c2;by_cases c3 : 0≤x3_1
    ·
     rw [if_pos c3] at H;have c3b0:decide (0≤x3_1)=true:=decide_eq_true c3;clear c3;replace H:=Option.bind_eq_some_iff.mp H;obtain ⟨t312,A40,H⟩:=H;replace H:(if t312=true then ((spec_l22Mark.f k1 l0 x3_1).bind fun t313=>(if t313 < 0 then (if 0 < (((rd_T27 l0 x3_1).f5).length:Int) then (some ((rd_T34 ((rd_T27 l0 x3_1).f5) 0).f0)) else (none)) else (spec_l22End.l0 k1 l0 (wrap64 (x3_1+1))))) else (spec_l22End.l0 k1 l0 (wrap64 (x3_1+1))))=some r:=H;have A4:=zzm A40;clear A40;by_cases c5:t312=true
     ·
      subst c5;have H1:((spec_l22Mark.f k1 l0 x3_1).bind fun t313=>(if t313 < 0 then (if 0 < (((rd_T27 l0 x3_1).f5).length:Int) then (some ((rd_T34 ((rd_T27 l0 x3_1).f5) 0).f0)) else (none)) else (spec_l22End.l0 k1 l0 (wrap64 (x3_1+1)))))=some r:=by rw [if_pos rfl] at H;exact H
      clear H;have H:=H1;clear H1;replace H:=Option.bind_eq_some_iff.mp H;obtain ⟨t313,A60,H⟩:=H;replace H:(if t313 < 0 then (if 0 < (((rd_T27 l0 x3_1).f5).length:Int) then (some ((rd_T34 ((rd_T27 l0 x3_1).f5) 0).f0)) else (none)) else (spec_l22End.l0 k1 l0 (wrap64 (x3_1+1))))=some r:=H;have A6:=zzm A60;clear A60;by_cases c7:t313 < 0
      ·
       rw [if_pos c7] at H;have c7b0:decide (t313 < 0)=true:=decide_eq_true c7;clear c7;by_cases c8 : 0 < (((rd_T27 l0 x3_1).f5).length:Int)
       ·
        rw [if_pos c8] at H;have c8b0:decide (0 < (((rd_T27 l0 x3_1).f5).length:Int))=true:=decide_eq_true c8;have c8b1:decide (0 < ((rd_T27 l0 x3_1).f5).length)=true:=decide_eq_true (by omega);clear c8;obtain rfl:=Option.some.inj H;have p311 : 0≤(x3_1:Int):=zzt;have q311:x3_1 < (l0.length:Int):=zzt;obtain ⟨ad311,A311_5,c311_5,e311,hx311_0,hx311_1,hx311_2,hx311_3,hx311_4,hx311_5,hl311_5,hi311_5⟩:=at_T27 HR0.out x3_1 p311 q311;cases e311;replace hx311_0:=zzx HB.out hx311_0;replace hx311_1:=zzx HB.out hx311_1;replace hx311_2:=zzx HB.out hx311_2;replace hx311_3:=zzx HB.out hx311_3;replace hx311_4:=zzx HB.out hx311_4;replace hx311_5:=zzx HB.out hx311_5;have HR311_5:=zzm hi311_5;have HC311_5:=zzm hl311_5;clear hi311_5 hl311_5;replace p311:=eq_true p311;replace q311:=eq_true q311;go_wp2_with (first|((with_reducible refine gate_callee (f:=66) rfl ?_);refine goesL_ (some 14) rfl rfl Try.func66 (by kernel_rfl) rfl #[.agg #[.bool ((rd_T27 l0 x3_1).f0),.bool ((rd_T27 l0 x3_1).f1),.int .i64 ((rd_T27 l0 x3_1).f2),.int .i64 ((rd_T27 l0 x3_1).f3),.int .i64 ((rd_T27 l0 x3_1).f4),.slice A311_5 ((rd_T27 l0 x3_1).f5).length c311_5]] rfl zzM2 ?_;(with_reducible refine (spec_l22Ours.calls ((rd_T27 l0 x3_1).f0) ((rd_T27 l0 x3_1).f1) ((rd_T27 l0 x3_1).f2) ((rd_T27 l0 x3_1).f3) ((rd_T27 l0 x3_1).f4) _ _ ((rd_T27 l0 x3_1).f5) true _ ?side1 ?side2 A4.out).mono ?_);(case side1=>repeat (first|exact (Kd.C_below HR311_5.out HB.out)|(with_reducible refine Kd.C_alloc ?_ _)|(with_reducible refine Kd.C_drewN ?_ _)|(with_reducible refine Kd.C_drew ?_)));(case side2=>exact HC311_5.out);rintro e w9 ⟨rfl,hb⟩;refine ⟨_,rfl,?_⟩;have n0_:=zzm (zzp zzh1 hb);clear HB;have HB:=n0_;clear n0_;(try clear hb);(try clear hb2);(try clear hk);(try clear hi))|(go_at_call 68;(with_reducible refine (spec_l22Mark.calls k1 _ _ l0 x3_1 t313 _ ?side1 ?side2 A6.out).mono ?_);(case side1=>repeat (first|exact (Kd.C_below HR0.out HB.out)|(with_reducible refine Kd.C_alloc ?_ _)|(with_reducible refine Kd.C_drewN ?_ _)|(with_reducible refine Kd.C_drew ?_)));(case side2=>exact HC0.out);rintro e w' ⟨rfl,⟨nd,rfl⟩⟩;have p314 : 0≤(x3_1:Int):=zzt;have q314:x3_1 < (l0.length:Int):=zzt;obtain ⟨ad314,A314_5,c314_5,e314,hx314_0,hx314_1,hx314_2,hx314_3,hx314_4,hx314_5,hl314_5,hi314_5⟩:=at_T27 HR0.out x3_1 p314 q314;obtain rfl:ad311=ad314:=(by injection e314);replace hx314_0:=zzx HB.out hx314_0;replace hx314_1:=zzx HB.out hx314_1;replace hx314_2:=zzx HB.out hx314_2;replace hx314_3:=zzx HB.out hx314_3;replace hx314_4:=zzx HB.out hx314_4;replace hx314_5:=zzx HB.out hx314_5;have HR314_5:=zzm hi314_5;have HC314_5:=zzm hl314_5;clear hi314_5 hl314_5;replace p314:=eq_true p314;replace q314:=eq_true q314;have p315 : 0≤(0:Int):=(by omega);have q315 : 0 < (((rd_T27 l0 x3_1).f5).length:Int):=zzt;obtain ⟨ad315,A315_3,c315_3,A315_5,c315_5,e315,hx315_0,hx315_1,hx315_2,hx315_3,hx315_4,hx315_5,hl315_3,hi315_3,hl315_5,hi315_5⟩:=at_T34 HR314_5.out 0 p315 q315;cases e315;have qi315:(0 < ((rd_T27 l0 x3_1).f5).length)=True:=eq_true (by omega);(try rw [show ((0:Int)).toNat=0 from rfl] at hx315_0);(try rw [show 0 * 6=0 from rfl] at hx315_0);(try rw [Addr.add_zero'] at hx315_0);(try rw [show ((0:Int)).toNat=0 from rfl] at hx315_1);(try rw [show 0 * 6=0 from rfl] at hx315_1);(try rw [Addr.add_zero'] at hx315_1);(try rw [show ((0:Int)).toNat=0 from rfl] at hx315_2);(try rw [show 0 * 6=0 from rfl] at hx315_2);(try rw [Addr.add_zero'] at hx315_2);(try rw [show ((0:Int)).toNat=0 from rfl] at hx315_3);(try rw [show 0 * 6=0 from rfl] at hx315_3);(try rw [Addr.add_zero'] at hx315_3);(try rw [show ((0:Int)).toNat=0 from rfl] at hx315_4);(try rw [show 0 * 6=0 from rfl] at hx315_4);(try rw [Addr.add_zero'] at hx315_4);(try rw [show ((0:Int)).toNat=0 from rfl] at hx315_5);(try rw [show 0 * 6=0 from rfl] at hx315_5);(try rw [Addr.add_zero'] at hx315_5);replace hx315_0:=zzx HB.out hx315_0;replace hx315_1:=zzx HB.out hx315_1;replace hx315_2:=zzx HB.out hx315_2;replace hx315_3:=zzx HB.out hx315_3;replace hx315_4:=zzx HB.out hx315_4;replace hx315_5:=zzx HB.out hx315_5;have HR315_3:=zzm hi315_3;have HC315_3:=zzm hl315_3;clear hi315_3 hl315_3;have HR315_5:=zzm hi315_5;have HC315_5:=zzm hl315_5;clear hi315_5 hl315_5;replace p315:=eq_true p315;replace q315:=eq_true q315));go_ret;exact ⟨by first|rfl|(simp [errW_none,errW_some] <;> rfl)|(simp [*,errW_none,errW_some] <;> rfl),zzh1⟩
       ·
        rw [if_neg c8] at H;exact absurd H (by simp)
      ·
       rw [if_neg c7] at H;have c7b0:decide (t313 < 0)=false:=decide_eq_false c7;clear c7;have H':=zzm H;clear H;have p311 : 0≤(x3_1:Int):=zzt;have q311:x3_1 < (l0.length:Int):=zzt;obtain ⟨ad311,A311_5,c311_5,e311,hx311_0,hx311_1,hx311_2,hx311_3,hx311_4,hx311_5,hl311_5,hi311_5⟩:=at_T27 HR0.out x3_1 p311 q311;cases e311;replace hx311_0:=zzx HB.out hx311_0;replace hx311_1:=zzx HB.out hx311_1;replace hx311_2:=zzx HB.out hx311_2;replace hx311_3:=zzx HB.out hx311_3;replace hx311_4:=zzx HB.out hx311_4;replace hx311_5:=zzx HB.out hx311_5;have HR311_5:=zzm hi311_5;have HC311_5:=zzm hl311_5;clear hi311_5 hl311_5;replace p311:=eq_true p311;replace q311:=eq_true q311;go_wp2_with (first|((with_reducible refine gate_callee (f:=66) rfl ?_);refine goesL_ (some 14) rfl rfl Try.func66 (by kernel_rfl) rfl #[.agg #[.bool ((rd_T27 l0 x3_1).f0),.bool ((rd_T27 l0 x3_1).f1),.int .i64 ((rd_T27 l0 x3_1).f2),.int .i64 ((rd_T27 l0 x3_1).f3),.int .i64 ((rd_T27 l0 x3_1).f4),.slice A311_5 ((rd_T27 l0 x3_1).f5).length c311_5]] rfl zzM2 ?_;(with_reducible refine (spec_l22Ours.calls ((rd_T27 l0 x3_1).f0) ((rd_T27 l0 x3_1).f1) ((rd_T27 l0 x3_1).f2) ((rd_T27 l0 x3_1).f3) ((rd_T27 l0 x3_1).f4) _ _ ((rd_T27 l0 x3_1).f5) true _ ?side1 ?side2 A4.out).mono ?_);(case side1=>repeat (first|exact (Kd.C_below HR311_5.out HB.out)|(with_reducible refine Kd.C_alloc ?_ _)|(with_reducible refine Kd.C_drewN ?_ _)|(with_reducible refine Kd.C_drew ?_)));(case side2=>exact HC311_5.out);rintro e w10 ⟨rfl,hb⟩;refine ⟨_,rfl,?_⟩;have n0_:=zzm (zzp zzh1 hb);clear HB;have HB:=n0_;clear n0_;(try clear hb);(try clear hb2);(try clear hk);(try clear hi))|(go_at_call 68;(with_reducible refine (spec_l22Mark.calls k1 _ _ l0 x3_1 t313 _ ?side1 ?side2 A6.out).mono ?_);(case side1=>repeat (first|exact (Kd.C_below HR0.out HB.out)|(with_reducible refine Kd.C_alloc ?_ _)|(with_reducible refine Kd.C_drewN ?_ _)|(with_reducible refine Kd.C_drew ?_)));(case side2=>exact HC0.out);rintro e w' ⟨rfl,⟨nd,rfl⟩⟩));go_roundg k1
       case measure=>have:=HK1.out;omega
       case rel=>exact ⟨(wrap64 (x3_1+1)),(by first|rfl|(simp;done)|(simp [*];done)),H',⟨by have:=HK1.out;omega⟩,⟨zzh1⟩⟩
     ·
      replace c5:=Bool.eq_false_iff.mpr c5;subst c5;have H1:(spec_l22End.l0 k1 l0 (wrap64 (x3_1+1)))=some r:=by rw [if_neg (show ¬ (false=true) by decide)] at H;exact H
      clear H;have H:=H1;clear H1;have H':=zzm H;clear H;have p311 : 0≤(x3_1:Int):=zzt;have q311:x3_1 < (l0.length:Int):=zzt;obtain ⟨ad311,A311_5,c311_5,e311,hx311_0,hx311_1,hx311_2,hx311_3,hx311_4,hx311_5,hl311_5,hi311_5⟩:=at_T27 HR0.out x3_1 p311 q311;cases e311;replace hx311_0:=zzx HB.out hx311_0;replace hx311_1:=zzx HB.out hx311_1;replace hx311_2:=zzx HB.out hx311_2;replace hx311_3:=zzx HB.out hx311_3;replace hx311_4:=zzx HB.out hx311_4;replace hx311_5:=zzx HB.out hx311_5;have HR311_5:=zzm hi311_5;have HC311_5:=zzm hl311_5;clear hi311_5 hl311_5;replace p311:=eq_true p311;replace q311:=eq_true q311;go_wp2_with (first|((with_reducible refine gate_callee (f:=66) rfl ?_);refine goesL_ (some 14) rfl rfl Try.func66 (by kernel_rfl) rfl #[.agg #[.bool ((rd_T27 l0 x3_1).f0),.bool ((rd_T27 l0 x3_1).f1),.int .i64 ((rd_T27 l0 x3_1).f2),.int .i64 ((rd_T27 l0 x3_1).f3),.int .i64 ((rd_T27 l0 x3_1).f4),.slice A311_5 ((rd_T27 l0 x3_1).f5).length c311_5]] rfl zzM2 ?_;(with_reducible refine (spec_l22Ours.calls ((rd_T27 l0 x3_1).f0) ((rd_T27 l0 x3_1).f1) ((rd_T27 l0 x3_1).f2) ((rd_T27 l0 x3_1).f3) ((rd_T27 l0 x3_1).f4) _ _ ((rd_T27 l0 x3_1).f5) false _ ?side1 ?side2 A4.out).mono ?_);(case side1=>repeat (first|exact (Kd.C_below HR311_5.out HB.out)|(with_reducible refine Kd.C_alloc ?_ _)|(with_reducible refine Kd.C_drewN ?_ _)|(with_reducible refine Kd.C_drew ?_)));(case side2=>exact HC311_5.out);rintro e w11 ⟨rfl,hb⟩;refine ⟨_,rfl,?_⟩;have n0_:=zzm (zzp zzh1 hb);clear HB;have HB:=n0_;clear n0_;(try clear hb);(try clear hb2);(try clear hk);(try clear hi)));go_roundg k1
      case measure=>have:=HK1.out;omega
      case rel=>exact ⟨(wrap64 (x3_1+1)),(by first|rfl|(simp;done)|(simp [*];done)),H',⟨by have:=HK1.out;omega⟩,⟨zzh1⟩⟩
    ·
     rw [if_neg c3] at H;exact absurd H (by simp)
   ·
    rw [if_neg c2] at H;have c2b0:decide (x3_1 < (l0.length:Int))=false:=decide_eq_false c2;clear c2;by_cases c12:(l0.length:Int)=0
    ·
     rw [if_pos c12] at H;have c12b0:((l0.length:Int)==0)=true:=beq_iff_eq.mpr c12;have c12b1:((l0.length:Int) != 0)=false:=bne_eq_false_iff_eq.mpr c12;clear c12;obtain rfl:=Option.some.inj H;go_wp2;go_ret;exact ⟨by first|rfl|(simp [errW_none,errW_some] <;> rfl)|(simp [*,errW_none,errW_some] <;> rfl),zzh1⟩
    ·
     rw [if_neg c12] at H;have c12b0:((l0.length:Int)==0)=false:=beq_eq_false_iff_ne.mpr c12;have c12b1:((l0.length:Int) != 0)=true:=bne_iff_ne.mpr c12;have c12b2:¬ (l0 = []):=fun h_=>c12 (by rw [h_];rfl);obtain ⟨ji13,hji13⟩:∃ j_:Int,(wrap64 ((l0.length:Int) - 1))=j_:=⟨_,rfl⟩;replace H:(if 0≤(ji13) then (if (ji13) < (l0.length:Int) then ((spec_l12Last.f ((rd_T27 l0 (ji13)).f0) ((rd_T27 l0 (ji13)).f1) ((rd_T27 l0 (ji13)).f2) ((rd_T27 l0 (ji13)).f3) ((rd_T27 l0 (ji13)).f4) ((rd_T27 l0 (ji13)).f5)).bind fun t310=>(some (wrap64 (t310+1)))) else (none)) else (none))=some r:=by first|(rw [hji13] at H;exact H)|(simp only [hji13] at H ⊢;exact H)
     have hji13w:(IntKind.i64.wrap ((l0.length:Int) - 1))=ji13:=(i64_w _).trans hji13;by_cases c14 : 0≤(ji13)
     ·
      rw [if_pos c14] at H;have c14b0:decide (0≤(ji13))=true:=decide_eq_true c14;clear c14;by_cases c15:(ji13) < (l0.length:Int)
      ·
       rw [if_pos c15] at H;have c15b0:decide ((ji13) < (l0.length:Int))=true:=decide_eq_true c15;clear c15;replace H:=Option.bind_eq_some_iff.mp H;obtain ⟨t310,A160,H⟩:=H;replace H:(some (wrap64 (t310+1)))=some r:=H;have A16:=zzm A160;clear A160;obtain rfl:=Option.some.inj H;have p309 : 0≤((ji13):Int):=zzt;have q309:(ji13) < (l0.length:Int):=zzt;obtain ⟨ad309,A309_5,c309_5,e309,hx309_0,hx309_1,hx309_2,hx309_3,hx309_4,hx309_5,hl309_5,hi309_5⟩:=at_T27 HR0.out (ji13) p309 q309;cases e309;replace hx309_0:=zzx HB.out hx309_0;replace hx309_1:=zzx HB.out hx309_1;replace hx309_2:=zzx HB.out hx309_2;replace hx309_3:=zzx HB.out hx309_3;replace hx309_4:=zzx HB.out hx309_4;replace hx309_5:=zzx HB.out hx309_5;have HR309_5:=zzm hi309_5;have HC309_5:=zzm hl309_5;clear hi309_5 hl309_5;replace p309:=eq_true p309;replace q309:=eq_true q309;go_wp2_with (first|((with_reducible refine gate_callee (f:=76) rfl ?_);refine goesL_ (some 38) rfl rfl Try.func76 (by kernel_rfl) rfl #[.agg #[.bool ((rd_T27 l0 (ji13)).f0),.bool ((rd_T27 l0 (ji13)).f1),.int .i64 ((rd_T27 l0 (ji13)).f2),.int .i64 ((rd_T27 l0 (ji13)).f3),.int .i64 ((rd_T27 l0 (ji13)).f4),.slice A309_5 ((rd_T27 l0 (ji13)).f5).length c309_5]] rfl (by (try simp only [map_toArray,map_cons,map_nil]);first|done|(simp only [hji13];rfl)|rfl|(simp only [length_drop,length_take];rfl)) ?_;(with_reducible refine (spec_l12Last.calls ((rd_T27 l0 (ji13)).f0) ((rd_T27 l0 (ji13)).f1) ((rd_T27 l0 (ji13)).f2) ((rd_T27 l0 (ji13)).f3) ((rd_T27 l0 (ji13)).f4) _ _ ((rd_T27 l0 (ji13)).f5) t310 _ ?side1 ?side2 A16.out).mono ?_);(case side1=>repeat (first|exact (Kd.C_below HR309_5.out HB.out)|(with_reducible refine Kd.C_alloc ?_ _)|(with_reducible refine Kd.C_drewN ?_ _)|(with_reducible refine Kd.C_drew ?_)));(case side2=>exact HC309_5.out);rintro e w17 ⟨rfl,hb⟩;refine ⟨_,rfl,?_⟩;have n0_:=zzm (zzp zzh1 hb);clear HB;have HB:=n0_;clear n0_;(try clear hb);(try clear hb2);(try clear hk);(try clear hi)));go_ret;exact ⟨by first|rfl|(simp [errW_none,errW_some] <;> rfl)|(simp only [← hji13];first|rfl|(simp [errW_none,errW_some] <;> rfl))|(simp [*,errW_none,errW_some] <;> rfl),zzh1⟩
      ·
       rw [if_neg c15] at H;exact absurd H (by simp)
     ·
      rw [if_neg c14] at H;exact absurd H (by simp)
mutual
def spec_StableRecords.l0:Nat→List (S27)→List (S34)→Int→Option ((List (S34)))
 | 0,_,_,_=>none
 | k+1,x0,x3,x4=>if x4 < (x0.length:Int) then ((spec_LogValid.f k x0).bind fun t411=>(spec_StableRecords.j1 k x0 x3 x4 t411)) else (spec_StableRecords.j1 k x0 x3 x4 false)
def spec_StableRecords.j1:Nat→List (S27)→List (S34)→Int→Bool→Option ((List (S34)))
 | 0,_,_,_,_=>none
 | k+1,x0,x3,x4,x14=>if x14=true then (if 0≤x4 then (if x4 < (x0.length:Int) then (if (rd_T27 x0 x4).f1=true then (spec_StableRecords.j2 k x0 x3 x4 true) else (if 0 < (((rd_T27 x0 x4).f5).length:Int) then ((spec_l22End.f k x0).bind fun t415=>(spec_StableRecords.j2 k x0 x3 x4 (decide (((rd_T34 ((rd_T27 x0 x4).f5) 0).f0) ≥ t415)))) else (none))) else (none)) else (none)) else (some x3)
def spec_StableRecords.j2:Nat→List (S27)→List (S34)→Int→Bool→Option ((List (S34)))
 | 0,_,_,_,_=>none
 | k+1,x0,x3,x4,x34=>if x34=true then (spec_StableRecords.l0 k x0 x3 (wrap64 (x4+1))) else (if 0≤x4 then (if x4 < (x0.length:Int) then ((spec_l22Ours.f ((rd_T27 x0 x4).f0) ((rd_T27 x0 x4).f1) ((rd_T27 x0 x4).f2) ((rd_T27 x0 x4).f3) ((rd_T27 x0 x4).f4) ((rd_T27 x0 x4).f5)).bind fun t417=>(if t417=true then ((spec_l22Mark.f k x0 x4).bind fun t418=>(if 0≤t418 then (if t418 < (x0.length:Int) then ((spec_l22Fine.f ((rd_T27 x0 t418).f0) ((rd_T27 x0 t418).f1) ((rd_T27 x0 t418).f2) ((rd_T27 x0 t418).f3) ((rd_T27 x0 t418).f4) ((rd_T27 x0 t418).f5)).bind fun t420=>(spec_StableRecords.j3 k x0 x3 x4 (!t420))) else (none)) else (none))) else (spec_StableRecords.j3 k x0 x3 x4 false))) else (none)) else (none))
def spec_StableRecords.j3:Nat→List (S27)→List (S34)→Int→Bool→Option ((List (S34)))
 | 0,_,_,_,_=>none
 | k+1,x0,x3,x4,x49=>if x49=true then (spec_StableRecords.l0 k x0 x3 (wrap64 (x4+1))) else (spec_StableRecords.l1 k x0 x3 x4 0)
def spec_StableRecords.l1:Nat→List (S27)→List (S34)→Int→Int→Option ((List (S34)))
 | 0,_,_,_,_=>none
 | k+1,x0,x3,x4,x5=>if 0≤x4 then (if x4 < (x0.length:Int) then (if x5 < (((rd_T27 x0 x4).f5).length:Int) then (if 0≤x5 then ((spec_l12Copy.f ((rd_T34 ((rd_T27 x0 x4).f5) x5).f0) ((rd_T34 ((rd_T27 x0 x4).f5) x5).f1) ((rd_T34 ((rd_T27 x0 x4).f5) x5).f2) ((rd_T34 ((rd_T27 x0 x4).f5) x5).f3) ((rd_T34 ((rd_T27 x0 x4).f5) x5).f4) ((rd_T34 ((rd_T27 x0 x4).f5) x5).f5)).bind fun bt424=>(if x3.length < 1759218604441 then (spec_StableRecords.l1 k x0 (x3 ++ [(⟨bt424.1,bt424.2.1,bt424.2.2.1,bt424.2.2.2.1,bt424.2.2.2.2.1,bt424.2.2.2.2.2⟩:S34)]) x4 (wrap64 (x5+1))) else (none))) else (none)) else (spec_StableRecords.l0 k x0 x3 (wrap64 (x4+1)))) else (none)) else (none)
end
def spec_StableRecords.f (k:Nat) (l0:List (S27)):Option ((List (S34))):=spec_StableRecords.l0 k l0 (([]:List (S34))) 0
def spec_StableRecords.T5:Bool×List (List Nat×List Nat):=(true,[([],[]),([],[]),([0,1],[0,1]),([2],[2]),([3],[3]),([4],[4]),([5],[5]),([5],[5]),([6,7,5],[5,6,7]),([8,5],[5,8]),([9,5],[5,9]),([10,5],[5,10]),([11,5],[5,11]),([12,5],[5,12]),([5],[5]),([14,5,5],[5,14]),([13,15,5],[5,13,15]),([5,16],[5,16])])
def spec_StableRecords.B5:List Nat:=[0,0,3,7,15,31,63,63,255,511,1023,2047,4095,8191,63,16447,65535,131071]
theorem spec_StableRecords.tab5:rtab .any (opsOf Try.f43 5)=spec_StableRecords.T5:=by kernel_rfl
theorem spec_StableRecords.bits5:waitsOk spec_StableRecords.T5.2 spec_StableRecords.B5=true:=by kernel_rfl
set_option maxHeartbeats 8000000 in
set_option maxRecDepth 100000 in
theorem spec_StableRecords.calls (k:Nat) (A0:Option Addr) (c0:Nat) (l0:List (S27)) (r:List (S34)) (w:World) (hr0:Kd.C k27 w A0 l0.length l0) (hc0:l0.length≤c0) (h:spec_StableRecords.f k l0=some r) :
  Calls Try.prog 43 #[.slice A0 l0.length c0] w fun e w'=>∃ v0_:Value,e = .returned (v0_)∧Kd.S k34 34 w' w.heap.size (fun _=>True) v0_ r∧Below w.heap.size w w':=by
 have hu27:=Try.underlying27;have hu34:=Try.underlying34;have HR0:=zzm hr0;have HC0:=zzm hc0;clear hr0 hc0;have HB:=zzm (Below.refl w.heap.size w);have H:(spec_StableRecords.l0 k l0 (([]:List (S34))) 0)=some r:=h;clear h;obtain ⟨y408,hy408⟩:∃ y_:List (S34),y_=(([]:List (S34))):=⟨_,rfl⟩;replace H:(spec_StableRecords.l0 k l0 y408 0)=some r:=by first|(rw [hy408];with_reducible exact H)|(have H2_:=(Option.bind_some _ _).symm.trans H;rw [hy408];with_reducible exact H2_)|(have H2_:=(Option.bind_some _ _).symm.trans H;with_reducible exact H2_)|with_reducible exact H|(rw [hy408];exact H)|exact H
 have Ny408:=zzm hy408;clear hy408;have H':=zzm H;clear H;go_enter Try.func43,Try.ntmps43;go_wp2_with (first|((with_reducible refine gate_dst (N:=6) rfl ?_);refine Kd.S_lit k34 _ 34 ?hg (N:=6) ?hd (xs:=([]:List (S34))) (inner:=[]) (ok:=fun _=>True) (okp:=fun _=>True) ?hr ?hp (fun _ hk=>hk) trivial (Below.refl _ _) (Nat.le_refl _) (by simp) ?_;(case hd=>rfl);(case hg=>rfl);(case hr=>first|(go_simp;done)|(go_simp;rfl));(case hp=>exact (Reps.none _ _));intro v409 w2 ho3 hb hg_ hnew_;clear hg_ hnew_;(first|rw [← Ny408.out] at ho3|(simp only [Int.reduceToNat] at ho3;rw [← Ny408.out] at ho3));have n0_:=zzm (Kd.S_lower ho3 (zzo zzh1));have n1_:=zzm (zzp zzh1 hb);clear HB;have HO410:=n0_;have HB:=n1_;clear n0_ n1_ hb ho3));go_loopg [3,4] k (fun kq v3 v4 w'=>∃ (x3_1:List (S34)) (x4_1:Int),v4 = .int .i64 x4_1∧Aside0 (spec_StableRecords.l0 kq l0 x3_1 x4_1=some r)∧Aside0 (kq≤k)∧Aside0 (Kd.S k34 34 w' w.heap.size (fun _=>True) v3 x3_1)∧Aside0 (Below w.heap.size w w'))
 case atStart=>exact ⟨(y408),(0),(by first|rfl|(simp;done)|(simp [*];done)),H',⟨Nat.le_refl _⟩,⟨by (with_reducible repeat (first|apply Kd.S_alloc|apply Kd.S_drewN|apply Kd.S_drew));exact HO410.out⟩,⟨zzh1⟩⟩
 case round=>
  clear H';try clear p2
  obtain ⟨x3_1,x4_1,rfl,HA,HK1,HO_3,HB⟩:=hrel;cases gk with
  | zero=>exact absurd HA.out (by simp [spec_StableRecords.l0])
  | succ k1=>
   have H:=HA.out;clear HA;simp only [spec_StableRecords.l0] at H;have HC4:=zzm H;clear H;go_upto_region 3 with (fail);go_cut [14] (fun v14 wc=>∃ (kq:Nat) (x14_3:Bool),v14 = .bool x14_3∧Aside0 (spec_StableRecords.j1 kq l0 x3_1 x4_1 x14_3=some r)∧Aside0 (kq≤k1)∧Aside0 (Kd.S k34 34 wc w.heap.size (fun _=>True) u3 x3_1)∧Aside0 (Below w.heap.size w wc))
   case first=>
    have H:=HC4.out;clear HC4;by_cases c5:x4_1 < (l0.length:Int)
    ·
     rw [if_pos c5] at H;have c5b0:decide (x4_1 < (l0.length:Int))=true:=decide_eq_true c5;clear c5
     (first|rw [c5b0]|(simp only [i64_w,i32_w];rw [c5b0])|skip);replace H:=Option.bind_eq_some_iff.mp H;obtain ⟨t411,A60,H⟩:=H;replace H:(spec_StableRecords.j1 k1 l0 x3_1 x4_1 t411)=some r:=H;have A6:=zzm A60;clear A60;have H':=zzm H;clear H;go_wp2_with (first|(go_at_call 44;(with_reducible refine (spec_LogValid.calls k1 _ _ l0 t411 _ ?side1 ?side2 A6.out).mono ?_);(case side1=>repeat (first|exact (Kd.C_below HR0.out HB.out)|(with_reducible refine Kd.C_alloc ?_ _)|(with_reducible refine Kd.C_drewN ?_ _)|(with_reducible refine Kd.C_drew ?_)));(case side2=>exact HC0.out);rintro e w7 ⟨rfl,hb⟩;have n0_:=zzm (Kd.S_below (zzS HO_3.out) hb);have n1_:=zzm (zzp zzh1 hb);clear HO_3 HB;have HO_3:=n0_;have HB:=n1_;clear n0_ n1_;(try clear hb);(try clear hb2);(try clear hk);(try clear hi)));go_meet
     case rel=>exact ⟨_,(t411),(by first|rfl|(simp;done)|(simp [*];done)),H',⟨by have:=HK1.out;first|omega|exact Nat.le_refl _⟩,⟨by (with_reducible repeat (first|apply Kd.S_alloc|apply Kd.S_drewN|apply Kd.S_drew));exact HO_3.out⟩,⟨zzh1⟩⟩
    ·
     rw [if_neg c5] at H;have c5b0:decide (x4_1 < (l0.length:Int))=false:=decide_eq_false c5;clear c5
     (first|rw [c5b0]|(simp only [i64_w,i32_w];rw [c5b0])|skip);have H':=zzm H;clear H;go_wp2;go_meet
     case rel=>exact ⟨_,(false),(by first|rfl|(simp;done)|(simp [*];done)),H',⟨by have:=HK1.out;first|omega|exact Nat.le_refl _⟩,⟨by (with_reducible repeat (first|apply Kd.S_alloc|apply Kd.S_drewN|apply Kd.S_drew));exact HO_3.out⟩,⟨zzh1⟩⟩
   case rest=>
    clear HC4;try clear p2
    try clear c4
    try clear c5
    try clear c5b0
    try clear p2
    obtain ⟨kq,x14_3,rfl,HA,HJ3,HO_3,HB⟩:=hcut;cases kq with
    | zero=>exact absurd HA.out (by simp [spec_StableRecords.j1])
    | succ kj3=>
     have H:=HA.out;clear HA;simp only [spec_StableRecords.j1] at H;by_cases c8:x14_3=true
     ·
      subst c8;have H1:(if 0≤x4_1 then (if x4_1 < (l0.length:Int) then (if (rd_T27 l0 x4_1).f1=true then (spec_StableRecords.j2 kj3 l0 x3_1 x4_1 true) else (if 0 < (((rd_T27 l0 x4_1).f5).length:Int) then ((spec_l22End.f kj3 l0).bind fun t415=>(spec_StableRecords.j2 kj3 l0 x3_1 x4_1 (decide (((rd_T34 ((rd_T27 l0 x4_1).f5) 0).f0) ≥ t415)))) else (none))) else (none)) else (none))=some r:=by rw [if_pos rfl] at H;exact H
      clear H;have H:=H1;clear H1;have HC9:=zzm H;clear H;go_upto_region 5 with (fail);go_cut [34] (fun v34 wc=>∃ (kq:Nat) (x34_8:Bool),v34 = .bool x34_8∧Aside0 (spec_StableRecords.j2 kq l0 x3_1 x4_1 x34_8=some r)∧Aside0 (kq≤kj3)∧Aside0 (Kd.S k34 34 wc w.heap.size (fun _=>True) u3 x3_1)∧Aside0 (Below w.heap.size w wc))
      case first=>
       have H:=HC9.out;clear HC9;by_cases c10 : 0≤x4_1
       ·
        rw [if_pos c10] at H;have c10b0:decide (0≤x4_1)=true:=decide_eq_true c10;clear c10
        (first|rw [c10b0]|(simp only [i64_w,i32_w];rw [c10b0])|skip);by_cases c11:x4_1 < (l0.length:Int)
        ·
         rw [if_pos c11] at H;have c11b0:decide (x4_1 < (l0.length:Int))=true:=decide_eq_true c11;clear c11;obtain ⟨bq12,hbq12⟩:∃ b_:Bool,b_=((rd_T27 l0 x4_1).f1):=⟨_,rfl⟩;replace H:(if bq12=true then (spec_StableRecords.j2 kj3 l0 x3_1 x4_1 true) else (if 0 < (((rd_T27 l0 x4_1).f5).length:Int) then ((spec_l22End.f kj3 l0).bind fun t415=>(spec_StableRecords.j2 kj3 l0 x3_1 x4_1 (decide (((rd_T34 ((rd_T27 l0 x4_1).f5) 0).f0) ≥ t415)))) else (none)))=some r:=by rw [← hbq12] at H;exact H
         have Nbq12:=zzm hbq12;clear hbq12;by_cases c13:bq12=true
         ·
          subst c13;have H1:(spec_StableRecords.j2 kj3 l0 x3_1 x4_1 true)=some r:=by rw [if_pos rfl] at H;exact H
          clear H;have H:=H1;clear H1;have H':=zzm H;clear H;try go_wp2
          have n0_:=zzm (Kd.S_drew HO_3.out);have n1_:=zzm (zzc HB.out);clear HO_3 HB;have HO_3:=n0_;have HB:=n1_;clear n0_ n1_;have p412 : 0≤(x4_1:Int):=zzt;have q412:x4_1 < (l0.length:Int):=zzt;obtain ⟨ad412,A412_5,c412_5,e412,hx412_0,hx412_1,hx412_2,hx412_3,hx412_4,hx412_5,hl412_5,hi412_5⟩:=at_T27 HR0.out x4_1 p412 q412;have hw412_5:=hx412_5;have hw412_4:=hx412_4;have hw412_3:=hx412_3;have hw412_2:=hx412_2;have hw412_1:=hx412_1;have hw412_0:=hx412_0
          (try rw [← Nbq12.out] at hx412_0)
          (try rw [← Nbq12.out] at hx412_1);cases e412;replace hx412_0:=zzx HB.out hx412_0;replace hx412_1:=zzx HB.out hx412_1;replace hx412_2:=zzx HB.out hx412_2;replace hx412_3:=zzx HB.out hx412_3;replace hx412_4:=zzx HB.out hx412_4;replace hx412_5:=zzx HB.out hx412_5;have HR412_5:=zzm hi412_5;have HC412_5:=zzm hl412_5;clear hi412_5 hl412_5;replace p412:=eq_true p412;replace q412:=eq_true q412;refine start_ (n:=18) (S:=fun w'=>w'.cell? (ad412.add ((x4_1).toNat * 6))=some (.bool ((rd_T27 l0 x4_1).f0))∧w'.cell? ⟨(ad412.add ((x4_1).toNat * 6)).block,(ad412.add ((x4_1).toNat * 6)).off+1,none⟩=some (.bool true)∧w'.cell? ⟨(ad412.add ((x4_1).toNat * 6)).block,(ad412.add ((x4_1).toNat * 6)).off+2,none⟩=some (.int .i64 ((rd_T27 l0 x4_1).f2))∧w'.cell? ⟨(ad412.add ((x4_1).toNat * 6)).block,(ad412.add ((x4_1).toNat * 6)).off+3,none⟩=some (.int .i64 ((rd_T27 l0 x4_1).f3))∧w'.cell? ⟨(ad412.add ((x4_1).toNat * 6)).block,(ad412.add ((x4_1).toNat * 6)).off+4,none⟩=some (.int .i64 ((rd_T27 l0 x4_1).f4))∧w'.cell? ⟨(ad412.add ((x4_1).toNat * 6)).block,(ad412.add ((x4_1).toNat * 6)).off+5,none⟩=some (.slice A412_5 ((rd_T27 l0 x4_1).f5).length c412_5)) (ds:=[]) (zzB 18 0) (by kernel_rfl) rfl rfl ⟨(zzx HB.out hw412_0),(by first|exact zzx HB.out hw412_1|exact hx412_1|(rw [Nbq12.out];exact zzx HB.out hw412_1)),(zzx HB.out hw412_2),(zzx HB.out hw412_3),(zzx HB.out hw412_4),(zzx HB.out hw412_5)⟩ (fun hHeld=>?_);refine with_tabW spec_StableRecords.tab5 spec_StableRecords.bits5 (fun HT_ HW_=>?_);generalize wc.drew=w14 at HO_3 HB HR412_5 hx412_0 hx412_1 hx412_2 hx412_3 hx412_4 hx412_5 hHeld ⊢;refine pure_ (i:=0) (N:=some 17) (v:=?_) (a':=?_) (zzB 18 1) rfl rfl (zzA2 HT_.out) (fun _ _ _ h=>h) (Or.inl ⟨by rfl,?_⟩) ?_ ?_;rotate_left
          ·
           intro w';go_simp;with_reducible rfl
          rotate_left
          ·
           simp only [Act.put,zzq,zzr,zzs,i64_w,i32_w];rfl
          refine pure_ (i:=1) (N:=some 18) (v:=?_) (a':=?_) (zzB 18 3) rfl rfl (zzA2 HT_.out) (fun _ _ _ h=>h) (Or.inl ⟨by rfl,?_⟩) ?_ ?_;rotate_left
          ·
           intro w';go_simp;with_reducible rfl
          rotate_left
          ·
           simp only [Act.put,zzq,zzr,zzs,i64_w,i32_w];rfl
          refine pure_ (i:=2) (N:=some 19) (v:=?_) (a':=?_) (zzB 18 7) rfl rfl (zzA2 HT_.out) (fun _ _ _ h=>h) (Or.inl ⟨by rfl,?_⟩) ?_ ?_;rotate_left
          ·
           intro w';go_simp;with_reducible rfl
          rotate_left
          ·
           simp only [Act.put,zzq,zzr,zzs,i64_w,i32_w];rfl
          refine pure_ (i:=3) (N:=some 20) (v:=?_) (a':=?_) (zzB 18 15) rfl rfl (zzA2 HT_.out) (fun _ _ _ h=>h) (Or.inl ⟨by rfl,?_⟩) ?_ ?_;rotate_left
          ·
           intro w';go_simp;with_reducible rfl
          rotate_left
          ·
           simp only [Act.put,zzq,zzr,zzs,i64_w,i32_w];rfl
          refine take_ (i:=4) (N:=some 21) (v:=?_) (a':=?_) (zzB 18 31) rfl rfl (take_ofW HT_.out HW_.out (by kernel_rfl)) (fun _ _ _ h=>h) (Or.inl ⟨by rfl,?_⟩) hHeld ?_ ?_;rotate_left
          ·
           rintro w' ⟨s0,s1,s2,s3,s4,s5⟩;go_simp;with_reducible rfl
          rotate_left
          ·
           simp only [Act.put,zzq,zzr,zzs,i64_w,i32_w];rfl
          refine pure_ (i:=5) (N:=some 22) (v:=?_) (a':=?_) (zzB 18 63) rfl rfl (zzA2 HT_.out) (fun _ _ _ h=>h) (Or.inl ⟨by rfl,?_⟩) ?_ ?_;rotate_left
          ·
           intro w';go_simp;with_reducible rfl
          rotate_left
          ·
           simp only [Act.put,zzq,zzr,zzs,i64_w,i32_w];rfl
          refine pure_ (i:=6) (N:=some 23) (v:=undef) (a':=?_) (zzB 18 127) rfl rfl (zzA2 HT_.out) (fun _ _ _ h=>h) (Or.inr ⟨by rfl,rfl⟩) ?_ ?_;rotate_left
          ·
           simp only [Act.put,zzq,zzr,zzs,i64_w,i32_w];rfl
          refine pure_ (i:=7) (N:=some 24) (v:=undef) (a':=?_) (zzB 18 255) rfl rfl (zzA2 HT_.out) (fun _ _ _ h=>h) (Or.inr ⟨by rfl,rfl⟩) ?_ ?_;rotate_left
          ·
           simp only [Act.put,zzq,zzr,zzs,i64_w,i32_w];rfl
          refine pure_ (i:=8) (N:=some 25) (v:=undef) (a':=?_) (zzB 18 511) rfl rfl (zzA2 HT_.out) (fun _ _ _ h=>h) (Or.inr ⟨by rfl,rfl⟩) ?_ ?_;rotate_left
          ·
           simp only [Act.put,zzq,zzr,zzs,i64_w,i32_w];rfl
          refine pure_ (i:=9) (N:=some 26) (v:=undef) (a':=?_) (zzB 18 1023) rfl rfl (zzA2 HT_.out) (fun _ _ _ h=>h) (Or.inr ⟨by rfl,rfl⟩) ?_ ?_;rotate_left
          ·
           simp only [Act.put,zzq,zzr,zzs,i64_w,i32_w];rfl
          refine pure_ (i:=10) (N:=some 27) (v:=undef) (a':=?_) (zzB 18 2047) rfl rfl (zzA2 HT_.out) (fun _ _ _ h=>h) (Or.inr ⟨by rfl,rfl⟩) ?_ ?_;rotate_left
          ·
           simp only [Act.put,zzq,zzr,zzs,i64_w,i32_w];rfl
          refine pure_ (i:=11) (N:=some 28) (v:=undef) (a':=?_) (zzB 18 4095) rfl rfl (zzA2 HT_.out) (fun _ _ _ h=>h) (Or.inr ⟨by rfl,rfl⟩) ?_ ?_;rotate_left
          ·
           simp only [Act.put,zzq,zzr,zzs,i64_w,i32_w];rfl
          refine pure_ (i:=12) (N:=some 29) (v:=undef) (a':=?_) (zzB 18 8191) rfl rfl (zzA2 HT_.out) (fun _ _ _ h=>h) (Or.inr ⟨by rfl,rfl⟩) ?_ ?_;rotate_left
          ·
           simp only [Act.put,zzq,zzr,zzs,i64_w,i32_w];rfl
          refine pure_ (i:=13) (N:=some 30) (v:=undef) (a':=?_) (zzB 18 16383) rfl rfl (zzA2 HT_.out) (fun _ _ _ h=>h) (Or.inr ⟨by rfl,rfl⟩) ?_ ?_;rotate_left
          ·
           simp only [Act.put,zzq,zzr,zzs,i64_w,i32_w];rfl
          refine pure_ (i:=14) (N:=some 31) (v:=undef) (a':=?_) (zzB 18 32767) rfl rfl (zzA2 HT_.out) (fun _ _ _ h=>h) (Or.inr ⟨by rfl,rfl⟩) ?_ ?_;rotate_left
          ·
           simp only [Act.put,zzq,zzr,zzs,i64_w,i32_w];rfl
          refine pure_ (i:=15) (N:=some 32) (v:=undef) (a':=?_) (zzB 18 65535) rfl rfl (zzA2 HT_.out) (fun _ _ _ h=>h) (Or.inr ⟨by rfl,rfl⟩) ?_ ?_;rotate_left
          ·
           simp only [Act.put,zzq,zzr,zzs,i64_w,i32_w];rfl
          refine pure_ (i:=16) (N:=some 33) (v:=undef) (a':=?_) (zzB 18 131071) rfl rfl (zzA2 HT_.out) (fun _ _ _ h=>h) (Or.inr ⟨by rfl,rfl⟩) ?_ ?_;rotate_left
          ·
           simp only [Act.put,zzq,zzr,zzs,i64_w,i32_w];rfl
          refine pure_ (i:=17) (N:=some 34) (v:=?_) (a':=?_) (zzB 18 262143) rfl rfl (zzA2 HT_.out) (fun _ _ _ h=>h) (Or.inl ⟨by rfl,?_⟩) ?_ ?_;rotate_left
          ·
           intro w';go_simp;with_reducible rfl
          rotate_left
          ·
           simp only [Act.put,zzq,zzr,zzs,i64_w,i32_w];rfl
          refine done_ (done_of HT_.out (by kernel_rfl)) ?_;try go_wp2
          go_meet
          case rel=>exact ⟨_,(true),(by first|rfl|(simp;done)|(simp [*];done)),H',⟨by have:=HK1.out;have:=HJ3.out;first|omega|exact Nat.le_refl _⟩,⟨by (with_reducible repeat (first|apply Kd.S_alloc|apply Kd.S_drewN|apply Kd.S_drew));exact HO_3.out⟩,⟨zzh1⟩⟩
         ·
          replace c13:=Bool.eq_false_iff.mpr c13;subst c13;have H1:(if 0 < (((rd_T27 l0 x4_1).f5).length:Int) then ((spec_l22End.f kj3 l0).bind fun t415=>(spec_StableRecords.j2 kj3 l0 x3_1 x4_1 (decide (((rd_T34 ((rd_T27 l0 x4_1).f5) 0).f0) ≥ t415)))) else (none))=some r:=by rw [if_neg (show ¬ (false=true) by decide)] at H;exact H
          clear H;have H:=H1;clear H1;by_cases c15 : 0 < (((rd_T27 l0 x4_1).f5).length:Int)
          ·
           rw [if_pos c15] at H;have c15b0:decide (0 < (((rd_T27 l0 x4_1).f5).length:Int))=true:=decide_eq_true c15;have c15b1:decide (0 < ((rd_T27 l0 x4_1).f5).length)=true:=decide_eq_true (by omega);clear c15;replace H:=Option.bind_eq_some_iff.mp H;obtain ⟨t415,A160,H⟩:=H;replace H:(spec_StableRecords.j2 kj3 l0 x3_1 x4_1 (decide (((rd_T34 ((rd_T27 l0 x4_1).f5) 0).f0) ≥ t415)))=some r:=H;have A16:=zzm A160;clear A160;have H':=zzm H;clear H;try go_wp2
           have n0_:=zzm (Kd.S_drew HO_3.out);have n1_:=zzm (zzc HB.out);clear HO_3 HB;have HO_3:=n0_;have HB:=n1_;clear n0_ n1_;have p412 : 0≤(x4_1:Int):=zzt;have q412:x4_1 < (l0.length:Int):=zzt;obtain ⟨ad412,A412_5,c412_5,e412,hx412_0,hx412_1,hx412_2,hx412_3,hx412_4,hx412_5,hl412_5,hi412_5⟩:=at_T27 HR0.out x4_1 p412 q412;have hw412_5:=hx412_5;have hw412_4:=hx412_4;have hw412_3:=hx412_3;have hw412_2:=hx412_2;have hw412_1:=hx412_1;have hw412_0:=hx412_0
           (try rw [← Nbq12.out] at hx412_0)
           (try rw [← Nbq12.out] at hx412_1);cases e412;replace hx412_0:=zzx HB.out hx412_0;replace hx412_1:=zzx HB.out hx412_1;replace hx412_2:=zzx HB.out hx412_2;replace hx412_3:=zzx HB.out hx412_3;replace hx412_4:=zzx HB.out hx412_4;replace hx412_5:=zzx HB.out hx412_5;have HR412_5:=zzm hi412_5;have HC412_5:=zzm hl412_5;clear hi412_5 hl412_5;replace p412:=eq_true p412;replace q412:=eq_true q412;have p413 : 0≤(x4_1:Int):=zzt;have q413:x4_1 < (l0.length:Int):=zzt;obtain ⟨ad413,A413_5,c413_5,e413,hx413_0,hx413_1,hx413_2,hx413_3,hx413_4,hx413_5,hl413_5,hi413_5⟩:=at_T27 HR0.out x4_1 p413 q413;have hw413_5:=hx413_5;have hw413_4:=hx413_4;have hw413_3:=hx413_3;have hw413_2:=hx413_2;have hw413_1:=hx413_1;have hw413_0:=hx413_0
           (try rw [← Nbq12.out] at hx413_0)
           (try rw [← Nbq12.out] at hx413_1);obtain rfl:ad412=ad413:=(by injection e413);replace hx413_0:=zzx HB.out hx413_0;replace hx413_1:=zzx HB.out hx413_1;replace hx413_2:=zzx HB.out hx413_2;replace hx413_3:=zzx HB.out hx413_3;replace hx413_4:=zzx HB.out hx413_4;replace hx413_5:=zzx HB.out hx413_5;have HR413_5:=zzm hi413_5;have HC413_5:=zzm hl413_5;clear hi413_5 hl413_5;replace p413:=eq_true p413;replace q413:=eq_true q413;have ea_:=Option.some.inj (hx412_5.symm.trans hx413_5);injection ea_ with ea_ en_ ec_;subst ea_;subst ec_;clear en_;have p414 : 0≤(0:Int):=(by omega);have q414 : 0 < (((rd_T27 l0 x4_1).f5).length:Int):=zzt;obtain ⟨ad414,A414_3,c414_3,A414_5,c414_5,e414,hx414_0,hx414_1,hx414_2,hx414_3,hx414_4,hx414_5,hl414_3,hi414_3,hl414_5,hi414_5⟩:=at_T34 HR413_5.out 0 p414 q414;have hw414_5:=hx414_5
           (try rw [show ((0:Int)).toNat=0 from rfl] at hw414_5)
           (try rw [show 0 * 6=0 from rfl] at hw414_5)
           (try rw [Addr.add_zero'] at hw414_5);have hw414_4:=hx414_4
           (try rw [show ((0:Int)).toNat=0 from rfl] at hw414_4)
           (try rw [show 0 * 6=0 from rfl] at hw414_4)
           (try rw [Addr.add_zero'] at hw414_4);have hw414_3:=hx414_3
           (try rw [show ((0:Int)).toNat=0 from rfl] at hw414_3)
           (try rw [show 0 * 6=0 from rfl] at hw414_3)
           (try rw [Addr.add_zero'] at hw414_3);have hw414_2:=hx414_2
           (try rw [show ((0:Int)).toNat=0 from rfl] at hw414_2)
           (try rw [show 0 * 6=0 from rfl] at hw414_2)
           (try rw [Addr.add_zero'] at hw414_2);have hw414_1:=hx414_1
           (try rw [show ((0:Int)).toNat=0 from rfl] at hw414_1)
           (try rw [show 0 * 6=0 from rfl] at hw414_1)
           (try rw [Addr.add_zero'] at hw414_1);have hw414_0:=hx414_0
           (try rw [show ((0:Int)).toNat=0 from rfl] at hw414_0)
           (try rw [show 0 * 6=0 from rfl] at hw414_0)
           (try rw [Addr.add_zero'] at hw414_0)
           (try rw [← Nbq12.out] at hx414_2)
           (try rw [← Nbq12.out] at hx414_4);cases e414;have qi414:(0 < ((rd_T27 l0 x4_1).f5).length)=True:=eq_true (by omega)
           (try rw [show ((0:Int)).toNat=0 from rfl] at hx414_0)
           (try rw [show 0 * 6=0 from rfl] at hx414_0)
           (try rw [Addr.add_zero'] at hx414_0)
           (try rw [show ((0:Int)).toNat=0 from rfl] at hx414_1)
           (try rw [show 0 * 6=0 from rfl] at hx414_1)
           (try rw [Addr.add_zero'] at hx414_1)
           (try rw [show ((0:Int)).toNat=0 from rfl] at hx414_2)
           (try rw [show 0 * 6=0 from rfl] at hx414_2)
           (try rw [Addr.add_zero'] at hx414_2)
           (try rw [show ((0:Int)).toNat=0 from rfl] at hx414_3)
           (try rw [show 0 * 6=0 from rfl] at hx414_3)
           (try rw [Addr.add_zero'] at hx414_3)
           (try rw [show ((0:Int)).toNat=0 from rfl] at hx414_4)
           (try rw [show 0 * 6=0 from rfl] at hx414_4)
           (try rw [Addr.add_zero'] at hx414_4)
           (try rw [show ((0:Int)).toNat=0 from rfl] at hx414_5)
           (try rw [show 0 * 6=0 from rfl] at hx414_5)
           (try rw [Addr.add_zero'] at hx414_5);replace hx414_0:=zzx HB.out hx414_0;replace hx414_1:=zzx HB.out hx414_1;replace hx414_2:=zzx HB.out hx414_2;replace hx414_3:=zzx HB.out hx414_3;replace hx414_4:=zzx HB.out hx414_4;replace hx414_5:=zzx HB.out hx414_5;have HR414_3:=zzm hi414_3;have HC414_3:=zzm hl414_3;clear hi414_3 hl414_3;have HR414_5:=zzm hi414_5;have HC414_5:=zzm hl414_5;clear hi414_5 hl414_5;replace p414:=eq_true p414;replace q414:=eq_true q414;refine start_ (n:=18) (S:=fun w'=>w'.cell? (ad412.add ((x4_1).toNat * 6))=some (.bool ((rd_T27 l0 x4_1).f0))∧w'.cell? ⟨(ad412.add ((x4_1).toNat * 6)).block,(ad412.add ((x4_1).toNat * 6)).off+1,none⟩=some (.bool false)∧w'.cell? ⟨(ad412.add ((x4_1).toNat * 6)).block,(ad412.add ((x4_1).toNat * 6)).off+2,none⟩=some (.int .i64 ((rd_T27 l0 x4_1).f2))∧w'.cell? ⟨(ad412.add ((x4_1).toNat * 6)).block,(ad412.add ((x4_1).toNat * 6)).off+3,none⟩=some (.int .i64 ((rd_T27 l0 x4_1).f3))∧w'.cell? ⟨(ad412.add ((x4_1).toNat * 6)).block,(ad412.add ((x4_1).toNat * 6)).off+4,none⟩=some (.int .i64 ((rd_T27 l0 x4_1).f4))∧w'.cell? ⟨(ad412.add ((x4_1).toNat * 6)).block,(ad412.add ((x4_1).toNat * 6)).off+5,none⟩=some (.slice (some ad414) ((rd_T27 l0 x4_1).f5).length c412_5)∧w'.cell? (ad412.add ((x4_1).toNat * 6))=some (.bool ((rd_T27 l0 x4_1).f0))∧w'.cell? ⟨(ad412.add ((x4_1).toNat * 6)).block,(ad412.add ((x4_1).toNat * 6)).off+1,none⟩=some (.bool (false))∧w'.cell? ⟨(ad412.add ((x4_1).toNat * 6)).block,(ad412.add ((x4_1).toNat * 6)).off+2,none⟩=some (.int .i64 ((rd_T27 l0 x4_1).f2))∧w'.cell? ⟨(ad412.add ((x4_1).toNat * 6)).block,(ad412.add ((x4_1).toNat * 6)).off+3,none⟩=some (.int .i64 ((rd_T27 l0 x4_1).f3))∧w'.cell? ⟨(ad412.add ((x4_1).toNat * 6)).block,(ad412.add ((x4_1).toNat * 6)).off+4,none⟩=some (.int .i64 ((rd_T27 l0 x4_1).f4))∧w'.cell? ⟨(ad412.add ((x4_1).toNat * 6)).block,(ad412.add ((x4_1).toNat * 6)).off+5,none⟩=some (.slice (some ad414) ((rd_T27 l0 x4_1).f5).length c412_5)∧w'.cell? ad414=some (.int .i64 ((rd_T34 ((rd_T27 l0 x4_1).f5) 0).f0))∧w'.cell? ⟨ad414.block,ad414.off+1,none⟩=some (.int .i64 ((rd_T34 ((rd_T27 l0 x4_1).f5) 0).f1))∧w'.cell? ⟨ad414.block,ad414.off+2,none⟩=some (.bool ((rd_T34 ((rd_T27 l0 x4_1).f5) 0).f2))∧w'.cell? ⟨ad414.block,ad414.off+3,none⟩=some (.slice A414_3 ((rd_T34 ((rd_T27 l0 x4_1).f5) 0).f3).length c414_3)∧w'.cell? ⟨ad414.block,ad414.off+4,none⟩=some (.bool ((rd_T34 ((rd_T27 l0 x4_1).f5) 0).f4))∧w'.cell? ⟨ad414.block,ad414.off+5,none⟩=some (.slice A414_5 ((rd_T34 ((rd_T27 l0 x4_1).f5) 0).f5).length c414_5)) (ds:=[]) (zzB 18 0) (by kernel_rfl) rfl rfl ⟨(zzx HB.out hw412_0),(by first|exact zzx HB.out hw412_1|exact hx412_1|(rw [Nbq12.out];exact zzx HB.out hw412_1)),(zzx HB.out hw412_2),(zzx HB.out hw412_3),(zzx HB.out hw412_4),(zzx HB.out hw412_5),(zzx HB.out hw413_0),(by first|exact zzx HB.out hw413_1|exact hx413_1|(rw [Nbq12.out];exact zzx HB.out hw413_1)),(zzx HB.out hw413_2),(zzx HB.out hw413_3),(zzx HB.out hw413_4),(zzx HB.out hw413_5),(zzx HB.out hw414_0),(by first|exact zzx HB.out hw414_1|exact hx414_1),(zzx HB.out hw414_2),(zzx HB.out hw414_3),(zzx HB.out hw414_4),(zzx HB.out hw414_5)⟩ (fun hHeld=>?_);refine with_tabW spec_StableRecords.tab5 spec_StableRecords.bits5 (fun HT_ HW_=>?_);generalize wc.drew=w17 at HO_3 HB HR412_5 HR413_5 HR414_3 HR414_5 hx412_0 hx412_1 hx412_2 hx412_3 hx412_4 hx412_5 hx413_0 hx413_1 hx413_2 hx413_3 hx413_4 hx413_5 hx414_0 hx414_1 hx414_2 hx414_3 hx414_4 hx414_5 hHeld ⊢;refine pure_ (i:=0) (N:=some 17) (v:=?_) (a':=?_) (zzB 18 1) rfl rfl (zzA2 HT_.out) (fun _ _ _ h=>h) (Or.inl ⟨by rfl,?_⟩) ?_ ?_;rotate_left
           ·
            intro w';go_simp;with_reducible rfl
           rotate_left
           ·
            simp only [Act.put,zzq,zzr,zzs,i64_w,i32_w];rfl
           refine pure_ (i:=1) (N:=some 18) (v:=?_) (a':=?_) (zzB 18 3) rfl rfl (zzA2 HT_.out) (fun _ _ _ h=>h) (Or.inl ⟨by rfl,?_⟩) ?_ ?_;rotate_left
           ·
            intro w';go_simp;with_reducible rfl
           rotate_left
           ·
            simp only [Act.put,zzq,zzr,zzs,i64_w,i32_w];rfl
           refine pure_ (i:=2) (N:=some 19) (v:=?_) (a':=?_) (zzB 18 7) rfl rfl (zzA2 HT_.out) (fun _ _ _ h=>h) (Or.inl ⟨by rfl,?_⟩) ?_ ?_;rotate_left
           ·
            intro w';go_simp;with_reducible rfl
           rotate_left
           ·
            simp only [Act.put,zzq,zzr,zzs,i64_w,i32_w];rfl
           refine pure_ (i:=3) (N:=some 20) (v:=?_) (a':=?_) (zzB 18 15) rfl rfl (zzA2 HT_.out) (fun _ _ _ h=>h) (Or.inl ⟨by rfl,?_⟩) ?_ ?_;rotate_left
           ·
            intro w';go_simp;with_reducible rfl
           rotate_left
           ·
            simp only [Act.put,zzq,zzr,zzs,i64_w,i32_w];rfl
           refine take_ (i:=4) (N:=some 21) (v:=?_) (a':=?_) (zzB 18 31) rfl rfl (take_ofW HT_.out HW_.out (by kernel_rfl)) (fun _ _ _ h=>h) (Or.inl ⟨by rfl,?_⟩) hHeld ?_ ?_;rotate_left
           ·
            rintro w' ⟨s0,s1,s2,s3,s4,s5,s6,s7,s8,s9,s10,s11,s12,s13,s14,s15,s16,s17⟩;go_simp;with_reducible rfl
           rotate_left
           ·
            simp only [Act.put,zzq,zzr,zzs,i64_w,i32_w];rfl
           refine pure_ (i:=5) (N:=some 22) (v:=?_) (a':=?_) (zzB 18 63) rfl rfl (zzA2 HT_.out) (fun _ _ _ h=>h) (Or.inl ⟨by rfl,?_⟩) ?_ ?_;rotate_left
           ·
            intro w';go_simp;with_reducible rfl
           rotate_left
           ·
            simp only [Act.put,zzq,zzr,zzs,i64_w,i32_w];rfl
           refine pure_ (i:=6) (N:=some 23) (v:=?_) (a':=?_) (zzB 18 127) rfl rfl (zzA2 HT_.out) (fun _ _ _ h=>h) (Or.inl ⟨by rfl,?_⟩) ?_ ?_;rotate_left
           ·
            intro w';go_simp;with_reducible rfl
           rotate_left
           ·
            simp only [Act.put,zzq,zzr,zzs,i64_w,i32_w];rfl
           refine pure_ (i:=7) (N:=some 24) (v:=?_) (a':=?_) (zzB 18 255) rfl rfl (zzA2 HT_.out) (fun _ _ _ h=>h) (Or.inl ⟨by rfl,?_⟩) ?_ ?_;rotate_left
           ·
            intro w';go_simp;with_reducible rfl
           rotate_left
           ·
            simp only [Act.put,zzq,zzr,zzs,i64_w,i32_w];rfl
           refine pure_ (i:=8) (N:=some 25) (v:=?_) (a':=?_) (zzB 18 511) rfl rfl (zzA2 HT_.out) (fun _ _ _ h=>h) (Or.inl ⟨by rfl,?_⟩) ?_ ?_;rotate_left
           ·
            intro w';go_simp;with_reducible rfl
           rotate_left
           ·
            simp only [Act.put,zzq,zzr,zzs,i64_w,i32_w];rfl
           refine pure_ (i:=9) (N:=some 26) (v:=?_) (a':=?_) (zzB 18 1023) rfl rfl (zzA2 HT_.out) (fun _ _ _ h=>h) (Or.inl ⟨by rfl,?_⟩) ?_ ?_;rotate_left
           ·
            intro w';go_simp;with_reducible rfl
           rotate_left
           ·
            simp only [Act.put,zzq,zzr,zzs,i64_w,i32_w];rfl
           refine pure_ (i:=14) (N:=some 31) (v:=?_) (a':=?_) (zzB 18 17407) rfl rfl (zzA2 HT_.out) (fun _ _ _ h=>h) (Or.inl ⟨by rfl,?_⟩) ?_ ?_;rotate_left
           ·
            intro w';go_simp;with_reducible rfl
           rotate_left
           ·
            simp only [Act.put,zzq,zzr,zzs,i64_w,i32_w];rfl
           refine take_ (i:=10) (N:=some 27) (v:=?_) (a':=?_) (zzB 18 18431) rfl rfl (take_ofW HT_.out HW_.out (by kernel_rfl)) (fun _ _ _ h=>h) (Or.inl ⟨by rfl,?_⟩) hHeld ?_ ?_;rotate_left
           ·
            rintro w' ⟨s0,s1,s2,s3,s4,s5,s6,s7,s8,s9,s10,s11,s12,s13,s14,s15,s16,s17⟩;go_simp;with_reducible rfl
           rotate_left
           ·
            simp only [Act.put,zzq,zzr,zzs,i64_w,i32_w];rfl
           refine pure_ (i:=11) (N:=some 28) (v:=?_) (a':=?_) (zzB 18 20479) rfl rfl (zzA2 HT_.out) (fun _ _ _ h=>h) (Or.inl ⟨by rfl,?_⟩) ?_ ?_;rotate_left
           ·
            intro w';go_simp;with_reducible rfl
           rotate_left
           ·
            simp only [Act.put,zzq,zzr,zzs,i64_w,i32_w];rfl
           refine pure_ (i:=12) (N:=some 29) (v:=?_) (a':=?_) (zzB 18 24575) rfl rfl (zzA2 HT_.out) (fun _ _ _ h=>h) (Or.inl ⟨by rfl,?_⟩) ?_ ?_;rotate_left
           ·
            intro w';go_simp;with_reducible rfl
           rotate_left
           ·
            simp only [Act.put,zzq,zzr,zzs,i64_w,i32_w];rfl
           refine take_ (i:=13) (N:=some 30) (v:=?_) (a':=?_) (zzB 18 32767) rfl rfl (take_ofW HT_.out HW_.out (by kernel_rfl)) (fun _ _ _ h=>h) (Or.inl ⟨by rfl,?_⟩) hHeld ?_ ?_;rotate_left
           ·
            rintro w' ⟨s0,s1,s2,s3,s4,s5,s6,s7,s8,s9,s10,s11,s12,s13,s14,s15,s16,s17⟩;go_simp;with_reducible rfl
           rotate_left
           ·
            simp only [Act.put,zzq,zzr,zzs,i64_w,i32_w];rfl
           refine one_ (i:=15) (N:=some 32) (zzB 18 65535) rfl rfl (one_of HT_.out (by kernel_rfl)) (by decide) (fun K hK=>?_);refine goes_ Try.func64 (by kernel_rfl) rfl #[.slice (some ad412) l0.length c0] (by rfl) rfl rfl zzM2 ?_;with_reducible refine (spec_l22End.calls kj3 _ _ l0 t415 _ ?side1 ?side2 A16.out).mono ?_
           (case side1=>repeat (first|exact (Kd.C_below HR0.out HB.out)|(with_reducible refine Kd.C_alloc ?_ _)|(with_reducible refine Kd.C_drewN ?_ _)|(with_reducible refine Kd.C_drew ?_)))
           (case side2=>exact HC0.out);rintro e w18 ⟨rfl,hb⟩;refine ⟨_,rfl,?_⟩;have n0_:=zzm (Kd.S_below (zzS HO_3.out) hb);have n1_:=zzm (zzp zzh1 hb);clear HO_3 HB;have HO_3:=n0_;have HB:=n1_;clear n0_ n1_
           (try clear hb)
           (try clear hb2)
           (try clear hk)
           (try clear hi);refine hK.out _ _ ⟨(zzx HB.out hw412_0),(by first|exact zzx HB.out hw412_1|exact hx412_1|(rw [Nbq12.out];exact zzx HB.out hw412_1)),(zzx HB.out hw412_2),(zzx HB.out hw412_3),(zzx HB.out hw412_4),(zzx HB.out hw412_5),(zzx HB.out hw413_0),(by first|exact zzx HB.out hw413_1|exact hx413_1|(rw [Nbq12.out];exact zzx HB.out hw413_1)),(zzx HB.out hw413_2),(zzx HB.out hw413_3),(zzx HB.out hw413_4),(zzx HB.out hw413_5),(zzx HB.out hw414_0),(by first|exact zzx HB.out hw414_1|exact hx414_1),(zzx HB.out hw414_2),(zzx HB.out hw414_3),(zzx HB.out hw414_4),(zzx HB.out hw414_5)⟩ (fun hHeld=>?_);clear hK K;refine norm_ (a':=?_) ?_ ?_;rotate_left
           ·
            show Act.put _ (some 32) _ = _;simp only [Act.put,zzq,zzr,zzs,i64_w,i32_w];rfl
           refine pure_ (i:=16) (N:=some 33) (v:=?_) (a':=?_) (zzB 18 131071) rfl rfl (zzA2 HT_.out) (fun _ _ _ h=>h) (Or.inl ⟨by rfl,?_⟩) ?_ ?_;rotate_left
           ·
            intro w';go_simp;with_reducible rfl
           rotate_left
           ·
            simp only [Act.put,zzq,zzr,zzs,i64_w,i32_w];rfl
           refine pure_ (i:=17) (N:=some 34) (v:=?_) (a':=?_) (zzB 18 262143) rfl rfl (zzA2 HT_.out) (fun _ _ _ h=>h) (Or.inl ⟨by rfl,?_⟩) ?_ ?_;rotate_left
           ·
            intro w';go_simp;with_reducible rfl
           rotate_left
           ·
            simp only [Act.put,zzq,zzr,zzs,i64_w,i32_w];rfl
           refine done_ (done_of HT_.out (by kernel_rfl)) ?_;try go_wp2
           go_meet
           case rel=>exact ⟨_,(decide (((rd_T34 ((rd_T27 l0 x4_1).f5) 0).f0) ≥ t415)),(by first|rfl|(simp;done)|(simp [*];done)),H',⟨by have:=HK1.out;have:=HJ3.out;first|omega|exact Nat.le_refl _⟩,⟨by (with_reducible repeat (first|apply Kd.S_alloc|apply Kd.S_drewN|apply Kd.S_drew));exact HO_3.out⟩,⟨zzh1⟩⟩
          ·
           rw [if_neg c15] at H;exact absurd H (by simp)
        ·
         rw [if_neg c11] at H;exact absurd H (by simp)
       ·
        rw [if_neg c10] at H;exact absurd H (by simp)
      case rest=>
       clear HC9;try clear c1
       try clear q1
       try clear p2
       try clear c4
       try clear p4
       try clear q4
       try clear hx4
       try clear qi4
       try clear c5
       try clear c5b0
       try clear c6
       try clear c8
       try clear c10
       try clear c10b0
       try clear c11
       try clear c11b0
       try clear q12
       try clear c13
       try clear c15
       try clear c15b0
       try clear c15b1
       try clear hx412_0
       try clear hx412_1
       try clear hx412_2
       try clear hx412_3
       try clear hx412_4
       try clear hx412_5
       try clear hx413_0
       try clear hx413_1
       try clear hx413_2
       try clear hx413_3
       try clear hx413_4
       try clear hx413_5
       try clear hx414_0
       try clear hx414_1
       try clear hx414_2
       try clear hx414_3
       try clear hx414_4
       try clear hx414_5
       try clear p2
       try clear p412
       try clear p413
       try clear p414
       try clear q412
       try clear q413
       try clear q414
       obtain ⟨kq,x34_8,rfl,HA,HJ8,HO_3,HB⟩:=hcut;cases kq with
       | zero=>exact absurd HA.out (by simp [spec_StableRecords.j2])
       | succ kj8=>
        have H:=HA.out;clear HA;simp only [spec_StableRecords.j2] at H;by_cases c19:x34_8=true
        ·
         subst c19;have H1:(spec_StableRecords.l0 kj8 l0 x3_1 (wrap64 (x4_1+1)))=some r:=by rw [if_pos rfl] at H;exact H
         clear H;have H:=H1;clear H1;have H':=zzm H;clear H;go_wp2;go_roundg kj8
         case measure=>have:=HK1.out;have:=HJ3.out;have:=HJ8.out;omega
         case rel=>exact ⟨(x3_1),(wrap64 (x4_1+1)),(by first|rfl|(simp;done)|(simp [*];done)),H',⟨by have:=HK1.out;have:=HJ3.out;have:=HJ8.out;omega⟩,⟨by (with_reducible repeat (first|apply Kd.S_alloc|apply Kd.S_drewN|apply Kd.S_drew));exact HO_3.out⟩,⟨zzh1⟩⟩
        ·
         replace c19:=Bool.eq_false_iff.mpr c19;subst c19;have H1:(if 0≤x4_1 then (if x4_1 < (l0.length:Int) then ((spec_l22Ours.f ((rd_T27 l0 x4_1).f0) ((rd_T27 l0 x4_1).f1) ((rd_T27 l0 x4_1).f2) ((rd_T27 l0 x4_1).f3) ((rd_T27 l0 x4_1).f4) ((rd_T27 l0 x4_1).f5)).bind fun t417=>(if t417=true then ((spec_l22Mark.f kj8 l0 x4_1).bind fun t418=>(if 0≤t418 then (if t418 < (l0.length:Int) then ((spec_l22Fine.f ((rd_T27 l0 t418).f0) ((rd_T27 l0 t418).f1) ((rd_T27 l0 t418).f2) ((rd_T27 l0 t418).f3) ((rd_T27 l0 t418).f4) ((rd_T27 l0 t418).f5)).bind fun t420=>(spec_StableRecords.j3 kj8 l0 x3_1 x4_1 (!t420))) else (none)) else (none))) else (spec_StableRecords.j3 kj8 l0 x3_1 x4_1 false))) else (none)) else (none))=some r:=by rw [if_neg (show ¬ (false=true) by decide)] at H;exact H
         clear H;have H:=H1;clear H1;have HC20:=zzm H;clear H;go_upto_region 6 with (fail);go_cut [49] (fun v49 wc=>∃ (kq:Nat) (x49_19:Bool),v49 = .bool x49_19∧Aside0 (spec_StableRecords.j3 kq l0 x3_1 x4_1 x49_19=some r)∧Aside0 (kq≤kj8)∧Aside0 (Kd.S k34 34 wc w.heap.size (fun _=>True) u3 x3_1)∧Aside0 (Below w.heap.size w wc))
         case first=>
          have H:=HC20.out;clear HC20;by_cases c21 : 0≤x4_1
          ·
           rw [if_pos c21] at H;have c21b0:decide (0≤x4_1)=true:=decide_eq_true c21;clear c21
           (first|rw [c21b0]|(simp only [i64_w,i32_w];rw [c21b0])|skip);by_cases c22:x4_1 < (l0.length:Int)
           ·
            rw [if_pos c22] at H;have c22b0:decide (x4_1 < (l0.length:Int))=true:=decide_eq_true c22;clear c22;replace H:=Option.bind_eq_some_iff.mp H;obtain ⟨t417,A230,H⟩:=H;replace H:(if t417=true then ((spec_l22Mark.f kj8 l0 x4_1).bind fun t418=>(if 0≤t418 then (if t418 < (l0.length:Int) then ((spec_l22Fine.f ((rd_T27 l0 t418).f0) ((rd_T27 l0 t418).f1) ((rd_T27 l0 t418).f2) ((rd_T27 l0 t418).f3) ((rd_T27 l0 t418).f4) ((rd_T27 l0 t418).f5)).bind fun t420=>(spec_StableRecords.j3 kj8 l0 x3_1 x4_1 (!t420))) else (none)) else (none))) else (spec_StableRecords.j3 kj8 l0 x3_1 x4_1 false))=some r:=H;have A23:=zzm A230;clear A230;by_cases c24:t417=true
            ·
             subst c24;have H1:((spec_l22Mark.f kj8 l0 x4_1).bind fun t418=>(if 0≤t418 then (if t418 < (l0.length:Int) then ((spec_l22Fine.f ((rd_T27 l0 t418).f0) ((rd_T27 l0 t418).f1) ((rd_T27 l0 t418).f2) ((rd_T27 l0 t418).f3) ((rd_T27 l0 t418).f4) ((rd_T27 l0 t418).f5)).bind fun t420=>(spec_StableRecords.j3 kj8 l0 x3_1 x4_1 (!t420))) else (none)) else (none)))=some r:=by rw [if_pos rfl] at H;exact H
             clear H;have H:=H1;clear H1;replace H:=Option.bind_eq_some_iff.mp H;obtain ⟨t418,A250,H⟩:=H;replace H:(if 0≤t418 then (if t418 < (l0.length:Int) then ((spec_l22Fine.f ((rd_T27 l0 t418).f0) ((rd_T27 l0 t418).f1) ((rd_T27 l0 t418).f2) ((rd_T27 l0 t418).f3) ((rd_T27 l0 t418).f4) ((rd_T27 l0 t418).f5)).bind fun t420=>(spec_StableRecords.j3 kj8 l0 x3_1 x4_1 (!t420))) else (none)) else (none))=some r:=H;have A25:=zzm A250;clear A250;by_cases c26 : 0≤t418
             ·
              rw [if_pos c26] at H;have c26b0:decide (0≤t418)=true:=decide_eq_true c26;clear c26;by_cases c27:t418 < (l0.length:Int)
              ·
               rw [if_pos c27] at H;have c27b0:decide (t418 < (l0.length:Int))=true:=decide_eq_true c27;clear c27;replace H:=Option.bind_eq_some_iff.mp H;obtain ⟨t420,A280,H⟩:=H;replace H:(spec_StableRecords.j3 kj8 l0 x3_1 x4_1 (!t420))=some r:=H;have A28:=zzm A280;clear A280;have H':=zzm H;clear H;have p416 : 0≤(x4_1:Int):=zzt;have q416:x4_1 < (l0.length:Int):=zzt;obtain ⟨ad416,A416_5,c416_5,e416,hx416_0,hx416_1,hx416_2,hx416_3,hx416_4,hx416_5,hl416_5,hi416_5⟩:=at_T27 HR0.out x4_1 p416 q416;cases e416;replace hx416_0:=zzx HB.out hx416_0;replace hx416_1:=zzx HB.out hx416_1;replace hx416_2:=zzx HB.out hx416_2;replace hx416_3:=zzx HB.out hx416_3;replace hx416_4:=zzx HB.out hx416_4;replace hx416_5:=zzx HB.out hx416_5;have HR416_5:=zzm hi416_5;have HC416_5:=zzm hl416_5;clear hi416_5 hl416_5;replace p416:=eq_true p416;replace q416:=eq_true q416;go_wp2_with (first|((with_reducible refine gate_callee (f:=66) rfl ?_);refine goesL_ (some 39) rfl rfl Try.func66 (by kernel_rfl) rfl #[.agg #[.bool ((rd_T27 l0 x4_1).f0),.bool ((rd_T27 l0 x4_1).f1),.int .i64 ((rd_T27 l0 x4_1).f2),.int .i64 ((rd_T27 l0 x4_1).f3),.int .i64 ((rd_T27 l0 x4_1).f4),.slice A416_5 ((rd_T27 l0 x4_1).f5).length c416_5]] rfl zzM2 ?_;(with_reducible refine (spec_l22Ours.calls ((rd_T27 l0 x4_1).f0) ((rd_T27 l0 x4_1).f1) ((rd_T27 l0 x4_1).f2) ((rd_T27 l0 x4_1).f3) ((rd_T27 l0 x4_1).f4) _ _ ((rd_T27 l0 x4_1).f5) true _ ?side1 ?side2 A23.out).mono ?_);(case side1=>repeat (first|exact (Kd.C_below HR416_5.out HB.out)|(with_reducible refine Kd.C_alloc ?_ _)|(with_reducible refine Kd.C_drewN ?_ _)|(with_reducible refine Kd.C_drew ?_)));(case side2=>exact HC416_5.out);rintro e w29 ⟨rfl,hb⟩;refine ⟨_,rfl,?_⟩;have n0_:=zzm (Kd.S_below (zzS HO_3.out) hb);have n1_:=zzm (zzp zzh1 hb);clear HO_3 HB;have HO_3:=n0_;have HB:=n1_;clear n0_ n1_;(try clear hb);(try clear hb2);(try clear hk);(try clear hi))|(go_at_call 68;(with_reducible refine (spec_l22Mark.calls kj8 _ _ l0 x4_1 t418 _ ?side1 ?side2 A25.out).mono ?_);(case side1=>repeat (first|exact (Kd.C_below HR0.out HB.out)|(with_reducible refine Kd.C_alloc ?_ _)|(with_reducible refine Kd.C_drewN ?_ _)|(with_reducible refine Kd.C_drew ?_)));(case side2=>exact HC0.out);rintro e w' ⟨rfl,⟨nd,rfl⟩⟩;have p419 : 0≤(t418:Int):=zzt;have q419:t418 < (l0.length:Int):=zzt;obtain ⟨ad419,A419_5,c419_5,e419,hx419_0,hx419_1,hx419_2,hx419_3,hx419_4,hx419_5,hl419_5,hi419_5⟩:=at_T27 HR0.out t418 p419 q419;obtain rfl:ad416=ad419:=(by injection e419);replace hx419_0:=zzx HB.out hx419_0;replace hx419_1:=zzx HB.out hx419_1;replace hx419_2:=zzx HB.out hx419_2;replace hx419_3:=zzx HB.out hx419_3;replace hx419_4:=zzx HB.out hx419_4;replace hx419_5:=zzx HB.out hx419_5;have HR419_5:=zzm hi419_5;have HC419_5:=zzm hl419_5;clear hi419_5 hl419_5;replace p419:=eq_true p419;replace q419:=eq_true q419)|(go_at_call 69;(with_reducible refine (spec_l22Fine.calls ((rd_T27 l0 t418).f0) ((rd_T27 l0 t418).f1) ((rd_T27 l0 t418).f2) ((rd_T27 l0 t418).f3) ((rd_T27 l0 t418).f4) _ _ ((rd_T27 l0 t418).f5) t420 _ ?side1 ?side2 A28.out).mono ?_);(case side1=>repeat (first|exact (Kd.C_below HR419_5.out zzh1)|(with_reducible refine Kd.C_alloc ?_ _)|(with_reducible refine Kd.C_drewN ?_ _)|(with_reducible refine Kd.C_drew ?_)));(case side2=>exact HC419_5.out);rintro e w30 ⟨rfl,hb⟩;have n0_:=zzm (Kd.S_below (zzS HO_3.out) hb);have n1_:=zzm (zzp zzh1 hb);clear HO_3 HB;have HO_3:=n0_;have HB:=n1_;clear n0_ n1_;(try clear hb);(try clear hb2);(try clear hk);(try clear hi)));go_meet
               case rel=>exact ⟨_,(!t420),(by first|rfl|(simp;done)|(simp [*];done)),H',⟨by have:=HK1.out;have:=HJ3.out;have:=HJ8.out;first|omega|exact Nat.le_refl _⟩,⟨by (with_reducible repeat (first|apply Kd.S_alloc|apply Kd.S_drewN|apply Kd.S_drew));exact HO_3.out⟩,⟨zzh1⟩⟩
              ·
               rw [if_neg c27] at H;exact absurd H (by simp)
             ·
              rw [if_neg c26] at H;exact absurd H (by simp)
            ·
             replace c24:=Bool.eq_false_iff.mpr c24;subst c24;have H1:(spec_StableRecords.j3 kj8 l0 x3_1 x4_1 false)=some r:=by rw [if_neg (show ¬ (false=true) by decide)] at H;exact H
             clear H;have H:=H1;clear H1;have H':=zzm H;clear H;have p416 : 0≤(x4_1:Int):=zzt;have q416:x4_1 < (l0.length:Int):=zzt;obtain ⟨ad416,A416_5,c416_5,e416,hx416_0,hx416_1,hx416_2,hx416_3,hx416_4,hx416_5,hl416_5,hi416_5⟩:=at_T27 HR0.out x4_1 p416 q416;cases e416;replace hx416_0:=zzx HB.out hx416_0;replace hx416_1:=zzx HB.out hx416_1;replace hx416_2:=zzx HB.out hx416_2;replace hx416_3:=zzx HB.out hx416_3;replace hx416_4:=zzx HB.out hx416_4;replace hx416_5:=zzx HB.out hx416_5;have HR416_5:=zzm hi416_5;have HC416_5:=zzm hl416_5;clear hi416_5 hl416_5;replace p416:=eq_true p416;replace q416:=eq_true q416;go_wp2_with (first|((with_reducible refine gate_callee (f:=66) rfl ?_);refine goesL_ (some 39) rfl rfl Try.func66 (by kernel_rfl) rfl #[.agg #[.bool ((rd_T27 l0 x4_1).f0),.bool ((rd_T27 l0 x4_1).f1),.int .i64 ((rd_T27 l0 x4_1).f2),.int .i64 ((rd_T27 l0 x4_1).f3),.int .i64 ((rd_T27 l0 x4_1).f4),.slice A416_5 ((rd_T27 l0 x4_1).f5).length c416_5]] rfl zzM2 ?_;(with_reducible refine (spec_l22Ours.calls ((rd_T27 l0 x4_1).f0) ((rd_T27 l0 x4_1).f1) ((rd_T27 l0 x4_1).f2) ((rd_T27 l0 x4_1).f3) ((rd_T27 l0 x4_1).f4) _ _ ((rd_T27 l0 x4_1).f5) false _ ?side1 ?side2 A23.out).mono ?_);(case side1=>repeat (first|exact (Kd.C_below HR416_5.out HB.out)|(with_reducible refine Kd.C_alloc ?_ _)|(with_reducible refine Kd.C_drewN ?_ _)|(with_reducible refine Kd.C_drew ?_)));(case side2=>exact HC416_5.out);rintro e w31 ⟨rfl,hb⟩;refine ⟨_,rfl,?_⟩;have n0_:=zzm (Kd.S_below (zzS HO_3.out) hb);have n1_:=zzm (zzp zzh1 hb);clear HO_3 HB;have HO_3:=n0_;have HB:=n1_;clear n0_ n1_;(try clear hb);(try clear hb2);(try clear hk);(try clear hi)));go_meet
             case rel=>exact ⟨_,(false),(by first|rfl|(simp;done)|(simp [*];done)),H',⟨by have:=HK1.out;have:=HJ3.out;have:=HJ8.out;first|omega|exact Nat.le_refl _⟩,⟨by (with_reducible repeat (first|apply Kd.S_alloc|apply Kd.S_drewN|apply Kd.S_drew));exact HO_3.out⟩,⟨zzh1⟩⟩
           ·
            rw [if_neg c22] at H;exact absurd H (by simp)
          ·
           rw [if_neg c21] at H;exact absurd H (by simp)
         case rest=>
          clear HC20;try clear c1
          try clear q1
          try clear c2
          try clear p2
          try clear c4
          try clear p4
          try clear q4
          try clear hx4
          try clear qi4
          try clear c5
          try clear c5b0
          try clear c6
          try clear p6
          try clear c8
          try clear c10
          try clear c10b0
          try clear c11
          try clear c11b0
          try clear q12
          try clear c13
          try clear c15
          try clear c15b0
          try clear c15b1
          try clear c19
          try clear c21
          try clear c21b0
          try clear c22
          try clear c22b0
          try clear c24
          try clear c26
          try clear c26b0
          try clear c27
          try clear c27b0
          try clear hx412_0
          try clear hx412_1
          try clear hx412_2
          try clear hx412_3
          try clear hx412_4
          try clear hx412_5
          try clear hx413_0
          try clear hx413_1
          try clear hx413_2
          try clear hx413_3
          try clear hx413_4
          try clear hx413_5
          try clear hx414_0
          try clear hx414_1
          try clear hx414_2
          try clear hx414_3
          try clear hx414_4
          try clear hx414_5
          try clear hx416_0
          try clear hx416_1
          try clear hx416_2
          try clear hx416_3
          try clear hx416_4
          try clear hx416_5
          try clear hx419_0
          try clear hx419_1
          try clear hx419_2
          try clear hx419_3
          try clear hx419_4
          try clear hx419_5
          try clear p2
          try clear p4
          try clear p412
          try clear p413
          try clear p414
          try clear p416
          try clear p419
          try clear q1
          try clear q12
          try clear q4
          try clear q412
          try clear q413
          try clear q414
          try clear q416
          try clear q419
          obtain ⟨kq,x49_19,rfl,HA,HJ19,HO_3,HB⟩:=hcut;cases kq with
          | zero=>exact absurd HA.out (by simp [spec_StableRecords.j3])
          | succ kj19=>
           have H:=HA.out;clear HA;simp only [spec_StableRecords.j3] at H;by_cases c32:x49_19=true
           ·
            subst c32;have H1:(spec_StableRecords.l0 kj19 l0 x3_1 (wrap64 (x4_1+1)))=some r:=by rw [if_pos rfl] at H;exact H
            clear H;have H:=H1;clear H1;have H':=zzm H;clear H;go_wp2;go_roundg kj19
            case measure=>have:=HK1.out;have:=HJ3.out;have:=HJ8.out;have:=HJ19.out;omega
            case rel=>exact ⟨(x3_1),(wrap64 (x4_1+1)),(by first|rfl|(simp;done)|(simp [*];done)),H',⟨by have:=HK1.out;have:=HJ3.out;have:=HJ8.out;have:=HJ19.out;omega⟩,⟨by (with_reducible repeat (first|apply Kd.S_alloc|apply Kd.S_drewN|apply Kd.S_drew));exact HO_3.out⟩,⟨zzh1⟩⟩
           ·
            replace c32:=Bool.eq_false_iff.mpr c32;subst c32;have H1:(spec_StableRecords.l1 kj19 l0 x3_1 x4_1 0)=some r:=by rw [if_neg (show ¬ (false=true) by decide)] at H;exact H
            clear H;have H:=H1;clear H1;have H':=zzm H;clear H;go_wp2;go_loopg [3,5] kj19 (fun kq v3 v5 w'=>∃ (x3_5:List (S34)) (x5_5:Int),v5 = .int .i64 x5_5∧Aside0 (spec_StableRecords.l1 kq l0 x3_5 x4_1 x5_5=some r)∧Aside0 (kq≤kj19)∧Aside0 (Kd.S k34 34 w' w.heap.size (fun _=>True) v3 x3_5)∧Aside0 (Below w.heap.size w w'))
            case atStart=>exact ⟨(x3_1),(0),(by first|rfl|(simp;done)|(simp [*];done)),H',⟨Nat.le_refl _⟩,⟨by (with_reducible repeat (first|apply Kd.S_alloc|apply Kd.S_drewN|apply Kd.S_drew));exact HO_3.out⟩,⟨zzh1⟩⟩
            case round=>
             clear H';try clear c1
             try clear q1
             try clear c2
             try clear p2
             try clear c3
             try clear c4
             try clear p4
             try clear q4
             try clear hx4
             try clear qi4
             try clear c5
             try clear c5b0
             try clear c6
             try clear p6
             try clear c8
             try clear c10
             try clear c10b0
             try clear c11
             try clear c11b0
             try clear q12
             try clear c13
             try clear c15
             try clear c15b0
             try clear c15b1
             try clear c19
             try clear c21
             try clear c21b0
             try clear c22
             try clear c22b0
             try clear c24
             try clear c26
             try clear c26b0
             try clear c27
             try clear c27b0
             try clear c32
             try clear hx412_0
             try clear hx412_1
             try clear hx412_2
             try clear hx412_3
             try clear hx412_4
             try clear hx412_5
             try clear hx413_0
             try clear hx413_1
             try clear hx413_2
             try clear hx413_3
             try clear hx413_4
             try clear hx413_5
             try clear hx414_0
             try clear hx414_1
             try clear hx414_2
             try clear hx414_3
             try clear hx414_4
             try clear hx414_5
             try clear hx416_0
             try clear hx416_1
             try clear hx416_2
             try clear hx416_3
             try clear hx416_4
             try clear hx416_5
             try clear hx419_0
             try clear hx419_1
             try clear hx419_2
             try clear hx419_3
             try clear hx419_4
             try clear hx419_5
             try clear p2
             try clear p4
             try clear p412
             try clear p413
             try clear p414
             try clear p416
             try clear p419
             try clear p6
             try clear q1
             try clear q12
             try clear q4
             try clear q412
             try clear q413
             try clear q414
             try clear q416
             try clear q419
             obtain ⟨x3_5,x5_5,rfl,HA,HK5,HO_3,HB⟩:=hrel;cases gk with
             | zero=>exact absurd HA.out (by simp [spec_StableRecords.l1])
             | succ k5=>
              have H:=HA.out;clear HA;simp only [spec_StableRecords.l1] at H;by_cases c33 : 0≤x4_1
              ·
               rw [if_pos c33] at H;have c33b0:decide (0≤x4_1)=true:=decide_eq_true c33;clear c33;by_cases c34:x4_1 < (l0.length:Int)
               ·
                rw [if_pos c34] at H;have c34b0:decide (x4_1 < (l0.length:Int))=true:=decide_eq_true c34;clear c34;by_cases c35:x5_5 < (((rd_T27 l0 x4_1).f5).length:Int)
                ·
                 rw [if_pos c35] at H;have c35b0:decide (x5_5 < (((rd_T27 l0 x4_1).f5).length:Int))=true:=decide_eq_true c35;clear c35;by_cases c36 : 0≤x5_5
                 ·
                  rw [if_pos c36] at H;have c36b0:decide (0≤x5_5)=true:=decide_eq_true c36;clear c36;replace H:=Option.bind_eq_some_iff.mp H;obtain ⟨⟨t424,t425,t426,t427,t430,t431⟩,A370,H⟩:=H;replace H:(if x3_5.length < 1759218604441 then (spec_StableRecords.l1 k5 l0 (x3_5 ++ [(⟨t424,t425,t426,t427,t430,t431⟩:S34)]) x4_1 (wrap64 (x5_5+1))) else (none))=some r:=H;have A37:=zzm A370;clear A370;by_cases c38:x3_5.length < 1759218604441
                  ·
                   rw [if_pos c38] at H;have LMc38:=zzm c38;clear c38;obtain ⟨y434,hy434⟩:∃ y_:List (S34),y_=(x3_5 ++ [(⟨t424,t425,t426,t427,t430,t431⟩:S34)]):=⟨_,rfl⟩;replace H:(spec_StableRecords.l1 k5 l0 y434 x4_1 (wrap64 (x5_5+1)))=some r:=by first|(rw [hy434];with_reducible exact H)|(have H2_:=(Option.bind_some _ _).symm.trans H;rw [hy434];with_reducible exact H2_)|(have H2_:=(Option.bind_some _ _).symm.trans H;with_reducible exact H2_)|with_reducible exact H|(rw [hy434];exact H)|exact H
                   have Ny434:=zzm hy434;clear hy434;have H':=zzm H;clear H;have p421 : 0≤(x4_1:Int):=zzt;have q421:x4_1 < (l0.length:Int):=zzt;obtain ⟨ad421,A421_5,c421_5,e421,hx421_0,hx421_1,hx421_2,hx421_3,hx421_4,hx421_5,hl421_5,hi421_5⟩:=at_T27 HR0.out x4_1 p421 q421;cases e421;replace hx421_0:=zzx HB.out hx421_0;replace hx421_1:=zzx HB.out hx421_1;replace hx421_2:=zzx HB.out hx421_2;replace hx421_3:=zzx HB.out hx421_3;replace hx421_4:=zzx HB.out hx421_4;replace hx421_5:=zzx HB.out hx421_5;have HR421_5:=zzm hi421_5;have HC421_5:=zzm hl421_5;clear hi421_5 hl421_5;replace p421:=eq_true p421;replace q421:=eq_true q421;have p422 : 0≤(x4_1:Int):=zzt;have q422:x4_1 < (l0.length:Int):=zzt;obtain ⟨ad422,A422_5,c422_5,e422,hx422_0,hx422_1,hx422_2,hx422_3,hx422_4,hx422_5,hl422_5,hi422_5⟩:=at_T27 HR0.out x4_1 p422 q422;obtain rfl:ad421=ad422:=(by injection e422);replace hx422_0:=zzx HB.out hx422_0;replace hx422_1:=zzx HB.out hx422_1;replace hx422_2:=zzx HB.out hx422_2;replace hx422_3:=zzx HB.out hx422_3;replace hx422_4:=zzx HB.out hx422_4;replace hx422_5:=zzx HB.out hx422_5;have HR422_5:=zzm hi422_5;have HC422_5:=zzm hl422_5;clear hi422_5 hl422_5;replace p422:=eq_true p422;replace q422:=eq_true q422;have ea_:=Option.some.inj (hx421_5.symm.trans hx422_5);injection ea_ with ea_ en_ ec_;subst ea_;subst ec_;clear en_;have p423 : 0≤(x5_5:Int):=zzt;have q423:x5_5 < (((rd_T27 l0 x4_1).f5).length:Int):=zzt;obtain ⟨ad423,A423_3,c423_3,A423_5,c423_5,e423,hx423_0,hx423_1,hx423_2,hx423_3,hx423_4,hx423_5,hl423_3,hi423_3,hl423_5,hi423_5⟩:=at_T34 HR422_5.out x5_5 p423 q423;cases e423;replace hx423_0:=zzx HB.out hx423_0;replace hx423_1:=zzx HB.out hx423_1;replace hx423_2:=zzx HB.out hx423_2;replace hx423_3:=zzx HB.out hx423_3;replace hx423_4:=zzx HB.out hx423_4;replace hx423_5:=zzx HB.out hx423_5;have HR423_3:=zzm hi423_3;have HC423_3:=zzm hl423_3;clear hi423_3 hl423_3;have HR423_5:=zzm hi423_5;have HC423_5:=zzm hl423_5;clear hi423_5 hl423_5;replace p423:=eq_true p423;replace q423:=eq_true q423;go_wp2_with (first|((with_reducible refine gate_callee (f:=75) rfl ?_);refine goesL_ (some 69) rfl rfl Try.func75 (by kernel_rfl) rfl #[.agg #[.int .i64 ((rd_T34 ((rd_T27 l0 x4_1).f5) x5_5).f0),.int .i64 ((rd_T34 ((rd_T27 l0 x4_1).f5) x5_5).f1),.bool ((rd_T34 ((rd_T27 l0 x4_1).f5) x5_5).f2),.slice A423_3 ((rd_T34 ((rd_T27 l0 x4_1).f5) x5_5).f3).length c423_3,.bool ((rd_T34 ((rd_T27 l0 x4_1).f5) x5_5).f4),.slice A423_5 ((rd_T34 ((rd_T27 l0 x4_1).f5) x5_5).f5).length c423_5]] rfl zzM2 ?_;(with_reducible refine (spec_l12Copy.calls ((rd_T34 ((rd_T27 l0 x4_1).f5) x5_5).f0) ((rd_T34 ((rd_T27 l0 x4_1).f5) x5_5).f1) ((rd_T34 ((rd_T27 l0 x4_1).f5) x5_5).f2) _ _ ((rd_T34 ((rd_T27 l0 x4_1).f5) x5_5).f3) ((rd_T34 ((rd_T27 l0 x4_1).f5) x5_5).f4) _ _ ((rd_T34 ((rd_T27 l0 x4_1).f5) x5_5).f5) t424 t425 t426 t427 t430 t431 _ ?side1 ?side2 ?side3 ?side4 A37.out).mono ?_);(case side1=>repeat (first|exact (Kd.C_below HR423_3.out HB.out)|(with_reducible refine Kd.C_alloc ?_ _)|(with_reducible refine Kd.C_drewN ?_ _)|(with_reducible refine Kd.C_drew ?_)));(case side2=>exact HC423_3.out);(case side3=>repeat (first|exact (Kd.C_below HR423_5.out HB.out)|(with_reducible refine Kd.C_alloc ?_ _)|(with_reducible refine Kd.C_drewN ?_ _)|(with_reducible refine Kd.C_drew ?_)));(case side4=>exact HC423_5.out);rintro e w39 ⟨v428,v432,rfl,ho0,ho1,hb⟩;refine ⟨_,rfl,?_⟩;have n0_:=zzm (Kd.S_mono (Kd.S_told (Kd.S_told (Kd.S_old (zzS HO_3.out) hb) (Kd.R_base ho0)) (Kd.R_base ho1)) (fun _ h_=>h_.1));have n1_:=zzm (Kd.R_lower ho0 (zzo zzh1));have n2_:=zzm (Kd.R_lower ho1 (zzo zzh1));have n3_:=zzm (zzp zzh1 hb);clear HO_3 HB;have HO_3:=n0_;have HO429:=n1_;have HO433:=n2_;have HB:=n3_;clear n0_ n1_ n2_ n3_;(try clear hb);(try clear hb2);(try clear hk);(try clear hi);(try clear ho0);(try clear ho1);obtain ⟨Ao41,co41,eo41⟩:=Kd.R_slice HO429.out;subst eo41;obtain ⟨Ao42,co42,eo42⟩:=Kd.R_slice HO433.out;subst eo42)|((with_reducible refine gate_builtin (b:=.append) (xs:=#[.tmp 60,.tmp 70]) rfl ?_);at_builtin;refine Kd.S_append k34 (w0:=w) w.heap.size rfl (.tmp 60) (.tmp 70) 25 34 (.agg #[(.int .i64 0),(.int .i64 0),(.bool false),(.slice none 0 0),(.bool false),(.slice none 0 0)]) 80 rfl Try.underlying25 info34 rfl (by decide) (by omega) u3 x3_5 (⟨t424,t425,t426,t427,t430,t431⟩:S34) [.int .i64 t424,.int .i64 t425,.bool t426,.slice Ao41 t427.length co41,.bool t430,.slice Ao42 t431.length co42] (fun _=>True) (fun k_=>some k_=(.slice Ao41 t427.length co41:Value).ownBlock∨some k_=(.slice Ao42 t431.length co42:Value).ownBlock) rfl rfl ?aP (fun k_ hk_=>hk_.elim (fun h_=>((Kd.R_mono (ok':=fun k_=>((fun _=>True)) k_∧some k_≠(u3:Value).ownBlock) (Kd.R_apart' (HO429.out) (Kd.S_typed HO_3.out) (by decide)) (fun k_ hk=>⟨trivial,hk.2⟩))).1 k_ h_.symm) (fun h_=>((Kd.R_mono (ok':=fun k_=>((fun _=>True)) k_∧some k_≠(u3:Value).ownBlock) (Kd.R_apart' (HO433.out) (Kd.S_typed HO_3.out) (by decide)) (fun k_ hk=>⟨trivial,hk.2⟩))).1 k_ h_.symm)) ?aF ?aO ?aB ?aS ?aL ?_;(case aP=>exact k34_mkM _ _ _ (⟨t424,t425,t426,t427,t430,t431⟩:S34) (Kd.R_mono (Kd.R_tight rfl (Kd.R_mono (ok':=fun k_=>((fun _=>True)) k_∧some k_≠(u3:Value).ownBlock) (Kd.R_apart' (HO429.out) (Kd.S_typed HO_3.out) (by decide)) (fun k_ hk=>⟨trivial,hk.2⟩))) (fun _ h_=>Or.inl h_)) (Kd.R_mono (Kd.R_tight rfl (Kd.R_mono (ok':=fun k_=>((fun _=>True)) k_∧some k_≠(u3:Value).ownBlock) (Kd.R_apart' (HO433.out) (Kd.S_typed HO_3.out) (by decide)) (fun k_ hk=>⟨trivial,hk.2⟩))) (fun _ h_=>Or.inr (h_))));(case aB=>exact zzh1);(case aF=>exact (fun _ _=>trivial));(case aO=>exact (zzS (Kd.S_mono HO_3.out (fun k_ hk=>⟨trivial,fun e_=>e_.elim (fun h_=>hk.1.2 h_) (fun h_=>hk.2 h_)⟩))));(case aS=>exact (zzo zzh1));(case aL=>have:=LMc38.out;omega);intro v435 w40 ho hb hg hat;rw [← Ny434.out] at ho;have n0_:=zzm (hb);have n1_:=zzm (ho);clear HB HO_3 HO429 HO433;have HB:=n0_;have HO436:=n1_;clear n0_ n1_ ho hb hg hat));go_roundg k5
                   case measure=>have:=HK1.out;have:=HJ3.out;have:=HJ8.out;have:=HJ19.out;have:=HK5.out;omega
                   case rel=>exact ⟨(y434),(wrap64 (x5_5+1)),(by first|rfl|(simp;done)|(simp [*];done)),H',⟨by have:=HK1.out;have:=HJ3.out;have:=HJ8.out;have:=HJ19.out;have:=HK5.out;omega⟩,⟨by (with_reducible repeat (first|apply Kd.S_alloc|apply Kd.S_drewN|apply Kd.S_drew));exact HO436.out⟩,⟨zzh1⟩⟩
                  ·
                   rw [if_neg c38] at H;exact absurd H (by simp)
                 ·
                  rw [if_neg c36] at H;exact absurd H (by simp)
                ·
                 rw [if_neg c35] at H;have c35b0:decide (x5_5 < (((rd_T27 l0 x4_1).f5).length:Int))=false:=decide_eq_false c35;clear c35;have H':=zzm H;clear H;have p421 : 0≤(x4_1:Int):=zzt;have q421:x4_1 < (l0.length:Int):=zzt;obtain ⟨ad421,A421_5,c421_5,e421,hx421_0,hx421_1,hx421_2,hx421_3,hx421_4,hx421_5,hl421_5,hi421_5⟩:=at_T27 HR0.out x4_1 p421 q421;cases e421;replace hx421_0:=zzx HB.out hx421_0;replace hx421_1:=zzx HB.out hx421_1;replace hx421_2:=zzx HB.out hx421_2;replace hx421_3:=zzx HB.out hx421_3;replace hx421_4:=zzx HB.out hx421_4;replace hx421_5:=zzx HB.out hx421_5;have HR421_5:=zzm hi421_5;have HC421_5:=zzm hl421_5;clear hi421_5 hl421_5;replace p421:=eq_true p421;replace q421:=eq_true q421;go_wp2;go_roundg k5
                 case measure=>have:=HK1.out;have:=HJ3.out;have:=HJ8.out;have:=HJ19.out;have:=HK5.out;omega
                 case rel=>exact ⟨(x3_5),(wrap64 (x4_1+1)),(by first|rfl|(simp;done)|(simp [*];done)),H',⟨by have:=HK1.out;have:=HJ3.out;have:=HJ8.out;have:=HJ19.out;have:=HK5.out;omega⟩,⟨by (with_reducible repeat (first|apply Kd.S_alloc|apply Kd.S_drewN|apply Kd.S_drew));exact HO_3.out⟩,⟨zzh1⟩⟩
               ·
                rw [if_neg c34] at H;exact absurd H (by simp)
              ·
               rw [if_neg c33] at H;exact absurd H (by simp)
     ·
      replace c8:=Bool.eq_false_iff.mpr c8;subst c8;have H1:(some x3_1)=some r:=by rw [if_neg (show ¬ (false=true) by decide)] at H;exact H
      clear H;have H:=H1;clear H1;obtain rfl:=Option.some.inj H;go_wp2;go_ret;exact ⟨_,by first|rfl|(simp [errW_none,errW_some] <;> rfl)|(simp [*,errW_none,errW_some] <;> rfl),by (with_reducible repeat (first|apply Kd.S_alloc|apply Kd.S_drewN|apply Kd.S_drew));exact HO_3.out,zzh1⟩
end Go.Proofs.Yticpnjhkdfdkkaa.U
namespace Go.Proofs.Yticpnjhkdfdkkaa.UQ
open Go.RowKit Go.Proofs.YticpnjhkdfdkkaaW.PrintWords
set_option linter.unusedVariables false
set_option linter.unusedSimpArgs false
theorem ev_succ {α:Type} {g:Nat→Option α} {r : α} (h:Ev (fun k=>g (k+1)) r):Ev g r:=Ev.step (f:=fun k=>g (k+1)) (fun _=>rfl) h
theorem ev_of_all {α:Type} {g:Nat→Option α} {r : α} (h:∀ k,g k=some r):Ev g r:=⟨0,fun k _=>h k⟩
theorem ev_some {α:Type} (r : α):Ev (fun _=>some r) r:=ev_of_all fun _=>rfl
def Evs {α:Type} (g:Nat→Option α) (Q : α→Prop):Prop:=∃ r,Ev g r∧Q r
theorem Evs.of {α:Type} {g:Nat→Option α} {Q : α→Prop} {r : α} (h:Ev g r) (hq:Q r):Evs g Q:=⟨r,h,hq⟩
theorem Evs.done {α:Type} {Q : α→Prop} {r : α} (hq:Q r):Evs (fun _=>some r) Q:=⟨r,ev_some r,hq⟩
theorem Evs.mono {α:Type} {g:Nat→Option α} {Q Q' : α→Prop} (h:Evs g Q) (hq:∀ r,Q r→Q' r):Evs g Q':=by
 obtain ⟨r,h1,h2⟩:=h
 exact ⟨r,h1,hq r h2⟩
theorem Evs.succ {α:Type} {g:Nat→Option α} {Q : α→Prop} (h:Evs (fun k=>g (k+1)) Q):Evs g Q:=by
 obtain ⟨r,h1,h2⟩:=h
 exact ⟨r,ev_succ h1,h2⟩
theorem Evs.bind {α β:Type} {g:Nat→Option α} {f:Nat→α→Option β} {Q : α→Prop} {R : β→Prop} (h:Evs g Q) (k:∀ a,Q a→Evs (fun n=>f n a) R):Evs (fun n=>(g n).bind (f n)) R:=by
 obtain ⟨a,h1,h2⟩:=h
 obtain ⟨r,k1,k2⟩:=k a h2
 exact ⟨r,Ev.bind h1 k1,k2⟩
theorem bsome {α β:Type} (a : α) (f : α→Option β):(some a).bind f=f a:=Eq.trans (Option.bind_some a f) (Eq.refl _)
end Go.Proofs.Yticpnjhkdfdkkaa.UQ
namespace Go.Proofs.Yticpnjhkdfdkkaa.UQ
open Go.RowKit Go.Proofs.Yticpnjhkdfdkkaa.U Go.Proofs.YticpnjhkdfdkkaaW.PrintWords Go.Proofs.YticpnjhkdfdkkaaW.PrintLast
set_option linter.unusedVariables false
set_option linter.unusedSimpArgs false
theorem wrap_id {x:Int} (h0 : -9223372036854775808≤x) (h1:x < 9223372036854775808):wrap64 x=x:=by unfold wrap64;omega
theorem tmod_range {x n:Int} (h : 0≤x) (hn : 1≤n) : 0≤Int.tmod x n∧Int.tmod x n < n:=by
 rw [Int.tmod_eq_emod_of_nonneg h]
 exact ⟨Int.emod_nonneg _ (by omega),Int.emod_lt_of_pos _ (by omega)⟩
theorem xor_nonneg {a b:Int} (h1 : 0≤a) (h2:a < 4611686018427387904) (h3 : 0≤b) (h4:b < 4611686018427387904) : 0≤Go.bits .xor .i64 a b:=by
 obtain ⟨A,rfl⟩:=Int.eq_ofNat_of_zero_le h1
 obtain ⟨B,rfl⟩:=Int.eq_ofNat_of_zero_le h3
 have hx:A ^^^ B < 2 ^ 62:=Nat.xor_lt_two_pow (by omega) (by omega)
 have e1:(BitVec.ofInt 64 (A:Int)).toNat=A:=by
  rw [BitVec.ofInt_natCast,BitVec.toNat_ofNat];exact Nat.mod_eq_of_lt (by omega)
 have e2:(BitVec.ofInt 64 (B:Int)).toNat=B:=by
  rw [BitVec.ofInt_natCast,BitVec.toNat_ofNat];exact Nat.mod_eq_of_lt (by omega)
 show 0≤IntKind.i64.wrap ((BitVec.ofInt 64 (A:Int) ^^^ BitVec.ofInt 64 (B:Int)).toNat:Int)
 rw [BitVec.toNat_xor,e1,e2]
 simp only [IntKind.wrap,IntKind.bits,IntKind.signed]
 simp
 omega
def Bytes (b:List Int):Prop:=∀ x∈b,0≤x∧x≤255
theorem rd_bytes {b:List Int} (h:Bytes b) (i:Int) : 0≤rd b i∧rd b i≤255:=by
 unfold rd
 rw [List.getD_eq_getElem?_getD]
 cases e:b[i.toNat]? with
 | none=>simp
 | some x=>exact h x (List.mem_of_getElem? e)
theorem pick_ev (b:List Int) (p n:Int) (hb:Bytes b) (hl:b.length≤2000) (h0 : 0≤p) (h1:p≤1000000000) (hn : 1≤n) :
  ∃ v,Ev (fun k=>spec_l6Rd_pick.f k b p n) (v,p+1)∧0≤v∧v < n:=by
 have e1:wrap64 (p+1)=p+1:=wrap_id (by omega) (by omega)
 have e2:wrap64 (p+1 - 1)=p:=by rw [wrap_id (by omega) (by omega)];omega
 by_cases hz:b.length=0
 ·refine ⟨0,⟨1,fun k hk=>?_⟩,by omega,by omega⟩
  obtain ⟨k,rfl⟩:∃ m,k=m+1:=⟨k - 1,by omega⟩
  show spec_l6Rd_pick.f (k+1) b p n = _
  unfold spec_l6Rd_pick.f
  rw [if_neg (by omega),e1]
  simp [spec_l6Rd_pick.j0,hz]
 ·have hz' : (((b.length:Int)==0)=true)=False:=by simp;intro h;simp [h] at hz
  by_cases hlt:p < (b.length:Int)
  ·obtain ⟨r0,r1⟩:=rd_bytes hb p
   have:=tmod_range (x:=rd b p) r0 hn
   refine ⟨Int.tmod (rd b p) n,⟨1,fun k hk=>?_⟩,this.1,this.2⟩
   obtain ⟨k,rfl⟩:∃ m,k=m+1:=⟨k - 1,by omega⟩
   show spec_l6Rd_pick.f (k+1) b p n = _
   unfold spec_l6Rd_pick.f
   rw [if_neg (by omega),e1]
   simp only [spec_l6Rd_pick.j0,e2,hz']
   rw [if_neg (by simp),if_pos hlt,if_pos h0,if_neg (by omega),wrap_id (by omega) (by omega)]
  ·obtain ⟨q0,q1⟩:=tmod_range (x:=p) (n:=(b.length:Int)) h0 (by omega)
   obtain ⟨r0,r1⟩:=rd_bytes hb (Int.tmod p (b.length:Int))
   have f1:wrap64 (p * 7)=p * 7:=wrap_id (by omega) (by omega)
   have f2:wrap64 (p * 7+3)=p * 7+3:=wrap_id (by omega) (by omega)
   obtain ⟨q2,q3⟩:=tmod_range (x:=p * 7+3) (n:=(b.length:Int)) (by omega) (by omega)
   obtain ⟨r2,r3⟩:=rd_bytes hb (Int.tmod (p * 7+3) (b.length:Int))
   have d0 : 0≤Int.tdiv p (b.length:Int)∧Int.tdiv p (b.length:Int)≤p:=by
    rw [Int.tdiv_eq_ediv_of_nonneg h0]
    exact ⟨Int.ediv_nonneg h0 (by omega),Int.ediv_le_self _ h0⟩
   obtain ⟨x,hx⟩:∃ x,x=rd b (Int.tmod p (b.length:Int)):=⟨_,rfl⟩
   obtain ⟨y,hy⟩:∃ y,y=rd b (Int.tmod (p * 7+3) (b.length:Int)):=⟨_,rfl⟩
   obtain ⟨z,hz2⟩:∃ z,z=Int.tdiv p (b.length:Int):=⟨_,rfl⟩
   obtain ⟨s,hs⟩:∃ s,s=x * 131+y * 1117+p * 29+z * 53:=⟨_,rfl⟩
   rw [← hx] at r0 r1
   rw [← hy] at r2 r3
   rw [← hz2] at d0
   have s0 : 0≤s∧s < 4611686018427387904:=by omega
   have t0 : 0≤Int.tdiv s 64∧Int.tdiv s 64≤s:=by
    rw [Int.tdiv_eq_ediv_of_nonneg s0.1]
    exact ⟨Int.ediv_nonneg s0.1 (by omega),Int.ediv_le_self _ s0.1⟩
   have w1:wrap64 x=x:=wrap_id (by omega) (by omega)
   have w2:wrap64 y=y:=wrap_id (by omega) (by omega)
   have w3:wrap64 z=z:=wrap_id (by omega) (by omega)
   have w4:wrap64 (x * 131)=x * 131:=wrap_id (by omega) (by omega)
   have w5:wrap64 (y * 1117)=y * 1117:=wrap_id (by omega) (by omega)
   have w6:wrap64 (p * 29)=p * 29:=wrap_id (by omega) (by omega)
   have w7:wrap64 (z * 53)=z * 53:=wrap_id (by omega) (by omega)
   have w8:wrap64 (x * 131+y * 1117)=x * 131+y * 1117:=wrap_id (by omega) (by omega)
   have w9:wrap64 (x * 131+y * 1117+p * 29)=x * 131+y * 1117+p * 29:=wrap_id (by omega) (by omega)
   have wa:wrap64 (x * 131+y * 1117+p * 29+z * 53)=s:=by rw [hs];exact wrap_id (by omega) (by omega)
   have wb:wrap64 (Int.tdiv s 64)=Int.tdiv s 64:=wrap_id (by omega) (by omega)
   have:=tmod_range (x:=Go.bits .xor .i64 s (Int.tdiv s 64)) (n:=n) (xor_nonneg s0.1 s0.2 t0.1 (by omega)) hn
   refine ⟨_,⟨1,fun k hk=>?_⟩,this.1,this.2⟩
   obtain ⟨k,rfl⟩:∃ m,k=m+1:=⟨k - 1,by omega⟩
   show spec_l6Rd_pick.f (k+1) b p n = _
   unfold spec_l6Rd_pick.f
   rw [if_neg (by omega),e1]
   simp only [spec_l6Rd_pick.j0,e2,hz',f1,f2]
   rw [if_neg (by simp),if_neg hlt,if_neg (by omega),if_pos q0,if_pos q1,if_pos q2,if_pos q3,if_neg (by omega),← hx,← hy,← hz2,w1,w2,w3,w4,w5,w6,w7,w8,w9,wa,wb]
theorem pick_evs (b:List Int) (p n:Int) (hb:Bytes b) (hl:b.length≤2000) (h0 : 0≤p) (h1:p≤1000000000) (hn : 1≤n) :
  Evs (fun k=>spec_l6Rd_pick.f k b p n) (fun r=>0≤r.1∧r.1 < n∧r.2=p+1):=by
 obtain ⟨v,h,v0,v1⟩:=pick_ev b p n hb hl h0 h1 hn
 exact ⟨_,h,v0,v1,rfl⟩
theorem impl_within_eq (a b c:Int):impl_within.f a b c=some (decide (b≤a∧a≤c)):=by
 unfold impl_within.f
 by_cases h:a ≥ b
 ·rw [if_pos h]
  have:(b≤a∧a≤c)↔a≤c:=⟨fun h=>h.2,fun h'=>⟨h,h'⟩⟩
  simp [this]
 ·rw [if_neg h]
  have:¬ (b≤a∧a≤c):=fun h'=>h h'.1
  simp [this]
theorem spec_l6In_eq (a b c:Int):spec_l6In.f a b c=some (decide (b≤a∧a≤c)):=by
 unfold spec_l6In.f
 by_cases h:a ≥ b
 ·rw [if_pos h]
  have:(b≤a∧a≤c)↔a≤c:=⟨fun h=>h.2,fun h'=>⟨h,h'⟩⟩
  simp [this]
 ·rw [if_neg h]
  have:¬ (b≤a∧a≤c):=fun h'=>h h'.1
  simp [this]
theorem rd_nat (l:List Int) (j:Nat) (h:j < l.length):rd l (j:Int)=l[j]:=by
 unfold rd
 rw [Int.toNat_natCast,List.getD_eq_getElem?_getD,List.getElem?_eq_getElem h]
 rfl
theorem drop_int {l:List Int} {i:Nat} (h:i < l.length):l.drop i=rd l i::l.drop (i+1):=by
 rw [List.drop_eq_getElem_cons h,rd_nat l i h]
def ab (l:List Int):Bool:=decide (∀ x∈l,0≤x∧x≤255)
theorem ab_cons (x:Int) (l:List Int):ab (x::l)=(decide (0≤x∧x≤255)&&ab l):=by
 rw [Bool.eq_iff_iff]
 simp [ab,List.forall_mem_cons]
theorem ab_nil:ab []=true:=by simp [ab]
theorem isByte_eq (a:Int):impl_isByte.f a=some (decide (0≤a∧a≤255)):=by
 unfold impl_isByte.f
 by_cases h:a ≥ 0
 ·rw [if_pos h]
  have:(0≤a∧a≤255)↔a≤255:=⟨fun h=>h.2,fun h'=>⟨h,h'⟩⟩
  simp [this]
 ·rw [if_neg h]
  have:¬ (0≤a∧a≤255):=fun h'=>h h'.1
  simp [this]
theorem baseValid_eq (a b:Int):impl_baseValid.f a b=some (decide ((0≤a∧a≤99999)∧(0≤b∧b≤99999))):=by
 unfold impl_baseValid.f
 rw [impl_within_eq,impl_within_eq]
 by_cases h : 0≤a∧a≤99999 <;> simp [h]
theorem idValid_eqB (a:Int):impl_idValid.f a=some (decide (0≤a∧a≤254)):=by
 unfold impl_idValid.f
 rw [impl_within_eq]
 rfl
theorem implAll_loop (l:List Int) (hl:l.length≤1000000000000000):∀ (d i:Nat),l.length - i=d→i≤l.length→Ev (fun k=>impl_allBytes.l0 k l (l.length:Int) (i:Int)) (ab (l.drop i)):=by
 intro d
 induction d with
 | zero=>
  intro i hd hi
  rw [show l.drop i = [] from List.drop_eq_nil_of_le (by omega),ab_nil]
  refine ev_succ ?_
  simp only [impl_allBytes.l0,if_neg (show ¬ (i:Int) < (l.length:Int) by omega)]
  exact ev_some _
 | succ d ih=>
  intro i hd hi
  have e1:wrap64 ((i:Int)+1)=((i+1:Nat):Int):=by rw [wrap_id (by omega) (by omega)];omega
  rw [drop_int (show i < l.length by omega),ab_cons]
  refine ev_succ ?_
  simp only [impl_allBytes.l0,if_pos (show (i:Int) < (l.length:Int) by omega),if_pos (show (0:Int)≤i by omega),isByte_eq,bsome,decide_eq_true_eq,e1]
  by_cases h : 0≤rd l (i:Int)∧rd l (i:Int)≤255
  ·simp only [if_pos h,decide_eq_true h,Bool.true_and]
   exact ih (i+1) (by omega) (by omega)
  ·simp only [if_neg h,decide_eq_false h,Bool.false_and]
   exact ev_some _
theorem implAll (l:List Int) (hl:l.length≤1000000000000000):Ev (fun k=>impl_allBytes.f k l) (ab l):=by
 unfold impl_allBytes.f
 have:=implAll_loop l hl l.length 0 (by omega) (by omega)
 simpa using this
theorem specAll_loop (l:List Int) (hl:l.length≤1000000000000000):∀ (d i:Nat),l.length - i=d→i≤l.length→Ev (fun k=>spec_l1Ok.l0 k l (i:Int)) (ab (l.drop i)):=by
 intro d
 induction d with
 | zero=>
  intro i hd hi
  rw [show l.drop i = [] from List.drop_eq_nil_of_le (by omega),ab_nil]
  refine ev_succ ?_
  simp only [spec_l1Ok.l0,if_neg (show ¬ (i:Int) < (l.length:Int) by omega)]
  exact ev_some _
 | succ d ih=>
  intro i hd hi
  have e1:wrap64 ((i:Int)+1)=((i+1:Nat):Int):=by rw [wrap_id (by omega) (by omega)];omega
  rw [drop_int (show i < l.length by omega),ab_cons]
  refine ev_succ ?_
  simp only [spec_l1Ok.l0,if_pos (show (i:Int) < (l.length:Int) by omega),if_pos (show (0:Int)≤i by omega),spec_l6In_eq,bsome,decide_eq_true_eq,e1]
  by_cases h : 0≤rd l (i:Int)∧rd l (i:Int)≤255
  ·simp only [if_pos h,decide_eq_true h,Bool.true_and]
   exact ih (i+1) (by omega) (by omega)
  ·simp only [if_neg h,decide_eq_false h,Bool.false_and]
   exact ev_some _
theorem specAll (l:List Int) (hl:l.length≤1000000000000000):Ev (fun k=>spec_l1Ok.f k l) (ab l):=by
 unfold spec_l1Ok.f
 have:=specAll_loop l hl l.length 0 (by omega) (by omega)
 simpa using this
def pv (has:Bool) (l:List Int):Bool:=if has=true then decide (l.length≤12)&&ab l else decide (l.length=0)
theorem implPart (has:Bool) (l:List Int) (hl:l.length≤1000000000000000):Ev (fun k=>impl_partValid.f k has l) (pv has l):=by
 unfold impl_partValid.f pv
 cases has with
 | true=>
  simp only [if_true]
  by_cases h:(l.length:Int)≤12
  ·simp only [if_pos h,decide_eq_true (show l.length≤12 by omega),Bool.true_and]
   exact Ev.bind (implAll l hl) (ev_some _)
  ·simp only [if_neg h,decide_eq_false (show ¬ l.length≤12 by omega),Bool.false_and]
   exact ev_some _
 | false=>
  simp only [Bool.false_eq_true,if_false]
  rw [show ((l.length:Int)==0)=decide (l.length=0) by rw [Bool.eq_iff_iff];simp]
  exact ev_some _
theorem specPart (has:Bool) (l:List Int) (hl:l.length≤1000000000000000):Ev (fun k=>spec_l3Part.f k has l) (pv has l):=by
 unfold spec_l3Part.f pv
 cases has with
 | true=>
  simp only [if_true]
  refine Ev.bind (specAll l hl) ?_
  by_cases h:ab l=true
  ·simp only [if_pos h,h,Bool.and_true]
   rw [show decide ((l.length:Int)≤12)=decide (l.length≤12) by rw [decide_eq_decide];omega]
   exact ev_some _
  ·simp only [if_neg h,show ab l=false by simpa using h,Bool.and_false]
   exact ev_some _
 | false=>
  simp only [Bool.false_eq_true,if_false]
  by_cases h:l.length=0
  ·simp only [if_pos (show (l.length:Int)=0 by omega),decide_eq_true h]
   refine Ev.bind (specAll l hl) ?_
   have hn:l = []:=List.length_eq_zero_iff.1 h
   subst hn
   simp only [ab_nil,if_true]
   exact ev_some _
  ·simp only [if_neg (show ¬ (l.length:Int)=0 by omega),decide_eq_false h]
   exact ev_some _
abbrev Rc:=S34
abbrev rr (l:List Rc) (i:Int):Rc:=rd_T34 l i
theorem rr_nat (l:List Rc) (j:Nat) (h:j < l.length):rr l (j:Int)=l[j]:=by
 unfold rr rd_T34
 rw [Int.toNat_natCast,List.getD_eq_getElem?_getD,List.getElem?_eq_getElem h]
 rfl
def smallR (r:Rc):Prop:=r.f3.length≤1000000000000000∧r.f5.length≤1000000000000000
def smallRs (l:List Rc):Prop:=l.length≤1000000000000000∧∀ r∈l,smallR r
theorem smallRs_at {l:List Rc} (h:smallRs l) (j:Nat) (hj:j < l.length):smallR (rr l (j:Int)):=by
 rw [rr_nat l j hj]
 exact h.2 _ (List.getElem_mem hj)
def rv (r:Rc):Bool:=decide ((0≤r.f0∧r.f0≤99999)∧(0≤r.f1∧r.f1≤99999))&&(pv r.f2 r.f3&&pv r.f4 r.f5)
theorem implRec (r:Rc) (h:smallR r):Ev (fun k=>impl_RecordValid.f k r.f0 r.f1 r.f2 r.f3 r.f4 r.f5) (rv r):=by
 unfold impl_RecordValid.f rv
 simp only [baseValid_eq,bsome,decide_eq_true_eq]
 by_cases h0:(0≤r.f0∧r.f0≤99999)∧(0≤r.f1∧r.f1≤99999)
 ·simp only [if_pos h0,decide_eq_true h0,Bool.true_and]
  refine Ev.bind (implPart _ _ h.1) ?_
  by_cases h1:pv r.f2 r.f3=true
  ·simp only [if_pos h1,h1,Bool.true_and]
   exact Ev.bind (implPart _ _ h.2) (ev_some _)
  ·simp only [if_neg h1,show pv r.f2 r.f3=false by simpa using h1,Bool.false_and]
   exact ev_some _
 ·simp only [if_neg h0,decide_eq_false h0,Bool.false_and]
  exact ev_some _
theorem specRec (r:Rc) (h:smallR r):Ev (fun k=>spec_RecordValid.f k r.f0 r.f1 r.f2 r.f3 r.f4 r.f5) (rv r):=by
 unfold spec_RecordValid.f rv
 simp only [spec_l6In_eq,bsome,decide_eq_true_eq]
 by_cases h0 : 0≤r.f0∧r.f0≤99999
 ·by_cases h1 : 0≤r.f1∧r.f1≤99999
  ·simp only [if_pos h0,if_pos h1,decide_eq_true (show (0≤r.f0∧r.f0≤99999)∧(0≤r.f1∧r.f1≤99999) from ⟨h0,h1⟩),Bool.true_and]
   refine Ev.bind (specPart _ _ h.1) ?_
   by_cases h2:pv r.f2 r.f3=true
   ·simp only [if_pos h2,h2,Bool.true_and]
    exact Ev.bind (specPart _ _ h.2) (ev_some _)
   ·simp only [if_neg h2,show pv r.f2 r.f3=false by simpa using h2,Bool.false_and]
    exact ev_some _
  ·simp only [if_pos h0,if_neg h1,decide_eq_false (show ¬ ((0≤r.f0∧r.f0≤99999)∧(0≤r.f1∧r.f1≤99999)) from fun h=>h1 h.2),Bool.false_and]
   exact ev_some _
 ·simp only [if_neg h0,decide_eq_false (show ¬ ((0≤r.f0∧r.f0≤99999)∧(0≤r.f1∧r.f1≤99999)) from fun h=>h0 h.1),Bool.false_and]
  exact ev_some _
def RF (l:List Rc) (i:Nat):Prop:=∀ j,i≤j→j < l.length→rv (rr l j)=true∧(0 < j→(rr l ((j:Int) - 1)).f0 < (rr l j).f0)
theorem RF_end {l:List Rc} {i:Nat} (h:l.length≤i):RF l i:=fun j h1 h2=>by omega
theorem RF_step {l:List Rc} {i:Nat} (h:i < l.length):RF l i↔(rv (rr l i)=true∧(0 < i→(rr l ((i:Int) - 1)).f0 < (rr l i).f0))∧RF l (i+1):=by
 constructor
 ·intro hv
  exact ⟨hv i (Nat.le_refl _) h,fun j h1 h2=>hv j (by omega) h2⟩
 ·rintro ⟨h1,h2⟩ j h3 h4
  by_cases e:j=i
  ·subst e;exact h1
  ·exact h2 j (by omega) h4
theorem implRecs_loop (l:List Rc) (hl:smallRs l) (a0 a1:Bool) (a2 a3 a4:Int):∀ (d i:Nat),l.length - i=d→i≤l.length→Evs (fun k=>impl_BatchValid.l0 k l (l.length:Int) (i:Int) a0 a1 a2 a3 a4 l) (fun b=>b=true↔RF l i):=by
 intro d
 induction d with
 | zero=>
  intro i hd hi
  refine Evs.succ ?_
  simp only [impl_BatchValid.l0,if_neg (show ¬ (i:Int) < (l.length:Int) by omega)]
  exact Evs.done (by simp;exact RF_end (by omega))
 | succ d ih=>
  intro i hd hi
  have hll:=hl.1
  have hn:=ih (i+1) (by omega) (by omega)
  have e1:wrap64 ((i:Int)+1)=((i+1:Nat):Int):=by rw [wrap_id (by omega) (by omega)];omega
  have e2:wrap64 ((i:Int) - 1)=(i:Int) - 1:=wrap_id (by omega) (by omega)
  rw [RF_step (show i < l.length by omega)]
  refine Evs.succ ?_
  simp only [impl_BatchValid.l0,if_pos (show (i:Int) < (l.length:Int) by omega),if_pos (show (0:Int)≤i by omega),e1,e2]
  refine Evs.bind (Evs.of (implRec (rr l (i:Int)) (smallRs_at hl i (by omega))) rfl:Evs _ (fun x=>x=rv (rr l (i:Int)))) ?_
  rintro _ rfl
  by_cases h1:rv (rr l (i:Int))=true
  ·simp only [if_pos h1]
   by_cases h0:(i:Int) > 0
   ·simp only [if_pos h0,if_pos (show 0≤(i:Int) - 1 by omega),if_pos (show (i:Int) - 1 < (l.length:Int) by omega)]
    by_cases h2:(rr l ((i:Int) - 1)).f0 ≥ (rr l (i:Int)).f0
    ·simp only [if_pos h2]
     refine Evs.done ?_
     simp only [Bool.false_eq_true,false_iff]
     rintro ⟨⟨_,h3⟩,_⟩
     have:=h3 (by omega)
     omega
    ·simp only [if_neg h2]
     refine hn.mono fun b hb=>?_
     rw [hb]
     exact ⟨fun h=>⟨⟨h1,fun _=>by omega⟩,h⟩,fun h=>h.2⟩
   ·simp only [if_neg h0]
    refine hn.mono fun b hb=>?_
    rw [hb]
    exact ⟨fun h=>⟨⟨h1,fun h'=>absurd h' (by omega)⟩,h⟩,fun h=>h.2⟩
  ·simp only [if_neg h1]
   exact Evs.done (by simp only [Bool.false_eq_true,false_iff];exact fun h=>h1 h.1.1)
theorem specRecs_loop (l:List Rc) (hl:smallRs l):∀ (d i:Nat),l.length - i=d→i≤l.length→Evs (fun k=>spec_l5Records.l0 k l (i:Int)) (fun b=>b=true↔RF l i∧1≤l.length∧l.length≤6):=by
 intro d
 induction d with
 | zero=>
  intro i hd hi
  refine Evs.succ ?_
  simp only [spec_l5Records.l0,if_neg (show ¬ (i:Int) < (l.length:Int) by omega),spec_l6In_eq,bsome]
  exact Evs.done (by simp only [decide_eq_true_eq];exact ⟨fun h=>⟨RF_end (by omega),by omega,by omega⟩,fun h=>by have:=h.2;omega⟩)
 | succ d ih=>
  intro i hd hi
  have hll:=hl.1
  have hn:=ih (i+1) (by omega) (by omega)
  have e1:wrap64 ((i:Int)+1)=((i+1:Nat):Int):=by rw [wrap_id (by omega) (by omega)];omega
  have e2:wrap64 ((i:Int) - 1)=(i:Int) - 1:=wrap_id (by omega) (by omega)
  rw [RF_step (show i < l.length by omega)]
  refine Evs.succ ?_
  simp only [spec_l5Records.l0,if_pos (show (i:Int) < (l.length:Int) by omega),if_pos (show (0:Int)≤i by omega),e1,e2]
  refine Evs.bind (Evs.of (specRec (rr l (i:Int)) (smallRs_at hl i (by omega))) rfl:Evs _ (fun x=>x=rv (rr l (i:Int)))) ?_
  rintro _ rfl
  by_cases h1:rv (rr l (i:Int))=true
  ·simp only [if_pos h1]
   by_cases h0:(i:Int) > 0
   ·simp only [if_pos h0,if_pos (show 0≤(i:Int) - 1 by omega),if_pos (show (i:Int) - 1 < (l.length:Int) by omega)]
    by_cases h2:(rr l ((i:Int) - 1)).f0 ≥ (rr l (i:Int)).f0
    ·simp only [if_pos h2]
     refine Evs.done ?_
     simp only [Bool.false_eq_true,false_iff]
     rintro ⟨⟨⟨_,h3⟩,_⟩,_⟩
     have:=h3 (by omega)
     omega
    ·simp only [if_neg h2]
     refine hn.mono fun b hb=>?_
     rw [hb]
     exact ⟨fun h=>⟨⟨⟨h1,fun _=>by omega⟩,h.1⟩,h.2⟩,fun h=>⟨h.1.2,h.2⟩⟩
   ·simp only [if_neg h0]
    refine hn.mono fun b hb=>?_
    rw [hb]
    exact ⟨fun h=>⟨⟨⟨h1,fun h'=>absurd h' (by omega)⟩,h.1⟩,h.2⟩,fun h=>⟨h.1.2,h.2⟩⟩
  ·simp only [if_neg h1]
   exact Evs.done (by simp only [Bool.false_eq_true,false_iff];exact fun h=>h1 h.1.1.1)
def VB (a1:Bool) (a2 a3 a4:Int) (l:List Rc):Prop:=
 (if a2=255 then a3=0∧a4=0∧a1=false else (0≤a2∧a2≤254)∧(0≤a3∧a3≤99)∧(0≤a4∧a4≤9999))∧(1≤l.length∧l.length≤6)∧(a1=true→l.length=1)∧RF l 0
theorem implB_j0 (a0 a1:Bool) (a2 a3 a4:Int) (l:List Rc) (hl:smallRs l):Evs (fun k=>impl_BatchValid.j0 k a0 a1 a2 a3 a4 l) (fun b=>b=true↔(1≤l.length∧l.length≤6)∧(a1=true→l.length=1)∧RF l 0):=by
 have hr:=implRecs_loop l hl a0 a1 a2 a3 a4 l.length 0 (by omega) (by omega)
 refine Evs.succ ?_
 simp only [impl_BatchValid.j0,impl_within_eq,bsome,decide_eq_true_eq]
 by_cases h : 1≤(l.length:Int)∧(l.length:Int)≤6
 ·simp only [if_pos h]
  cases a1 with
  | true=>
   simp only [if_true]
   refine Evs.succ ?_
   by_cases h1:l.length=1
   ·simp only [impl_BatchValid.j1,show ((l.length:Int) != 1)=false by rw [h1];rfl,Bool.false_eq_true,if_false]
    refine hr.mono fun b hb=>?_
    rw [hb]
    exact ⟨fun h2=>⟨by omega,fun _=>h1,h2⟩,fun h2=>h2.2.2⟩
   ·simp only [impl_BatchValid.j1,show ((l.length:Int) != 1)=true by simp;omega,if_true]
    exact Evs.done (by simp only [Bool.false_eq_true,false_iff];exact fun h2=>h1 (h2.2.1 trivial))
  | false=>
   simp only [Bool.false_eq_true,if_false]
   refine Evs.succ ?_
   simp only [impl_BatchValid.j1,Bool.false_eq_true,if_false]
   refine hr.mono fun b hb=>?_
   rw [hb]
   exact ⟨fun h2=>⟨by omega,(fun h3=>h3.elim),h2⟩,fun h2=>h2.2.2⟩
 ·simp only [if_neg h]
  refine Evs.succ ?_
  simp only [impl_BatchValid.j1,if_true]
  exact Evs.done (by simp only [Bool.false_eq_true,false_iff];exact fun h2=>h ⟨by have:=h2.1.1;omega,by have:=h2.1.2;omega⟩)
theorem implB_evs (a0 a1:Bool) (a2 a3 a4:Int) (l:List Rc) (hl:smallRs l):Evs (fun k=>impl_BatchValid.f k a0 a1 a2 a3 a4 l) (fun b=>b=true↔VB a1 a2 a3 a4 l):=by
 have hj:=implB_j0 a0 a1 a2 a3 a4 l hl
 unfold impl_BatchValid.f VB
 by_cases h:a2=255
 ·simp only [if_pos h]
  by_cases h3:a3=0
  ·simp only [if_pos h3]
   by_cases h4:a4=0
   ·simp only [if_pos h4]
    cases a1 with
    | true=>
     simp only [if_true]
     exact Evs.done (by simp)
    | false=>
     simp only [Bool.false_eq_true,if_false]
     refine hj.mono fun b hb=>?_
     rw [hb]
     exact ⟨fun h2=>⟨⟨h3,h4,trivial⟩,h2.1,(fun h5=>h5.elim),h2.2.2⟩,fun h2=>⟨h2.2.1,(fun h5=>by cases h5),h2.2.2.2⟩⟩
   ·simp only [if_neg h4]
    exact Evs.done (by simp only [Bool.false_eq_true,false_iff];exact fun h2=>h4 h2.1.2.1)
  ·simp only [if_neg h3]
   exact Evs.done (by simp only [Bool.false_eq_true,false_iff];exact fun h2=>h3 h2.1.1)
 ·simp only [if_neg h,idValid_eqB,impl_within_eq,bsome,decide_eq_true_eq]
  by_cases h2 : 0≤a2∧a2≤254
  ·simp only [if_pos h2]
   by_cases h3 : 0≤a3∧a3≤99
   ·simp only [if_pos h3]
    by_cases h4 : 0≤a4∧a4≤9999
    ·simp only [if_pos h4]
     refine hj.mono fun b hb=>?_
     rw [hb]
     exact ⟨fun h5=>⟨⟨h2,h3,h4⟩,h5⟩,fun h5=>h5.2⟩
    ·simp only [if_neg h4]
     exact Evs.done (by simp only [Bool.false_eq_true,false_iff];exact fun h5=>h4 h5.1.2.2)
   ·simp only [if_neg h3]
    exact Evs.done (by simp only [Bool.false_eq_true,false_iff];exact fun h5=>h3 h5.1.2.1)
  ·simp only [if_neg h2]
   exact Evs.done (by simp only [Bool.false_eq_true,false_iff];exact fun h5=>h2 h5.1.1)
theorem specB_j0_true (a0 a1:Bool) (a2 a3 a4:Int) (l:List Rc):Evs (fun k=>spec_BatchValid.j0 k true a0 a1 a2 a3 a4 l) (fun b=>b=false):=by
 refine Evs.succ ?_
 simp only [spec_BatchValid.j0,if_true]
 exact Evs.done rfl
theorem specB_evs (a0 a1:Bool) (a2 a3 a4:Int) (l:List Rc) (hl:smallRs l):Evs (fun k=>spec_BatchValid.f k a0 a1 a2 a3 a4 l) (fun b=>b=true↔VB a1 a2 a3 a4 l):=by
 have hr:=specRecs_loop l hl l.length 0 (by omega) (by omega)
 have no:∀ {P:Prop},¬ P→∀ b:Bool,b=false→(b=true↔P):=fun hP b hb=>by rw [hb];simp only [Bool.false_eq_true,false_iff];exact hP
 unfold spec_BatchValid.f
 unfold spec_l5Records.f
 refine Evs.bind hr ?_
 intro t ht
 by_cases h:t=true
 ·obtain ⟨hRF,hl1⟩:=ht.1 h
  simp only [if_pos h,spec_l6In_eq,bsome,decide_eq_true_eq]
  by_cases h2 : 0≤a2∧a2≤255
  ·simp only [if_pos h2]
   by_cases h3 : 0≤a3∧a3≤99
   ·simp only [if_pos h3]
    by_cases h4 : 0≤a4∧a4≤9999
    ·simp only [decide_eq_true h4,Bool.not_true]
     refine Evs.succ ?_
     simp only [spec_BatchValid.j0,Bool.false_eq_true,if_false]
     unfold VB
     by_cases h5:a2=255
     ·simp only [if_pos h5]
      by_cases h6:a3=0
      ·simp only [if_pos h6]
       by_cases h7:a4=0
       ·simp only [if_pos h7]
        refine Evs.done ?_
        cases a1
        ·simp;exact ⟨⟨h6,h7⟩,hl1,hRF⟩
        ·simp
       ·simp only [if_neg h7]
        exact Evs.done (no (fun h8=>h7 h8.1.2.1) _ rfl)
      ·simp only [if_neg h6]
       exact Evs.done (no (fun h8=>h6 h8.1.1) _ rfl)
     ·simp only [if_neg h5]
      cases a1 with
      | true=>
       simp only [if_true]
       refine Evs.done ?_
       simp only [beq_iff_eq]
       exact ⟨fun h8=>⟨⟨by omega,h3,h4⟩,hl1,fun _=>by omega,hRF⟩,fun h8=>by have:=h8.2.2.1 trivial;omega⟩
      | false=>
       simp only [Bool.false_eq_true,if_false]
       refine Evs.done ?_
       simp only [true_iff]
       exact ⟨⟨by omega,h3,h4⟩,hl1,(fun h8=>h8.elim),hRF⟩
    ·simp only [decide_eq_false h4,Bool.not_false]
     refine (specB_j0_true a0 a1 a2 a3 a4 l).mono (no ?_)
     unfold VB
     split
     ·rintro ⟨⟨_,h8,_⟩,_⟩
      exact h4 (by omega)
     ·exact fun h8=>h4 h8.1.2.2
   ·simp only [if_neg h3]
    refine (specB_j0_true a0 a1 a2 a3 a4 l).mono (no ?_)
    unfold VB
    split
    ·rintro ⟨⟨h8,_,_⟩,_⟩
     exact h3 (by omega)
    ·exact fun h8=>h3 h8.1.2.1
  ·simp only [if_neg h2]
   refine (specB_j0_true a0 a1 a2 a3 a4 l).mono (no ?_)
   unfold VB
   split
   ·rename_i h8
    exact fun _=>h2 (by omega)
   ·exact fun h8=>h2 (by have:=h8.1.1;omega)
 ·simp only [if_neg h]
  refine (specB_j0_true a0 a1 a2 a3 a4 l).mono (no ?_)
  exact fun h8=>h (ht.2 ⟨h8.2.2.2,h8.2.1⟩)
open Classical in
noncomputable def vb (a1:Bool) (a2 a3 a4:Int) (l:List Rc):Bool:=decide (VB a1 a2 a3 a4 l)
theorem vb_iff (a1:Bool) (a2 a3 a4:Int) (l:List Rc):vb a1 a2 a3 a4 l=true↔VB a1 a2 a3 a4 l:=by unfold vb;simp
theorem implB (a0 a1:Bool) (a2 a3 a4:Int) (l:List Rc) (hl:smallRs l):Ev (fun k=>impl_BatchValid.f k a0 a1 a2 a3 a4 l) (vb a1 a2 a3 a4 l):=by
 obtain ⟨b,hb,h⟩:=implB_evs a0 a1 a2 a3 a4 l hl
 rw [show vb a1 a2 a3 a4 l=b by rw [Bool.eq_iff_iff,vb_iff,h]]
 exact hb
theorem specB (a0 a1:Bool) (a2 a3 a4:Int) (l:List Rc) (hl:smallRs l):Ev (fun k=>spec_BatchValid.f k a0 a1 a2 a3 a4 l) (vb a1 a2 a3 a4 l):=by
 obtain ⟨b,hb,h⟩:=specB_evs a0 a1 a2 a3 a4 l hl
 rw [show vb a1 a2 a3 a4 l=b by rw [Bool.eq_iff_iff,vb_iff,h]]
 exact hb
theorem bytes_of {l:List Int} (h:∀ x∈l,(Lit.int .u8 x).wf=true):Bytes l:=by
 intro x hx
 have:=h x hx
 simp [Lit.wf,IntKind.min,IntKind.max,IntKind.signed,IntKind.bits] at this
 omega
theorem open_ev (l:List Int) (h:Bytes l):∃ b,spec_l6Open.f l=some (b,0)∧Bytes b∧b.length≤2000:=by
 unfold spec_l6Open.f
 by_cases hc:(l.length:Int) > 2000
 ·rw [if_pos hc,if_pos (by omega)]
  exact ⟨_,rfl,fun x hx=>h x (List.mem_of_mem_take hx),by rw [length_take];omega⟩
 ·rw [if_neg hc]
  exact ⟨_,rfl,h,by omega⟩
end Go.Proofs.Yticpnjhkdfdkkaa.UQ
