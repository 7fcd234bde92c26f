/- The law FnPutNext holds (part 4 of 5; merged by pack2.py). -/
import Derived.RegionTactic
import Derived.Test.YtmophgccpnpgfaaFnPutNextK2
set_option maxRecDepth 1000000
open List (setIfInBounds_toArray set_cons_zero set_cons_succ map_toArray map_cons map_nil length_drop length_take)
namespace Go.Proofs.Ytmophgccpnpgfaa.T
open Go.RowKit Go.Proofs.YtmophgccpnpgfaaW.PrintWords Go.Proofs.YtmophgccpnpgfaaW.PrintLast Go.Proofs.YtmophgccpnpgfaaW.PrintMore
attribute [local go_sem] max2_int max_two
set_option linter.unusedVariables false
set_option linter.unusedSimpArgs false
structure SlotV where
 u:Bool
 a:Int
 b:Int
 c:Int
def slot0:SlotV:=⟨false,0,0,0⟩
def HasSlots (w:World) (g:Nat) (f:Nat→SlotV):Prop:=∃ cells:Array Value,w.heap[g]? = some (.cells cells 90 (0,0))∧cells.size=1020 ∧
 ∀ i,i < 255→cells[i * 4]? = some (.bool (f i).u)∧cells[i * 4+1]? = some (.int .i64 (f i).a)∧cells[i * 4+2]? = some (.int .i64 (f i).b)∧cells[i * 4+3]? = some (.int .i64 (f i).c)
theorem HasSlots.lt {w:World} {g:Nat} {f:Nat→SlotV} (h:HasSlots w g f):g < w.heap.size:=by
 obtain ⟨cells,h1,_⟩:=h;exact blk_lt h1
theorem HasSlots.below {w w1:World} {g:Nat} {f:Nat→SlotV} (h:HasSlots w g f) (hb:Below w.heap.size w w1):HasSlots w1 g f:=by
 obtain ⟨cells,h1,h2⟩:=h;exact ⟨cells,zzh h1 hb,h2⟩
theorem HasSlots.at_ {w:World} {g:Nat} {f:Nat→SlotV} (h:HasSlots w g f) (i:Nat) (hi:i < 255) :
  w.cell? ⟨g,i * 4,none⟩=some (.bool (f i).u)∧w.cell? ⟨g,i * 4+1,none⟩=some (.int .i64 (f i).a)∧w.cell? ⟨g,i * 4+2,none⟩=some (.int .i64 (f i).b)∧w.cell? ⟨g,i * 4+3,none⟩=some (.int .i64 (f i).c):=by
 obtain ⟨cells,h1,_,h3⟩:=h;obtain ⟨k0,k1,k2,k3⟩:=h3 i hi;exact ⟨(zzk h1 _).trans k0,(zzk h1 _).trans k1,(zzk h1 _).trans k2,(zzk h1 _).trans k3⟩
theorem HasSlots.free {w:World} {g:Nat} {f:Nat→SlotV} (h:HasSlots w g f) (j:Nat):w.frozen? ⟨g,j,none⟩=false:=by
 obtain ⟨cells,h1,_⟩:=h;exact zzl h1 j
theorem HasSlots.put {w:World} {g:Nat} {f:Nat→SlotV} (h:HasSlots w g f) (i:Nat) (hi:i < 255) (u:Bool) (a b c:Int) :
  HasSlots ((((w.setCell ⟨g,i * 4,none⟩ (.bool u)).setCell ⟨g,i * 4+1,none⟩ (.int .i64 a)).setCell ⟨g,i * 4+2,none⟩ (.int .i64 b)).setCell ⟨g,i * 4+3,none⟩ (.int .i64 c)) g (fun k=>if k=i then ⟨u,a,b,c⟩ else f k):=by
 obtain ⟨cells,h1,h2,h3⟩:=h;refine ⟨(((cells.setIfInBounds (i * 4) (.bool u)).setIfInBounds (i * 4+1) (.int .i64 a)).setIfInBounds (i * 4+2) (.int .i64 b)).setIfInBounds (i * 4+3) (.int .i64 c),blk_set (blk_set (blk_set (blk_set h1 _ _) _ _) _ _) _ _,by simp [h2],?_⟩;intro j hj;by_cases hji:j=i
 ·
  subst hji;simp only [if_true];refine ⟨?_,?_,?_,?_⟩
  ·
   rw [Array.getElem?_setIfInBounds_ne (by omega),Array.getElem?_setIfInBounds_ne (by omega),Array.getElem?_setIfInBounds_ne (by omega),Array.getElem?_setIfInBounds_self_of_lt (by omega)]
  ·
   rw [Array.getElem?_setIfInBounds_ne (by omega),Array.getElem?_setIfInBounds_ne (by omega),Array.getElem?_setIfInBounds_self_of_lt (by simp;omega)]
  ·
   rw [Array.getElem?_setIfInBounds_ne (by omega),Array.getElem?_setIfInBounds_self_of_lt (by simp;omega)]
  ·
   rw [Array.getElem?_setIfInBounds_self_of_lt (by simp;omega)]
 ·
  simp only [if_neg hji];obtain ⟨k0,k1,k2,k3⟩:=h3 j hj;refine ⟨?_,?_,?_,?_⟩
  ·
   rw [Array.getElem?_setIfInBounds_ne (by omega),Array.getElem?_setIfInBounds_ne (by omega),Array.getElem?_setIfInBounds_ne (by omega),Array.getElem?_setIfInBounds_ne (by omega)];exact k0
  ·
   rw [Array.getElem?_setIfInBounds_ne (by omega),Array.getElem?_setIfInBounds_ne (by omega),Array.getElem?_setIfInBounds_ne (by omega),Array.getElem?_setIfInBounds_ne (by omega)];exact k1
  ·
   rw [Array.getElem?_setIfInBounds_ne (by omega),Array.getElem?_setIfInBounds_ne (by omega),Array.getElem?_setIfInBounds_ne (by omega),Array.getElem?_setIfInBounds_ne (by omega)];exact k2
  ·
   rw [Array.getElem?_setIfInBounds_ne (by omega),Array.getElem?_setIfInBounds_ne (by omega),Array.getElem?_setIfInBounds_ne (by omega),Array.getElem?_setIfInBounds_ne (by omega)];exact k3
def zeroSlots:Array Value:=(List.flatten (List.replicate 255 [Value.bool false,.int .i64 0,.int .i64 0,.int .i64 0])).toArray
theorem flat_at {x0 x1 x2 x3:Value} : ∀ (n i:Nat),i < n→(List.flatten (List.replicate n [x0,x1,x2,x3]))[i * 4]? = some x0∧(List.flatten (List.replicate n [x0,x1,x2,x3]))[i * 4+1]? = some x1∧(List.flatten (List.replicate n [x0,x1,x2,x3]))[i * 4+2]? = some x2∧(List.flatten (List.replicate n [x0,x1,x2,x3]))[i * 4+3]? = some x3
 | 0,i,h=>by omega
 | n+1,0,h=>by
  rw [List.replicate_succ,List.flatten_cons]
  exact ⟨rfl,rfl,rfl,rfl⟩
 | n+1,i+1,h=>by
  obtain ⟨k0,k1,k2,k3⟩:=flat_at (x0:=x0) (x1:=x1) (x2:=x2) (x3:=x3) n i (by omega)
  rw [List.replicate_succ,List.flatten_cons]
  refine ⟨?_,?_,?_,?_⟩
  ·
   rw [List.getElem?_append_right (by simp;omega),show (i+1) * 4 - [x0,x1,x2,x3].length=i * 4 by simp;omega];exact k0
  ·
   rw [List.getElem?_append_right (by simp;omega),show (i+1) * 4+1 - [x0,x1,x2,x3].length=i * 4+1 by simp;omega];exact k1
  ·
   rw [List.getElem?_append_right (by simp;omega),show (i+1) * 4+2 - [x0,x1,x2,x3].length=i * 4+2 by simp;omega];exact k2
  ·
   rw [List.getElem?_append_right (by simp;omega),show (i+1) * 4+3 - [x0,x1,x2,x3].length=i * 4+3 by simp;omega];exact k3
theorem flat_len {x0 x1 x2 x3:Value} : ∀ n:Nat,(List.flatten (List.replicate n [x0,x1,x2,x3])).length=n * 4
 | 0=>rfl
 | n+1=>by rw [List.replicate_succ,List.flatten_cons,List.length_append,flat_len n];simp;omega
theorem HasSlots.zero {w:World} {g:Nat} (h:w.heap[g]? = some (.cells zeroSlots 90 (0,0))):HasSlots w g (fun _=>slot0):=by
 refine ⟨zeroSlots,h,by unfold zeroSlots;rw [List.size_toArray,flat_len],fun i hi=>?_⟩;obtain ⟨k0,k1,k2,k3⟩:=flat_at (x0:=Value.bool false) (x1:=.int .i64 0) (x2:=.int .i64 0) (x3:=.int .i64 0) 255 i hi;unfold zeroSlots;simp only [List.getElem?_toArray];exact ⟨k0,k1,k2,k3⟩
def slotPut (f:Nat→SlotV) (p:S67):Nat→SlotV:=fun k=>if k=p.f0.toNat then ⟨true,p.f0,p.f1,p.f2⟩ else f k
def slotFn (l:List S67):Nat→SlotV:=l.foldl slotPut (fun _=>slot0)
theorem slotFn_snoc (l:List S67) (p:S67):slotFn (l ++ [p])=slotPut (slotFn l) p:=by simp [slotFn]
theorem slotFn_take (l:List S67) (k:Nat) (h:k < l.length):slotFn (l.take (k+1))=slotPut (slotFn (l.take k)) (Qd l (k:Int)):=by
 rw [List.take_succ_eq_append_getElem h,slotFn_snoc];congr 1;simp [Qd,List.getD_eq_getElem?_getD,List.getElem?_eq_getElem h]
theorem infoAT:(Try.prog.info? 90).map (fun i=>(i.zero,i.size,i.bytes))=some (some (.agg zeroSlots),1020,8160):=by kernel_rfl
theorem alloc_slots {o:Oper} (ρ:Operand→Value) (ho:o.op = .alloc 90) (W:World):(execOp ρ o).run Try.prog W = .ok (.value (.pointer (some ⟨W.heap.size,0,none⟩))) (W.alloc (.cells zeroSlots 90 (0,0))):=by
 obtain ⟨i0,hi,hz0,hz1,hz2⟩:=info_parts infoAT;have hz:(zeroValue 90).run Try.prog W = .ok (.agg zeroSlots) W:=by simp [zeroValue,typeInfo,hi,hz0,go_sem]
 obtain ⟨op,dst,guard,pos,x1,x2⟩:=o;subst ho;simp [execOp,Instr.alloc,hz,newVar,newRow,go_sem]
theorem HasSlots.far {w:World} {g:Nat} {f:Nat→SlotV} (h:HasSlots w g f) {p:Addr} (hp:g≠p.block) (v:Value):HasSlots (w.setCell p v) g f:=by
 obtain ⟨cells,h1,h2⟩:=h;exact ⟨cells,zzj h1 hp v,h2⟩
theorem HasSlots.drew {w:World} {g:Nat} {f:Nat→SlotV} (h:HasSlots w g f):HasSlots w.drew g f:=h
set_option maxHeartbeats 8000000 in
theorem impl_slotsOf.calls (A0:Option Addr) (c0:Nat) (l0:List S67) (w:World) (a6:Kd.C k67 w A0 l0.length l0) (hid:∀ j:Nat,j < l0.length→0≤(Qd l0 (j:Int)).f0∧(Qd l0 (j:Int)).f0 < 255) :
  Calls Try.prog 33 #[.slice A0 l0.length c0] w fun e w'=>∃ g:Nat,e = .returned (.pointer (some ⟨g,0,none⟩))∧w.heap.size≤g∧HasSlots w' g (slotFn l0)∧Below w.heap.size w w':=by
 have hmax:l0.length≤9223372036854775807:=a6.2.1;have HR:=zzm a6;have HI:=zzm hid;clear a6 hid;go_enter Try.func33,Try.ntmps33;go_wp2_with ((with_reducible refine gate_dst (N:=6) rfl ?_);refine box_event ?hg (N:=6) ?hd (cs:=zeroSlots) (t:=90) ?hr ?_;(case hd=>rfl);(case hg=>rfl);(case hr=>exact alloc_slots _ rfl _);intro g hg w1 hbox hb;have HS0:=zzm (HasSlots.zero hbox);have HB0:=zzm hb;have HG:=zzm (show w.heap.size≤g from Nat.le_of_eq hg.symm);clear hb hbox hg);go_loopw [9,5] (fun i i5 W=>∃ k:Nat,k≤l0.length∧i = .int .i64 k∧Aside0 (HasSlots W g (slotFn (l0.take k)))∧Aside0 (Below w.heap.size w W)) (fun i _ _=>l0.length - (intOf i).toNat)
 case atStart=>exact ⟨0,Nat.zero_le _,rfl,HS0,HB0⟩
 case round=>
  obtain ⟨k,hk,rfl,HS,HB⟩:=hrel;by_cases hlt:k < l0.length
  ·
   obtain ⟨ad,he,a1,a2,a3⟩:=Rf HR.out (k:Int) (by omega) (by omega);subst he;replace a1:=zzx HB.out a1;replace a2:=zzx HB.out a2;replace a3:=zzx HB.out a3;simp only [Int.toNat_natCast] at a1 a2 a3;have HN:=zzm (slotFn_take l0 k hlt);obtain ⟨b0,b1⟩:=HI.out k hlt;obtain ⟨p,hp⟩:∃ p,p=Qd l0 (k:Int):=⟨_,rfl⟩;simp only [← hp] at a1 a2 a3 b0 b1;rw [← hp] at HN;clear hp;obtain ⟨m,hm⟩:∃ m:Nat,p.f0=(m:Int):=⟨p.f0.toNat,by omega⟩;have hm2:m < 255:=by omega
   go_wp2_with ((with_reducible refine gate_dst (N:=5) rfl ?_);refine box_event ?hg (N:=5) ?hd (cs:=#[.int .i64 0,.int .i64 0,.int .i64 0]) (t:=67) ?hr ?_;(case hd=>rfl);(case hg=>rfl);(case hr=>first|(go_simp;done)|(go_simp;rfl));intro gb hg a4 hbox hb;have HS13:=zzm (HS.out.below hb);have HB13:=zzm (zzp HB.out hb);have BK:=zzm hbox;have GE:=zzm (show w.heap.size≤gb by rw [hg];exact HB.out.size);have NE:=zzm (show g≠gb by have:=HS.out.lt;omega);clear hb hbox hg;have a7:a4.cell? ⟨gb,0,none⟩=some (.int .i64 0):=(zzk BK.out 0).trans rfl;have a8:a4.cell? ⟨gb,1,none⟩=some (.int .i64 0):=(zzk BK.out 1).trans rfl;have a9:a4.cell? ⟨gb,2,none⟩=some (.int .i64 0):=(zzk BK.out 2).trans rfl;have hf0:=zzl BK.out 0;have hf1:=zzl BK.out 1;have hf2:=zzl BK.out 2);have a5:=zzm (blk_set (blk_set (blk_set BK.out 0 (.int .i64 (m:Int))) 1 (.int .i64 p.f1)) 2 (.int .i64 p.f2));have HS2:=zzm (((HS13.out.far (p:=⟨gb,0,none⟩) NE.out (.int .i64 (m:Int))).far (p:=⟨gb,1,none⟩) NE.out (.int .i64 p.f1)).far (p:=⟨gb,2,none⟩) NE.out (.int .i64 p.f2));have HB2:=zzm (zzd (zzd (zzd HB13.out GE.out (j:=0) (v:=.int .i64 (m:Int))) GE.out (j:=1) (v:=.int .i64 p.f1)) GE.out (j:=2) (v:=.int .i64 p.f2));clear a7 a8 a9 hf0 hf1 hf2 BK HS13 HB13 a1 a2 a3;generalize ((a4.setCell ⟨gb,0,none⟩ (.int .i64 (m:Int))).setCell ⟨gb,1,none⟩ (.int .i64 p.f1)).setCell ⟨gb,2,none⟩ (.int .i64 p.f2)=a0 at a5 HS2 HB2 ⊢;have b2:a0.cell? ⟨gb,0,none⟩=some (.int .i64 (m:Int)):=(zzk a5.out 0).trans rfl;have b3:a0.cell? ⟨gb,1,none⟩=some (.int .i64 p.f1):=(zzk a5.out 1).trans rfl;have b4:a0.cell? ⟨gb,2,none⟩=some (.int .i64 p.f2):=(zzk a5.out 2).trans rfl;have fz:∀ j,a0.frozen? ⟨g,j,none⟩=false:=HS2.out.free;have fz0:=fz (m * 4);have fz1:=fz (m * 4+1);have fz2:=fz (m * 4+2);have fz3:=fz (m * 4+3);clear fz;obtain ⟨vz0,hz0⟩:∃ v,a0.cell? ⟨g,m * 4,none⟩=some v:=⟨_,(HS2.out.at_ m hm2).1⟩;obtain ⟨vz1,hz1⟩:∃ v,a0.cell? ⟨g,m * 4+1,none⟩=some v:=⟨_,(HS2.out.at_ m hm2).2.1⟩;obtain ⟨vz2,hz2⟩:∃ v,a0.cell? ⟨g,m * 4+2,none⟩=some v:=⟨_,(HS2.out.at_ m hm2).2.2.1⟩;obtain ⟨vz3,hz3⟩:∃ v,a0.cell? ⟨g,m * 4+3,none⟩=some v:=⟨_,(HS2.out.at_ m hm2).2.2.2⟩;have hmi:(m:Int) < 255:=by omega
   have hmi0 : 0≤(m:Int):=by omega
   go_region;have HSF:=HasSlots.drew (HS2.out.put m hm2 true (m:Int) p.f1 p.f2);have HBF:=zzc (zzd (zzd (zzd (zzd HB2.out HG.out (j:=m * 4) (v:=.bool true)) HG.out (j:=m * 4+1) (v:=.int .i64 (m:Int))) HG.out (j:=m * 4+2) (v:=.int .i64 p.f1)) HG.out (j:=m * 4+3) (v:=.int .i64 p.f2));have heq:slotFn (l0.take (k+1))=fun k'=>if k' = m then ⟨true,(m:Int),p.f1,p.f2⟩ else slotFn (l0.take k) k':=by
    rw [HN.out];unfold slotPut;rw [hm,Int.toNat_natCast]
   rw [← heq] at HSF;have HSF':=zzm HSF;have HBF':=zzm HBF;clear HSF HBF heq hz0 hz1 hz2 hz3 fz0 fz1 fz2 fz3 b2 b3 b4 hm;go_wp2;go_roundw
   case rel=>exact ⟨k+1,by omega,by go_num,HSF',HBF'⟩
   case measure=>simp [intOf];omega
  ·
   have hk2:k=l0.length:=by omega
   subst hk2;rw [List.take_length] at HS;go_wp2;go_ret;exact ⟨g,rfl,HG.out,HS.out,HB.out⟩
def seqCode (s n:Int):Int:=if s < n then 1 else if s > n then 2 else 0
def codeAt (f:Nat→SlotV) (p e s:Int):Int:=
 if p=255 then 4 else if (f p.toNat).u=true then (if (f p.toNat).b > e then 3 else if (f p.toNat).b=e then seqCode s (f p.toNat).c else seqCode s 0) else seqCode s 0
set_option maxHeartbeats 8000000 in
theorem Rm.calls (g:Nat) (f:Nat→SlotV) (b0 b1:Bool) (b2 b3 b4:Int) (v5:Value) (a8:v5.oneCell' = true) (w:World) (hs:HasSlots w g f) (hb0 : 0≤b2) (hb1:b2≤255) :
  Calls Try.prog 34 #[.pointer (some ⟨g,0,none⟩),.agg #[.bool b0,.bool b1,.int .i64 b2,.int .i64 b3,.int .i64 b4,v5]] w fun e w'=>e = .returned (.int .i64 (codeAt f b2 b3 b4))∧Below w.heap.size w w':=by
 have HS:=zzm hs;have HB:=zzm (Below.refl w.heap.size w);obtain ⟨m,rfl⟩:∃ m:Nat,b2=(m:Int):=⟨b2.toNat,by omega⟩;clear hs hb0;by_cases h255:m=255
 ·
  subst h255;have hcode:codeAt f ((255:Nat):Int) b3 b4=4:=rfl;have HC:=zzm hcode;clear hcode;go_enter Try.func34,Try.ntmps34;go_wp2_with ((with_reducible refine gate_dst (N:=3) rfl ?_);refine box_event ?hg (N:=3) ?hd (cs:=#[.bool b0,.bool b1,.int .i64 ((255:Nat):Int),.int .i64 b3,.int .i64 b4,v5]) (t:=26) ?hr ?_;(case hd=>rfl);(case hg=>rfl);(case hr=>first|(go_simp;done)|(go_simp;rfl));intro gb hg w8 hbox hb;have HB1:=zzm (zzp HB.out hb);have a2:w8.cell? ⟨gb,2,none⟩=some (.int .i64 255):=(zzk hbox 2).trans rfl;have hf2:=zzl hbox 2;clear hb hbox hg);go_ret;exact ⟨by rw [HC.out];rfl,HB1.out⟩
 ·
  have hm2:m < 255:=by omega
  have hne:((m:Int)==255)=false:=by simp;omega
  go_enter Try.func34,Try.ntmps34;go_wp2_with ((with_reducible refine gate_dst (N:=3) rfl ?_);refine box_event ?hg (N:=3) ?hd (cs:=#[.bool b0,.bool b1,.int .i64 (m:Int),.int .i64 b3,.int .i64 b4,v5]) (t:=26) ?hr ?_;(case hd=>rfl);(case hg=>rfl);(case hr=>first|(go_simp;done)|(go_simp;rfl));intro gb hg w8 hbox hb;have HB1:=zzm (zzp HB.out hb);have HS1:=zzm (HS.out.below hb);have BK:=zzm hbox;have a2:w8.cell? ⟨gb,2,none⟩=some (.int .i64 (m:Int)):=(zzk hbox 2).trans rfl;have hf2:=zzl hbox 2;clear hb hbox hg);obtain ⟨a4,a5,a6,a7⟩:=HS1.out.at_ m hm2;have hg8:=HS1.out.lt;have hgb:=blk_lt BK.out;have hmi:(m:Int) < 255:=by omega
  have hmi0 : 0≤(m:Int):=by omega
  go_region;have HB9:=zzm (zzc (zza HB1.out (.cells #[.bool (f m).u,.int .i64 (f m).a,.int .i64 (f m).b,.int .i64 (f m).c] 69)));have a1:=zzm (zzg (blk_new w8 (.cells #[.bool (f m).u,.int .i64 (f m).a,.int .i64 (f m).b,.int .i64 (f m).c] 69)));have BG9:=zzm (zzg (zzh BK.out (zza (Below.refl _ _) (.cells #[.bool (f m).u,.int .i64 (f m).a,.int .i64 (f m).b,.int .i64 (f m).c] 69))));clear a4 a5 a6 a7 a2 hf2 hg8 hgb HB1 HS1 BK;generalize (w8.alloc (.cells #[.bool (f m).u,.int .i64 (f m).a,.int .i64 (f m).b,.int .i64 (f m).c] 69)).drew=w9 at HB9 a1 BG9 ⊢;generalize w8.heap.size=gs at a1 ⊢;have HC:∀ r,codeAt f (m:Int) b3 b4=r→Aside0 (codeAt f (m:Int) b3 b4=r):=fun r h=>⟨h⟩;have HF:codeAt f (m:Int) b3 b4=if (f m).u=true then (if (f m).b > b3 then 3 else if (f m).b=b3 then seqCode b4 (f m).c else seqCode b4 0) else seqCode b4 0:=by
   unfold codeAt;rw [if_neg (by omega),Int.toNat_natCast]
  clear HC;obtain ⟨r,a3⟩:∃ r,r=codeAt f (m:Int) b3 b4:=⟨_,rfl⟩;rw [← a3] at HF;have a0:=zzm a3;clear a3;obtain ⟨x,hx⟩:∃ x,x=f m:=⟨_,rfl⟩;rw [← hx] at a1 HF;try rw [← hx]
  clear hx;obtain ⟨u,a,b,c⟩:=x;have HF':=zzm HF;clear HF;have d0:w9.cell? ⟨gs,0,none⟩=some (.bool u):=(zzk a1.out 0).trans rfl;have d2:w9.cell? ⟨gs,2,none⟩=some (.int .i64 b):=(zzk a1.out 2).trans rfl;have d3:w9.cell? ⟨gs,3,none⟩=some (.int .i64 c):=(zzk a1.out 3).trans rfl;have e3:w9.cell? ⟨gb,3,none⟩=some (.int .i64 b3):=(zzk BG9.out 3).trans rfl;have e4:w9.cell? ⟨gb,4,none⟩=some (.int .i64 b4):=(zzk BG9.out 4).trans rfl;have fin:∀ n:Int,seqCode b4 n=if b4 < n then 1 else if b4 > n then 2 else 0:=fun n=>rfl;cases u with
  | false=>
   have hr:r=if b4 < 0 then 1 else if b4 > 0 then 2 else 0:=by have:=HF'.out;simpa [seqCode] using this
   have HR:=zzm hr;clear hr HF' fin;rcases Int.lt_trichotomy b4 0 with h|h|h
   ·
    have HE:=zzm (show r=1 by have:=HR.out;rw [if_pos h] at this;exact this);go_wp2;go_ret;exact ⟨by rw [← a0.out,HE.out];rfl,HB9.out⟩
   ·
    subst h;have HE:=zzm (show r=0 by have:=HR.out;simpa using this);go_wp2;go_ret;exact ⟨by rw [← a0.out,HE.out];rfl,HB9.out⟩
   ·
    have HE:=zzm (show r=2 by have:=HR.out;rw [if_neg (by omega),if_pos h] at this;exact this);have h1:decide (b4 < 0)=false:=by simp;omega
    have h2:decide (0 < b4)=true:=by simp;omega
    go_wp2;go_ret;exact ⟨by rw [← a0.out,HE.out];rfl,HB9.out⟩
  | true=>
   by_cases hgt:b3 < b
   ·
    have HE:=zzm (show r=3 by have:=HF'.out;simpa [hgt] using this);clear HF' fin;go_wp2;go_ret;exact ⟨by rw [← a0.out,HE.out];rfl,HB9.out⟩
   ·
    have hgt' : decide (b3 < b)=false:=by simp;omega
    by_cases heq:b=b3
    ·
     subst heq;have hr:r=if b4 < c then 1 else if b4 > c then 2 else 0:=by have:=HF'.out;simpa [seqCode] using this
     have HR:=zzm hr;clear hr HF' fin hgt hgt';rcases Int.lt_trichotomy b4 c with h|h|h
     ·
      have HE:=zzm (show r=1 by have:=HR.out;rw [if_pos h] at this;exact this);go_wp2;go_ret;exact ⟨by rw [← a0.out,HE.out];rfl,HB9.out⟩
     ·
      subst h;have HE:=zzm (show r=0 by have:=HR.out;simpa using this);go_wp2;go_ret;exact ⟨by rw [← a0.out,HE.out];rfl,HB9.out⟩
     ·
      have HE:=zzm (show r=2 by have:=HR.out;rw [if_neg (by omega),if_pos h] at this;exact this);have h1:decide (b4 < c)=false:=by simp;omega
      have h2:decide (c < b4)=true:=by simp;omega
      go_wp2;go_ret;exact ⟨by rw [← a0.out,HE.out];rfl,HB9.out⟩
    ·
     have heq' : (b==b3)=false:=by simpa using heq
     have hr:r=if b4 < 0 then 1 else if b4 > 0 then 2 else 0:=by have:=HF'.out;simpa [seqCode,hgt,heq] using this
     have HR:=zzm hr;clear hr HF' fin heq;rcases Int.lt_trichotomy b4 0 with h|h|h
     ·
      have HE:=zzm (show r=1 by have:=HR.out;rw [if_pos h] at this;exact this);go_wp2;go_ret;exact ⟨by rw [← a0.out,HE.out];rfl,HB9.out⟩
     ·
      subst h;have HE:=zzm (show r=0 by have:=HR.out;simpa using this);go_wp2;go_ret;exact ⟨by rw [← a0.out,HE.out];rfl,HB9.out⟩
     ·
      have HE:=zzm (show r=2 by have:=HR.out;rw [if_neg (by omega),if_pos h] at this;exact this);have h1:decide (b4 < 0)=false:=by simp;omega
      have h2:decide (0 < b4)=true:=by simp;omega
      go_wp2;go_ret;exact ⟨by rw [← a0.out,HE.out];rfl,HB9.out⟩
def slotList (f:Nat→SlotV) (n:Nat):List S67:=(List.range n).filterMap fun i=>if (f i).u=true then some ⟨(f i).a,(f i).b,(f i).c⟩ else none
theorem slotList_no (f:Nat→SlotV) (n:Nat) (h:(f n).u=false):slotList f (n+1)=slotList f n:=by
 simp [slotList,List.range_succ,List.filterMap_append,h]
theorem slotList_yes (f:Nat→SlotV) (n:Nat) (h:(f n).u=true):slotList f (n+1)=slotList f n ++ [⟨(f n).a,(f n).b,(f n).c⟩]:=by
 simp [slotList,List.range_succ,List.filterMap_append,h]
theorem slotList_len (f:Nat→SlotV) (n:Nat):(slotList f n).length≤n:=by
 have:=List.length_filterMap_le (fun i=>if (f i).u=true then some (⟨(f i).a,(f i).b,(f i).c⟩:S67) else none) (List.range n);rw [List.length_range] at this;exact this
set_option maxHeartbeats 8000000 in
theorem Rn.calls (g:Nat) (f:Nat→SlotV) (w:World) (hs:HasSlots w g f) :
  Calls Try.prog 35 #[.pointer (some ⟨g,0,none⟩)] w fun e w'=>∃ a5:Value,e = .returned a5∧Kd.R k67 67 w' w.heap.size (fun _=>True) a5 (slotList f 255)∧Below w.heap.size w w':=by
 have HS:=zzm hs;have HB:=zzm (Below.refl w.heap.size w);clear hs;obtain ⟨y,hy⟩:∃ y:List S67,y = []:=⟨_,rfl⟩;have Ny:=zzm hy;clear hy;go_enter Try.func35,Try.ntmps35;go_wp2_with ((with_reducible refine gate_dst (N:=6) rfl ?_);refine Kd.R_lit k67 _ 67 ?hg (N:=6) ?hd (xs:=([]:List (S67))) (inner:=[]) (ok:=fun _=>True) (okp:=fun _=>True) ?hr ?hp (fun _ hk=>hk) trivial (Below.refl _ _) (Nat.le_refl _) (by simp) ?_;(case hd=>rfl);(case hg=>rfl);(case hr=>first|(go_simp;done)|(go_simp;rfl));(case hp=>exact (Reps.none _ _));intro v1 w1 ho1 hb hg_ hnew_;clear hg_ hnew_;rw [← Ny.out] at ho1;have a6:=zzm (zzp HB.out hb);have a7:=zzm ho1;clear HB;have HB:=a6;have HO:=a7;clear a6 a7 hb ho1);go_loopw [3,9,5] (fun v i i5 W=>∃ k:Nat,k≤255∧i = .int .i64 k∧Aside0 (Kd.R k67 67 W w.heap.size (fun _=>True) v (slotList f k))∧Aside0 (Below w.heap.size w W)) (fun _ i _ _=>255 - (intOf i).toNat)
 case atStart=>exact ⟨0,Nat.zero_le _,rfl,⟨by rw [Ny.out] at HO;exact HO.out⟩,HB⟩
 case round=>
  obtain ⟨k,hk,rfl,HO,HB⟩:=hrel;by_cases hlt:k < 255
  ·
   obtain ⟨a8,a9,b0,b1⟩:=(HS.out.below HB.out).at_ k hlt;have HY:=zzm (slotList_yes f k);have HN:=zzm (slotList_no f k);obtain ⟨x,hx⟩:∃ x,x=f k:=⟨_,rfl⟩;rw [← hx] at a8 a9 b0 b1 HY HN;clear hx;obtain ⟨u,a,b,c⟩:=x;have hki:(k:Int) < 255:=by omega
   have hki0 : 0≤(k:Int):=by omega
   go_upto_region 5 with ((with_reducible refine gate_dst (N:=5) rfl ?_);refine box_event ?hg (N:=5) ?hd (cs:=#[.bool false,.int .i64 0,.int .i64 0,.int .i64 0]) (t:=69) ?hr ?_;(case hd=>rfl);(case hg=>rfl);(case hr=>first|(go_simp;done)|(go_simp;rfl));intro gb hg a1 hbox hb;have a3:=zzm (Kd.R_below (Kd.R_elderB HO.out gb (Nat.le_of_eq hg.symm)) hb);have HB13:=zzm (zzp HB.out hb);have BK:=zzm hbox;have GE:=zzm (show w.heap.size≤gb by rw [hg];exact HB.out.size);clear hb hbox hg;have b2:a1.cell? ⟨gb,0,none⟩=some (.bool false):=(zzk BK.out 0).trans rfl;have b3:a1.cell? ⟨gb,1,none⟩=some (.int .i64 0):=(zzk BK.out 1).trans rfl;have b4:a1.cell? ⟨gb,2,none⟩=some (.int .i64 0):=(zzk BK.out 2).trans rfl;have b5:a1.cell? ⟨gb,3,none⟩=some (.int .i64 0):=(zzk BK.out 3).trans rfl;have hf0:=zzl BK.out 0;have hf1:=zzl BK.out 1;have hf2:=zzl BK.out 2;have hf3:=zzl BK.out 3);have a0:=zzm (blk_set (blk_set (blk_set (blk_set BK.out 0 (.bool u)) 1 (.int .i64 a)) 2 (.int .i64 b)) 3 (.int .i64 c));have a4:=zzm (Kd.R_far (p:=⟨gb,3,none⟩) (Kd.R_far (p:=⟨gb,2,none⟩) (Kd.R_far (p:=⟨gb,1,none⟩) (Kd.R_far (p:=⟨gb,0,none⟩) a3.out (fun _ hk=>hk.2) (.bool u)) (fun _ hk=>hk.2) (.int .i64 a)) (fun _ hk=>hk.2) (.int .i64 b)) (fun _ hk=>hk.2) (.int .i64 c));have HB2:=zzm (zzd (zzd (zzd (zzd HB13.out GE.out (j:=0) (v:=.bool u)) GE.out (j:=1) (v:=.int .i64 a)) GE.out (j:=2) (v:=.int .i64 b)) GE.out (j:=3) (v:=.int .i64 c));clear b2 b3 b4 b5 hf0 hf1 hf2 hf3 BK a3 HB13 a8 a9 b0 b1;generalize (((a1.setCell ⟨gb,0,none⟩ (.bool u)).setCell ⟨gb,1,none⟩ (.int .i64 a)).setCell ⟨gb,2,none⟩ (.int .i64 b)).setCell ⟨gb,3,none⟩ (.int .i64 c)=a2 at a0 a4 HB2 ⊢;have d0:a2.cell? ⟨gb,0,none⟩=some (.bool u):=(zzk a0.out 0).trans rfl;have d1:a2.cell? ⟨gb,1,none⟩=some (.int .i64 a):=(zzk a0.out 1).trans rfl;have d2:a2.cell? ⟨gb,2,none⟩=some (.int .i64 b):=(zzk a0.out 2).trans rfl;have d3:a2.cell? ⟨gb,3,none⟩=some (.int .i64 c):=(zzk a0.out 3).trans rfl;have HL:=zzm (show (slotList f k).length < 255 by have:=slotList_len f k;omega);cases u with
   | false=>
    have HE:=zzm (HN.out rfl);clear HN HY;go_wp2;go_roundw
    case rel=>exact ⟨k+1,by omega,by go_num,⟨by rw [HE.out];exact Kd.R_mono a4.out (fun _ _=>trivial)⟩,HB2⟩
    case measure=>simp [intOf];omega
   | true=>
    have HE:=zzm (HY.out rfl);clear HN HY;go_wp2_with ((with_reducible refine gate_builtin (b:=.append) (xs:=#[.tmp 16,.tmp 19]) rfl ?_);at_builtin;refine Kd.R_append k67 (w0:=w) w.heap.size rfl (.tmp 16) (.tmp 19) 23 67 (.agg #[(.int .i64 0),(.int .i64 0),(.int .i64 0)]) 24 rfl Try.underlying23 info67 rfl (by decide) (by omega) u3 (slotList f k) (⟨a,b,c⟩:S67) [.int .i64 a,.int .i64 b,.int .i64 c] (fun k_=>k_≠gb) (fun _=>False) rfl (by first|(go_simp;done)|(go_simp;rfl)) ?aP (fun _ hk=>hk.elim) ?aF ?aO ?aB ?aS ?aL ?_;(case aP=>exact k67_mkM _ _ _ (⟨a,b,c⟩:S67));(case aB=>exact (by repeat (first|exact HB2.out|apply zza|apply zzc)));(case aF=>exact (fun k_ hk=>Kd.freshB (g:=gb) (zzE a0.out) k_ hk));(case aO=>exact (by (with_reducible repeat (first|apply Kd.R_alloc|apply Kd.R_drewN|apply Kd.R_drew));exact Kd.R_mono a4.out (fun _ hk=>hk.2)));(case aS=>exact (zzo (by repeat (first|exact HB2.out|apply zza|apply zzc))));(case aL=>have:=HL.out;omega);intro b7 b8 ho hb hg hat;rw [← HE.out] at ho;have b6:=zzm ho;have HB3:=zzm hb;clear ho hb hg hat);go_roundw
    case rel=>exact ⟨k+1,by omega,by go_num,⟨Kd.R_mono b6.out (fun _ _=>trivial)⟩,HB3⟩
    case measure=>simp [intOf];omega
  ·
   have hk2:k=255:=by omega
   subst hk2;go_wp2;go_ret;exact ⟨_,rfl,HO.out,HB.out⟩
def idsOk (l:List S67):Bool:=l.all fun t=>decide (0≤t.f0∧t.f0 < 255)
theorem idsOk_at {l:List S67} (h:idsOk l=true) (j:Nat) (hj:j < l.length) : 0≤(Qd l (j:Int)).f0∧(Qd l (j:Int)).f0 < 255:=by
 have h1:=List.all_eq_true.mp h _ (List.getElem_mem hj);have h2:Qd l (j:Int)=l[j]:=by simp [Qd,List.getD_eq_getElem?_getD,List.getElem?_eq_getElem hj]
 rw [h2];simpa using h1
def prodOk (l:List S67) (p:Int):Bool:=idsOk l&&decide (0≤p∧p≤255)
theorem prodOk_at {l:List S67} {p:Int} (h:prodOk l p=true):idsOk l=true∧0≤p∧p≤255:=by
 simpa [prodOk] using h
def Rg.f (k:Nat) (l0:List S67) (a1_0:Bool) (a1_1:Bool) (a1_2:Int) (a1_3:Int) (a1_4:Int) (l1_5:List S75):Option Int:=(Qq.f k l0).bind fun t1=>(if t1=true then ((Qe.f k a1_0 a1_1 a1_2 a1_3 a1_4 l1_5).bind fun t2=>(if t2=true then (if prodOk l0 a1_2=true then some (codeAt (slotFn l0) a1_2 a1_3 a1_4) else none) else some 5)) else some 5)
set_option maxHeartbeats 8000000 in
theorem Rg.calls (k:Nat) (A0:Option Addr) (c0:Nat) (l0:List (S67)) (a5:Bool) (a6:Bool) (a0:Int) (a2:Int) (a3:Int) (a7:Option Addr) (a8:Nat) (a1:List (S75)) (r:Int) (w:World) (b9:Kd.C k67 w A0 l0.length l0) (c1:l0.length≤c0) (b3:Kd.C k75 w a7 a1.length a1) (b4:a1.length≤a8) (h:Rg.f k l0 a5 a6 a0 a2 a3 a1=some r) :
  Calls Try.prog 11 #[.slice A0 l0.length c0,.agg #[.bool a5,.bool a6,.int .i64 a0,.int .i64 a2,.int .i64 a3,.slice a7 a1.length a8]] w fun e w'=>e = .returned (.int .i64 r)∧Below w.heap.size w w':=by
 have b5:=zzm b9;have b8:=zzm c1;clear b9 c1;have b6:=zzm b3;have b7:=zzm b4;clear b3 b4;have HB:=zzm (Below.refl w.heap.size w);unfold Rg.f at h;replace h:=Option.bind_eq_some_iff.mp h;obtain ⟨t1,c2,h⟩:=h;have A3:=zzm c2;clear c2;cases t1 with
 | false=>
  have hr:r=5:=by simpa using h.symm
  have HE:=zzm hr;clear hr h;go_enter Try.func11,Try.ntmps11;go_wp2_with (first|((with_reducible refine gate_dst (N:=3) rfl ?_);refine box_event ?hg (N:=3) ?hd (cs:=#[.bool a5,.bool a6,.int .i64 a0,.int .i64 a2,.int .i64 a3,.slice a7 a1.length a8]) (t:=26) ?hr ?_;(case hd=>rfl);(case hg=>rfl);(case hr=>first|(go_simp;done)|(go_simp;rfl));intro gb hg w8 hbox hb;have HB1:=zzm (zzp HB.out hb);clear hb hbox hg)|((with_reducible refine gate_callee (f:=32) rfl ?_);refine goesL_ (some 6) rfl rfl Try.func32 (by kernel_rfl) rfl #[.slice A0 l0.length c0] rfl zzM2 ?_;(with_reducible refine (Qq.calls k _ _ l0 false _ ?side1 ?side2 A3.out).mono ?_);(case side1=>exact Kd.C_below b5.out HB1.out);(case side2=>exact b8.out);rintro e w9 ⟨rfl,hb⟩;refine ⟨_,rfl,?_⟩;have HB2:=zzm (zzp HB1.out hb);clear hb));go_ret;exact ⟨by rw [HE.out];rfl,HB2.out⟩
 | true=>
  rw [if_pos rfl] at h;replace h:=Option.bind_eq_some_iff.mp h;obtain ⟨t2,c3,h⟩:=h;have A5:=zzm c3;clear c3;cases t2 with
  | false=>
   have hr:r=5:=by simpa using h.symm
   have HE:=zzm hr;clear hr h;go_enter Try.func11,Try.ntmps11;go_wp2_with (first|((with_reducible refine gate_dst (N:=3) rfl ?_);refine box_event ?hg (N:=3) ?hd (cs:=#[.bool a5,.bool a6,.int .i64 a0,.int .i64 a2,.int .i64 a3,.slice a7 a1.length a8]) (t:=26) ?hr ?_;(case hd=>rfl);(case hg=>rfl);(case hr=>first|(go_simp;done)|(go_simp;rfl));intro gb hg w8 hbox hb;have HB1:=zzm (zzp HB.out hb);have BK:=zzm hbox;clear hb hbox hg)|((with_reducible refine gate_callee (f:=32) rfl ?_);refine goesL_ (some 6) rfl rfl Try.func32 (by kernel_rfl) rfl #[.slice A0 l0.length c0] rfl zzM2 ?_;(with_reducible refine (Qq.calls k _ _ l0 true _ ?side1 ?side2 A3.out).mono ?_);(case side1=>exact Kd.C_below b5.out HB1.out);(case side2=>exact b8.out);rintro e w9 ⟨rfl,hb⟩;refine ⟨_,rfl,?_⟩;have HB2:=zzm (zzp HB1.out hb);have a4:=zzm (zzh BK.out hb);clear hb;have z0:=(zzk a4.out 0).trans rfl;have z1:=(zzk a4.out 1).trans rfl;have z2:=(zzk a4.out 2).trans rfl;have z3:=(zzk a4.out 3).trans rfl;have z4:=(zzk a4.out 4).trans rfl;have z5:=(zzk a4.out 5).trans rfl)|(go_at_call 10;(with_reducible refine (Qe.calls k a5 a6 a0 a2 a3 _ _ a1 false _ ?side1 ?side2 A5.out).mono ?_);(case side1=>exact Kd.C_below b6.out HB2.out);(case side2=>exact b7.out);rintro e c4 ⟨rfl,hb⟩;have HB3:=zzm (zzp HB2.out hb);clear hb));go_ret;exact ⟨by rw [HE.out];rfl,HB3.out⟩
  | true=>
   rw [if_pos rfl] at h;by_cases hok:prodOk l0 a0=true
   ·
    rw [if_pos hok] at h;obtain ⟨hids,hp0,hp1⟩:=prodOk_at hok;have hr:r=codeAt (slotFn l0) a0 a2 a3:=(Option.some.inj h).symm;have HE:=zzm hr;have HI:=zzm hids;have HP0:=zzm hp0;have HP1:=zzm hp1;clear hr h hok hids hp0 hp1;go_enter Try.func11,Try.ntmps11;go_wp2_with (first|((with_reducible refine gate_dst (N:=3) rfl ?_);refine box_event ?hg (N:=3) ?hd (cs:=#[.bool a5,.bool a6,.int .i64 a0,.int .i64 a2,.int .i64 a3,.slice a7 a1.length a8]) (t:=26) ?hr ?_;(case hd=>rfl);(case hg=>rfl);(case hr=>first|(go_simp;done)|(go_simp;rfl));intro gb hg w8 hbox hb;have HB1:=zzm (zzp HB.out hb);have BK:=zzm hbox;clear hb hbox hg)|((with_reducible refine gate_callee (f:=32) rfl ?_);refine goesL_ (some 6) rfl rfl Try.func32 (by kernel_rfl) rfl #[.slice A0 l0.length c0] rfl zzM2 ?_;(with_reducible refine (Qq.calls k _ _ l0 true _ ?side1 ?side2 A3.out).mono ?_);(case side1=>exact Kd.C_below b5.out HB1.out);(case side2=>exact b8.out);rintro e w9 ⟨rfl,hb⟩;refine ⟨_,rfl,?_⟩;have HB2:=zzm (zzp HB1.out hb);have a4:=zzm (zzh BK.out hb);clear hb;have z0:=(zzk a4.out 0).trans rfl;have z1:=(zzk a4.out 1).trans rfl;have z2:=(zzk a4.out 2).trans rfl;have z3:=(zzk a4.out 3).trans rfl;have z4:=(zzk a4.out 4).trans rfl;have z5:=(zzk a4.out 5).trans rfl)|(go_at_call 10;(with_reducible refine (Qe.calls k a5 a6 a0 a2 a3 _ _ a1 true _ ?side1 ?side2 A5.out).mono ?_);(case side1=>exact Kd.C_below b6.out HB2.out);(case side2=>exact b7.out);rintro e c4 ⟨rfl,hb⟩;have HB3:=zzm (zzp HB2.out hb);have a9:=zzm (zzh a4.out hb);clear hb z0 z1 z2 z3 z4 z5));refine start_ (n:=5) (S:=fun w'=>w'.cell? ⟨gb,0,none⟩=some (.bool a5)∧w'.cell? ⟨gb,1,none⟩=some (.bool a6)∧w'.cell? ⟨gb,2,none⟩=some (.int .i64 a0)∧w'.cell? ⟨gb,3,none⟩=some (.int .i64 a2)∧w'.cell? ⟨gb,4,none⟩=some (.int .i64 a3)∧w'.cell? ⟨gb,5,none⟩=some (.slice a7 a1.length a8)) (ds:=[]) (zzB 5 0) (by kernel_rfl) rfl rfl ⟨(zzk (zzg a9.out) 0).trans rfl,(zzk (zzg a9.out) 1).trans rfl,(zzk (zzg a9.out) 2).trans rfl,(zzk (zzg a9.out) 3).trans rfl,(zzk (zzg a9.out) 4).trans rfl,(zzk (zzg a9.out) 5).trans rfl⟩ (fun b0=>?_);have HB4:=zzm (zzc HB3.out);have c5:=zzm (zzg a9.out);clear HB3 a9;generalize c4.drew=c7 at HB4 c5 b0 ⊢;refine pure_ (i:=0) (N:=some 13) (v:=?_) (a':=?_) (zzB 5 1) rfl rfl (by kernel_rfl) (fun _ _ _ h=>h) (Or.inl ⟨by rfl,?_⟩) ?_ ?_;rotate_left
    ·
     intro w';go_simp;with_reducible rfl
    rotate_left
    ·
     simp only [zzJ];rfl
    refine take_ (i:=2) (N:=some 15) (v:=?_) (a':=?_) (zzB 5 5) rfl rfl (by kernel_rfl) (fun _ _ _ h=>h) (Or.inl ⟨by rfl,?_⟩) b0 ?_ ?_;rotate_left
    ·
     rintro w' ⟨s0,s1,s2,s3,s4,s5⟩;go_simp;with_reducible rfl
    rotate_left
    ·
     simp only [zzJ];rfl
    refine one_ (i:=1) (N:=some 14) (zzB 5 7) rfl rfl (by kernel_rfl) (by decide) (fun K hK=>?_);refine goes_ Try.func33 (by kernel_rfl) rfl #[.slice A0 l0.length c0] (by rfl) rfl rfl zzM2 ?_;with_reducible refine (impl_slotsOf.calls _ _ l0 _ ?side1 ?side2).mono ?_
    (case side1=>exact Kd.C_below b5.out HB4.out)
    (case side2=>exact fun j hj=>idsOk_at HI.out j hj);rintro e c8 ⟨g,rfl,hge,hs,hb⟩;refine ⟨_,rfl,?_⟩;have HB5:=zzm (zzp HB4.out hb);have b1:=zzm (zzh c5.out hb);have HS5:=zzm hs;clear hb hge hs;refine hK.out _ _ ⟨(zzk b1.out 0).trans rfl,(zzk b1.out 1).trans rfl,(zzk b1.out 2).trans rfl,(zzk b1.out 3).trans rfl,(zzk b1.out 4).trans rfl,(zzk b1.out 5).trans rfl⟩ (fun b0=>?_);clear hK K;refine zzO 14 ?_
    refine one_ (i:=3) (N:=some 16) (zzB 5 15) rfl rfl (by kernel_rfl) (by decide) (fun K hK=>?_);refine goes_ Try.func34 (by kernel_rfl) rfl #[.pointer (some ⟨g,0,none⟩),.agg #[.bool a5,.bool a6,.int .i64 a0,.int .i64 a2,.int .i64 a3,.slice a7 a1.length a8]] (by rfl) rfl rfl zzM2 ?_;with_reducible refine (Rm.calls g _ a5 a6 a0 a2 a3 _ rfl _ HS5.out HP0.out HP1.out).mono ?_;rintro e c9 ⟨rfl,hb⟩;refine ⟨_,rfl,?_⟩;have HB6:=zzm (zzp HB5.out hb);have b2:=zzm (zzh b1.out hb);clear hb;refine hK.out _ _ ⟨(zzk b2.out 0).trans rfl,(zzk b2.out 1).trans rfl,(zzk b2.out 2).trans rfl,(zzk b2.out 3).trans rfl,(zzk b2.out 4).trans rfl,(zzk b2.out 5).trans rfl⟩ (fun b0=>?_);clear hK K;refine zzO 16 ?_
    refine pure_ (i:=4) (N:=some 4) (v:=?_) (a':=?_) (zzB 5 31) rfl rfl (by kernel_rfl) (fun _ _ _ h=>h) (Or.inl ⟨by rfl,?_⟩) ?_ ?_;rotate_left
    ·
     intro w';go_simp;with_reducible rfl
    rotate_left
    ·
     simp only [zzJ];rfl
    refine done_ (by kernel_rfl) ?_;try go_wp2
    go_ret;exact ⟨by rw [HE.out];rfl,HB6.out⟩
   ·
    rw [if_neg hok] at h;cases h
def slotSet (f:Nat→SlotV) (p e n:Int):Nat→SlotV:=fun k=>if k=p.toNat then ⟨true,p,e,n⟩ else f k
def putSlots (l0:List S67) (p e s n:Int):Nat→SlotV:=if codeAt (slotFn l0) p e s=0 then slotSet (slotFn l0) p e (wrap64 (s+n)) else slotFn l0
def Qz.f (k:Nat) (l0:List S67) (a1_0:Bool) (a1_1:Bool) (a1_2:Int) (a1_3:Int) (a1_4:Int) (l1_5:List S75):Option (List (S67)×Int):=(Qq.f k l0).bind fun t1=>(if t1=true then ((Qe.f k a1_0 a1_1 a1_2 a1_3 a1_4 l1_5).bind fun t2=>(if t2=true then (if prodOk l0 a1_2=true then ((Qq.f k (slotList (putSlots l0 a1_2 a1_3 a1_4 (l1_5.length:Int)) 255)).bind fun t3=>(if t3=true then some (slotList (putSlots l0 a1_2 a1_3 a1_4 (l1_5.length:Int)) 255,codeAt (slotFn l0) a1_2 a1_3 a1_4) else some ([],5))) else none) else some ([],5))) else some ([],5))
theorem codeAt_zero {f:Nat→SlotV} {p e s:Int} (h:codeAt f p e s=0):p≠255:=by
 rintro rfl;have h2:codeAt f 255 e s=4:=by unfold codeAt;rw [if_pos rfl]
 rw [h2] at h;omega
set_option maxHeartbeats 8000000 in
theorem Qz.calls (k:Nat) (A0:Option Addr) (c0:Nat) (l0:List (S67)) (a5:Bool) (a6:Bool) (a4:Int) (a1:Int) (a2:Int) (a8:Option Addr) (a9:Nat) (a3:List (S75)) (r1:List (S67)) (r2:Int) (w:World) (c7:Kd.C k67 w A0 l0.length l0) (c8:l0.length≤c0) (b7:Kd.C k75 w a8 a3.length a3) (c1:a3.length≤a9) (h:Qz.f k l0 a5 a6 a4 a1 a2 a3=some (r1,r2)) :
  Calls Try.prog 7 #[.slice A0 l0.length c0,.agg #[.bool a5,.bool a6,.int .i64 a4,.int .i64 a1,.int .i64 a2,.slice a8 a3.length a9]] w fun e w'=>∃ c9:Value,e = .returned (.tuple #[c9,.int .i64 r2])∧Kd.R k67 67 w' w.heap.size (fun _=>True) c9 r1∧Below w.heap.size w w':=by
 have b3:=zzm c7;have b8:=zzm c8;clear c7 c8;have b4:=zzm b7;have b5:=zzm c1;have HM:=zzm (show a3.length≤9223372036854775807 from b7.2.1);clear b7 c1;have HB:=zzm (Below.refl w.heap.size w);unfold Qz.f at h;replace h:=Option.bind_eq_some_iff.mp h;obtain ⟨t1,d0,h⟩:=h;have A3:=zzm d0;clear d0;cases t1 with
 | false=>
  obtain ⟨rfl,rfl⟩:r1 = []∧r2=5:=by simpa [eq_comm] using h
  clear h;go_enter Try.func7,Try.ntmps7;go_wp2_with (first|((with_reducible refine gate_dst (N:=3) rfl ?_);refine box_event ?hg (N:=3) ?hd (cs:=#[.bool a5,.bool a6,.int .i64 a4,.int .i64 a1,.int .i64 a2,.slice a8 a3.length a9]) (t:=26) ?hr ?_;(case hd=>rfl);(case hg=>rfl);(case hr=>first|(go_simp;done)|(go_simp;rfl));intro gb hg w8 hbox hb;have HB1:=zzm (zzp HB.out hb);have BK:=zzm hbox;have GE:=zzm (show w.heap.size≤gb from Nat.le_of_eq hg.symm);clear hb hbox hg)|((with_reducible refine gate_callee (f:=32) rfl ?_);refine goesL_ (some 10) rfl rfl Try.func32 (by kernel_rfl) rfl #[.slice A0 l0.length c0] rfl zzM2 ?_;(with_reducible refine (Qq.calls k _ _ l0 false _ ?side1 ?side2 A3.out).mono ?_);(case side1=>exact Kd.C_below b3.out HB1.out);(case side2=>exact b8.out);rintro e w9 ⟨rfl,hb⟩;refine ⟨_,rfl,?_⟩;have HB2:=zzm (zzp HB1.out hb);have a0:=zzm (zzh BK.out hb);clear hb;have z0:=(zzk a0.out 0).trans rfl;have z1:=(zzk a0.out 1).trans rfl;have z2:=(zzk a0.out 2).trans rfl;have z3:=(zzk a0.out 3).trans rfl;have z4:=(zzk a0.out 4).trans rfl;have z5:=(zzk a0.out 5).trans rfl));go_ret2;exact ⟨_,rfl,Kd.R_nil _ _ _ _ _,HB2.out⟩
 | true=>
  rw [if_pos rfl] at h;replace h:=Option.bind_eq_some_iff.mp h;obtain ⟨t2,d1,h⟩:=h;have A5:=zzm d1;clear d1;cases t2 with
  | false=>
   obtain ⟨rfl,rfl⟩:r1 = []∧r2=5:=by simpa [eq_comm] using h
   clear h;go_enter Try.func7,Try.ntmps7;go_wp2_with (first|((with_reducible refine gate_dst (N:=3) rfl ?_);refine box_event ?hg (N:=3) ?hd (cs:=#[.bool a5,.bool a6,.int .i64 a4,.int .i64 a1,.int .i64 a2,.slice a8 a3.length a9]) (t:=26) ?hr ?_;(case hd=>rfl);(case hg=>rfl);(case hr=>first|(go_simp;done)|(go_simp;rfl));intro gb hg w8 hbox hb;have HB1:=zzm (zzp HB.out hb);have BK:=zzm hbox;have GE:=zzm (show w.heap.size≤gb from Nat.le_of_eq hg.symm);clear hb hbox hg)|((with_reducible refine gate_callee (f:=32) rfl ?_);refine goesL_ (some 10) rfl rfl Try.func32 (by kernel_rfl) rfl #[.slice A0 l0.length c0] rfl zzM2 ?_;(with_reducible refine (Qq.calls k _ _ l0 true _ ?side1 ?side2 A3.out).mono ?_);(case side1=>exact Kd.C_below b3.out HB1.out);(case side2=>exact b8.out);rintro e w9 ⟨rfl,hb⟩;refine ⟨_,rfl,?_⟩;have HB2:=zzm (zzp HB1.out hb);have a0:=zzm (zzh BK.out hb);clear hb;have z0:=(zzk a0.out 0).trans rfl;have z1:=(zzk a0.out 1).trans rfl;have z2:=(zzk a0.out 2).trans rfl;have z3:=(zzk a0.out 3).trans rfl;have z4:=(zzk a0.out 4).trans rfl;have z5:=(zzk a0.out 5).trans rfl)|(go_at_call 10;(with_reducible refine (Qe.calls k a5 a6 a4 a1 a2 _ _ a3 false _ ?side1 ?side2 A5.out).mono ?_);(case side1=>exact Kd.C_below b4.out HB2.out);(case side2=>exact b5.out);rintro e c2 ⟨rfl,hb⟩;have HB3:=zzm (zzp HB2.out hb);have b2:=zzm (zzh a0.out hb);clear hb z0 z1 z2 z3 z4 z5));go_ret2;exact ⟨_,rfl,Kd.R_nil _ _ _ _ _,HB3.out⟩
  | true=>
   rw [if_pos rfl] at h;by_cases hok:prodOk l0 a4=true
   ·
    rw [if_pos hok] at h;obtain ⟨hids,hp0,hp1⟩:=prodOk_at hok;replace h:=Option.bind_eq_some_iff.mp h;obtain ⟨t3,c3,h⟩:=h;obtain ⟨F,hF⟩:∃ F,F=putSlots l0 a4 a1 a2 (a3.length:Int):=⟨_,rfl⟩;rw [← hF] at c3 h;have A7:=zzm c3;clear c3;have HI:=zzm hids;have HP0:=zzm hp0;have HP1:=zzm hp1;clear hok hids hp0 hp1;obtain ⟨cd,hcd⟩:∃ cd,codeAt (slotFn l0) a4 a1 a2=cd:=⟨_,rfl⟩;rw [hcd] at h;have HE:=zzm hcd;by_cases hz:cd=0
    ·
     have hp255:=codeAt_zero (hcd.trans hz);rw [putSlots,if_pos (hcd.trans hz)] at hF;clear hcd;subst hz;have HF:=zzm hF;clear hF;obtain ⟨m,rfl⟩:∃ m:Nat,a4=(m:Int):=⟨a4.toNat,by have:=HP0.out;omega⟩;have hm2:m < 255:=by have:=HP1.out;omega
     have HH:=zzm h;clear h;go_enter Try.func7,Try.ntmps7;go_wp2_with (first|((with_reducible refine gate_dst (N:=3) rfl ?_);refine box_event ?hg (N:=3) ?hd (cs:=#[.bool a5,.bool a6,.int .i64 (m:Int),.int .i64 a1,.int .i64 a2,.slice a8 a3.length a9]) (t:=26) ?hr ?_;(case hd=>rfl);(case hg=>rfl);(case hr=>first|(go_simp;done)|(go_simp;rfl));intro gb hg w8 hbox hb;have HB1:=zzm (zzp HB.out hb);have BK:=zzm hbox;have GE:=zzm (show w.heap.size≤gb from Nat.le_of_eq hg.symm);clear hb hbox hg)|((with_reducible refine gate_callee (f:=32) rfl ?_);refine goesL_ (some 10) rfl rfl Try.func32 (by kernel_rfl) rfl #[.slice A0 l0.length c0] rfl zzM2 ?_;(with_reducible refine (Qq.calls k _ _ l0 true _ ?side1 ?side2 A3.out).mono ?_);(case side1=>exact Kd.C_below b3.out HB1.out);(case side2=>exact b8.out);rintro e w9 ⟨rfl,hb⟩;refine ⟨_,rfl,?_⟩;have HB2:=zzm (zzp HB1.out hb);have a0:=zzm (zzh BK.out hb);clear hb;have z0:=(zzk a0.out 0).trans rfl;have z1:=(zzk a0.out 1).trans rfl;have z2:=(zzk a0.out 2).trans rfl;have z3:=(zzk a0.out 3).trans rfl;have z4:=(zzk a0.out 4).trans rfl;have z5:=(zzk a0.out 5).trans rfl)|(go_at_call 10;(with_reducible refine (Qe.calls k a5 a6 (m:Int) a1 a2 _ _ a3 true _ ?side1 ?side2 A5.out).mono ?_);(case side1=>exact Kd.C_below b4.out HB2.out);(case side2=>exact b5.out);rintro e c2 ⟨rfl,hb⟩;have HB3:=zzm (zzp HB2.out hb);have b2:=zzm (zzh a0.out hb);clear hb z0 z1 z2 z3 z4 z5)|((with_reducible refine gate_callee (f:=33) rfl ?_);refine goesL_ (some 18) rfl rfl Try.func33 (by kernel_rfl) rfl #[.slice A0 l0.length c0] rfl zzM2 ?_;(with_reducible refine (impl_slotsOf.calls _ _ l0 _ ?side1 ?side2).mono ?_);(case side1=>exact Kd.C_below b3.out HB3.out);(case side2=>exact fun j hj=>idsOk_at HI.out j hj);rintro e d2 ⟨g,rfl,hge,hs,hb⟩;refine ⟨_,rfl,?_⟩;have HG:=zzm (Nat.le_trans HB3.out.size hge);have HB4:=zzm (zzp HB3.out hb);have NE:=zzm (show g≠gb by have:=blk_lt b2.out;omega);have a7:=zzm (zzh b2.out hb);have HS4:=zzm hs;clear hb hge hs;have z0:=(zzk a7.out 0).trans rfl;have z1:=(zzk a7.out 1).trans rfl;have z2:=(zzk a7.out 2).trans rfl;have z3:=(zzk a7.out 3).trans rfl;have z4:=(zzk a7.out 4).trans rfl;have z5:=(zzk a7.out 5).trans rfl)|((with_reducible refine gate_callee (f:=34) rfl ?_);refine goesL_ (some 21) rfl rfl Try.func34 (by kernel_rfl) rfl #[.pointer (some ⟨g,0,none⟩),.agg #[.bool a5,.bool a6,.int .i64 (m:Int),.int .i64 a1,.int .i64 a2,.slice a8 a3.length a9]] rfl zzM2 ?_;(with_reducible refine (Rm.calls g _ a5 a6 (m:Int) a1 a2 _ rfl _ HS4.out HP0.out HP1.out).mono ?_);rintro e b1 ⟨rfl,hb⟩;refine ⟨_,rfl,?_⟩;have HB5:=zzm (zzp HB4.out hb);have b6:=zzm (zzh a7.out hb);have HS5:=zzm (HS4.out.below hb);clear hb z0 z1 z2 z3 z4 z5;try rw [HE.out]));have y2:b1.cell? ⟨gb,2,none⟩=some (.int .i64 (m:Int)):=(zzk b6.out 2).trans rfl;have y3:b1.cell? ⟨gb,3,none⟩=some (.int .i64 a1):=(zzk b6.out 3).trans rfl;have y4:b1.cell? ⟨gb,4,none⟩=some (.int .i64 a2):=(zzk b6.out 4).trans rfl;have y5:b1.cell? ⟨gb,5,none⟩=some (.slice a8 a3.length a9):=(zzk b6.out 5).trans rfl;have fz:∀ j,b1.frozen? ⟨g,j,none⟩=false:=HS5.out.free;have fz0:=fz (m * 4);have fz1:=fz (m * 4+1);have fz2:=fz (m * 4+2);have fz3:=fz (m * 4+3);clear fz;obtain ⟨vz0,hz0⟩:∃ v,b1.cell? ⟨g,m * 4,none⟩=some v:=⟨_,(HS5.out.at_ m hm2).1⟩;obtain ⟨vz1,hz1⟩:∃ v,b1.cell? ⟨g,m * 4+1,none⟩=some v:=⟨_,(HS5.out.at_ m hm2).2.1⟩;obtain ⟨vz2,hz2⟩:∃ v,b1.cell? ⟨g,m * 4+2,none⟩=some v:=⟨_,(HS5.out.at_ m hm2).2.2.1⟩;obtain ⟨vz3,hz3⟩:∃ v,b1.cell? ⟨g,m * 4+3,none⟩=some v:=⟨_,(HS5.out.at_ m hm2).2.2.2⟩;have hmi:(m:Int) < 255:=by omega
     have hmi0 : 0≤(m:Int):=by omega
     go_region;have heq:F=fun k'=>if k' = m then ⟨true,(m:Int),a1,wrap64 (a2+(a3.length:Int))⟩ else slotFn l0 k':=by
      rw [HF.out];funext k';simp only [slotSet,Int.toNat_natCast]
     have hsf:=HasSlots.drew (HS5.out.put m hm2 true (m:Int) a1 (wrap64 (a2+(a3.length:Int))));rw [← heq] at hsf;have HS6:=zzm hsf;have HB6:=zzm (zzc (zzd (zzd (zzd (zzd HB5.out HG.out (j:=m * 4) (v:=.bool true)) HG.out (j:=m * 4+1) (v:=.int .i64 (m:Int))) HG.out (j:=m * 4+2) (v:=.int .i64 a1)) HG.out (j:=m * 4+3) (v:=.int .i64 (wrap64 (a2+(a3.length:Int))))));clear hsf heq hz0 hz1 hz2 hz3 fz0 fz1 fz2 fz3 y2 y3 y4 y5 HS5 HB5 b6;generalize ((((b1.setCell ⟨g,m * 4,none⟩ (.bool true)).setCell ⟨g,m * 4+1,none⟩ (.int .i64 (m:Int))).setCell ⟨g,m * 4+2,none⟩ (.int .i64 a1)).setCell ⟨g,m * 4+3,none⟩ (.int .i64 (wrap64 (a2+(a3.length:Int))))).drew=d3 at HS6 HB6 ⊢;have h:=HH.out;cases t3 with
     | true=>
      obtain ⟨rfl,rfl⟩:r1=slotList F 255∧r2=0:=by simpa [eq_comm] using h
      clear h HH;go_wp2_with (first|((with_reducible refine gate_callee (f:=35) rfl ?_);refine goesL_ (some 42) rfl rfl Try.func35 (by kernel_rfl) rfl #[.pointer (some ⟨g,0,none⟩)] rfl zzM2 ?_;(with_reducible refine (Rn.calls g _ _ HS6.out).mono ?_);rintro e c4 ⟨v0,rfl,ho,hb⟩;refine ⟨_,rfl,?_⟩;obtain ⟨Ao,co,eo⟩:=Kd.R_slice ho;subst eo;have HB7:=zzm (zzp HB6.out hb);have b0:=zzm (Kd.R_lower ho HB6.out.size);clear hb ho)|((with_reducible refine gate_callee (f:=32) rfl ?_);refine goesL_ (some 44) rfl rfl Try.func32 (by kernel_rfl) rfl #[.slice Ao (slotList F 255).length co] rfl zzM2 ?_;(with_reducible refine (Qq.calls k _ _ (slotList F 255) true _ ?side1 ?side2 A7.out).mono ?_);(case side1=>exact (Kd.R_reads' b0.out).2.2);(case side2=>exact (Kd.R_reads' b0.out).2.1);rintro e c5 ⟨rfl,hb⟩;refine ⟨_,rfl,?_⟩;have HB8:=zzm (zzp HB7.out hb);have b9:=zzm (Kd.R_below b0.out hb);clear hb));go_ret2;exact ⟨_,rfl,b9.out,HB8.out⟩
     | false=>
      obtain ⟨rfl,rfl⟩:r1 = []∧r2=5:=by simpa [eq_comm] using h
      clear h HH;go_wp2_with (first|((with_reducible refine gate_callee (f:=35) rfl ?_);refine goesL_ (some 42) rfl rfl Try.func35 (by kernel_rfl) rfl #[.pointer (some ⟨g,0,none⟩)] rfl zzM2 ?_;(with_reducible refine (Rn.calls g _ _ HS6.out).mono ?_);rintro e c4 ⟨v0,rfl,ho,hb⟩;refine ⟨_,rfl,?_⟩;obtain ⟨Ao,co,eo⟩:=Kd.R_slice ho;subst eo;have HB7:=zzm (zzp HB6.out hb);have b0:=zzm (Kd.R_lower ho HB6.out.size);clear hb ho)|((with_reducible refine gate_callee (f:=32) rfl ?_);refine goesL_ (some 44) rfl rfl Try.func32 (by kernel_rfl) rfl #[.slice Ao (slotList F 255).length co] rfl zzM2 ?_;(with_reducible refine (Qq.calls k _ _ (slotList F 255) false _ ?side1 ?side2 A7.out).mono ?_);(case side1=>exact (Kd.R_reads' b0.out).2.2);(case side2=>exact (Kd.R_reads' b0.out).2.1);rintro e c5 ⟨rfl,hb⟩;refine ⟨_,rfl,?_⟩;have HB8:=zzm (zzp HB7.out hb);have b9:=zzm (Kd.R_below b0.out hb);clear hb));go_ret2;exact ⟨_,rfl,Kd.R_nil _ _ _ _ _,HB8.out⟩
    ·
     rw [putSlots,if_neg (by rw [hcd];exact hz)] at hF;clear hcd;have HF:=zzm hF;clear hF;have hne:(cd==0)=false:=by simpa using hz
     clear hz;cases t3 with
     | true=>
      obtain ⟨rfl,rfl⟩:r1=slotList F 255∧r2=cd:=by simpa [eq_comm] using h
      clear h;go_enter Try.func7,Try.ntmps7;go_wp2_with (first|((with_reducible refine gate_dst (N:=3) rfl ?_);refine box_event ?hg (N:=3) ?hd (cs:=#[.bool a5,.bool a6,.int .i64 a4,.int .i64 a1,.int .i64 a2,.slice a8 a3.length a9]) (t:=26) ?hr ?_;(case hd=>rfl);(case hg=>rfl);(case hr=>first|(go_simp;done)|(go_simp;rfl));intro gb hg w8 hbox hb;have HB1:=zzm (zzp HB.out hb);have BK:=zzm hbox;have GE:=zzm (show w.heap.size≤gb from Nat.le_of_eq hg.symm);clear hb hbox hg)|((with_reducible refine gate_callee (f:=32) rfl ?_);refine goesL_ (some 10) rfl rfl Try.func32 (by kernel_rfl) rfl #[.slice A0 l0.length c0] rfl zzM2 ?_;(with_reducible refine (Qq.calls k _ _ l0 true _ ?side1 ?side2 A3.out).mono ?_);(case side1=>exact Kd.C_below b3.out HB1.out);(case side2=>exact b8.out);rintro e w9 ⟨rfl,hb⟩;refine ⟨_,rfl,?_⟩;have HB2:=zzm (zzp HB1.out hb);have a0:=zzm (zzh BK.out hb);clear hb;have z0:=(zzk a0.out 0).trans rfl;have z1:=(zzk a0.out 1).trans rfl;have z2:=(zzk a0.out 2).trans rfl;have z3:=(zzk a0.out 3).trans rfl;have z4:=(zzk a0.out 4).trans rfl;have z5:=(zzk a0.out 5).trans rfl)|(go_at_call 10;(with_reducible refine (Qe.calls k a5 a6 a4 a1 a2 _ _ a3 true _ ?side1 ?side2 A5.out).mono ?_);(case side1=>exact Kd.C_below b4.out HB2.out);(case side2=>exact b5.out);rintro e c2 ⟨rfl,hb⟩;have HB3:=zzm (zzp HB2.out hb);have b2:=zzm (zzh a0.out hb);clear hb z0 z1 z2 z3 z4 z5)|((with_reducible refine gate_callee (f:=33) rfl ?_);refine goesL_ (some 18) rfl rfl Try.func33 (by kernel_rfl) rfl #[.slice A0 l0.length c0] rfl zzM2 ?_;(with_reducible refine (impl_slotsOf.calls _ _ l0 _ ?side1 ?side2).mono ?_);(case side1=>exact Kd.C_below b3.out HB3.out);(case side2=>exact fun j hj=>idsOk_at HI.out j hj);rintro e d2 ⟨g,rfl,hge,hs,hb⟩;refine ⟨_,rfl,?_⟩;have HG:=zzm (Nat.le_trans HB3.out.size hge);have HB4:=zzm (zzp HB3.out hb);have NE:=zzm (show g≠gb by have:=blk_lt b2.out;omega);have a7:=zzm (zzh b2.out hb);have HS4:=zzm hs;clear hb hge hs;have z0:=(zzk a7.out 0).trans rfl;have z1:=(zzk a7.out 1).trans rfl;have z2:=(zzk a7.out 2).trans rfl;have z3:=(zzk a7.out 3).trans rfl;have z4:=(zzk a7.out 4).trans rfl;have z5:=(zzk a7.out 5).trans rfl)|((with_reducible refine gate_callee (f:=34) rfl ?_);refine goesL_ (some 21) rfl rfl Try.func34 (by kernel_rfl) rfl #[.pointer (some ⟨g,0,none⟩),.agg #[.bool a5,.bool a6,.int .i64 a4,.int .i64 a1,.int .i64 a2,.slice a8 a3.length a9]] rfl zzM2 ?_;(with_reducible refine (Rm.calls g _ a5 a6 a4 a1 a2 _ rfl _ HS4.out HP0.out HP1.out).mono ?_);rintro e b1 ⟨rfl,hb⟩;refine ⟨_,rfl,?_⟩;have HB5:=zzm (zzp HB4.out hb);have b6:=zzm (zzh a7.out hb);have HS5:=zzm (HS4.out.below hb);have HB6:=HB5;have HS6:=zzm (show HasSlots _ g F by rw [HF.out];exact HS5.out);clear hb z0 z1 z2 z3 z4 z5;try rw [HE.out])|((with_reducible refine gate_callee (f:=35) rfl ?_);refine goesL_ (some 42) rfl rfl Try.func35 (by kernel_rfl) rfl #[.pointer (some ⟨g,0,none⟩)] rfl zzM2 ?_;(with_reducible refine (Rn.calls g _ _ HS6.out).mono ?_);rintro e c4 ⟨v0,rfl,ho,hb⟩;refine ⟨_,rfl,?_⟩;obtain ⟨Ao,co,eo⟩:=Kd.R_slice ho;subst eo;have HB7:=zzm (zzp HB6.out hb);have b0:=zzm (Kd.R_lower ho HB6.out.size);clear hb ho)|((with_reducible refine gate_callee (f:=32) rfl ?_);refine goesL_ (some 44) rfl rfl Try.func32 (by kernel_rfl) rfl #[.slice Ao (slotList F 255).length co] rfl zzM2 ?_;(with_reducible refine (Qq.calls k _ _ (slotList F 255) true _ ?side1 ?side2 A7.out).mono ?_);(case side1=>exact (Kd.R_reads' b0.out).2.2);(case side2=>exact (Kd.R_reads' b0.out).2.1);rintro e c5 ⟨rfl,hb⟩;refine ⟨_,rfl,?_⟩;have HB8:=zzm (zzp HB7.out hb);have b9:=zzm (Kd.R_below b0.out hb);clear hb));go_ret2;exact ⟨_,rfl,b9.out,HB8.out⟩
     | false=>
      obtain ⟨rfl,rfl⟩:r1 = []∧r2=5:=by simpa [eq_comm] using h
      clear h;go_enter Try.func7,Try.ntmps7;go_wp2_with (first|((with_reducible refine gate_dst (N:=3) rfl ?_);refine box_event ?hg (N:=3) ?hd (cs:=#[.bool a5,.bool a6,.int .i64 a4,.int .i64 a1,.int .i64 a2,.slice a8 a3.length a9]) (t:=26) ?hr ?_;(case hd=>rfl);(case hg=>rfl);(case hr=>first|(go_simp;done)|(go_simp;rfl));intro gb hg w8 hbox hb;have HB1:=zzm (zzp HB.out hb);have BK:=zzm hbox;have GE:=zzm (show w.heap.size≤gb from Nat.le_of_eq hg.symm);clear hb hbox hg)|((with_reducible refine gate_callee (f:=32) rfl ?_);refine goesL_ (some 10) rfl rfl Try.func32 (by kernel_rfl) rfl #[.slice A0 l0.length c0] rfl zzM2 ?_;(with_reducible refine (Qq.calls k _ _ l0 true _ ?side1 ?side2 A3.out).mono ?_);(case side1=>exact Kd.C_below b3.out HB1.out);(case side2=>exact b8.out);rintro e w9 ⟨rfl,hb⟩;refine ⟨_,rfl,?_⟩;have HB2:=zzm (zzp HB1.out hb);have a0:=zzm (zzh BK.out hb);clear hb;have z0:=(zzk a0.out 0).trans rfl;have z1:=(zzk a0.out 1).trans rfl;have z2:=(zzk a0.out 2).trans rfl;have z3:=(zzk a0.out 3).trans rfl;have z4:=(zzk a0.out 4).trans rfl;have z5:=(zzk a0.out 5).trans rfl)|(go_at_call 10;(with_reducible refine (Qe.calls k a5 a6 a4 a1 a2 _ _ a3 true _ ?side1 ?side2 A5.out).mono ?_);(case side1=>exact Kd.C_below b4.out HB2.out);(case side2=>exact b5.out);rintro e c2 ⟨rfl,hb⟩;have HB3:=zzm (zzp HB2.out hb);have b2:=zzm (zzh a0.out hb);clear hb z0 z1 z2 z3 z4 z5)|((with_reducible refine gate_callee (f:=33) rfl ?_);refine goesL_ (some 18) rfl rfl Try.func33 (by kernel_rfl) rfl #[.slice A0 l0.length c0] rfl zzM2 ?_;(with_reducible refine (impl_slotsOf.calls _ _ l0 _ ?side1 ?side2).mono ?_);(case side1=>exact Kd.C_below b3.out HB3.out);(case side2=>exact fun j hj=>idsOk_at HI.out j hj);rintro e d2 ⟨g,rfl,hge,hs,hb⟩;refine ⟨_,rfl,?_⟩;have HG:=zzm (Nat.le_trans HB3.out.size hge);have HB4:=zzm (zzp HB3.out hb);have NE:=zzm (show g≠gb by have:=blk_lt b2.out;omega);have a7:=zzm (zzh b2.out hb);have HS4:=zzm hs;clear hb hge hs;have z0:=(zzk a7.out 0).trans rfl;have z1:=(zzk a7.out 1).trans rfl;have z2:=(zzk a7.out 2).trans rfl;have z3:=(zzk a7.out 3).trans rfl;have z4:=(zzk a7.out 4).trans rfl;have z5:=(zzk a7.out 5).trans rfl)|((with_reducible refine gate_callee (f:=34) rfl ?_);refine goesL_ (some 21) rfl rfl Try.func34 (by kernel_rfl) rfl #[.pointer (some ⟨g,0,none⟩),.agg #[.bool a5,.bool a6,.int .i64 a4,.int .i64 a1,.int .i64 a2,.slice a8 a3.length a9]] rfl zzM2 ?_;(with_reducible refine (Rm.calls g _ a5 a6 a4 a1 a2 _ rfl _ HS4.out HP0.out HP1.out).mono ?_);rintro e b1 ⟨rfl,hb⟩;refine ⟨_,rfl,?_⟩;have HB5:=zzm (zzp HB4.out hb);have b6:=zzm (zzh a7.out hb);have HS5:=zzm (HS4.out.below hb);have HB6:=HB5;have HS6:=zzm (show HasSlots _ g F by rw [HF.out];exact HS5.out);clear hb z0 z1 z2 z3 z4 z5;try rw [HE.out])|((with_reducible refine gate_callee (f:=35) rfl ?_);refine goesL_ (some 42) rfl rfl Try.func35 (by kernel_rfl) rfl #[.pointer (some ⟨g,0,none⟩)] rfl zzM2 ?_;(with_reducible refine (Rn.calls g _ _ HS6.out).mono ?_);rintro e c4 ⟨v0,rfl,ho,hb⟩;refine ⟨_,rfl,?_⟩;obtain ⟨Ao,co,eo⟩:=Kd.R_slice ho;subst eo;have HB7:=zzm (zzp HB6.out hb);have b0:=zzm (Kd.R_lower ho HB6.out.size);clear hb ho)|((with_reducible refine gate_callee (f:=32) rfl ?_);refine goesL_ (some 44) rfl rfl Try.func32 (by kernel_rfl) rfl #[.slice Ao (slotList F 255).length co] rfl zzM2 ?_;(with_reducible refine (Qq.calls k _ _ (slotList F 255) false _ ?side1 ?side2 A7.out).mono ?_);(case side1=>exact (Kd.R_reads' b0.out).2.2);(case side2=>exact (Kd.R_reads' b0.out).2.1);rintro e c5 ⟨rfl,hb⟩;refine ⟨_,rfl,?_⟩;have HB8:=zzm (zzp HB7.out hb);have b9:=zzm (Kd.R_below b0.out hb);clear hb));go_ret2;exact ⟨_,rfl,Kd.R_nil _ _ _ _ _,HB8.out⟩
   ·
    rw [if_neg hok] at h;cases h
def Qo.f (a0:Int) (a1:Int) (a2:Int):Option (Bool):=if a0 ≥ a1 then (some (decide (a0≤a2))) else (some false)
set_option maxHeartbeats 8000000 in
theorem Qo.calls (a0:Int) (a1:Int) (a2:Int) (r:Bool) (w:World) (h:Qo.f a0 a1 a2=some r) :
  Calls Try.prog 53 #[.int .i64 a0,.int .i64 a1,.int .i64 a2] w fun e w'=>e = .returned (.bool r)∧Drawn0 w w':=by
 have H:(if a0 ≥ a1 then (some (decide (a0≤a2))) else (some false))=some r:=h;clear h;by_cases c4:a0 ≥ a1
 ·
  rw [if_pos c4] at H;have c4b0:decide (a1≤a0)=true:=decide_eq_true c4;clear c4;obtain rfl:=Option.some.inj H;go_enter Try.func53,Try.ntmps53;go_wp2;go_ret;exact ⟨by first|rfl|(simp;done)|(simp [*];done),by repeat (first|exact Drawn0.refl _|apply Drawn0.step)⟩
 ·
  rw [if_neg c4] at H;have c4b0:decide (a1≤a0)=false:=decide_eq_false c4;clear c4;obtain rfl:=Option.some.inj H;go_enter Try.func53,Try.ntmps53;go_wp2;go_ret;exact ⟨by first|rfl|(simp;done)|(simp [*];done),by repeat (first|exact Drawn0.refl _|apply Drawn0.step)⟩
theorem l6In_eqT (a b c:Int) (r:Bool) (h:decide (b≤a∧a≤c)=r):Qo.f a b c=some r:=by
 subst h;unfold Qo.f;by_cases h:a ≥ b
 ·
  rw [if_pos h];have:(b≤a∧a≤c)↔a≤c:=⟨fun h=>h.2,fun h'=>⟨h,h'⟩⟩;simp [this]
 ·
  rw [if_neg h];have:¬ (b≤a∧a≤c):=fun h'=>h h'.1;simp [this]
theorem l6In_id (a:Int) (r:Bool) (h:decide (0≤a∧a≤254)=r):Qo.f a 0 254=some r:=l6In_eqT a 0 254 r h
def Qm.f (k:Nat) (l0:List S67):Option Bool:=some (prodsAll l0)
set_option maxHeartbeats 8000000 in
theorem Qm.calls (k:Nat) (A0:Option Addr) (c0:Nat) (l0:List (S67)) (r:Bool) (w:World) (a4:Kd.C k67 w A0 l0.length l0) (b5:l0.length≤c0) (h:Qm.f k l0=some r) :
  Calls Try.prog 38 #[.slice A0 l0.length c0] w fun e w'=>e = .returned (.bool r)∧Below w.heap.size w w':=by
 obtain rfl:=Option.some.inj h;clear h;have hmax:l0.length≤9223372036854775807:=a4.2.1;have HR:=zzm a4;have HB:=zzm (Below.refl w.heap.size w);clear a4;go_enter Try.func38,Try.ntmps38;go_wp2;go_loopw [3,4] (fun i i4 W=>∃ k:Nat,k≤l0.length∧i = .int .i64 k∧Aside0 (∀ j,j < k→prodAt l0 j=true)∧Aside0 (Below w.heap.size w W)) (fun i _ _=>l0.length - (intOf i).toNat)
 case atStart=>exact ⟨0,Nat.zero_le _,rfl,⟨fun j hj=>by omega⟩,HB⟩
 case round=>
  clear HB;obtain ⟨k,hk,rfl,HN,HB⟩:=hrel;by_cases hlt:k < l0.length
  ·
   obtain ⟨ad,he,a0,a1,a2⟩:=Rf HR.out (k:Int) (by omega) (by omega);subst he;replace a0:=zzx HB.out a0;replace a1:=zzx HB.out a1;replace a2:=zzx HB.out a2;simp only [Int.toNat_natCast] at a0 a1 a2;have HP:Aside0 (prodAt l0 k=decide (((0≤(Qd l0 (k:Int)).f0∧(Qd l0 (k:Int)).f0≤254)∧(0≤(Qd l0 (k:Int)).f1∧(Qd l0 (k:Int)).f1≤99)∧(0≤(Qd l0 (k:Int)).f2∧(Qd l0 (k:Int)).f2≤99999))∧(0 < k→(Qd l0 ((k:Int) - 1)).f0 < (Qd l0 (k:Int)).f0))):=⟨rfl⟩;obtain ⟨p,hp⟩:∃ p,p=Qd l0 (k:Int):=⟨_,rfl⟩;simp only [← hp] at a0 a1 a2;rw [← hp] at HP;clear hp;obtain ⟨x,y,z⟩:=p;have HNO:=zzm (fun h=>prodsAll_no (l:=l0) hlt h);go_wp2_with ((with_reducible refine gate_dst (N:=4) rfl ?_);refine box_event ?hg (N:=4) ?hd (cs:=#[.int .i64 0,.int .i64 0,.int .i64 0]) (t:=67) ?hr ?_;(case hd=>rfl);(case hg=>rfl);(case hr=>first|(go_simp;done)|(go_simp;rfl));intro gb hg a9 hbox hb;have HB13:=zzm (zzp HB.out hb);have BK:=zzm hbox;have GE:=zzm (show w.heap.size≤gb by rw [hg];exact HB.out.size);clear hb hbox hg;have a6:=(zzk BK.out 0).trans rfl;have a7:=(zzk BK.out 1).trans rfl;have a8:=(zzk BK.out 2).trans rfl;have hf0:=zzl BK.out 0;have hf1:=zzl BK.out 1;have hf2:=zzl BK.out 2);have a3:=zzm (blk_set (blk_set (blk_set BK.out 0 (.int .i64 x)) 1 (.int .i64 y)) 2 (.int .i64 z));have HB2:=zzm (zzd (zzd (zzd HB13.out GE.out (j:=0) (v:=.int .i64 x)) GE.out (j:=1) (v:=.int .i64 y)) GE.out (j:=2) (v:=.int .i64 z));clear a6 a7 a8 hf0 hf1 hf2 BK HB13 a0 a1 a2 HB;generalize ((a9.setCell ⟨gb,0,none⟩ (.int .i64 x)).setCell ⟨gb,1,none⟩ (.int .i64 y)).setCell ⟨gb,2,none⟩ (.int .i64 z)=a5 at a3 HB2 ⊢;have d0:a5.cell? ⟨gb,0,none⟩=some (.int .i64 x):=(zzk a3.out 0).trans rfl;have d1:a5.cell? ⟨gb,1,none⟩=some (.int .i64 y):=(zzk a3.out 1).trans rfl;have d2:a5.cell? ⟨gb,2,none⟩=some (.int .i64 z):=(zzk a3.out 2).trans rfl;by_cases k0 : 0≤x∧x≤254
   ·
    have e0:=l6In_id x true (decide_eq_true k0);by_cases k1 : 0≤y∧y≤99
    ·
     have e1:=l6In_eqT y 0 99 true (decide_eq_true k1);by_cases k2 : 0≤z∧z≤99999
     ·
      have e2:=l6In_eqT z 0 99999 true (decide_eq_true k2);by_cases h0 : 0 < k
      ·
       obtain ⟨ad',he,hy0,_,_⟩:=Rf HR.out ((k:Int) - 1) (by omega) (by omega);injection he with he;subst he;replace hy0:=(HB2.out.cell (zzn w _ hy0)).trans hy0;rw [show ((k:Int) - 1).toNat=k - 1 by omega] at hy0;generalize (Qd l0 ((k:Int) - 1)).f0=q at hy0 HP;have hk0:decide (0 < (k:Int))=true:=decide_eq_true (by omega);have hk1:decide (0 < k)=true:=decide_eq_true h0;have b0:IntKind.i64.wrap ((k:Int) - 1)=(k:Int) - 1:=IntWalk.i64_in _ (by omega);have b1:((k:Int) - 1).toNat=k - 1:=by omega
       have b2:(0≤(k:Int) - 1)=True:=eq_true (by omega);have b3:(1≤(k:Int))=True:=eq_true (by omega);have b4:((k:Int) - 1 < (l0.length:Int))=True:=eq_true (by omega);by_cases hge:x≤q
       ·
        have hge2:decide (x≤q)=true:=decide_eq_true hge;have HF:=zzm (HNO.out (by rw [HP.out];exact decide_eq_false (fun h=>by have:=h.2 h0;omega)));clear HNO HP k0 k1 k2;go_quiet ((first|(go_at_call 53;with_reducible exact quiet_drawn (Qo.calls x 0 254 true _ e0))|(go_at_call 53;with_reducible exact quiet_drawn (Qo.calls y 0 99 true _ e1))|(go_at_call 53;with_reducible exact quiet_drawn (Qo.calls z 0 99999 true _ e2))))
        go_wp2;go_ret;exact ⟨by rw [HF.out];rfl,zzb HB2.out _⟩
       ·
        have hge2:decide (x≤q)=false:=decide_eq_false hge;have HY:=zzm (show prodAt l0 k=true by rw [HP.out];exact decide_eq_true ⟨⟨k0,k1,k2⟩,fun _=>by omega⟩);clear HNO HP k0 k1 k2;go_quiet ((first|(go_at_call 53;with_reducible exact quiet_drawn (Qo.calls x 0 254 true _ e0))|(go_at_call 53;with_reducible exact quiet_drawn (Qo.calls y 0 99 true _ e1))|(go_at_call 53;with_reducible exact quiet_drawn (Qo.calls z 0 99999 true _ e2))))
        clear b0 b1 b2 b4 b3;go_wp2;go_roundw
        case rel=>exact ⟨k+1,by omega,by go_num,⟨fun j hj=>by by_cases e:j=k;(subst e;exact HY.out);exact HN.out j (by omega)⟩,⟨zzb HB2.out _⟩⟩
        case measure=>simp [intOf];omega
      ·
       have hk0:decide (0 < (k:Int))=false:=decide_eq_false (by omega);have hk1:decide (0 < k)=false:=decide_eq_false h0;have HY:=zzm (show prodAt l0 k=true by rw [HP.out];exact decide_eq_true ⟨⟨k0,k1,k2⟩,fun h=>absurd h h0⟩);clear HNO HP k0 k1 k2;go_quiet ((first|(go_at_call 53;with_reducible exact quiet_drawn (Qo.calls x 0 254 true _ e0))|(go_at_call 53;with_reducible exact quiet_drawn (Qo.calls y 0 99 true _ e1))|(go_at_call 53;with_reducible exact quiet_drawn (Qo.calls z 0 99999 true _ e2))))
       go_wp2;go_roundw
       case rel=>exact ⟨k+1,by omega,by go_num,⟨fun j hj=>by by_cases e:j=k;(subst e;exact HY.out);exact HN.out j (by omega)⟩,⟨zzb HB2.out _⟩⟩
       case measure=>simp [intOf];omega
     ·
      have e2:=l6In_eqT z 0 99999 false (decide_eq_false k2);have HF:=zzm (HNO.out (by rw [HP.out];exact decide_eq_false (fun h=>k2 h.1.2.2)));clear HNO HP k0 k1 k2;go_quiet ((first|(go_at_call 53;with_reducible exact quiet_drawn (Qo.calls x 0 254 true _ e0))|(go_at_call 53;with_reducible exact quiet_drawn (Qo.calls y 0 99 true _ e1))|(go_at_call 53;with_reducible exact quiet_drawn (Qo.calls z 0 99999 false _ e2))))
      go_wp2;go_ret;exact ⟨by rw [HF.out];rfl,zzb HB2.out _⟩
    ·
     have e1:=l6In_eqT y 0 99 false (decide_eq_false k1);have HF:=zzm (HNO.out (by rw [HP.out];exact decide_eq_false (fun h=>k1 h.1.2.1)));clear HNO HP k0 k1;go_quiet ((first|(go_at_call 53;with_reducible exact quiet_drawn (Qo.calls x 0 254 true _ e0))|(go_at_call 53;with_reducible exact quiet_drawn (Qo.calls y 0 99 false _ e1))))
     go_wp2;go_ret;exact ⟨by rw [HF.out];rfl,zzb HB2.out _⟩
   ·
    have e0:=l6In_id x false (decide_eq_false k0);have HF:=zzm (HNO.out (by rw [HP.out];exact decide_eq_false (fun h=>k0 h.1.1)));clear HNO HP k0;go_quiet ((go_at_call 53;with_reducible exact quiet_drawn (Qo.calls x 0 254 false _ e0)))
    go_wp2;go_ret;exact ⟨by rw [HF.out];rfl,zzb HB2.out _⟩
  ·
   have hk2:k=l0.length:=by omega
   have HA:Aside0 (∀ i,i < l0.length→prodAt l0 i=true):=⟨fun i hi=>HN.out i (by omega)⟩;by_cases hlen:l0.length≤20
   ·
    have HF:=zzm (show prodsAll l0=true by unfold prodsAll;rw [decide_eq_true hlen,Bool.true_and];exact decide_eq_true HA.out);have hlen2:decide ((l0.length:Int)≤20)=true:=decide_eq_true (by omega);go_wp2;go_ret;exact ⟨by rw [HF.out];rfl,HB.out⟩
   ·
    have HF:=zzm (prodsAll_long (l:=l0) (by omega));have hlen2:decide ((l0.length:Int)≤20)=false:=decide_eq_false (by omega);go_wp2;go_ret;exact ⟨by rw [HF.out];rfl,HB.out⟩
def Qx.l0:Nat→List Int→Int→Option (Bool)
 | 0,_,_=>none
 | k+1,x0,x3=>if x3 < (x0.length:Int) then (if 0≤x3 then ((Qo.f (rd x0 x3) 0 255).bind fun t302=>(if t302=true then (Qx.l0 k x0 (wrap64 (x3+1))) else (some false))) else (none)) else (some true)
def Qx.f (k:Nat) (l0:List Int):Option (Bool):=Qx.l0 k l0 0
set_option maxHeartbeats 8000000 in
theorem Qx.calls (k:Nat) (A0:Option Addr) (c0:Nat) (l0:List Int) (r:Bool) (w:World) (a6:Kd.C (Kd.int .i64) w A0 l0.length l0) (a7:l0.length≤c0) (h:Qx.f k l0=some r) :
  Calls Try.prog 69 #[.slice A0 l0.length c0] w fun e w'=>e = .returned (.bool r)∧Drawn0 w w':=by
 have a8:=zzm a6;have b2:=zzm a7;clear a6 a7;have H:(Qx.l0 k l0 0)=some r:=h;clear h;have H':=zzm H;clear H;go_enter Try.func69,Try.ntmps69;go_wp2;go_loopg [3] k (fun kq v3 w'=>∃ (a0:Int),v3 = .int .i64 a0∧Aside0 (Qx.l0 kq l0 a0=some r)∧Aside0 (kq≤k)∧Drawn0 w w')
 case atStart=>exact ⟨(0),(by first|rfl|(simp;done)|(simp [*];done)),H',⟨Nat.le_refl _⟩,by repeat (first|exact Drawn0.refl _|apply Drawn0.step)⟩
 case round=>
  clear H';obtain ⟨a0,rfl,HA,HK1,⟨m1,rfl⟩⟩:=hrel;cases gk with
  | zero=>exact absurd HA.out (by simp [Qx.l0])
  | succ k1=>
   have H:=HA.out;clear HA;simp only [Qx.l0] at H;by_cases c2:a0 < (l0.length:Int)
   ·
    rw [if_pos c2] at H;have a9:decide (a0 < (l0.length:Int))=true:=decide_eq_true c2;clear c2;by_cases c3 : 0≤a0
    ·
     rw [if_pos c3] at H;have b1:decide (0≤a0)=true:=decide_eq_true c3;clear c3;obtain ⟨b0,A4,H⟩:=zzG H;by_cases c5:b0=true
     ·
      subst c5;replace H:=zzIt H;have H':=zzm H;clear H;have a1 : 0≤(a0:Int):=zzt;have a2:a0 < (l0.length:Int):=zzt;obtain ⟨a5,a3,a4⟩:=Kd.at_int a8.out a0 a1 a2;cases a3;replace a1:=eq_true a1;replace a2:=eq_true a2;go_wp2_with (first|((with_reducible refine gate_callee (f:=53) rfl ?_);refine goesL_ (some 14) rfl rfl Try.func53 (by kernel_rfl) rfl #[.int .i64 (rd l0 a0),.int .i64 0,.int .i64 255] rfl zzM2 ?_;(with_reducible refine (Qo.calls (rd l0 a0) 0 255 true _ A4.out).mono ?_);rintro e w' ⟨rfl,⟨nd,rfl⟩⟩;refine ⟨_,rfl,?_⟩));go_roundg k1
      case measure=>have:=HK1.out;omega
      case rel=>exact ⟨(wrap64 (a0+1)),(by first|rfl|(simp;done)|(simp [*];done)),H',⟨by have:=HK1.out;omega⟩,by repeat (first|exact Drawn0.refl _|apply Drawn0.step)⟩
     ·
      replace c5:=Bool.eq_false_iff.mpr c5;subst c5;replace H:=zzIf H;obtain rfl:=Option.some.inj H;have a1 : 0≤(a0:Int):=zzt;have a2:a0 < (l0.length:Int):=zzt;obtain ⟨a5,a3,a4⟩:=Kd.at_int a8.out a0 a1 a2;cases a3;replace a1:=eq_true a1;replace a2:=eq_true a2;go_wp2_with (first|((with_reducible refine gate_callee (f:=53) rfl ?_);refine goesL_ (some 14) rfl rfl Try.func53 (by kernel_rfl) rfl #[.int .i64 (rd l0 a0),.int .i64 0,.int .i64 255] rfl zzM2 ?_;(with_reducible refine (Qo.calls (rd l0 a0) 0 255 false _ A4.out).mono ?_);rintro e w' ⟨rfl,⟨nd,rfl⟩⟩;refine ⟨_,rfl,?_⟩));go_ret;exact ⟨by first|rfl|(simp;done)|(simp [*];done),by repeat (first|exact Drawn0.refl _|apply Drawn0.step)⟩
    ·
     rw [if_neg c3] at H;exact absurd H (by simp)
   ·
    rw [if_neg c2] at H;have a9:decide (a0 < (l0.length:Int))=false:=decide_eq_false c2;clear c2;obtain rfl:=Option.some.inj H;go_wp2;go_ret;exact ⟨by first|rfl|(simp;done)|(simp [*];done),by repeat (first|exact Drawn0.refl _|apply Drawn0.step)⟩
def Ri.f (k:Nat) (a0:Bool) (l1:List Int):Option (Bool):=if a0=true then ((Qx.f k l1).bind fun t303=>(if t303=true then (some (decide ((l1.length:Int)≤12))) else (some false))) else (if (l1.length:Int)=0 then ((Qx.f k l1).bind fun t304=>(if t304=true then (some (decide ((l1.length:Int)≤12))) else (some false))) else (some false))
set_option maxHeartbeats 8000000 in
theorem Ri.calls (k:Nat) (a0:Bool) (A1:Option Addr) (c1:Nat) (l1:List Int) (r:Bool) (w:World) (a5:Kd.C (Kd.int .i64) w A1 l1.length l1) (a6:l1.length≤c1) (h:Ri.f k a0 l1=some r) :
  Calls Try.prog 68 #[.bool a0,.slice A1 l1.length c1] w fun e w'=>e = .returned (.bool r)∧Drawn0 w w':=by
 have a3:=zzm a5;have a4:=zzm a6;clear a5 a6;have H:(if a0=true then ((Qx.f k l1).bind fun a1=>(if a1=true then (some (decide ((l1.length:Int)≤12))) else (some false))) else (if (l1.length:Int)=0 then ((Qx.f k l1).bind fun a2=>(if a2=true then (some (decide ((l1.length:Int)≤12))) else (some false))) else (some false)))=some r:=h;clear h;by_cases c3:a0=true
 ·
  subst c3;replace H:=zzIt H;obtain ⟨a1,A4,H⟩:=zzG H;by_cases c5:a1=true
  ·
   subst c5;replace H:=zzIt H;obtain rfl:=Option.some.inj H;go_enter Try.func68,Try.ntmps68;go_wp2_with (first|(go_at_call 69;(with_reducible refine (Qx.calls k _ _ l1 true _ ?side1 ?side2 A4.out).mono ?_);(case side1=>repeat (first|exact a3.out|(with_reducible refine Kd.C_alloc ?_ _)|(with_reducible refine Kd.C_drewN ?_ _)|(with_reducible refine Kd.C_drew ?_)));(case side2=>exact a4.out);rintro e w' ⟨rfl,⟨nd,rfl⟩⟩));go_ret;exact ⟨by first|rfl|(simp;done)|(simp [*];done),by repeat (first|exact Drawn0.refl _|apply Drawn0.step)⟩
  ·
   replace c5:=Bool.eq_false_iff.mpr c5;subst c5;replace H:=zzIf H;obtain rfl:=Option.some.inj H;go_enter Try.func68,Try.ntmps68;go_wp2_with (first|(go_at_call 69;(with_reducible refine (Qx.calls k _ _ l1 false _ ?side1 ?side2 A4.out).mono ?_);(case side1=>repeat (first|exact a3.out|(with_reducible refine Kd.C_alloc ?_ _)|(with_reducible refine Kd.C_drewN ?_ _)|(with_reducible refine Kd.C_drew ?_)));(case side2=>exact a4.out);rintro e w' ⟨rfl,⟨nd,rfl⟩⟩));go_ret;exact ⟨by first|rfl|(simp;done)|(simp [*];done),by repeat (first|exact Drawn0.refl _|apply Drawn0.step)⟩
 ·
  replace c3:=Bool.eq_false_iff.mpr c3;subst c3;replace H:=zzIf H;by_cases c6:(l1.length:Int)=0
  ·
   rw [if_pos c6] at H;obtain ⟨a7,a8⟩:=zzQ c6;clear c6;obtain ⟨a2,A7,H⟩:=zzG H;by_cases c8:a2=true
   ·
    subst c8;replace H:=zzIt H;obtain rfl:=Option.some.inj H;go_enter Try.func68,Try.ntmps68;go_wp2_with (first|(go_at_call 69;(with_reducible refine (Qx.calls k _ _ l1 true _ ?side1 ?side2 A7.out).mono ?_);(case side1=>repeat (first|exact a3.out|(with_reducible refine Kd.C_alloc ?_ _)|(with_reducible refine Kd.C_drewN ?_ _)|(with_reducible refine Kd.C_drew ?_)));(case side2=>exact a4.out);rintro e w' ⟨rfl,⟨nd,rfl⟩⟩));go_ret;exact ⟨by first|rfl|(simp;done)|(simp [*];done),by repeat (first|exact Drawn0.refl _|apply Drawn0.step)⟩
   ·
    replace c8:=Bool.eq_false_iff.mpr c8;subst c8;replace H:=zzIf H;obtain rfl:=Option.some.inj H;go_enter Try.func68,Try.ntmps68;go_wp2_with (first|(go_at_call 69;(with_reducible refine (Qx.calls k _ _ l1 false _ ?side1 ?side2 A7.out).mono ?_);(case side1=>repeat (first|exact a3.out|(with_reducible refine Kd.C_alloc ?_ _)|(with_reducible refine Kd.C_drewN ?_ _)|(with_reducible refine Kd.C_drew ?_)));(case side2=>exact a4.out);rintro e w' ⟨rfl,⟨nd,rfl⟩⟩));go_ret;exact ⟨by first|rfl|(simp;done)|(simp [*];done),by repeat (first|exact Drawn0.refl _|apply Drawn0.step)⟩
  ·
   rw [if_neg c6] at H;obtain ⟨a7,a8⟩:=zzY c6;have a9:¬ (l1 = []):=fun h_=>c6 (by rw [h_];rfl);obtain rfl:=Option.some.inj H;go_enter Try.func68,Try.ntmps68;go_wp2;go_ret;exact ⟨by first|rfl|(simp;done)|(simp [*];done),by repeat (first|exact Drawn0.refl _|apply Drawn0.step)⟩
def Re.f (k:Nat) (a0_0:Int) (a0_1:Int) (a0_2:Bool) (l0_3:List Int) (a0_4:Bool) (l0_5:List Int):Option (Bool):=(Qo.f a0_0 0 99999).bind fun t306=>(if t306=true then ((Qo.f a0_1 0 99999).bind fun t307=>(if t307=true then ((Ri.f k a0_2 l0_3).bind fun t308=>(if t308=true then ((Ri.f k a0_4 l0_5).bind fun t309=>(some t309)) else (some false))) else (some false))) else (some false))
set_option maxHeartbeats 8000000 in
theorem Re.calls (k:Nat) (a0:Int) (a4:Int) (a5:Bool) (b2:Option Addr) (b3:Nat) (a2:List Int) (a7:Bool) (b4:Option Addr) (b5:Nat) (a3:List Int) (r:Bool) (w:World) (c2:Kd.C (Kd.int .i64) w b2 a2.length a2) (c4:a2.length≤b3) (c8:Kd.C (Kd.int .i64) w b4 a3.length a3) (c9:a3.length≤b5) (h:Re.f k a0 a4 a5 a2 a7 a3=some r) :
  Calls Try.prog 66 #[.agg #[.int .i64 a0,.int .i64 a4,.bool a5,.slice b2 a2.length b3,.bool a7,.slice b4 a3.length b5]] w fun e w'=>e = .returned (.bool r)∧Below w.heap.size w w':=by
 have hu75:=Try.underlying75;have d0:=zzm c2;have d1:=zzm c4;clear c2 c4;have d2:=zzm c8;have d3:=zzm c9;clear c8 c9;have HB:=zzm (Below.refl w.heap.size w);have H:((Qo.f a0 0 99999).bind fun b8=>(if b8=true then ((Qo.f a4 0 99999).bind fun b9=>(if b9=true then ((Ri.f k a5 a2).bind fun c0=>(if c0=true then ((Ri.f k a7 a3).bind fun c1=>(some c1)) else (some false))) else (some false))) else (some false)))=some r:=h;clear h;obtain ⟨b8,A2,H⟩:=zzG H;by_cases c3:b8=true
 ·
  subst c3;replace H:=zzIt H;obtain ⟨b9,A4,H⟩:=zzG H;by_cases c5:b9=true
  ·
   subst c5;replace H:=zzIt H;obtain ⟨c0,A6,H⟩:=zzG H;by_cases c7:c0=true
   ·
    subst c7;replace H:=zzIt H;obtain ⟨c1,A8,H⟩:=zzG H;obtain rfl:=Option.some.inj H;go_enter Try.func66,Try.ntmps66;go_wp2_with (first|((with_reducible refine gate_dst (N:=1) rfl ?_);refine box_event ?hg (N:=1) ?hd (cs:=#[.int .i64 a0,.int .i64 a4,.bool a5,.slice b2 a2.length b3,.bool a7,.slice b4 a3.length b5]) (t:=75) ?hr ?_;(case hd=>rfl);(case hg=>rfl);(case hr=>first|(go_simp;done)|(go_simp;rfl));intro a1 hg w9 hbox hb;have a8:=zzm (zzp zzh1 hb);have a9:=zzm (hbox);have b0:=zzm ((by rw [hg];exact (zzo zzh1):w.heap.size≤a1));have b1:=zzm ((by rw [hg];exact (zzo zzh1):w.heap.size≤a1));clear HB;have HB:=a8;have a6:=a9;have b6:=b0;have b7:=b1;clear a8 a9 b0 b1 hb hbox hg;obtain ⟨d4,d5,d6,d7,d8,d9,e0,e1,e2,e3,e4,e5⟩:=zzc6 a6.out)|((with_reducible refine gate_callee (f:=53) rfl ?_);refine goesL_ (some 5) rfl rfl Try.func53 (by kernel_rfl) rfl #[.int .i64 a0,.int .i64 0,.int .i64 99999] rfl zzM2 ?_;(with_reducible refine (Qo.calls a0 0 99999 true _ A2.out).mono ?_);rintro e w' ⟨rfl,⟨nd,rfl⟩⟩;refine ⟨_,rfl,?_⟩)|(go_at_call 53;(with_reducible refine (Qo.calls a4 0 99999 true _ A4.out).mono ?_);rintro e w' ⟨rfl,⟨nd,rfl⟩⟩)|(go_at_call 68;(with_reducible refine (Ri.calls k a5 _ _ a2 true _ ?side1 ?side2 A6.out).mono ?_);(case side1=>repeat (first|exact (Kd.C_below d0.out zzh2)|(with_reducible refine Kd.C_alloc ?_ _)|(with_reducible refine Kd.C_drewN ?_ _)|(with_reducible refine Kd.C_drew ?_)));(case side2=>exact d1.out);rintro e w' ⟨rfl,⟨nd,rfl⟩⟩)|(go_at_call 68;(with_reducible refine (Ri.calls k a7 _ _ a3 c1 _ ?side1 ?side2 A8.out).mono ?_);(case side1=>repeat (first|exact (Kd.C_below d2.out zzh2)|(with_reducible refine Kd.C_alloc ?_ _)|(with_reducible refine Kd.C_drewN ?_ _)|(with_reducible refine Kd.C_drew ?_)));(case side2=>exact d3.out);rintro e w' ⟨rfl,⟨nd,rfl⟩⟩));go_ret;exact ⟨zzR,zzh3⟩
   ·
    replace c7:=Bool.eq_false_iff.mpr c7;subst c7;replace H:=zzIf H;obtain rfl:=Option.some.inj H;go_enter Try.func66,Try.ntmps66;go_wp2_with (first|((with_reducible refine gate_dst (N:=1) rfl ?_);refine box_event ?hg (N:=1) ?hd (cs:=#[.int .i64 a0,.int .i64 a4,.bool a5,.slice b2 a2.length b3,.bool a7,.slice b4 a3.length b5]) (t:=75) ?hr ?_;(case hd=>rfl);(case hg=>rfl);(case hr=>first|(go_simp;done)|(go_simp;rfl));intro a1 hg k4 hbox hb;have a8:=zzm (zzp zzh1 hb);have a9:=zzm (hbox);have b0:=zzm ((by rw [hg];exact (zzo zzh1):w.heap.size≤a1));have b1:=zzm ((by rw [hg];exact (zzo zzh1):w.heap.size≤a1));clear HB;have HB:=a8;have a6:=a9;have b6:=b0;have b7:=b1;clear a8 a9 b0 b1 hb hbox hg;obtain ⟨e6,e7,e8,e9,g0,g1,g2,g3,g4,g5,g6,g7⟩:=zzc6 a6.out)|((with_reducible refine gate_callee (f:=53) rfl ?_);refine goesL_ (some 5) rfl rfl Try.func53 (by kernel_rfl) rfl #[.int .i64 a0,.int .i64 0,.int .i64 99999] rfl zzM2 ?_;(with_reducible refine (Qo.calls a0 0 99999 true _ A2.out).mono ?_);rintro e w' ⟨rfl,⟨nd,rfl⟩⟩;refine ⟨_,rfl,?_⟩)|(go_at_call 53;(with_reducible refine (Qo.calls a4 0 99999 true _ A4.out).mono ?_);rintro e w' ⟨rfl,⟨nd,rfl⟩⟩)|(go_at_call 68;(with_reducible refine (Ri.calls k a5 _ _ a2 false _ ?side1 ?side2 A6.out).mono ?_);(case side1=>repeat (first|exact (Kd.C_below d0.out zzh2)|(with_reducible refine Kd.C_alloc ?_ _)|(with_reducible refine Kd.C_drewN ?_ _)|(with_reducible refine Kd.C_drew ?_)));(case side2=>exact d1.out);rintro e w' ⟨rfl,⟨nd,rfl⟩⟩));go_ret;exact ⟨zzR,zzh3⟩
  ·
   replace c5:=Bool.eq_false_iff.mpr c5;subst c5;replace H:=zzIf H;obtain rfl:=Option.some.inj H;go_enter Try.func66,Try.ntmps66;go_wp2_with (first|((with_reducible refine gate_dst (N:=1) rfl ?_);refine box_event ?hg (N:=1) ?hd (cs:=#[.int .i64 a0,.int .i64 a4,.bool a5,.slice b2 a2.length b3,.bool a7,.slice b4 a3.length b5]) (t:=75) ?hr ?_;(case hd=>rfl);(case hg=>rfl);(case hr=>first|(go_simp;done)|(go_simp;rfl));intro a1 hg k5 hbox hb;have a8:=zzm (zzp zzh1 hb);have a9:=zzm (hbox);have b0:=zzm ((by rw [hg];exact (zzo zzh1):w.heap.size≤a1));have b1:=zzm ((by rw [hg];exact (zzo zzh1):w.heap.size≤a1));clear HB;have HB:=a8;have a6:=a9;have b6:=b0;have b7:=b1;clear a8 a9 b0 b1 hb hbox hg;obtain ⟨g8,g9,h0,h1,h2,h3,h4,h5,h6,h7,h8,h9⟩:=zzc6 a6.out)|((with_reducible refine gate_callee (f:=53) rfl ?_);refine goesL_ (some 5) rfl rfl Try.func53 (by kernel_rfl) rfl #[.int .i64 a0,.int .i64 0,.int .i64 99999] rfl zzM2 ?_;(with_reducible refine (Qo.calls a0 0 99999 true _ A2.out).mono ?_);rintro e w' ⟨rfl,⟨nd,rfl⟩⟩;refine ⟨_,rfl,?_⟩)|(go_at_call 53;(with_reducible refine (Qo.calls a4 0 99999 false _ A4.out).mono ?_);rintro e w' ⟨rfl,⟨nd,rfl⟩⟩));go_ret;exact ⟨zzR,zzh3⟩
 ·
  replace c3:=Bool.eq_false_iff.mpr c3;subst c3;replace H:=zzIf H;obtain rfl:=Option.some.inj H;go_enter Try.func66,Try.ntmps66;go_wp2_with (first|((with_reducible refine gate_dst (N:=1) rfl ?_);refine box_event ?hg (N:=1) ?hd (cs:=#[.int .i64 a0,.int .i64 a4,.bool a5,.slice b2 a2.length b3,.bool a7,.slice b4 a3.length b5]) (t:=75) ?hr ?_;(case hd=>rfl);(case hg=>rfl);(case hr=>first|(go_simp;done)|(go_simp;rfl));intro a1 hg k6 hbox hb;have a8:=zzm (zzp zzh1 hb);have a9:=zzm (hbox);have b0:=zzm ((by rw [hg];exact (zzo zzh1):w.heap.size≤a1));have b1:=zzm ((by rw [hg];exact (zzo zzh1):w.heap.size≤a1));clear HB;have HB:=a8;have a6:=a9;have b6:=b0;have b7:=b1;clear a8 a9 b0 b1 hb hbox hg;obtain ⟨j2,j3,j4,j5,j6,j7,j8,j9,k0,k1,k2,k3⟩:=zzc6 a6.out)|((with_reducible refine gate_callee (f:=53) rfl ?_);refine goesL_ (some 5) rfl rfl Try.func53 (by kernel_rfl) rfl #[.int .i64 a0,.int .i64 0,.int .i64 99999] rfl zzM2 ?_;(with_reducible refine (Qo.calls a0 0 99999 false _ A2.out).mono ?_);rintro e w' ⟨rfl,⟨nd,rfl⟩⟩;refine ⟨_,rfl,?_⟩));go_ret;exact ⟨zzR,zzh3⟩
def Qj.l0:Nat→List (S75)→Int→Option (Bool)
 | 0,_,_=>none
 | k+1,x0,x3=>if x3 < (x0.length:Int) then (if 0≤x3 then ((Re.f k ((Qc x0 x3).f0) ((Qc x0 x3).f1) ((Qc x0 x3).f2) ((Qc x0 x3).f3) ((Qc x0 x3).f4) ((Qc x0 x3).f5)).bind fun t311=>(if t311=true then (if x3 > 0 then (if 0≤(wrap64 (x3 - 1)) then (if (wrap64 (x3 - 1)) < (x0.length:Int) then (if ((Qc x0 (wrap64 (x3 - 1))).f0) ≥ ((Qc x0 x3).f0) then (some false) else (Qj.l0 k x0 (wrap64 (x3+1)))) else (none)) else (none)) else (Qj.l0 k x0 (wrap64 (x3+1)))) else (some false))) else (none)) else ((Qo.f (x0.length:Int) 1 6).bind fun t314=>(some t314))
def Qj.f (k:Nat) (l0:List (S75)):Option (Bool):=Qj.l0 k l0 0
def Qj.T4:Bool×List (List Nat×List Nat):=(true,[([],[]),([],[]),([0,1],[0,1]),([2],[2]),([3],[3]),([4],[4]),([5,4],[5]),([6],[6]),([7,6],[6,7]),([8,6,6],[6,8]),([9],[9]),([9],[9]),([11,9],[9,11]),([10,12,9],[9,10,12]),([13,9],[9,13]),([14,9],[9,14]),([9],[9]),([9],[9]),([16,17,9],[9,16,17]),([18,9],[9,18]),([19,9],[9,19]),([15,20,9],[9,15,20]),([9,21,6],[6,9,21]),([6,22],[6,22])])
def Qj.B4:List Nat:=[0,0,3,7,15,31,63,127,255,511,1023,1023,3071,8191,16383,32767,1023,1023,197631,459775,984063,2097151,4194303,8388607]
theorem Qj.tab4:rtab .any (opsOf Try.f60 4)=Qj.T4:=by kernel_rfl
theorem Qj.bits4:waitsOk Qj.T4.2 Qj.B4=true:=by kernel_rfl
set_option maxHeartbeats 8000000 in
theorem Qj.calls (k:Nat) (A0:Option Addr) (c0:Nat) (l0:List (S75)) (r:Bool) (w:World) (m4:Kd.C k75 w A0 l0.length l0) (m5:l0.length≤c0) (h:Qj.f k l0=some r) :
  Calls Try.prog 60 #[.slice A0 l0.length c0] w fun e w'=>e = .returned (.bool r)∧Below w.heap.size w w':=by
 have hu75:=Try.underlying75;have k4:=zzm m4;have n4:=zzm m5;clear m4 m5;have HB:=zzm (Below.refl w.heap.size w);have H:(Qj.l0 k l0 0)=some r:=h;clear h;have H':=zzm H;clear H;go_enter Try.func60,Try.ntmps60;go_wp2;go_loopg [3] k (fun kq v3 w'=>∃ (a0:Int),v3 = .int .i64 a0∧Aside0 (Qj.l0 kq l0 a0=some r)∧Aside0 (kq≤k)∧Aside0 (Below w.heap.size w w'))
 case atStart=>exact ⟨(0),(by first|rfl|(simp;done)|(simp [*];done)),H',⟨Nat.le_refl _⟩,⟨zzh1⟩⟩
 case round=>
  clear H';obtain ⟨a0,rfl,HA,HK1,HB⟩:=hrel;cases gk with
  | zero=>exact absurd HA.out (by simp [Qj.l0])
  | succ k1=>
   have H:=HA.out;clear HA;simp only [Qj.l0] at H;by_cases c2:a0 < (l0.length:Int)
   ·
    rw [if_pos c2] at H;have m6:decide (a0 < (l0.length:Int))=true:=decide_eq_true c2;clear c2;by_cases c3 : 0≤a0
    ·
     rw [if_pos c3] at H;have n1:decide (0≤a0)=true:=decide_eq_true c3;clear c3;obtain ⟨m7,A4,H⟩:=zzG H;by_cases c5:m7=true
     ·
      subst c5;replace H:=zzIt H;by_cases c6:a0 > 0
      ·
       rw [if_pos c6] at H;have m8:decide (0 < a0)=true:=decide_eq_true c6;clear c6;obtain ⟨a3,hji7⟩:∃ j_:Int,(wrap64 (a0 - 1))=j_:=⟨_,rfl⟩;replace H:(if 0≤(a3) then (if (a3) < (l0.length:Int) then (if ((Qc l0 (a3)).f0) ≥ ((Qc l0 a0).f0) then (some false) else (Qj.l0 k1 l0 (wrap64 (a0+1)))) else (none)) else (none))=some r:=by first|(rw [hji7] at H;exact H)|(simp only [hji7] at H ⊢;exact H)
       (try rw [hji7] at A4);have hji7w:(IntKind.i64.wrap (a0 - 1))=a3:=(i64_w _).trans hji7;by_cases c8 : 0≤(a3)
       ·
        rw [if_pos c8] at H;have n2:decide (0≤(a3))=true:=decide_eq_true c8;clear c8;by_cases c9:(a3) < (l0.length:Int)
        ·
         rw [if_pos c9] at H;have n3:decide ((a3) < (l0.length:Int))=true:=decide_eq_true c9;clear c9;by_cases l4:((Qc l0 (a3)).f0) ≥ ((Qc l0 a0).f0)
         ·
          rw [if_pos l4] at H;have m3:decide (((Qc l0 a0).f0)≤((Qc l0 (a3)).f0))=true:=decide_eq_true l4;clear l4;obtain rfl:=Option.some.inj H;try go_wp2
          have d0:=zzm (zzc HB.out);clear HB;have HB:=d0;clear d0;have e7 : 0≤(a0:Int):=zzt;have e8:a0 < (l0.length:Int):=zzt;obtain ⟨a1,d1,d2,d3,d4,j4,a4,a5,a6,a7,a8,a9,b1,b2,b3,b4⟩:=Ro k4.out a0 e7 e8;have b5:=a9;have b6:=a8;have b7:=a7;have b8:=a6;have b9:=a5;have c1:=a4;cases j4;replace a4:=zzx HB.out a4;replace a5:=zzx HB.out a5;replace a6:=zzx HB.out a6;replace a7:=zzx HB.out a7;replace a8:=zzx HB.out a8;replace a9:=zzx HB.out a9;have c4:=zzm b2;have e9:=zzm b1;clear b2 b1;have c7:=zzm b4;have g0:=zzm b3;clear b4 b3;replace e7:=eq_true e7;replace e8:=eq_true e8;have j5 : 0≤((a3):Int):=zzt;have j6:(a3) < (l0.length:Int):=zzt;obtain ⟨l5,k5,k6,k7,k8,l7,d5,d6,d7,d8,d9,e0,g1,g2,g3,g4⟩:=Ro k4.out (a3) j5 j6;have g5:=e0;have g6:=d9;have g7:=d8;have g8:=d7;have g9:=d6;have h0:=d5;obtain rfl:a1=l5:=(by injection l7);replace d5:=zzx HB.out d5;replace d6:=zzx HB.out d6;replace d7:=zzx HB.out d7;replace d8:=zzx HB.out d8;replace d9:=zzx HB.out d9;replace e0:=zzx HB.out e0;have j9:=zzm g2;have l9:=zzm g1;clear g2 g1;have k0:=zzm g4;have m0:=zzm g3;clear g4 g3;replace j5:=eq_true j5;replace j6:=eq_true j6;have j7 : 0≤(a0:Int):=zzt;have j8:a0 < (l0.length:Int):=zzt;obtain ⟨l6,k9,l1,l2,l3,l8,e1,e2,e3,e4,e5,e6,h1,h2,h3,h4⟩:=Ro k4.out a0 j7 j8;have h5:=e6;have h6:=e5;have h7:=e4;have h8:=e3;have h9:=e2;have j2:=e1;obtain rfl:a1=l6:=(by injection l8);replace e1:=zzx HB.out e1;replace e2:=zzx HB.out e2;replace e3:=zzx HB.out e3;replace e4:=zzx HB.out e4;replace e5:=zzx HB.out e5;replace e6:=zzx HB.out e6;have k2:=zzm h2;have m1:=zzm h1;clear h2 h1;have k3:=zzm h4;have m2:=zzm h3;clear h4 h3;replace j7:=eq_true j7;replace j8:=eq_true j8;refine start_ (n:=24) (S:=fun w'=>w'.cell? (a1.add ((a0).toNat * 6))=some (.int .i64 ((Qc l0 a0).f0))∧w'.cell? ⟨(a1.add ((a0).toNat * 6)).block,(a1.add ((a0).toNat * 6)).off+1,none⟩=some (.int .i64 ((Qc l0 a0).f1))∧w'.cell? ⟨(a1.add ((a0).toNat * 6)).block,(a1.add ((a0).toNat * 6)).off+2,none⟩=some (.bool ((Qc l0 a0).f2))∧w'.cell? ⟨(a1.add ((a0).toNat * 6)).block,(a1.add ((a0).toNat * 6)).off+3,none⟩=some (.slice d1 ((Qc l0 a0).f3).length d2)∧w'.cell? ⟨(a1.add ((a0).toNat * 6)).block,(a1.add ((a0).toNat * 6)).off+4,none⟩=some (.bool ((Qc l0 a0).f4))∧w'.cell? ⟨(a1.add ((a0).toNat * 6)).block,(a1.add ((a0).toNat * 6)).off+5,none⟩=some (.slice d3 ((Qc l0 a0).f5).length d4)∧w'.cell? (a1.add (((a3)).toNat * 6))=some (.int .i64 ((Qc l0 (a3)).f0))∧w'.cell? ⟨(a1.add (((a3)).toNat * 6)).block,(a1.add (((a3)).toNat * 6)).off+1,none⟩=some (.int .i64 ((Qc l0 (a3)).f1))∧w'.cell? ⟨(a1.add (((a3)).toNat * 6)).block,(a1.add (((a3)).toNat * 6)).off+2,none⟩=some (.bool ((Qc l0 (a3)).f2))∧w'.cell? ⟨(a1.add (((a3)).toNat * 6)).block,(a1.add (((a3)).toNat * 6)).off+3,none⟩=some (.slice k5 ((Qc l0 (a3)).f3).length k6)∧w'.cell? ⟨(a1.add (((a3)).toNat * 6)).block,(a1.add (((a3)).toNat * 6)).off+4,none⟩=some (.bool ((Qc l0 (a3)).f4))∧w'.cell? ⟨(a1.add (((a3)).toNat * 6)).block,(a1.add (((a3)).toNat * 6)).off+5,none⟩=some (.slice k7 ((Qc l0 (a3)).f5).length k8)∧w'.cell? (a1.add ((a0).toNat * 6))=some (.int .i64 ((Qc l0 a0).f0))∧w'.cell? ⟨(a1.add ((a0).toNat * 6)).block,(a1.add ((a0).toNat * 6)).off+1,none⟩=some (.int .i64 ((Qc l0 a0).f1))∧w'.cell? ⟨(a1.add ((a0).toNat * 6)).block,(a1.add ((a0).toNat * 6)).off+2,none⟩=some (.bool ((Qc l0 a0).f2))∧w'.cell? ⟨(a1.add ((a0).toNat * 6)).block,(a1.add ((a0).toNat * 6)).off+3,none⟩=some (.slice k9 ((Qc l0 a0).f3).length l1)∧w'.cell? ⟨(a1.add ((a0).toNat * 6)).block,(a1.add ((a0).toNat * 6)).off+4,none⟩=some (.bool ((Qc l0 a0).f4))∧w'.cell? ⟨(a1.add ((a0).toNat * 6)).block,(a1.add ((a0).toNat * 6)).off+5,none⟩=some (.slice l2 ((Qc l0 a0).f5).length l3)) (ds:=[]) (zzB 24 0) (by kernel_rfl) rfl rfl ⟨(zzx HB.out c1),(zzx HB.out b9),(zzx HB.out b8),(zzx HB.out b7),(zzx HB.out b6),(zzx HB.out b5),(zzx HB.out h0),(zzx HB.out g9),(zzx HB.out g8),(zzx HB.out g7),(zzx HB.out g6),(zzx HB.out g5),(zzx HB.out j2),(zzx HB.out h9),(zzx HB.out h8),(zzx HB.out h7),(zzx HB.out h6),(zzx HB.out h5)⟩ (fun b0=>?_);refine with_tabW Qj.tab4 Qj.bits4 (fun a2 j3=>?_);generalize wr.drew=n5 at HB c4 c7 j9 k0 k2 k3 a4 a5 a6 a7 a8 a9 d5 d6 d7 d8 d9 e0 e1 e2 e3 e4 e5 e6 b0 ⊢;refine zzP 0 10 24 1 a2 ?_
          refine zzP 1 11 24 3 a2 ?_
          refine zzP 2 12 24 7 a2 ?_
          refine zzT 3 13 24 15 a2 j3 b0 ?_
          refine one_ (i:=4) (N:=some 14) (zzB 24 31) rfl rfl (one_of a2.out (by kernel_rfl)) (by decide) (fun K hK=>?_);refine goes_ Try.func66 (by kernel_rfl) rfl #[.agg #[.int .i64 ((Qc l0 a0).f0),.int .i64 ((Qc l0 a0).f1),.bool ((Qc l0 a0).f2),.slice d1 ((Qc l0 a0).f3).length d2,.bool ((Qc l0 a0).f4),.slice d3 ((Qc l0 a0).f5).length d4]] (by rfl) rfl rfl zzM2 ?_;with_reducible refine (Re.calls k1 ((Qc l0 a0).f0) ((Qc l0 a0).f1) ((Qc l0 a0).f2) _ _ ((Qc l0 a0).f3) ((Qc l0 a0).f4) _ _ ((Qc l0 a0).f5) true _ ?side1 ?side2 ?side3 ?side4 A4.out).mono ?_
          (case side1=>exact zzcb c4 HB)
          (case side2=>exact e9.out)
          (case side3=>exact zzcb c7 HB)
          (case side4=>exact g0.out);rintro e n6 ⟨rfl,hb⟩;refine ⟨_,rfl,?_⟩;have d0:=zzm (zzp zzh1 hb);clear HB;have HB:=d0;clear d0
          (try clear hb)
          (try clear hb2)
          (try clear hk)
          (try clear hi);refine hK.out _ _ ⟨(zzx HB.out c1),(zzx HB.out b9),(zzx HB.out b8),(zzx HB.out b7),(zzx HB.out b6),(zzx HB.out b5),(zzx HB.out h0),(zzx HB.out g9),(zzx HB.out g8),(zzx HB.out g7),(zzx HB.out g6),(zzx HB.out g5),(zzx HB.out j2),(zzx HB.out h9),(zzx HB.out h8),(zzx HB.out h7),(zzx HB.out h6),(zzx HB.out h5)⟩ (fun b0=>?_);clear hK K;refine zzO 14 ?_
          refine zzP 5 15 24 63 a2 ?_
          refine zzP 6 16 24 127 a2 ?_
          refine zzP 7 17 24 255 a2 ?_
          refine zzP 8 18 24 511 a2 ?_
          refine zzP 9 19 24 1023 a2 ?_
          refine zzP 10 20 24 2047 a2 ?_
          refine zzP 11 21 24 4095 a2 ?_
          refine zzP 12 22 24 8191 a2 ?_
          refine zzP 13 23 24 16383 a2 ?_
          refine zzP 14 24 24 32767 a2 ?_
          refine zzP 16 26 24 98303 a2 ?_
          refine zzP 17 27 24 229375 a2 ?_
          refine zzP 18 28 24 491519 a2 ?_
          refine zzP 19 29 24 1015807 a2 ?_
          refine zzT 15 25 24 1048575 a2 j3 b0 ?_
          refine zzT 20 30 24 2097151 a2 j3 b0 ?_
          refine zzP 21 31 24 4194303 a2 ?_
          refine zzP 22 32 24 8388607 a2 ?_
          refine zzP 23 33 24 16777215 a2 ?_
          refine done_ (done_of a2.out (by kernel_rfl)) ?_;try go_wp2
          go_ret;exact ⟨by first|rfl|(simp [errW_none,errW_some] <;> rfl)|(simp only [← hji7];first|rfl|(simp [errW_none,errW_some] <;> rfl))|(simp [*,errW_none,errW_some] <;> rfl),zzh1⟩
         ·
          rw [if_neg l4] at H;have m3:decide (((Qc l0 a0).f0)≤((Qc l0 (a3)).f0))=false:=decide_eq_false l4;clear l4;have H':=zzm H;clear H;try go_wp2
          have d0:=zzm (zzc HB.out);clear HB;have HB:=d0;clear d0;have e7 : 0≤(a0:Int):=zzt;have e8:a0 < (l0.length:Int):=zzt;obtain ⟨a1,d1,d2,d3,d4,j4,a4,a5,a6,a7,a8,a9,b1,b2,b3,b4⟩:=Ro k4.out a0 e7 e8;have b5:=a9;have b6:=a8;have b7:=a7;have b8:=a6;have b9:=a5;have c1:=a4;cases j4;replace a4:=zzx HB.out a4;replace a5:=zzx HB.out a5;replace a6:=zzx HB.out a6;replace a7:=zzx HB.out a7;replace a8:=zzx HB.out a8;replace a9:=zzx HB.out a9;have c4:=zzm b2;have e9:=zzm b1;clear b2 b1;have c7:=zzm b4;have g0:=zzm b3;clear b4 b3;replace e7:=eq_true e7;replace e8:=eq_true e8;have j5 : 0≤((a3):Int):=zzt;have j6:(a3) < (l0.length:Int):=zzt;obtain ⟨l5,k5,k6,k7,k8,l7,d5,d6,d7,d8,d9,e0,g1,g2,g3,g4⟩:=Ro k4.out (a3) j5 j6;have g5:=e0;have g6:=d9;have g7:=d8;have g8:=d7;have g9:=d6;have h0:=d5;obtain rfl:a1=l5:=(by injection l7);replace d5:=zzx HB.out d5;replace d6:=zzx HB.out d6;replace d7:=zzx HB.out d7;replace d8:=zzx HB.out d8;replace d9:=zzx HB.out d9;replace e0:=zzx HB.out e0;have j9:=zzm g2;have l9:=zzm g1;clear g2 g1;have k0:=zzm g4;have m0:=zzm g3;clear g4 g3;replace j5:=eq_true j5;replace j6:=eq_true j6;have j7 : 0≤(a0:Int):=zzt;have j8:a0 < (l0.length:Int):=zzt;obtain ⟨l6,k9,l1,l2,l3,l8,e1,e2,e3,e4,e5,e6,h1,h2,h3,h4⟩:=Ro k4.out a0 j7 j8;have h5:=e6;have h6:=e5;have h7:=e4;have h8:=e3;have h9:=e2;have j2:=e1;obtain rfl:a1=l6:=(by injection l8);replace e1:=zzx HB.out e1;replace e2:=zzx HB.out e2;replace e3:=zzx HB.out e3;replace e4:=zzx HB.out e4;replace e5:=zzx HB.out e5;replace e6:=zzx HB.out e6;have k2:=zzm h2;have m1:=zzm h1;clear h2 h1;have k3:=zzm h4;have m2:=zzm h3;clear h4 h3;replace j7:=eq_true j7;replace j8:=eq_true j8;refine start_ (n:=24) (S:=fun w'=>w'.cell? (a1.add ((a0).toNat * 6))=some (.int .i64 ((Qc l0 a0).f0))∧w'.cell? ⟨(a1.add ((a0).toNat * 6)).block,(a1.add ((a0).toNat * 6)).off+1,none⟩=some (.int .i64 ((Qc l0 a0).f1))∧w'.cell? ⟨(a1.add ((a0).toNat * 6)).block,(a1.add ((a0).toNat * 6)).off+2,none⟩=some (.bool ((Qc l0 a0).f2))∧w'.cell? ⟨(a1.add ((a0).toNat * 6)).block,(a1.add ((a0).toNat * 6)).off+3,none⟩=some (.slice d1 ((Qc l0 a0).f3).length d2)∧w'.cell? ⟨(a1.add ((a0).toNat * 6)).block,(a1.add ((a0).toNat * 6)).off+4,none⟩=some (.bool ((Qc l0 a0).f4))∧w'.cell? ⟨(a1.add ((a0).toNat * 6)).block,(a1.add ((a0).toNat * 6)).off+5,none⟩=some (.slice d3 ((Qc l0 a0).f5).length d4)∧w'.cell? (a1.add (((a3)).toNat * 6))=some (.int .i64 ((Qc l0 (a3)).f0))∧w'.cell? ⟨(a1.add (((a3)).toNat * 6)).block,(a1.add (((a3)).toNat * 6)).off+1,none⟩=some (.int .i64 ((Qc l0 (a3)).f1))∧w'.cell? ⟨(a1.add (((a3)).toNat * 6)).block,(a1.add (((a3)).toNat * 6)).off+2,none⟩=some (.bool ((Qc l0 (a3)).f2))∧w'.cell? ⟨(a1.add (((a3)).toNat * 6)).block,(a1.add (((a3)).toNat * 6)).off+3,none⟩=some (.slice k5 ((Qc l0 (a3)).f3).length k6)∧w'.cell? ⟨(a1.add (((a3)).toNat * 6)).block,(a1.add (((a3)).toNat * 6)).off+4,none⟩=some (.bool ((Qc l0 (a3)).f4))∧w'.cell? ⟨(a1.add (((a3)).toNat * 6)).block,(a1.add (((a3)).toNat * 6)).off+5,none⟩=some (.slice k7 ((Qc l0 (a3)).f5).length k8)∧w'.cell? (a1.add ((a0).toNat * 6))=some (.int .i64 ((Qc l0 a0).f0))∧w'.cell? ⟨(a1.add ((a0).toNat * 6)).block,(a1.add ((a0).toNat * 6)).off+1,none⟩=some (.int .i64 ((Qc l0 a0).f1))∧w'.cell? ⟨(a1.add ((a0).toNat * 6)).block,(a1.add ((a0).toNat * 6)).off+2,none⟩=some (.bool ((Qc l0 a0).f2))∧w'.cell? ⟨(a1.add ((a0).toNat * 6)).block,(a1.add ((a0).toNat * 6)).off+3,none⟩=some (.slice k9 ((Qc l0 a0).f3).length l1)∧w'.cell? ⟨(a1.add ((a0).toNat * 6)).block,(a1.add ((a0).toNat * 6)).off+4,none⟩=some (.bool ((Qc l0 a0).f4))∧w'.cell? ⟨(a1.add ((a0).toNat * 6)).block,(a1.add ((a0).toNat * 6)).off+5,none⟩=some (.slice l2 ((Qc l0 a0).f5).length l3)) (ds:=[]) (zzB 24 0) (by kernel_rfl) rfl rfl ⟨(zzx HB.out c1),(zzx HB.out b9),(zzx HB.out b8),(zzx HB.out b7),(zzx HB.out b6),(zzx HB.out b5),(zzx HB.out h0),(zzx HB.out g9),(zzx HB.out g8),(zzx HB.out g7),(zzx HB.out g6),(zzx HB.out g5),(zzx HB.out j2),(zzx HB.out h9),(zzx HB.out h8),(zzx HB.out h7),(zzx HB.out h6),(zzx HB.out h5)⟩ (fun b0=>?_);refine with_tabW Qj.tab4 Qj.bits4 (fun a2 j3=>?_);generalize wr.drew=n7 at HB c4 c7 j9 k0 k2 k3 a4 a5 a6 a7 a8 a9 d5 d6 d7 d8 d9 e0 e1 e2 e3 e4 e5 e6 b0 ⊢;refine zzP 0 10 24 1 a2 ?_
          refine zzP 1 11 24 3 a2 ?_
          refine zzP 2 12 24 7 a2 ?_
          refine zzT 3 13 24 15 a2 j3 b0 ?_
          refine one_ (i:=4) (N:=some 14) (zzB 24 31) rfl rfl (one_of a2.out (by kernel_rfl)) (by decide) (fun K hK=>?_);refine goes_ Try.func66 (by kernel_rfl) rfl #[.agg #[.int .i64 ((Qc l0 a0).f0),.int .i64 ((Qc l0 a0).f1),.bool ((Qc l0 a0).f2),.slice d1 ((Qc l0 a0).f3).length d2,.bool ((Qc l0 a0).f4),.slice d3 ((Qc l0 a0).f5).length d4]] (by rfl) rfl rfl zzM2 ?_;with_reducible refine (Re.calls k1 ((Qc l0 a0).f0) ((Qc l0 a0).f1) ((Qc l0 a0).f2) _ _ ((Qc l0 a0).f3) ((Qc l0 a0).f4) _ _ ((Qc l0 a0).f5) true _ ?side1 ?side2 ?side3 ?side4 A4.out).mono ?_
          (case side1=>exact zzcb c4 HB)
          (case side2=>exact e9.out)
          (case side3=>exact zzcb c7 HB)
          (case side4=>exact g0.out);rintro e n8 ⟨rfl,hb⟩;refine ⟨_,rfl,?_⟩;have d0:=zzm (zzp zzh1 hb);clear HB;have HB:=d0;clear d0
          (try clear hb)
          (try clear hb2)
          (try clear hk)
          (try clear hi);refine hK.out _ _ ⟨(zzx HB.out c1),(zzx HB.out b9),(zzx HB.out b8),(zzx HB.out b7),(zzx HB.out b6),(zzx HB.out b5),(zzx HB.out h0),(zzx HB.out g9),(zzx HB.out g8),(zzx HB.out g7),(zzx HB.out g6),(zzx HB.out g5),(zzx HB.out j2),(zzx HB.out h9),(zzx HB.out h8),(zzx HB.out h7),(zzx HB.out h6),(zzx HB.out h5)⟩ (fun b0=>?_);clear hK K;refine zzO 14 ?_
          refine zzP 5 15 24 63 a2 ?_
          refine zzP 6 16 24 127 a2 ?_
          refine zzP 7 17 24 255 a2 ?_
          refine zzP 8 18 24 511 a2 ?_
          refine zzP 9 19 24 1023 a2 ?_
          refine zzP 10 20 24 2047 a2 ?_
          refine zzP 11 21 24 4095 a2 ?_
          refine zzP 12 22 24 8191 a2 ?_
          refine zzP 13 23 24 16383 a2 ?_
          refine zzP 14 24 24 32767 a2 ?_
          refine zzP 16 26 24 98303 a2 ?_
          refine zzP 17 27 24 229375 a2 ?_
          refine zzP 18 28 24 491519 a2 ?_
          refine zzP 19 29 24 1015807 a2 ?_
          refine zzT 15 25 24 1048575 a2 j3 b0 ?_
          refine zzT 20 30 24 2097151 a2 j3 b0 ?_
          refine zzP 21 31 24 4194303 a2 ?_
          refine zzP 22 32 24 8388607 a2 ?_
          refine zzP 23 33 24 16777215 a2 ?_
          refine done_ (done_of a2.out (by kernel_rfl)) ?_;try go_wp2
          go_roundg k1
          case measure=>have:=HK1.out;omega
          case rel=>exact ⟨(wrap64 (a0+1)),(by first|rfl|(simp;done)|(simp [*];done)),H',⟨by have:=HK1.out;omega⟩,⟨zzh1⟩⟩
        ·
         rw [if_neg c9] at H;exact absurd H (by simp)
       ·
        rw [if_neg c8] at H;exact absurd H (by simp)
      ·
       rw [if_neg c6] at H;have m8:decide (0 < a0)=false:=decide_eq_false c6;clear c6;have H':=zzm H;clear H;try go_wp2
       have d0:=zzm (zzc HB.out);clear HB;have HB:=d0;clear d0;have e7 : 0≤(a0:Int):=zzt;have e8:a0 < (l0.length:Int):=zzt;obtain ⟨a1,d1,d2,d3,d4,j4,a4,a5,a6,a7,a8,a9,b1,b2,b3,b4⟩:=Ro k4.out a0 e7 e8;have b5:=a9;have b6:=a8;have b7:=a7;have b8:=a6;have b9:=a5;have c1:=a4;cases j4;replace a4:=zzx HB.out a4;replace a5:=zzx HB.out a5;replace a6:=zzx HB.out a6;replace a7:=zzx HB.out a7;replace a8:=zzx HB.out a8;replace a9:=zzx HB.out a9;have c4:=zzm b2;have e9:=zzm b1;clear b2 b1;have c7:=zzm b4;have g0:=zzm b3;clear b4 b3;replace e7:=eq_true e7;replace e8:=eq_true e8;refine start_ (n:=24) (S:=fun w'=>w'.cell? (a1.add ((a0).toNat * 6))=some (.int .i64 ((Qc l0 a0).f0))∧w'.cell? ⟨(a1.add ((a0).toNat * 6)).block,(a1.add ((a0).toNat * 6)).off+1,none⟩=some (.int .i64 ((Qc l0 a0).f1))∧w'.cell? ⟨(a1.add ((a0).toNat * 6)).block,(a1.add ((a0).toNat * 6)).off+2,none⟩=some (.bool ((Qc l0 a0).f2))∧w'.cell? ⟨(a1.add ((a0).toNat * 6)).block,(a1.add ((a0).toNat * 6)).off+3,none⟩=some (.slice d1 ((Qc l0 a0).f3).length d2)∧w'.cell? ⟨(a1.add ((a0).toNat * 6)).block,(a1.add ((a0).toNat * 6)).off+4,none⟩=some (.bool ((Qc l0 a0).f4))∧w'.cell? ⟨(a1.add ((a0).toNat * 6)).block,(a1.add ((a0).toNat * 6)).off+5,none⟩=some (.slice d3 ((Qc l0 a0).f5).length d4)) (ds:=[]) (zzB 24 0) (by kernel_rfl) rfl rfl ⟨(zzx HB.out c1),(zzx HB.out b9),(zzx HB.out b8),(zzx HB.out b7),(zzx HB.out b6),(zzx HB.out b5)⟩ (fun b0=>?_);refine with_tabW Qj.tab4 Qj.bits4 (fun a2 j3=>?_);generalize wr.drew=n9 at HB c4 c7 a4 a5 a6 a7 a8 a9 b0 ⊢;refine zzP 0 10 24 1 a2 ?_
       refine zzP 1 11 24 3 a2 ?_
       refine zzP 2 12 24 7 a2 ?_
       refine zzT 3 13 24 15 a2 j3 b0 ?_
       refine one_ (i:=4) (N:=some 14) (zzB 24 31) rfl rfl (one_of a2.out (by kernel_rfl)) (by decide) (fun K hK=>?_);refine goes_ Try.func66 (by kernel_rfl) rfl #[.agg #[.int .i64 ((Qc l0 a0).f0),.int .i64 ((Qc l0 a0).f1),.bool ((Qc l0 a0).f2),.slice d1 ((Qc l0 a0).f3).length d2,.bool ((Qc l0 a0).f4),.slice d3 ((Qc l0 a0).f5).length d4]] (by rfl) rfl rfl zzM2 ?_;with_reducible refine (Re.calls k1 ((Qc l0 a0).f0) ((Qc l0 a0).f1) ((Qc l0 a0).f2) _ _ ((Qc l0 a0).f3) ((Qc l0 a0).f4) _ _ ((Qc l0 a0).f5) true _ ?side1 ?side2 ?side3 ?side4 A4.out).mono ?_
       (case side1=>exact zzcb c4 HB)
       (case side2=>exact e9.out)
       (case side3=>exact zzcb c7 HB)
       (case side4=>exact g0.out);rintro e o0 ⟨rfl,hb⟩;refine ⟨_,rfl,?_⟩;have d0:=zzm (zzp zzh1 hb);clear HB;have HB:=d0;clear d0
       (try clear hb)
       (try clear hb2)
       (try clear hk)
       (try clear hi);refine hK.out _ _ ⟨(zzx HB.out c1),(zzx HB.out b9),(zzx HB.out b8),(zzx HB.out b7),(zzx HB.out b6),(zzx HB.out b5)⟩ (fun b0=>?_);clear hK K;refine zzO 14 ?_
       refine zzP 5 15 24 63 a2 ?_
       refine zzP 6 16 24 127 a2 ?_
       refine zzP 7 17 24 255 a2 ?_
       refine zzP 8 18 24 511 a2 ?_
       refine zzP 9 19 24 1023 a2 ?_
       refine zzU 10 20 24 2047 a2 ?_
       refine zzU 11 21 24 4095 a2 ?_
       refine zzU 12 22 24 8191 a2 ?_
       refine zzU 13 23 24 16383 a2 ?_
       refine zzU 14 24 24 32767 a2 ?_
       refine zzU 15 25 24 65535 a2 ?_
       refine zzU 16 26 24 131071 a2 ?_
       refine zzU 17 27 24 262143 a2 ?_
       refine zzU 18 28 24 524287 a2 ?_
       refine zzU 19 29 24 1048575 a2 ?_
       refine zzU 20 30 24 2097151 a2 ?_
       refine zzU 21 31 24 4194303 a2 ?_
       refine zzP 22 32 24 8388607 a2 ?_
       refine zzP 23 33 24 16777215 a2 ?_
       refine done_ (done_of a2.out (by kernel_rfl)) ?_;try go_wp2
       go_roundg k1
       case measure=>have:=HK1.out;omega
       case rel=>exact ⟨(wrap64 (a0+1)),(by first|rfl|(simp;done)|(simp [*];done)),H',⟨by have:=HK1.out;omega⟩,⟨zzh1⟩⟩
     ·
      replace c5:=Bool.eq_false_iff.mpr c5;subst c5;replace H:=zzIf H;obtain rfl:=Option.some.inj H;try go_wp2
      have d0:=zzm (zzc HB.out);clear HB;have HB:=d0;clear d0;have e7 : 0≤(a0:Int):=zzt;have e8:a0 < (l0.length:Int):=zzt;obtain ⟨a1,d1,d2,d3,d4,j4,a4,a5,a6,a7,a8,a9,b1,b2,b3,b4⟩:=Ro k4.out a0 e7 e8;have b5:=a9;have b6:=a8;have b7:=a7;have b8:=a6;have b9:=a5;have c1:=a4;cases j4;replace a4:=zzx HB.out a4;replace a5:=zzx HB.out a5;replace a6:=zzx HB.out a6;replace a7:=zzx HB.out a7;replace a8:=zzx HB.out a8;replace a9:=zzx HB.out a9;have c4:=zzm b2;have e9:=zzm b1;clear b2 b1;have c7:=zzm b4;have g0:=zzm b3;clear b4 b3;replace e7:=eq_true e7;replace e8:=eq_true e8;refine start_ (n:=24) (S:=fun w'=>w'.cell? (a1.add ((a0).toNat * 6))=some (.int .i64 ((Qc l0 a0).f0))∧w'.cell? ⟨(a1.add ((a0).toNat * 6)).block,(a1.add ((a0).toNat * 6)).off+1,none⟩=some (.int .i64 ((Qc l0 a0).f1))∧w'.cell? ⟨(a1.add ((a0).toNat * 6)).block,(a1.add ((a0).toNat * 6)).off+2,none⟩=some (.bool ((Qc l0 a0).f2))∧w'.cell? ⟨(a1.add ((a0).toNat * 6)).block,(a1.add ((a0).toNat * 6)).off+3,none⟩=some (.slice d1 ((Qc l0 a0).f3).length d2)∧w'.cell? ⟨(a1.add ((a0).toNat * 6)).block,(a1.add ((a0).toNat * 6)).off+4,none⟩=some (.bool ((Qc l0 a0).f4))∧w'.cell? ⟨(a1.add ((a0).toNat * 6)).block,(a1.add ((a0).toNat * 6)).off+5,none⟩=some (.slice d3 ((Qc l0 a0).f5).length d4)) (ds:=[]) (zzB 24 0) (by kernel_rfl) rfl rfl ⟨(zzx HB.out c1),(zzx HB.out b9),(zzx HB.out b8),(zzx HB.out b7),(zzx HB.out b6),(zzx HB.out b5)⟩ (fun b0=>?_);refine with_tabW Qj.tab4 Qj.bits4 (fun a2 j3=>?_);generalize wr.drew=o1 at HB c4 c7 a4 a5 a6 a7 a8 a9 b0 ⊢;refine zzP 0 10 24 1 a2 ?_
      refine zzP 1 11 24 3 a2 ?_
      refine zzP 2 12 24 7 a2 ?_
      refine zzT 3 13 24 15 a2 j3 b0 ?_
      refine one_ (i:=4) (N:=some 14) (zzB 24 31) rfl rfl (one_of a2.out (by kernel_rfl)) (by decide) (fun K hK=>?_);refine goes_ Try.func66 (by kernel_rfl) rfl #[.agg #[.int .i64 ((Qc l0 a0).f0),.int .i64 ((Qc l0 a0).f1),.bool ((Qc l0 a0).f2),.slice d1 ((Qc l0 a0).f3).length d2,.bool ((Qc l0 a0).f4),.slice d3 ((Qc l0 a0).f5).length d4]] (by rfl) rfl rfl zzM2 ?_;with_reducible refine (Re.calls k1 ((Qc l0 a0).f0) ((Qc l0 a0).f1) ((Qc l0 a0).f2) _ _ ((Qc l0 a0).f3) ((Qc l0 a0).f4) _ _ ((Qc l0 a0).f5) false _ ?side1 ?side2 ?side3 ?side4 A4.out).mono ?_
      (case side1=>exact zzcb c4 HB)
      (case side2=>exact e9.out)
      (case side3=>exact zzcb c7 HB)
      (case side4=>exact g0.out);rintro e o2 ⟨rfl,hb⟩;refine ⟨_,rfl,?_⟩;have d0:=zzm (zzp zzh1 hb);clear HB;have HB:=d0;clear d0
      (try clear hb)
      (try clear hb2)
      (try clear hk)
      (try clear hi);refine hK.out _ _ ⟨(zzx HB.out c1),(zzx HB.out b9),(zzx HB.out b8),(zzx HB.out b7),(zzx HB.out b6),(zzx HB.out b5)⟩ (fun b0=>?_);clear hK K;refine zzO 14 ?_
      refine zzP 5 15 24 63 a2 ?_
      refine zzP 6 16 24 127 a2 ?_
      refine zzU 7 17 24 255 a2 ?_
      refine zzU 8 18 24 511 a2 ?_
      refine zzU 9 19 24 1023 a2 ?_
      refine zzU 10 20 24 2047 a2 ?_
      refine zzU 11 21 24 4095 a2 ?_
      refine zzU 12 22 24 8191 a2 ?_
      refine zzU 13 23 24 16383 a2 ?_
      refine zzU 14 24 24 32767 a2 ?_
      refine zzU 15 25 24 65535 a2 ?_
      refine zzU 16 26 24 131071 a2 ?_
      refine zzU 17 27 24 262143 a2 ?_
      refine zzU 18 28 24 524287 a2 ?_
      refine zzU 19 29 24 1048575 a2 ?_
      refine zzU 20 30 24 2097151 a2 ?_
      refine zzU 21 31 24 4194303 a2 ?_
      refine zzU 22 32 24 8388607 a2 ?_
      refine zzP 23 33 24 16777215 a2 ?_
      refine done_ (done_of a2.out (by kernel_rfl)) ?_;try go_wp2
      go_ret;exact ⟨zzR,zzh1⟩
    ·
     rw [if_neg c3] at H;exact absurd H (by simp)
   ·
    rw [if_neg c2] at H;have m6:decide (a0 < (l0.length:Int))=false:=decide_eq_false c2;clear c2;obtain ⟨m9,n0,H⟩:=zzG H;obtain rfl:=Option.some.inj H;go_wp2_with (first|((with_reducible refine gate_callee (f:=53) rfl ?_);refine goesL_ (some 36) rfl rfl Try.func53 (by kernel_rfl) rfl #[.int .i64 (l0.length:Int),.int .i64 1,.int .i64 6] rfl zzM2 ?_;(with_reducible refine (Qo.calls (l0.length:Int) 1 6 m9 _ n0.out).mono ?_);rintro e w' ⟨rfl,⟨nd,rfl⟩⟩;refine ⟨_,rfl,?_⟩));go_ret;exact ⟨zzR,zzh1⟩
def Qr.j0:Nat→Bool→Bool→Bool→Int→Int→Int→List (S75)→Option (Bool)
 | 0,_,_,_,_,_,_,_=>none
 | k+1,x24,x316000,x316001,x316002,x316003,x316004,x316005=>if x24=true then (some false) else (if x316002=255 then (if x316003=0 then (if x316004=0 then (some (!x316001)) else (some false)) else (some false)) else (if x316001=true then (some ((x316005.length:Int)==1)) else (some true)))
def Qr.f (k:Nat) (a0_0:Bool) (a0_1:Bool) (a0_2:Int) (a0_3:Int) (a0_4:Int) (l0_5:List (S75)):Option (Bool):=(Qj.f k l0_5).bind fun t316=>(if t316=true then ((Qo.f a0_2 0 255).bind fun t317=>(if t317=true then ((Qo.f a0_3 0 99).bind fun t318=>(if t318=true then ((Qo.f a0_4 0 9999).bind fun t319=>(Qr.j0 k (!t319) a0_0 a0_1 a0_2 a0_3 a0_4 l0_5)) else (Qr.j0 k true a0_0 a0_1 a0_2 a0_3 a0_4 l0_5))) else (Qr.j0 k true a0_0 a0_1 a0_2 a0_3 a0_4 l0_5))) else (Qr.j0 k true a0_0 a0_1 a0_2 a0_3 a0_4 l0_5))
set_option maxHeartbeats 8000000 in
theorem Qr.calls (k:Nat) (a6:Bool) (a5:Bool) (a2:Int) (a3:Int) (a4:Int) (a7:Option Addr) (a8:Nat) (a1:List (S75)) (r:Bool) (w:World) (c2:Kd.C k75 w a7 a1.length a1) (c3:a1.length≤a8) (h:Qr.f k a6 a5 a2 a3 a4 a1=some r) :
  Calls Try.prog 51 #[.agg #[.bool a6,.bool a5,.int .i64 a2,.int .i64 a3,.int .i64 a4,.slice a7 a1.length a8]] w fun e w'=>e = .returned (.bool r)∧Below w.heap.size w w':=by
 have hu26:=Try.underlying26;have b2:=zzm c2;have b3:=zzm c3;clear c2 c3;have HB:=zzm (Below.refl w.heap.size w);have H:((Qj.f k a1).bind fun b9=>(if b9=true then ((Qo.f a2 0 255).bind fun c0=>(if c0=true then ((Qo.f a3 0 99).bind fun c1=>(if c1=true then ((Qo.f a4 0 9999).bind fun b5=>(Qr.j0 k (!b5) a6 a5 a2 a3 a4 a1)) else (Qr.j0 k true a6 a5 a2 a3 a4 a1))) else (Qr.j0 k true a6 a5 a2 a3 a4 a1))) else (Qr.j0 k true a6 a5 a2 a3 a4 a1)))=some r:=h;clear h;have n7:=zzm H;clear H;go_enter Try.func51,Try.ntmps51;go_upto_region 1 with (first|((with_reducible refine gate_dst (N:=1) rfl ?_);(try (refine gate_guard (by rfl) ?_;dsimp only));refine box_event ?hg (N:=1) ?hd (cs:=#[.bool a6,.bool a5,.int .i64 a2,.int .i64 a3,.int .i64 a4,.slice a7 a1.length a8]) (t:=26) ?hr ?_;(case hd=>rfl);(case hg=>rfl);(case hr=>first|(go_simp;done)|(go_simp;rfl));intro b1 hg w3 hbox hb;have a9:=zzm (zzp zzh1 hb);have b0:=zzm (hbox);have o4:=zzm ((by rw [hg];exact (zzo zzh1):w.heap.size≤b1));have o5:=zzm ((by rw [hg];exact (zzo zzh1):w.heap.size≤b1));clear HB;have HB:=a9;have a0:=b0;have v9:=o4;have w0:=o5;clear a9 b0 o4 o5 hb hbox hg))
 (try simp only [Act.put,zzq,zzr,zzs]);go_cut [24] (fun v7 wc=>∃ (kq:Nat) (b4:Bool),v7 = .bool b4∧Aside0 (Qr.j0 kq b4 a6 a5 a2 a3 a4 a1=some r)∧Aside0 (kq≤k)∧Aside0 (wc.heap[b1]? = some (.cells #[.bool a6,.bool a5,.int .i64 a2,.int .i64 a3,.int .i64 a4,(.slice a7 a1.length a8)] 26 (0,0)))∧Aside0 (Below w.heap.size w wc))
 case first=>
  have H:=n7.out;clear n7;obtain ⟨b9,A4,H⟩:=zzG H;by_cases c5:b9=true
  ·
   subst c5;replace H:=zzIt H;obtain ⟨c0,A6,H⟩:=zzG H;by_cases c7:c0=true
   ·
    subst c7;replace H:=zzIt H;obtain ⟨c1,A8,H⟩:=zzG H;by_cases c9:c1=true
    ·
     subst c9;replace H:=zzIt H;obtain ⟨b5,v8,H⟩:=zzG H;have H':=zzm H;clear H;obtain ⟨d0,d1,d2,d3,d4,d5,d6,d7,d8,d9,e0,e1⟩:=zzc6 a0.out;go_wp2_with (first|((with_reducible refine gate_callee (f:=60) rfl ?_);refine goesL_ (some 5) rfl rfl Try.func60 (by kernel_rfl) rfl #[.slice a7 a1.length a8] rfl zzM2 ?_;(with_reducible refine (Qj.calls k _ _ a1 true _ ?side1 ?side2 A4.out).mono ?_);(case side1=>exact zzcb b2 HB);(case side2=>exact b3.out);rintro e w1 ⟨rfl,hb⟩;refine ⟨_,rfl,?_⟩;have a9:=zzm (zzh (g:=b1) (o:=.cells #[.bool a6,.bool a5,.int .i64 a2,.int .i64 a3,.int .i64 a4,.slice a7 a1.length a8] 26 (0,0)) (zzE a0.out) hb);have b0:=zzm (zzp zzh2 hb);clear a0 HB;have a0:=a9;have HB:=b0;clear a9 b0;(try clear hb);(try clear hb2);(try clear hk);(try clear hi);obtain ⟨e2,e3,e4,e5,e6,e7,e8,e9,g0,g1,g2,g3⟩:=zzc6 a0.out)|(go_at_call 53;(with_reducible refine (Qo.calls a2 0 255 true _ A6.out).mono ?_);rintro e w' ⟨rfl,⟨nd,rfl⟩⟩)|(go_at_call 53;(with_reducible refine (Qo.calls a3 0 99 true _ A8.out).mono ?_);rintro e w' ⟨rfl,⟨nd,rfl⟩⟩)|(go_at_call 53;(with_reducible refine (Qo.calls a4 0 9999 b5 _ v8.out).mono ?_);rintro e w' ⟨rfl,⟨nd,rfl⟩⟩));go_meet
     case rel=>exact ⟨_,(!b5),(by first|rfl|(simp;done)|(simp [*];done)),H',⟨by first|omega|exact Nat.le_refl _⟩,⟨zzE a0.out⟩,⟨zzh3⟩⟩
    ·
     replace c9:=Bool.eq_false_iff.mpr c9;subst c9;replace H:=zzIf H;have H':=zzm H;clear H;obtain ⟨g4,g5,g6,g7,g8,g9,h0,h1,h2,h3,h4,h5⟩:=zzc6 a0.out;go_wp2_with (first|((with_reducible refine gate_callee (f:=60) rfl ?_);refine goesL_ (some 5) rfl rfl Try.func60 (by kernel_rfl) rfl #[.slice a7 a1.length a8] rfl zzM2 ?_;(with_reducible refine (Qj.calls k _ _ a1 true _ ?side1 ?side2 A4.out).mono ?_);(case side1=>exact zzcb b2 HB);(case side2=>exact b3.out);rintro e w2 ⟨rfl,hb⟩;refine ⟨_,rfl,?_⟩;have a9:=zzm (zzh (g:=b1) (o:=.cells #[.bool a6,.bool a5,.int .i64 a2,.int .i64 a3,.int .i64 a4,.slice a7 a1.length a8] 26 (0,0)) (zzE a0.out) hb);have b0:=zzm (zzp zzh2 hb);clear a0 HB;have a0:=a9;have HB:=b0;clear a9 b0;(try clear hb);(try clear hb2);(try clear hk);(try clear hi);obtain ⟨h6,h7,h8,h9,j2,j3,j4,j5,j6,j7,j8,j9⟩:=zzc6 a0.out)|(go_at_call 53;(with_reducible refine (Qo.calls a2 0 255 true _ A6.out).mono ?_);rintro e w' ⟨rfl,⟨nd,rfl⟩⟩)|(go_at_call 53;(with_reducible refine (Qo.calls a3 0 99 false _ A8.out).mono ?_);rintro e w' ⟨rfl,⟨nd,rfl⟩⟩));go_meet
     case rel=>exact ⟨_,(true),(by first|rfl|(simp;done)|(simp [*];done)),H',⟨by first|omega|exact Nat.le_refl _⟩,⟨zzE a0.out⟩,⟨zzh3⟩⟩
   ·
    replace c7:=Bool.eq_false_iff.mpr c7;subst c7;replace H:=zzIf H;have H':=zzm H;clear H;obtain ⟨k0,k1,k2,k3,k4,k5,k6,k7,k8,k9,l1,l2⟩:=zzc6 a0.out;go_wp2_with (first|((with_reducible refine gate_callee (f:=60) rfl ?_);refine goesL_ (some 5) rfl rfl Try.func60 (by kernel_rfl) rfl #[.slice a7 a1.length a8] rfl zzM2 ?_;(with_reducible refine (Qj.calls k _ _ a1 true _ ?side1 ?side2 A4.out).mono ?_);(case side1=>exact zzcb b2 HB);(case side2=>exact b3.out);rintro e w4 ⟨rfl,hb⟩;refine ⟨_,rfl,?_⟩;have a9:=zzm (zzh (g:=b1) (o:=.cells #[.bool a6,.bool a5,.int .i64 a2,.int .i64 a3,.int .i64 a4,.slice a7 a1.length a8] 26 (0,0)) (zzE a0.out) hb);have b0:=zzm (zzp zzh2 hb);clear a0 HB;have a0:=a9;have HB:=b0;clear a9 b0;(try clear hb);(try clear hb2);(try clear hk);(try clear hi);obtain ⟨l3,l4,l5,l6,l7,l8,l9,m0,m1,m2,m3,m4⟩:=zzc6 a0.out)|(go_at_call 53;(with_reducible refine (Qo.calls a2 0 255 false _ A6.out).mono ?_);rintro e w' ⟨rfl,⟨nd,rfl⟩⟩));go_meet
    case rel=>exact ⟨_,(true),(by first|rfl|(simp;done)|(simp [*];done)),H',⟨by first|omega|exact Nat.le_refl _⟩,⟨zzE a0.out⟩,⟨zzh3⟩⟩
  ·
   replace c5:=Bool.eq_false_iff.mpr c5;subst c5;replace H:=zzIf H;have H':=zzm H;clear H;obtain ⟨m5,m6,m7,m8,m9,n0,n1,n2,n3,n4,n5,n6⟩:=zzc6 a0.out;go_wp2_with (first|((with_reducible refine gate_callee (f:=60) rfl ?_);refine goesL_ (some 5) rfl rfl Try.func60 (by kernel_rfl) rfl #[.slice a7 a1.length a8] rfl zzM2 ?_;(with_reducible refine (Qj.calls k _ _ a1 false _ ?side1 ?side2 A4.out).mono ?_);(case side1=>exact zzcb b2 HB);(case side2=>exact b3.out);rintro e w5 ⟨rfl,hb⟩;refine ⟨_,rfl,?_⟩;have a9:=zzm (zzh (g:=b1) (o:=.cells #[.bool a6,.bool a5,.int .i64 a2,.int .i64 a3,.int .i64 a4,.slice a7 a1.length a8] 26 (0,0)) (zzE a0.out) hb);have b0:=zzm (zzp zzh2 hb);clear a0 HB;have a0:=a9;have HB:=b0;clear a9 b0;(try clear hb);(try clear hb2);(try clear hk);(try clear hi)));go_meet
   case rel=>exact ⟨_,(true),(by first|rfl|(simp;done)|(simp [*];done)),H',⟨by first|omega|exact Nat.le_refl _⟩,⟨zzE a0.out⟩,⟨zzh3⟩⟩
 case rest=>
  clear n7;try clear p2
  try clear c5
  try clear c6
  try clear c7
  try clear c9
  try clear d0
  try clear d1
  try clear d2
  try clear d3
  try clear d4
  try clear d5
  try clear e2
  try clear e3
  try clear e4
  try clear e5
  try clear e6
  try clear e7
  try clear g4
  try clear g5
  try clear g6
  try clear g7
  try clear g8
  try clear g9
  try clear h6
  try clear h7
  try clear h8
  try clear h9
  try clear j2
  try clear j3
  try clear k0
  try clear k1
  try clear k2
  try clear k3
  try clear k4
  try clear k5
  try clear l3
  try clear l4
  try clear l5
  try clear l6
  try clear l7
  try clear l8
  try clear m5
  try clear m6
  try clear m7
  try clear m8
  try clear m9
  try clear n0
  try clear d6
  try clear d7
  try clear d8
  try clear d9
  try clear e0
  try clear e1
  try clear e8
  try clear e9
  try clear g0
  try clear g1
  try clear g2
  try clear g3
  try clear h0
  try clear h1
  try clear h2
  try clear h3
  try clear h4
  try clear h5
  try clear j4
  try clear j5
  try clear j6
  try clear j7
  try clear j8
  try clear j9
  try clear k6
  try clear k7
  try clear k8
  try clear k9
  try clear l1
  try clear l2
  try clear l9
  try clear m0
  try clear m1
  try clear m2
  try clear m3
  try clear m4
  try clear n1
  try clear n2
  try clear n3
  try clear n4
  try clear n5
  try clear n6
  obtain ⟨kq,b4,rfl,HA,HJ1,a0,HB⟩:=hcut;cases kq with
  | zero=>exact absurd HA.out (by simp [Qr.j0])
  | succ w6=>
   have H:=HA.out;clear HA;simp only [Qr.j0] at H;by_cases c4:b4=true
   ·
    subst c4;replace H:=zzIt H;obtain rfl:=Option.some.inj H;go_wp2;go_ret;exact ⟨zzR,zzh3⟩
   ·
    replace c4:=Bool.eq_false_iff.mpr c4;subst c4;replace H:=zzIf H;by_cases b6:a2=255
    ·
     rw [if_pos b6] at H;obtain ⟨n8,n9⟩:=zzQ b6;clear b6;by_cases b7:a3=0
     ·
      rw [if_pos b7] at H;obtain ⟨o0,o1⟩:=zzQ b7;clear b7;by_cases b8:a4=0
      ·
       rw [if_pos b8] at H;obtain ⟨o2,o3⟩:=zzQ b8;clear b8;obtain rfl:=Option.some.inj H;obtain ⟨o6,o7,o8,o9,p0,p1,p3,p4,p5,p6,p7,p8⟩:=zzc6 a0.out;go_wp2;go_ret;exact ⟨zzR,zzh3⟩
      ·
       rw [if_neg b8] at H;obtain ⟨o2,o3⟩:=zzY b8;obtain rfl:=Option.some.inj H;obtain ⟨p9,q0,q1,q2,q3,q4,q5,q6,q7,q8,q9,r0⟩:=zzc6 a0.out;go_wp2;go_ret;exact ⟨zzR,zzh3⟩
     ·
      rw [if_neg b7] at H;obtain ⟨o0,o1⟩:=zzY b7;obtain rfl:=Option.some.inj H;obtain ⟨r1,r2,r3,r4,r5,r6,r7,r8,r9,s0,s1,s2⟩:=zzc6 a0.out;go_wp2;go_ret;exact ⟨zzR,zzh3⟩
    ·
     rw [if_neg b6] at H;obtain ⟨n8,n9⟩:=zzY b6;by_cases c8:a5=true
     ·
      subst c8;replace H:=zzIt H;obtain rfl:=Option.some.inj H;obtain ⟨s3,s4,s5,s6,s7,s8,s9,t0,t1,t2,t3,t4⟩:=zzc6 a0.out;go_wp2;go_ret;exact ⟨zzR,zzh3⟩
     ·
      replace c8:=Bool.eq_false_iff.mpr c8;subst c8;replace H:=zzIf H;obtain rfl:=Option.some.inj H;obtain ⟨t5,t6,t7,t8,t9,v0,v1,v2,v3,v4,v5,v6⟩:=zzc6 a0.out;go_wp2;go_ret;exact ⟨zzR,zzh3⟩
def Qw.l0:Nat→List (S67)→Int→Int→Option (Int)
 | 0,_,_,_=>none
 | k+1,x0,x1,x5=>if x5 < (x0.length:Int) then (if 0≤x5 then (if ((Qd x0 x5).f0)=x1 then (some x5) else (Qw.l0 k x0 x1 (wrap64 (x5+1)))) else (none)) else (some (-1))
def Qw.f (k:Nat) (l0:List (S67)) (a1:Int):Option (Int):=Qw.l0 k l0 a1 0
set_option maxHeartbeats 8000000 in
theorem Qw.calls (k:Nat) (A0:Option Addr) (c0:Nat) (l0:List (S67)) (a1:Int) (r:Int) (w:World) (a9:Kd.C k67 w A0 l0.length l0) (b0:l0.length≤c0) (h:Qw.f k l0 a1=some r) :
  Calls Try.prog 61 #[.slice A0 l0.length c0,.int .i64 a1] w fun e w'=>e = .returned (.int .i64 r)∧Drawn0 w w':=by
 have b1:=zzm a9;have b6:=zzm b0;clear a9 b0;have H:(Qw.l0 k l0 a1 0)=some r:=h;clear h;have H':=zzm H;clear H;go_enter Try.func61,Try.ntmps61;go_wp2;go_loopg [5] k (fun kq v5 w'=>∃ (a0:Int),v5 = .int .i64 a0∧Aside0 (Qw.l0 kq l0 a1 a0=some r)∧Aside0 (kq≤k)∧Drawn0 w w')
 case atStart=>exact ⟨(0),(by first|rfl|(simp;done)|(simp [*];done)),H',⟨Nat.le_refl _⟩,by repeat (first|exact Drawn0.refl _|apply Drawn0.step)⟩
 case round=>
  clear H';try clear p2
  obtain ⟨a0,rfl,HA,HK1,⟨m1,rfl⟩⟩:=hrel;cases gk with
  | zero=>exact absurd HA.out (by simp [Qw.l0])
  | succ k1=>
   have H:=HA.out;clear HA;simp only [Qw.l0] at H;by_cases c3:a0 < (l0.length:Int)
   ·
    rw [if_pos c3] at H;have b2:decide (a0 < (l0.length:Int))=true:=decide_eq_true c3;clear c3;by_cases c4 : 0≤a0
    ·
     rw [if_pos c4] at H;have b5:decide (0≤a0)=true:=decide_eq_true c4;clear c4;by_cases c5:((Qd l0 a0).f0)=a1
     ·
      rw [if_pos c5] at H;obtain ⟨b3,b4⟩:=zzQ c5;clear c5;obtain rfl:=Option.some.inj H;have a2 : 0≤(a0:Int):=zzt;have a3:a0 < (l0.length:Int):=zzt;obtain ⟨a8,a4,a5,a6,a7⟩:=Rf b1.out a0 a2 a3;cases a4;replace a2:=eq_true a2;replace a3:=eq_true a3;go_wp2;go_ret;exact ⟨by first|rfl|(simp;done)|(simp [*];done),by repeat (first|exact Drawn0.refl _|apply Drawn0.step)⟩
     ·
      rw [if_neg c5] at H;obtain ⟨b3,b4⟩:=zzY c5;have H':=zzm H;clear H;have a2 : 0≤(a0:Int):=zzt;have a3:a0 < (l0.length:Int):=zzt;obtain ⟨a8,a4,a5,a6,a7⟩:=Rf b1.out a0 a2 a3;cases a4;replace a2:=eq_true a2;replace a3:=eq_true a3;go_wp2;go_roundg k1
      case measure=>have:=HK1.out;omega
      case rel=>exact ⟨(wrap64 (a0+1)),(by first|rfl|(simp;done)|(simp [*];done)),H',⟨by have:=HK1.out;omega⟩,by repeat (first|exact Drawn0.refl _|apply Drawn0.step)⟩
    ·
     rw [if_neg c4] at H;exact absurd H (by simp)
   ·
    rw [if_neg c3] at H;have b2:decide (a0 < (l0.length:Int))=false:=decide_eq_false c3;clear c3;obtain rfl:=Option.some.inj H;go_wp2;go_ret;exact ⟨by first|rfl|(simp;done)|(simp [*];done),by repeat (first|exact Drawn0.refl _|apply Drawn0.step)⟩
def Qs.j0:Nat→Int→Bool→Bool→Int→Int→Int→List (S75)→Option (Int)
 | 0,_,_,_,_,_,_,_=>none
 | k+1,x6,x322000,x322001,x322002,x322003,x322004,x322005=>if x322004 < x6 then (some 1) else (if x322004 > x6 then (some 2) else (some 0))
def Qs.f (k:Nat) (l0:List (S67)) (a1_0:Bool) (a1_1:Bool) (a1_2:Int) (a1_3:Int) (a1_4:Int) (l1_5:List (S75)):Option (Int):=if a1_2=255 then (some 4) else ((Qw.f k l0 a1_2).bind fun t322=>(if t322 ≥ 0 then (if 0≤t322 then (if t322 < (l0.length:Int) then (if a1_3 < ((Qd l0 t322).f1) then (some 3) else (if a1_3=((Qd l0 t322).f1) then (Qs.j0 k ((Qd l0 t322).f2) a1_0 a1_1 a1_2 a1_3 a1_4 l1_5) else (Qs.j0 k 0 a1_0 a1_1 a1_2 a1_3 a1_4 l1_5))) else (none)) else (none)) else (Qs.j0 k 0 a1_0 a1_1 a1_2 a1_3 a1_4 l1_5)))
set_option maxHeartbeats 8000000 in
theorem Qs.calls (k:Nat) (A0:Option Addr) (c0:Nat) (l0:List (S67)) (b0:Bool) (b1:Bool) (a3:Int) (a4:Int) (a5:Int) (c4:Option Addr) (c7:Nat) (a9:List (S75)) (r:Int) (w:World) (o8:Kd.C k67 w A0 l0.length l0) (o9:l0.length≤c0) (j7:Kd.C k75 w c4 a9.length a9) (j8:a9.length≤c7) (h:Qs.f k l0 b0 b1 a3 a4 a5 a9=some r) :
  Calls Try.prog 52 #[.slice A0 l0.length c0,.agg #[.bool b0,.bool b1,.int .i64 a3,.int .i64 a4,.int .i64 a5,.slice c4 a9.length c7]] w fun e w'=>e = .returned (.int .i64 r)∧Below w.heap.size w w':=by
 have hu26:=Try.underlying26;have d2:=zzm o8;have n9:=zzm o9;clear o8 o9;have t0:=zzm j7;have t1:=zzm j8;clear j7 j8;have HB:=zzm (Below.refl w.heap.size w);have H:(if a3=255 then (some 4) else ((Qw.f k l0 a3).bind fun a0=>(if a0 ≥ 0 then (if 0≤a0 then (if a0 < (l0.length:Int) then (if a4 < ((Qd l0 a0).f1) then (some 3) else (if a4=((Qd l0 a0).f1) then (Qs.j0 k ((Qd l0 a0).f2) b0 b1 a3 a4 a5 a9) else (Qs.j0 k 0 b0 b1 a3 a4 a5 a9))) else (none)) else (none)) else (Qs.j0 k 0 b0 b1 a3 a4 a5 a9))))=some r:=h;clear h;by_cases c3:a3=255
 ·
  rw [if_pos c3] at H;obtain ⟨o0,o1⟩:=zzQ c3;clear c3;obtain rfl:=Option.some.inj H;go_enter Try.func52,Try.ntmps52;go_wp2_with (first|((with_reducible refine gate_dst (N:=3) rfl ?_);refine box_event ?hg (N:=3) ?hd (cs:=#[.bool b0,.bool b1,.int .i64 a3,.int .i64 a4,.int .i64 a5,.slice c4 a9.length c7]) (t:=26) ?hr ?_;(case hd=>rfl);(case hg=>rfl);(case hr=>first|(go_simp;done)|(go_simp;rfl));intro a2 hg w4 hbox hb;have b2:=zzm (zzp zzh1 hb);have b3:=zzm (hbox);have b4:=zzm ((by rw [hg];exact (zzo zzh1):w.heap.size≤a2));have b5:=zzm ((by rw [hg];exact (zzo zzh1):w.heap.size≤a2));clear HB;have HB:=b2;have a1:=b3;have d3:=b4;have d4:=b5;clear b2 b3 b4 b5 hb hbox hg;obtain ⟨d9,e0,e1,e2,e3,e4,e5,e6,e7,e8,e9,g0⟩:=zzc6 a1.out));repeat (go_quiet (first|((with_reducible refine gate_dst (N:=3) rfl ?_);refine box_event ?hg (N:=3) ?hd (cs:=#[.bool b0,.bool b1,.int .i64 a3,.int .i64 a4,.int .i64 a5,.slice c4 a9.length c7]) (t:=26) ?hr ?_;(case hd=>rfl);(case hg=>rfl);(case hr=>first|(go_simp;done)|(go_simp;rfl));intro a2 hg w4 hbox hb;have b2:=zzm (zzp zzh1 hb);have b3:=zzm (hbox);have b4:=zzm ((by rw [hg];exact (zzo zzh1):w.heap.size≤a2));have b5:=zzm ((by rw [hg];exact (zzo zzh1):w.heap.size≤a2));clear HB;have HB:=b2;have a1:=b3;have d3:=b4;have d4:=b5;clear b2 b3 b4 b5 hb hbox hg;obtain ⟨d9,e0,e1,e2,e3,e4,e5,e6,e7,e8,e9,g0⟩:=zzc6 a1.out));try go_wp2_with (first|((with_reducible refine gate_dst (N:=3) rfl ?_);refine box_event ?hg (N:=3) ?hd (cs:=#[.bool b0,.bool b1,.int .i64 a3,.int .i64 a4,.int .i64 a5,.slice c4 a9.length c7]) (t:=26) ?hr ?_;(case hd=>rfl);(case hg=>rfl);(case hr=>first|(go_simp;done)|(go_simp;rfl));intro a2 hg w4 hbox hb;have b2:=zzm (zzp zzh1 hb);have b3:=zzm (hbox);have b4:=zzm ((by rw [hg];exact (zzo zzh1):w.heap.size≤a2));have b5:=zzm ((by rw [hg];exact (zzo zzh1):w.heap.size≤a2));clear HB;have HB:=b2;have a1:=b3;have d3:=b4;have d4:=b5;clear b2 b3 b4 b5 hb hbox hg;obtain ⟨d9,e0,e1,e2,e3,e4,e5,e6,e7,e8,e9,g0⟩:=zzc6 a1.out)))
  go_ret;exact ⟨zzR,zzh3⟩
 ·
  rw [if_neg c3] at H;obtain ⟨o0,o1⟩:=zzY c3;obtain ⟨a0,A6,H⟩:=zzG H;have o2:=zzm H;clear H;go_enter Try.func52,Try.ntmps52;go_upto_if 15 with (first|((with_reducible refine gate_dst (N:=3) rfl ?_);refine box_event ?hg (N:=3) ?hd (cs:=#[.bool b0,.bool b1,.int .i64 a3,.int .i64 a4,.int .i64 a5,.slice c4 a9.length c7]) (t:=26) ?hr ?_;(case hd=>rfl);(case hg=>rfl);(case hr=>first|(go_simp;done)|(go_simp;rfl));intro a2 hg w8 hbox hb;have b2:=zzm (zzp zzh1 hb);have b3:=zzm (hbox);have b4:=zzm ((by rw [hg];exact (zzo zzh1):w.heap.size≤a2));have b5:=zzm ((by rw [hg];exact (zzo zzh1):w.heap.size≤a2));clear HB;have HB:=b2;have a1:=b3;have d3:=b4;have d4:=b5;clear b2 b3 b4 b5 hb hbox hg;obtain ⟨g1,g2,g3,g4,g5,g6,g7,g8,g9,h0,h1,h2⟩:=zzc6 a1.out)|(go_at_call 61;(with_reducible refine (Qw.calls k _ _ l0 a3 a0 _ ?side1 ?side2 A6.out).mono ?_);(case side1=>exact zzcb d2 HB);(case side2=>exact n9.out);rintro e w' ⟨rfl,⟨nd,rfl⟩⟩;(try first|exact ⟨rfl,_,World.drewN_drewN _ _ _⟩|exact ⟨rfl,_,Eq.trans (World.drewN_drewN _ _ _) (congrArg (World.drewN _) (Nat.add_assoc _ _ _))⟩)));repeat (go_quiet (first|((with_reducible refine gate_dst (N:=3) rfl ?_);refine box_event ?hg (N:=3) ?hd (cs:=#[.bool b0,.bool b1,.int .i64 a3,.int .i64 a4,.int .i64 a5,.slice c4 a9.length c7]) (t:=26) ?hr ?_;(case hd=>rfl);(case hg=>rfl);(case hr=>first|(go_simp;done)|(go_simp;rfl));intro a2 hg w8 hbox hb;have b2:=zzm (zzp zzh1 hb);have b3:=zzm (hbox);have b4:=zzm ((by rw [hg];exact (zzo zzh1):w.heap.size≤a2));have b5:=zzm ((by rw [hg];exact (zzo zzh1):w.heap.size≤a2));clear HB;have HB:=b2;have a1:=b3;have d3:=b4;have d4:=b5;clear b2 b3 b4 b5 hb hbox hg;obtain ⟨g1,g2,g3,g4,g5,g6,g7,g8,g9,h0,h1,h2⟩:=zzc6 a1.out)|(go_at_call 61;(with_reducible refine (Qw.calls k _ _ l0 a3 a0 _ ?side1 ?side2 A6.out).mono ?_);(case side1=>exact zzcb d2 HB);(case side2=>exact n9.out);rintro e w' ⟨rfl,⟨nd,rfl⟩⟩;(try first|exact ⟨rfl,_,World.drewN_drewN _ _ _⟩|exact ⟨rfl,_,Eq.trans (World.drewN_drewN _ _ _) (congrArg (World.drewN _) (Nat.add_assoc _ _ _))⟩)));go_upto_if 15 with (first|((with_reducible refine gate_dst (N:=3) rfl ?_);refine box_event ?hg (N:=3) ?hd (cs:=#[.bool b0,.bool b1,.int .i64 a3,.int .i64 a4,.int .i64 a5,.slice c4 a9.length c7]) (t:=26) ?hr ?_;(case hd=>rfl);(case hg=>rfl);(case hr=>first|(go_simp;done)|(go_simp;rfl));intro a2 hg w8 hbox hb;have b2:=zzm (zzp zzh1 hb);have b3:=zzm (hbox);have b4:=zzm ((by rw [hg];exact (zzo zzh1):w.heap.size≤a2));have b5:=zzm ((by rw [hg];exact (zzo zzh1):w.heap.size≤a2));clear HB;have HB:=b2;have a1:=b3;have d3:=b4;have d4:=b5;clear b2 b3 b4 b5 hb hbox hg;obtain ⟨g1,g2,g3,g4,g5,g6,g7,g8,g9,h0,h1,h2⟩:=zzc6 a1.out)|(go_at_call 61;(with_reducible refine (Qw.calls k _ _ l0 a3 a0 _ ?side1 ?side2 A6.out).mono ?_);(case side1=>exact zzcb d2 HB);(case side2=>exact n9.out);rintro e w' ⟨rfl,⟨nd,rfl⟩⟩;(try first|exact ⟨rfl,_,World.drewN_drewN _ _ _⟩|exact ⟨rfl,_,Eq.trans (World.drewN_drewN _ _ _) (congrArg (World.drewN _) (Nat.add_assoc _ _ _))⟩))))
  (try simp only [Act.put,zzq,zzr,zzs]);go_cut [6] (fun v6 wc=>∃ (kq:Nat) (c8:Int),v6 = .int .i64 c8∧Aside0 (Qs.j0 kq c8 b0 b1 a3 a4 a5 a9=some r)∧Aside0 (kq≤k)∧Aside0 (wc.heap[a2]? = some (.cells #[.bool b0,.bool b1,.int .i64 a3,.int .i64 a4,.int .i64 a5,(.slice c4 a9.length c7)] 26 (0,0)))∧Aside0 (Below w.heap.size w wc))
  case first=>
   have H:=o2.out;clear o2;by_cases h3:a0 ≥ 0
   ·
    rw [if_pos h3] at H;have d1:decide (0≤a0)=true:=decide_eq_true h3;clear h3
    (first|rw [d1]|(simp only [i64_w,i32_w];rw [d1])|skip);by_cases j4 : 0≤a0
    ·
     rw [if_pos j4] at H;have o3:decide (0≤a0)=true:=decide_eq_true j4;clear j4;by_cases j5:a0 < (l0.length:Int)
     ·
      rw [if_pos j5] at H;have o4:decide (a0 < (l0.length:Int))=true:=decide_eq_true j5;clear j5;by_cases h4:a4 < ((Qd l0 a0).f1)
      ·
       rw [if_pos h4] at H;have j9:decide (a4 < ((Qd l0 a0).f1))=true:=decide_eq_true h4;clear h4;obtain rfl:=Option.some.inj H;obtain ⟨k2,k3,k4,k5,k6,k7,k8,k9,l1,l2,l3,l4⟩:=zzc6 a1.out;have b6 : 0≤(a0:Int):=zzt;have b7:a0 < (l0.length:Int):=zzt;obtain ⟨d5,h5,a6,a7,a8⟩:=Rf d2.out a0 b6 b7;cases h5;replace a6:=zzx HB.out a6;replace a7:=zzx HB.out a7;replace a8:=zzx HB.out a8;replace b6:=eq_true b6;replace b7:=eq_true b7;go_wp2;repeat (go_quiet (fail);try go_wp2)
       go_ret;exact ⟨zzR,zzh3⟩
      ·
       rw [if_neg h4] at H;have j9:decide (a4 < ((Qd l0 a0).f1))=false:=decide_eq_false h4;clear h4;by_cases h6:a4=((Qd l0 a0).f1)
       ·
        rw [if_pos h6] at H;obtain ⟨k0,k1⟩:=zzQ h6;clear h6;have H':=zzm H;clear H;obtain ⟨l5,l6,l7,l8,l9,m0,m1,m2,m3,m4,m5,m6⟩:=zzc6 a1.out;have b6 : 0≤(a0:Int):=zzt;have b7:a0 < (l0.length:Int):=zzt;obtain ⟨d5,h5,a6,a7,a8⟩:=Rf d2.out a0 b6 b7;cases h5;replace a6:=zzx HB.out a6;replace a7:=zzx HB.out a7;replace a8:=zzx HB.out a8;replace b6:=eq_true b6;replace b7:=eq_true b7;have c9 : 0≤(a0:Int):=zzt;have d0:a0 < (l0.length:Int):=zzt;obtain ⟨h9,j6,b8,b9,c2⟩:=Rf d2.out a0 c9 d0;obtain rfl:d5=h9:=(by injection j6);replace b8:=zzx HB.out b8;replace b9:=zzx HB.out b9;replace c2:=zzx HB.out c2;replace c9:=eq_true c9;replace d0:=eq_true d0;have j2 : 0≤(a0:Int):=zzt;have j3:a0 < (l0.length:Int):=zzt;obtain ⟨o5,p0,d6,d7,d8⟩:=Rf d2.out a0 j2 j3;obtain rfl:d5=o5:=(by injection p0);replace d6:=zzx HB.out d6;replace d7:=zzx HB.out d7;replace d8:=zzx HB.out d8;replace j2:=eq_true j2;replace j3:=eq_true j3;go_wp2;repeat (go_quiet (fail);try go_wp2)
        go_meet
        case rel=>exact ⟨_,((Qd l0 a0).f2),(by first|rfl|(simp;done)|(simp [*];done)),H',⟨by first|omega|exact Nat.le_refl _⟩,⟨zzE a1.out⟩,⟨zzh3⟩⟩
       ·
        rw [if_neg h6] at H;obtain ⟨k0,k1⟩:=zzY h6;have H':=zzm H;clear H;obtain ⟨m7,m8,m9,n0,n1,n2,n3,n4,n5,n6,n7,n8⟩:=zzc6 a1.out;have b6 : 0≤(a0:Int):=zzt;have b7:a0 < (l0.length:Int):=zzt;obtain ⟨d5,h5,a6,a7,a8⟩:=Rf d2.out a0 b6 b7;cases h5;replace a6:=zzx HB.out a6;replace a7:=zzx HB.out a7;replace a8:=zzx HB.out a8;replace b6:=eq_true b6;replace b7:=eq_true b7;have c9 : 0≤(a0:Int):=zzt;have d0:a0 < (l0.length:Int):=zzt;obtain ⟨h9,j6,b8,b9,c2⟩:=Rf d2.out a0 c9 d0;obtain rfl:d5=h9:=(by injection j6);replace b8:=zzx HB.out b8;replace b9:=zzx HB.out b9;replace c2:=zzx HB.out c2;replace c9:=eq_true c9;replace d0:=eq_true d0;go_wp2;repeat (go_quiet (fail);try go_wp2)
        go_meet
        case rel=>exact ⟨_,(0),(by first|rfl|(simp;done)|(simp [*];done)),H',⟨by first|omega|exact Nat.le_refl _⟩,⟨zzE a1.out⟩,⟨zzh3⟩⟩
     ·
      rw [if_neg j5] at H;exact absurd H (by simp)
    ·
     rw [if_neg j4] at H;exact absurd H (by simp)
   ·
    rw [if_neg h3] at H;have d1:decide (0≤a0)=false:=decide_eq_false h3;clear h3
    (first|rw [d1]|(simp only [i64_w,i32_w];rw [d1])|skip);have H':=zzm H;clear H;go_wp2;repeat (go_quiet (fail);try go_wp2)
    go_meet
    case rel=>exact ⟨_,(0),(by first|rfl|(simp;done)|(simp [*];done)),H',⟨by first|omega|exact Nat.le_refl _⟩,⟨zzE a1.out⟩,⟨zzh3⟩⟩
  case rest=>
   clear o2;try clear c1
   try clear p2
   try clear c3
   try clear o0
   try clear o1
   try clear p3
   try clear q3
   try clear t2
   try clear c5
   try clear h3
   try clear d1
   try clear j4
   try clear o3
   try clear j5
   try clear o4
   try clear h4
   try clear j9
   try clear h6
   try clear k0
   try clear k1
   try clear k2
   try clear k3
   try clear k4
   try clear k5
   try clear k6
   try clear k7
   try clear l5
   try clear l6
   try clear l7
   try clear l8
   try clear l9
   try clear m0
   try clear m7
   try clear m8
   try clear m9
   try clear n0
   try clear n1
   try clear n2
   try clear d9
   try clear e0
   try clear e1
   try clear e2
   try clear e3
   try clear e4
   try clear g1
   try clear g2
   try clear g3
   try clear g4
   try clear g5
   try clear g6
   try clear k8
   try clear k9
   try clear l1
   try clear l2
   try clear l3
   try clear l4
   try clear m1
   try clear m2
   try clear m3
   try clear m4
   try clear m5
   try clear m6
   try clear n3
   try clear n4
   try clear n5
   try clear n6
   try clear n7
   try clear n8
   try clear e5
   try clear e6
   try clear e7
   try clear e8
   try clear e9
   try clear g0
   try clear g7
   try clear g8
   try clear g9
   try clear h0
   try clear h1
   try clear h2
   try clear a6
   try clear a7
   try clear a8
   try clear b8
   try clear b9
   try clear c2
   try clear d6
   try clear d7
   try clear d8
   try clear b6
   try clear c9
   try clear j2
   try clear b7
   try clear d0
   try clear j3
   obtain ⟨kq,c8,rfl,HA,HJ6,a1,HB⟩:=hcut;cases kq with
   | zero=>exact absurd HA.out (by simp [Qs.j0])
   | succ t3=>
    have H:=HA.out;clear HA;simp only [Qs.j0] at H;by_cases h7:a5 < c8
    ·
     rw [if_pos h7] at H;have o6:decide (a5 < c8)=true:=decide_eq_true h7;clear h7;obtain rfl:=Option.some.inj H;obtain ⟨p1,p4,p5,p6,p7,p8,p9,q0,q1,q2,q4,q5⟩:=zzc6 a1.out;go_wp2;repeat (go_quiet (fail);try go_wp2)
     go_ret;exact ⟨zzR,zzh3⟩
    ·
     rw [if_neg h7] at H;have o6:decide (a5 < c8)=false:=decide_eq_false h7;clear h7;by_cases h8:a5 > c8
     ·
      rw [if_pos h8] at H;have o7:decide (c8 < a5)=true:=decide_eq_true h8;clear h8;obtain rfl:=Option.some.inj H;obtain ⟨q6,q7,q8,q9,r0,r1,r2,r3,r4,r5,r6,r7⟩:=zzc6 a1.out;go_wp2;repeat (go_quiet (fail);try go_wp2)
      go_ret;exact ⟨zzR,zzh3⟩
     ·
      rw [if_neg h8] at H;have o7:decide (c8 < a5)=false:=decide_eq_false h8;clear h8;obtain rfl:=Option.some.inj H;obtain ⟨r8,r9,s0,s1,s2,s3,s4,s5,s6,s7,s8,s9⟩:=zzc6 a1.out;go_wp2;repeat (go_quiet (fail);try go_wp2)
      go_ret;exact ⟨zzR,zzh3⟩
def Qt.f (k:Nat) (l0:List (S67)) (a1_0:Bool) (a1_1:Bool) (a1_2:Int) (a1_3:Int) (a1_4:Int) (l1_5:List (S75)):Option (Int):=(Qm.f k l0).bind fun t327=>(if t327=true then ((Qr.f k a1_0 a1_1 a1_2 a1_3 a1_4 l1_5).bind fun t328=>(if t328=true then ((Qs.f k l0 a1_0 a1_1 a1_2 a1_3 a1_4 l1_5).bind fun t329=>(some t329)) else (some 5))) else (some 5))
set_option maxHeartbeats 8000000 in
theorem Qt.calls (k:Nat) (A0:Option Addr) (c0:Nat) (l0:List (S67)) (a5:Bool) (a6:Bool) (a7:Int) (a8:Int) (a9:Int) (b0:Option Addr) (b1:Nat) (a1:List (S75)) (r:Int) (w:World) (c8:Kd.C k67 w A0 l0.length l0) (c9:l0.length≤c0) (b9:Kd.C k75 w b0 a1.length a1) (c1:a1.length≤b1) (h:Qt.f k l0 a5 a6 a7 a8 a9 a1=some r) :
  Calls Try.prog 36 #[.slice A0 l0.length c0,.agg #[.bool a5,.bool a6,.int .i64 a7,.int .i64 a8,.int .i64 a9,.slice b0 a1.length b1]] w fun e w'=>e = .returned (.int .i64 r)∧Below w.heap.size w w':=by
 have hu26:=Try.underlying26;have c2:=zzm c8;have c3:=zzm c9;clear c8 c9;have b4:=zzm b9;have b5:=zzm c1;clear b9 c1;have HB:=zzm (Below.refl w.heap.size w);have H:((Qm.f k l0).bind fun b6=>(if b6=true then ((Qr.f k a5 a6 a7 a8 a9 a1).bind fun b7=>(if b7=true then ((Qs.f k l0 a5 a6 a7 a8 a9 a1).bind fun b8=>(some b8)) else (some 5))) else (some 5)))=some r:=h;clear h;obtain ⟨b6,A3,H⟩:=zzG H;by_cases c4:b6=true
 ·
  subst c4;replace H:=zzIt H;obtain ⟨b7,A5,H⟩:=zzG H;by_cases c6:b7=true
  ·
   subst c6;replace H:=zzIt H;obtain ⟨b8,A7,H⟩:=zzG H;obtain rfl:=Option.some.inj H;go_enter Try.func36,Try.ntmps36;go_wp2_with (first|((with_reducible refine gate_dst (N:=3) rfl ?_);refine box_event ?hg (N:=3) ?hd (cs:=#[.bool a5,.bool a6,.int .i64 a7,.int .i64 a8,.int .i64 a9,.slice b0 a1.length b1]) (t:=26) ?hr ?_;(case hd=>rfl);(case hg=>rfl);(case hr=>first|(go_simp;done)|(go_simp;rfl));intro a4 hg w8 hbox hb;have a2:=zzm (zzp zzh1 hb);have a3:=zzm (hbox);have b2:=zzm ((by rw [hg];exact (zzo zzh1):w.heap.size≤a4));have b3:=zzm ((by rw [hg];exact (zzo zzh1):w.heap.size≤a4));clear HB;have HB:=a2;have a0:=a3;have c5:=b2;have c7:=b3;clear a2 a3 b2 b3 hb hbox hg)|((with_reducible refine gate_callee (f:=38) rfl ?_);refine goesL_ (some 6) rfl rfl Try.func38 (by kernel_rfl) rfl #[.slice A0 l0.length c0] rfl zzM2 ?_;(with_reducible refine (Qm.calls k _ _ l0 true _ ?side1 ?side2 A3.out).mono ?_);(case side1=>exact zzcb c2 HB);(case side2=>exact c3.out);rintro e w9 ⟨rfl,hb⟩;refine ⟨_,rfl,?_⟩;have a2:=zzm (zzh (g:=a4) (o:=.cells #[.bool a5,.bool a6,.int .i64 a7,.int .i64 a8,.int .i64 a9,.slice b0 a1.length b1] 26 (0,0)) (zzE a0.out) hb);have a3:=zzm (zzp zzh2 hb);clear a0 HB;have a0:=a2;have HB:=a3;clear a2 a3;(try clear hb);(try clear hb2);(try clear hk);(try clear hi);obtain ⟨d0,d1,d2,d3,d4,d5,d6,d7,d8,d9,e0,e1⟩:=zzc6 a0.out)|(go_at_call 51;(with_reducible refine (Qr.calls k a5 a6 a7 a8 a9 _ _ a1 true _ ?side1 ?side2 A5.out).mono ?_);(case side1=>exact zzcb b4 HB);(case side2=>exact b5.out);rintro e h6 ⟨rfl,hb⟩;have a2:=zzm (zzh (g:=a4) (o:=.cells #[.bool a5,.bool a6,.int .i64 a7,.int .i64 a8,.int .i64 a9,.slice b0 a1.length b1] 26 (0,0)) (zzE a0.out) hb);have a3:=zzm (zzp zzh2 hb);clear a0 HB;have a0:=a2;have HB:=a3;clear a2 a3;(try clear hb);(try clear hb2);(try clear hk);(try clear hi);obtain ⟨e2,e3,e4,e5,e6,e7,e8,e9,g0,g1,g2,g3⟩:=zzc6 a0.out)|((with_reducible refine gate_callee (f:=52) rfl ?_);refine goesL_ (some 15) rfl rfl Try.func52 (by kernel_rfl) rfl #[.slice A0 l0.length c0,.agg #[.bool a5,.bool a6,.int .i64 a7,.int .i64 a8,.int .i64 a9,.slice b0 a1.length b1]] rfl zzM2 ?_;(with_reducible refine (Qs.calls k _ _ l0 a5 a6 a7 a8 a9 _ _ a1 b8 _ ?side1 ?side2 ?side3 ?side4 A7.out).mono ?_);(case side1=>exact zzcb c2 HB);(case side2=>exact c3.out);(case side3=>exact zzcb b4 HB);(case side4=>exact b5.out);rintro e h7 ⟨rfl,hb⟩;refine ⟨_,rfl,?_⟩;have a2:=zzm (zzh (g:=a4) (o:=.cells #[.bool a5,.bool a6,.int .i64 a7,.int .i64 a8,.int .i64 a9,.slice b0 a1.length b1] 26 (0,0)) (zzE a0.out) hb);have a3:=zzm (zzp zzh2 hb);clear a0 HB;have a0:=a2;have HB:=a3;clear a2 a3;(try clear hb);(try clear hb2);(try clear hk);(try clear hi)));go_ret;exact ⟨zzR,zzh3⟩
  ·
   replace c6:=Bool.eq_false_iff.mpr c6;subst c6;replace H:=zzIf H;obtain rfl:=Option.some.inj H;go_enter Try.func36,Try.ntmps36;go_wp2_with (first|((with_reducible refine gate_dst (N:=3) rfl ?_);refine box_event ?hg (N:=3) ?hd (cs:=#[.bool a5,.bool a6,.int .i64 a7,.int .i64 a8,.int .i64 a9,.slice b0 a1.length b1]) (t:=26) ?hr ?_;(case hd=>rfl);(case hg=>rfl);(case hr=>first|(go_simp;done)|(go_simp;rfl));intro a4 hg h8 hbox hb;have a2:=zzm (zzp zzh1 hb);have a3:=zzm (hbox);have b2:=zzm ((by rw [hg];exact (zzo zzh1):w.heap.size≤a4));have b3:=zzm ((by rw [hg];exact (zzo zzh1):w.heap.size≤a4));clear HB;have HB:=a2;have a0:=a3;have c5:=b2;have c7:=b3;clear a2 a3 b2 b3 hb hbox hg)|((with_reducible refine gate_callee (f:=38) rfl ?_);refine goesL_ (some 6) rfl rfl Try.func38 (by kernel_rfl) rfl #[.slice A0 l0.length c0] rfl zzM2 ?_;(with_reducible refine (Qm.calls k _ _ l0 true _ ?side1 ?side2 A3.out).mono ?_);(case side1=>exact zzcb c2 HB);(case side2=>exact c3.out);rintro e h9 ⟨rfl,hb⟩;refine ⟨_,rfl,?_⟩;have a2:=zzm (zzh (g:=a4) (o:=.cells #[.bool a5,.bool a6,.int .i64 a7,.int .i64 a8,.int .i64 a9,.slice b0 a1.length b1] 26 (0,0)) (zzE a0.out) hb);have a3:=zzm (zzp zzh2 hb);clear a0 HB;have a0:=a2;have HB:=a3;clear a2 a3;(try clear hb);(try clear hb2);(try clear hk);(try clear hi);obtain ⟨g4,g5,g6,g7,g8,g9,h0,h1,h2,h3,h4,h5⟩:=zzc6 a0.out)|(go_at_call 51;(with_reducible refine (Qr.calls k a5 a6 a7 a8 a9 _ _ a1 false _ ?side1 ?side2 A5.out).mono ?_);(case side1=>exact zzcb b4 HB);(case side2=>exact b5.out);rintro e j2 ⟨rfl,hb⟩;have a2:=zzm (zzh (g:=a4) (o:=.cells #[.bool a5,.bool a6,.int .i64 a7,.int .i64 a8,.int .i64 a9,.slice b0 a1.length b1] 26 (0,0)) (zzE a0.out) hb);have a3:=zzm (zzp zzh2 hb);clear a0 HB;have a0:=a2;have HB:=a3;clear a2 a3;(try clear hb);(try clear hb2);(try clear hk);(try clear hi)));go_ret;exact ⟨zzR,zzh3⟩
 ·
  replace c4:=Bool.eq_false_iff.mpr c4;subst c4;replace H:=zzIf H;obtain rfl:=Option.some.inj H;go_enter Try.func36,Try.ntmps36;go_wp2_with (first|((with_reducible refine gate_dst (N:=3) rfl ?_);refine box_event ?hg (N:=3) ?hd (cs:=#[.bool a5,.bool a6,.int .i64 a7,.int .i64 a8,.int .i64 a9,.slice b0 a1.length b1]) (t:=26) ?hr ?_;(case hd=>rfl);(case hg=>rfl);(case hr=>first|(go_simp;done)|(go_simp;rfl));intro a4 hg j3 hbox hb;have a2:=zzm (zzp zzh1 hb);have a3:=zzm (hbox);have b2:=zzm ((by rw [hg];exact (zzo zzh1):w.heap.size≤a4));have b3:=zzm ((by rw [hg];exact (zzo zzh1):w.heap.size≤a4));clear HB;have HB:=a2;have a0:=a3;have c5:=b2;have c7:=b3;clear a2 a3 b2 b3 hb hbox hg)|((with_reducible refine gate_callee (f:=38) rfl ?_);refine goesL_ (some 6) rfl rfl Try.func38 (by kernel_rfl) rfl #[.slice A0 l0.length c0] rfl zzM2 ?_;(with_reducible refine (Qm.calls k _ _ l0 false _ ?side1 ?side2 A3.out).mono ?_);(case side1=>exact zzcb c2 HB);(case side2=>exact c3.out);rintro e j4 ⟨rfl,hb⟩;refine ⟨_,rfl,?_⟩;have a2:=zzm (zzh (g:=a4) (o:=.cells #[.bool a5,.bool a6,.int .i64 a7,.int .i64 a8,.int .i64 a9,.slice b0 a1.length b1] 26 (0,0)) (zzE a0.out) hb);have a3:=zzm (zzp zzh2 hb);clear a0 HB;have a0:=a2;have HB:=a3;clear a2 a3;(try clear hb);(try clear hb2);(try clear hk);(try clear hi)));go_ret;exact ⟨zzR,zzh3⟩
mutual
def Qn.l0:Nat→List (S67)→List (S67)→Bool→Int→Int→Int→Int→Option ((List (S67)))
 | 0,_,_,_,_,_,_,_=>none
 | k+1,x0,x5,x6,x7,x331000,x331001,x331002=>if x7 < (x0.length:Int) then (if x6=true then (Qn.j1 k x0 x5 x6 x7 false x331000 x331001 x331002) else (if 0≤x7 then (Qn.j1 k x0 x5 x6 x7 (decide (((Qd x0 x7).f0) ≥ x331000)) x331000 x331001 x331002) else (none))) else (if x6=true then (some x5) else (if x5.length < 5864062014805 then (some (x5 ++ [(⟨x331000,x331001,x331002⟩:S67)])) else (none)))
def Qn.j1:Nat→List (S67)→List (S67)→Bool→Int→Bool→Int→Int→Int→Option ((List (S67)))
 | 0,_,_,_,_,_,_,_,_=>none
 | k+1,x0,x5,x6,x7,x26,x331000,x331001,x331002=>if x26=true then (if x5.length < 5864062014805 then ((some (x5 ++ [(⟨x331000,x331001,x331002⟩:S67)]:List (S67))).bind fun y338=>(if 0≤x7 then (if x7 < (x0.length:Int) then (if ((Qd x0 x7).f0)=x331000 then (Qn.l0 k x0 y338 true (wrap64 (x7+1)) x331000 x331001 x331002) else (if y338.length < 5864062014805 then (Qn.l0 k x0 (y338 ++ [(⟨(Qd x0 x7).f0,(Qd x0 x7).f1,(Qd x0 x7).f2⟩:S67)]) true (wrap64 (x7+1)) x331000 x331001 x331002) else (none))) else (none)) else (none))) else (none)) else (if 0≤x7 then (if x7 < (x0.length:Int) then (if ((Qd x0 x7).f0)=x331000 then (Qn.l0 k x0 x5 x6 (wrap64 (x7+1)) x331000 x331001 x331002) else (if x5.length < 5864062014805 then (Qn.l0 k x0 (x5 ++ [(⟨(Qd x0 x7).f0,(Qd x0 x7).f1,(Qd x0 x7).f2⟩:S67)]) x6 (wrap64 (x7+1)) x331000 x331001 x331002) else (none))) else (none)) else (none))
end
def Qn.f (k:Nat) (l0:List (S67)) (a1_0:Int) (a1_1:Int) (a1_2:Int):Option ((List (S67))):=Qn.l0 k l0 (([]:List (S67))) false 0 a1_0 a1_1 a1_2
set_option maxHeartbeats 8000000 in
theorem Qn.calls (k:Nat) (A0:Option Addr) (c0:Nat) (l0:List (S67)) (a2:Int) (a3:Int) (a4:Int) (r:List (S67)) (w:World) (m6:Kd.C k67 w A0 l0.length l0) (m7:l0.length≤c0) (h:Qn.f k l0 a2 a3 a4=some r) :
  Calls Try.prog 37 #[.slice A0 l0.length c0,.agg #[.int .i64 a2,.int .i64 a3,.int .i64 a4]] w fun e w'=>∃ m8:Value,e = .returned (m8)∧Kd.R k67 67 w' w.heap.size (fun _=>True) m8 r∧Below w.heap.size w w':=by
 have hu67:=Try.underlying67;have c7:=zzm m6;have r5:=zzm m7;clear m6 m7;have HB:=zzm (Below.refl w.heap.size w);have H:(Qn.l0 k l0 (([]:List (S67))) false 0 a2 a3 a4)=some r:=h;clear h;obtain ⟨y331,hy331⟩:∃ y_:List (S67),y_=(([]:List (S67))):=⟨_,rfl⟩;replace H:(Qn.l0 k l0 y331 false 0 a2 a3 a4)=some r:=by first|(rw [hy331];with_reducible exact H)|(have H2_:=(Option.bind_some _ _).symm.trans H;rw [hy331];with_reducible exact H2_)|(have H2_:=(Option.bind_some _ _).symm.trans H;with_reducible exact H2_)|with_reducible exact H|(rw [hy331];exact H)|exact H
 have Ny331:=zzm hy331;clear hy331;have H':=zzm H;clear H;go_enter Try.func37,Try.ntmps37;go_wp2_with (first|((with_reducible refine gate_dst (N:=3) rfl ?_);refine box_event ?hg (N:=3) ?hd (cs:=#[.int .i64 a2,.int .i64 a3,.int .i64 a4]) (t:=67) ?hr ?_;(case hd=>rfl);(case hg=>rfl);(case hr=>first|(go_simp;done)|(go_simp;rfl));intro a5 hg w3 hbox hb;have a6:=zzm (zzp zzh1 hb);have a7:=zzm (hbox);have a8:=zzm ((by rw [hg];exact (zzo zzh1):w.heap.size≤a5));have e1:=zzm ((by rw [hg];exact (zzo zzh1):w.heap.size≤a5));clear HB;have HB:=a6;have a1:=a7;have j4:=a8;have j5:=e1;clear a6 a7 a8 e1 hb hbox hg)|((with_reducible refine gate_dst (N:=8) rfl ?_);refine Kd.R_lit k67 _ 67 ?hg (N:=8) ?hd (xs:=([]:List (S67))) (inner:=[]) (ok:=fun _=>True) (okp:=fun _=>True) ?hr ?hp (fun _ hk=>hk) trivial (Below.refl _ _) (Nat.le_refl _) (by simp) ?_;(case hd=>rfl);(case hg=>rfl);(case hr=>first|(go_simp;done)|(go_simp;rfl));(case hp=>exact (Reps.none _ _));intro l5 w4 ho5 hb hg_ hnew_;clear hg_ hnew_;(first|rw [← Ny331.out] at ho5|(simp only [Int.reduceToNat] at ho5;rw [← Ny331.out] at ho5));have a6:=zzm (Kd.R_lower (Kd.R_newB ho5 (g:=a5) (o:=.cells #[.int .i64 a2,.int .i64 a3,.int .i64 a4] 67 (0,0)) (zzE a1.out)) (zzo zzh2));have a7:=zzm (zzh (g:=a5) (o:=.cells #[.int .i64 a2,.int .i64 a3,.int .i64 a4] 67 (0,0)) (zzE a1.out) hb);have a8:=zzm (zzp zzh2 hb);clear a1 HB;have h0:=a6;have a1:=a7;have HB:=a8;clear a6 a7 a8 hb ho5));repeat (go_quiet (first|((with_reducible refine gate_dst (N:=3) rfl ?_);refine box_event ?hg (N:=3) ?hd (cs:=#[.int .i64 a2,.int .i64 a3,.int .i64 a4]) (t:=67) ?hr ?_;(case hd=>rfl);(case hg=>rfl);(case hr=>first|(go_simp;done)|(go_simp;rfl));intro a5 hg w3 hbox hb;have a6:=zzm (zzp zzh1 hb);have a7:=zzm (hbox);have a8:=zzm ((by rw [hg];exact (zzo zzh1):w.heap.size≤a5));have e1:=zzm ((by rw [hg];exact (zzo zzh1):w.heap.size≤a5));clear HB;have HB:=a6;have a1:=a7;have j4:=a8;have j5:=e1;clear a6 a7 a8 e1 hb hbox hg)|((with_reducible refine gate_dst (N:=8) rfl ?_);refine Kd.R_lit k67 _ 67 ?hg (N:=8) ?hd (xs:=([]:List (S67))) (inner:=[]) (ok:=fun _=>True) (okp:=fun _=>True) ?hr ?hp (fun _ hk=>hk) trivial (Below.refl _ _) (Nat.le_refl _) (by simp) ?_;(case hd=>rfl);(case hg=>rfl);(case hr=>first|(go_simp;done)|(go_simp;rfl));(case hp=>exact (Reps.none _ _));intro l5 w4 ho5 hb hg_ hnew_;clear hg_ hnew_;(first|rw [← Ny331.out] at ho5|(simp only [Int.reduceToNat] at ho5;rw [← Ny331.out] at ho5));have a6:=zzm (Kd.R_lower (Kd.R_newB ho5 (g:=a5) (o:=.cells #[.int .i64 a2,.int .i64 a3,.int .i64 a4] 67 (0,0)) (zzE a1.out)) (zzo zzh2));have a7:=zzm (zzh (g:=a5) (o:=.cells #[.int .i64 a2,.int .i64 a3,.int .i64 a4] 67 (0,0)) (zzE a1.out) hb);have a8:=zzm (zzp zzh2 hb);clear a1 HB;have h0:=a6;have a1:=a7;have HB:=a8;clear a6 a7 a8 hb ho5));try go_wp2_with (first|((with_reducible refine gate_dst (N:=3) rfl ?_);refine box_event ?hg (N:=3) ?hd (cs:=#[.int .i64 a2,.int .i64 a3,.int .i64 a4]) (t:=67) ?hr ?_;(case hd=>rfl);(case hg=>rfl);(case hr=>first|(go_simp;done)|(go_simp;rfl));intro a5 hg w3 hbox hb;have a6:=zzm (zzp zzh1 hb);have a7:=zzm (hbox);have a8:=zzm ((by rw [hg];exact (zzo zzh1):w.heap.size≤a5));have e1:=zzm ((by rw [hg];exact (zzo zzh1):w.heap.size≤a5));clear HB;have HB:=a6;have a1:=a7;have j4:=a8;have j5:=e1;clear a6 a7 a8 e1 hb hbox hg)|((with_reducible refine gate_dst (N:=8) rfl ?_);refine Kd.R_lit k67 _ 67 ?hg (N:=8) ?hd (xs:=([]:List (S67))) (inner:=[]) (ok:=fun _=>True) (okp:=fun _=>True) ?hr ?hp (fun _ hk=>hk) trivial (Below.refl _ _) (Nat.le_refl _) (by simp) ?_;(case hd=>rfl);(case hg=>rfl);(case hr=>first|(go_simp;done)|(go_simp;rfl));(case hp=>exact (Reps.none _ _));intro l5 w4 ho5 hb hg_ hnew_;clear hg_ hnew_;(first|rw [← Ny331.out] at ho5|(simp only [Int.reduceToNat] at ho5;rw [← Ny331.out] at ho5));have a6:=zzm (Kd.R_lower (Kd.R_newB ho5 (g:=a5) (o:=.cells #[.int .i64 a2,.int .i64 a3,.int .i64 a4] 67 (0,0)) (zzE a1.out)) (zzo zzh2));have a7:=zzm (zzh (g:=a5) (o:=.cells #[.int .i64 a2,.int .i64 a3,.int .i64 a4] 67 (0,0)) (zzE a1.out) hb);have a8:=zzm (zzp zzh2 hb);clear a1 HB;have h0:=a6;have a1:=a7;have HB:=a8;clear a6 a7 a8 hb ho5)))
 go_loopg [5,6,7] k (fun kq v5 v6 v7 w'=>∃ (b3:List (S67)) (d3:Bool) (a0:Int),v6 = .bool d3∧v7 = .int .i64 a0∧Aside0 (Qn.l0 kq l0 b3 d3 a0 a2 a3 a4=some r)∧Aside0 (kq≤k)∧Aside0 (Kd.R k67 67 w' w.heap.size (fun k_=>k_≠a5) v5 b3)∧Aside0 (w'.heap[a5]? = some (.cells #[.int .i64 a2,.int .i64 a3,.int .i64 a4] 67 (0,0)))∧Aside0 (Below w.heap.size w w'))
 case atStart=>exact ⟨(y331),(false),(0),(by first|rfl|(simp;done)|(simp [*];done)),(by first|rfl|(simp;done)|(simp [*];done)),H',⟨Nat.le_refl _⟩,⟨by (with_reducible repeat (first|apply Kd.R_alloc|apply Kd.R_drewN|apply Kd.R_drew));exact Kd.R_mono h0.out (fun _ hk=>hk.2)⟩,⟨zzE a1.out⟩,⟨zzh3⟩⟩
 case round=>
  clear H';try clear p2
  try clear c3
  obtain ⟨b3,d3,a0,rfl,rfl,HA,HK1,a9,a1,HB⟩:=hrel;cases gk with
  | zero=>exact absurd HA.out (by simp [Qn.l0])
  | succ k1=>
   have H:=HA.out;clear HA;simp only [Qn.l0] at H;by_cases c6:a0 < (l0.length:Int)
   ·
    rw [if_pos c6] at H;have l6:decide (a0 < (l0.length:Int))=true:=decide_eq_true c6;clear c6;have l7:=zzm H;clear H;go_upto_region 6 with (fail);repeat (go_quiet (fail);go_upto_region 6 with (fail))
    go_cut [26] (fun q9 wc=>∃ (kq:Nat) (e3:Bool),q9 = .bool e3∧Aside0 (Qn.j1 kq l0 b3 d3 a0 e3 a2 a3 a4=some r)∧Aside0 (kq≤k1)∧Aside0 (Kd.R k67 67 wc w.heap.size (fun k_=>k_≠a5) u5 b3)∧Aside0 (wc.heap[a5]? = some (.cells #[.int .i64 a2,.int .i64 a3,.int .i64 a4] 67 (0,0)))∧Aside0 (Below w.heap.size w wc))
    case first=>
     have H:=l7.out;clear l7;by_cases c8:d3=true
     ·
      subst c8;replace H:=zzIt H;have H':=zzm H;clear H;go_wp2;repeat (go_quiet (fail);try go_wp2)
      go_meet
      case rel=>exact ⟨_,(false),(by first|rfl|(simp;done)|(simp [*];done)),H',⟨by have:=HK1.out;first|omega|exact Nat.le_refl _⟩,⟨by (with_reducible repeat (first|apply Kd.R_alloc|apply Kd.R_drewN|apply Kd.R_drew));exact a9.out⟩,⟨zzE a1.out⟩,⟨zzh3⟩⟩
     ·
      replace c8:=Bool.eq_false_iff.mpr c8;subst c8;replace H:=zzIf H;by_cases c9 : 0≤a0
      ·
       rw [if_pos c9] at H;have h8:decide (0≤a0)=true:=decide_eq_true c9;clear c9
       (first|rw [h8]|(simp only [i64_w,i32_w];rw [h8])|skip);have H':=zzm H;clear H;have h1 : 0≤(a0:Int):=zzt;have h2:a0 < (l0.length:Int):=zzt;obtain ⟨r0,n4,d8,d9,e0⟩:=Rf c7.out a0 h1 h2;cases n4;replace d8:=zzx HB.out d8;replace d9:=zzx HB.out d9;replace e0:=zzx HB.out e0;replace h1:=eq_true h1;replace h2:=eq_true h2;obtain ⟨k8,k9,l1,l2,l3,l4⟩:=zzc3 a1.out;go_wp2;repeat (go_quiet (fail);try go_wp2)
       go_meet
       case rel=>exact ⟨_,(decide (((Qd l0 a0).f0) ≥ a2)),(by first|rfl|(simp;done)|(simp [*];done)),H',⟨by have:=HK1.out;first|omega|exact Nat.le_refl _⟩,⟨by (with_reducible repeat (first|apply Kd.R_alloc|apply Kd.R_drewN|apply Kd.R_drew));exact a9.out⟩,⟨zzE a1.out⟩,⟨zzh3⟩⟩
      ·
       rw [if_neg c9] at H;exact absurd H (by simp)
    case rest=>
     clear l7;try clear p2
     try clear c3
     try clear p3
     try clear q3
     try clear r6
     try clear c6
     try clear l6
     try clear c8
     try clear c9
     try clear h8
     try clear k8
     try clear k9
     try clear l1
     try clear l2
     try clear l3
     try clear l4
     try clear d8
     try clear d9
     try clear e0
     try clear p2
     try clear h1
     try clear h2
     obtain ⟨kq,e3,rfl,HA,HJ6,a9,a1,HB⟩:=hcut;cases kq with
     | zero=>exact absurd HA.out (by simp [Qn.j1])
     | succ e2=>
      have H:=HA.out;clear HA;simp only [Qn.j1] at H;by_cases j6:e3=true
      ·
       subst j6;replace H:=zzIt H;by_cases j7:b3.length < 5864062014805
       ·
        rw [if_pos j7] at H;have LMc12:=zzm j7;clear j7;obtain ⟨y338,hy338⟩:∃ y_:List (S67),y_=(b3 ++ [(⟨a2,a3,a4⟩:S67)]):=⟨_,rfl⟩;replace H:(if 0≤a0 then (if a0 < (l0.length:Int) then (if ((Qd l0 a0).f0)=a2 then (Qn.l0 e2 l0 y338 true (wrap64 (a0+1)) a2 a3 a4) else (if y338.length < 5864062014805 then (Qn.l0 e2 l0 (y338 ++ [(⟨(Qd l0 a0).f0,(Qd l0 a0).f1,(Qd l0 a0).f2⟩:S67)]) true (wrap64 (a0+1)) a2 a3 a4) else (none))) else (none)) else (none))=some r:=by first|(rw [hy338];with_reducible exact H)|(have H2_:=(Option.bind_some _ _).symm.trans H;rw [hy338];with_reducible exact H2_)|(have H2_:=(Option.bind_some _ _).symm.trans H;with_reducible exact H2_)|with_reducible exact H|(rw [hy338];exact H)|exact H
        have Ny338:=zzm hy338;clear hy338;by_cases j8 : 0≤a0
        ·
         rw [if_pos j8] at H;have r1:decide (0≤a0)=true:=decide_eq_true j8;clear j8;by_cases j9:a0 < (l0.length:Int)
         ·
          rw [if_pos j9] at H;have r2:decide (a0 < (l0.length:Int))=true:=decide_eq_true j9;clear j9;by_cases h6:((Qd l0 a0).f0)=a2
          ·
           rw [if_pos h6] at H;obtain ⟨m1,m2⟩:=zzQ h6;clear h6;have H':=zzm H;clear H;obtain ⟨n6,n7,n8,n9,o0,o1⟩:=zzc3 a1.out;go_wp2_with (first|((with_reducible refine gate_builtin (b:=.append) (xs:=#[.tmp 27,.tmp 29]) rfl ?_);at_builtin;refine Kd.R_append k67 (w0:=w) w.heap.size rfl (.tmp 27) (.tmp 29) 23 67 (.agg #[(.int .i64 0),(.int .i64 0),(.int .i64 0)]) 24 rfl Try.underlying23 info67 rfl (by decide) (by omega) u5 b3 (⟨a2,a3,a4⟩:S67) [.int .i64 a2,.int .i64 a3,.int .i64 a4] (fun k_=>k_≠a5) (fun _=>False) rfl rfl ?aP (fun _ hk=>hk.elim) ?aF ?aO ?aB ?aS ?aL ?_;(case aP=>exact k67_mkM _ _ _ (⟨a2,a3,a4⟩:S67));(case aB=>exact zzh2);(case aF=>exact (fun k_ hk=>Kd.freshB (g:=a5) (o:=.cells #[.int .i64 a2,.int .i64 a3,.int .i64 a4] 67 (0,0)) (zzE a1.out) k_ hk));(case aO=>exact (by (with_reducible repeat (first|apply Kd.R_alloc|apply Kd.R_drewN|apply Kd.R_drew));exact a9.out));(case aS=>exact (zzo zzh2));(case aL=>have:=LMc12.out;omega);intro d4 m9 ho hb hg hat;rw [← Ny338.out] at ho;have a6:=zzm (blk_grown (g:=a5) (o:=.cells #[.int .i64 a2,.int .i64 a3,.int .i64 a4] 67 (0,0)) (zzE a1.out) hg (Kd.R_away a9.out (fun _ hk=>hk)));have a7:=zzm (hb);have a8:=zzm (ho);clear a1 HB a9;have a1:=a6;have HB:=a7;have b6:=a8;clear a6 a7 a8 ho hb hg hat;have b4 : 0≤(a0:Int):=zzt;have b5:a0 < (l0.length:Int):=zzt;obtain ⟨c5,c1,b0,b1,b2⟩:=Rf c7.out a0 b4 b5;cases c1;replace b0:=zzx HB.out b0;replace b1:=zzx HB.out b1;replace b2:=zzx HB.out b2;replace b4:=eq_true b4;replace b5:=eq_true b5;obtain ⟨e5,e6,e7,e8,e9,g0⟩:=zzc3 a1.out));repeat (go_quiet (first|((with_reducible refine gate_builtin (b:=.append) (xs:=#[.tmp 27,.tmp 29]) rfl ?_);at_builtin;refine Kd.R_append k67 (w0:=w) w.heap.size rfl (.tmp 27) (.tmp 29) 23 67 (.agg #[(.int .i64 0),(.int .i64 0),(.int .i64 0)]) 24 rfl Try.underlying23 info67 rfl (by decide) (by omega) u5 b3 (⟨a2,a3,a4⟩:S67) [.int .i64 a2,.int .i64 a3,.int .i64 a4] (fun k_=>k_≠a5) (fun _=>False) rfl rfl ?aP (fun _ hk=>hk.elim) ?aF ?aO ?aB ?aS ?aL ?_;(case aP=>exact k67_mkM _ _ _ (⟨a2,a3,a4⟩:S67));(case aB=>exact zzh2);(case aF=>exact (fun k_ hk=>Kd.freshB (g:=a5) (o:=.cells #[.int .i64 a2,.int .i64 a3,.int .i64 a4] 67 (0,0)) (zzE a1.out) k_ hk));(case aO=>exact (by (with_reducible repeat (first|apply Kd.R_alloc|apply Kd.R_drewN|apply Kd.R_drew));exact a9.out));(case aS=>exact (zzo zzh2));(case aL=>have:=LMc12.out;omega);intro d4 m9 ho hb hg hat;rw [← Ny338.out] at ho;have a6:=zzm (blk_grown (g:=a5) (o:=.cells #[.int .i64 a2,.int .i64 a3,.int .i64 a4] 67 (0,0)) (zzE a1.out) hg (Kd.R_away a9.out (fun _ hk=>hk)));have a7:=zzm (hb);have a8:=zzm (ho);clear a1 HB a9;have a1:=a6;have HB:=a7;have b6:=a8;clear a6 a7 a8 ho hb hg hat;have b4 : 0≤(a0:Int):=zzt;have b5:a0 < (l0.length:Int):=zzt;obtain ⟨c5,c1,b0,b1,b2⟩:=Rf c7.out a0 b4 b5;cases c1;replace b0:=zzx HB.out b0;replace b1:=zzx HB.out b1;replace b2:=zzx HB.out b2;replace b4:=eq_true b4;replace b5:=eq_true b5;obtain ⟨e5,e6,e7,e8,e9,g0⟩:=zzc3 a1.out));try go_wp2_with (first|((with_reducible refine gate_builtin (b:=.append) (xs:=#[.tmp 27,.tmp 29]) rfl ?_);at_builtin;refine Kd.R_append k67 (w0:=w) w.heap.size rfl (.tmp 27) (.tmp 29) 23 67 (.agg #[(.int .i64 0),(.int .i64 0),(.int .i64 0)]) 24 rfl Try.underlying23 info67 rfl (by decide) (by omega) u5 b3 (⟨a2,a3,a4⟩:S67) [.int .i64 a2,.int .i64 a3,.int .i64 a4] (fun k_=>k_≠a5) (fun _=>False) rfl rfl ?aP (fun _ hk=>hk.elim) ?aF ?aO ?aB ?aS ?aL ?_;(case aP=>exact k67_mkM _ _ _ (⟨a2,a3,a4⟩:S67));(case aB=>exact zzh2);(case aF=>exact (fun k_ hk=>Kd.freshB (g:=a5) (o:=.cells #[.int .i64 a2,.int .i64 a3,.int .i64 a4] 67 (0,0)) (zzE a1.out) k_ hk));(case aO=>exact (by (with_reducible repeat (first|apply Kd.R_alloc|apply Kd.R_drewN|apply Kd.R_drew));exact a9.out));(case aS=>exact (zzo zzh2));(case aL=>have:=LMc12.out;omega);intro d4 m9 ho hb hg hat;rw [← Ny338.out] at ho;have a6:=zzm (blk_grown (g:=a5) (o:=.cells #[.int .i64 a2,.int .i64 a3,.int .i64 a4] 67 (0,0)) (zzE a1.out) hg (Kd.R_away a9.out (fun _ hk=>hk)));have a7:=zzm (hb);have a8:=zzm (ho);clear a1 HB a9;have a1:=a6;have HB:=a7;have b6:=a8;clear a6 a7 a8 ho hb hg hat;have b4 : 0≤(a0:Int):=zzt;have b5:a0 < (l0.length:Int):=zzt;obtain ⟨c5,c1,b0,b1,b2⟩:=Rf c7.out a0 b4 b5;cases c1;replace b0:=zzx HB.out b0;replace b1:=zzx HB.out b1;replace b2:=zzx HB.out b2;replace b4:=eq_true b4;replace b5:=eq_true b5;obtain ⟨e5,e6,e7,e8,e9,g0⟩:=zzc3 a1.out)))
           go_roundg e2
           case measure=>have:=HK1.out;have:=HJ6.out;omega
           case rel=>exact ⟨(y338),(true),(wrap64 (a0+1)),(by first|rfl|(simp;done)|(simp [*];done)),(by first|rfl|(simp;done)|(simp [*];done)),H',⟨by have:=HK1.out;have:=HJ6.out;omega⟩,⟨by (with_reducible repeat (first|apply Kd.R_alloc|apply Kd.R_drewN|apply Kd.R_drew));exact b6.out⟩,⟨zzE a1.out⟩,⟨zzh3⟩⟩
          ·
           rw [if_neg h6] at H;obtain ⟨m1,m2⟩:=zzY h6;by_cases k0:y338.length < 5864062014805
           ·
            rw [if_pos k0] at H;have LMc19:=zzm k0;clear k0;obtain ⟨y343,hy343⟩:∃ y_:List (S67),y_=(y338 ++ [(⟨(Qd l0 a0).f0,(Qd l0 a0).f1,(Qd l0 a0).f2⟩:S67)]):=⟨_,rfl⟩;replace H:(Qn.l0 e2 l0 y343 true (wrap64 (a0+1)) a2 a3 a4)=some r:=by first|(rw [hy343];with_reducible exact H)|(have H2_:=(Option.bind_some _ _).symm.trans H;rw [hy343];with_reducible exact H2_)|(have H2_:=(Option.bind_some _ _).symm.trans H;with_reducible exact H2_)|with_reducible exact H|(rw [hy343];exact H)|exact H
            have Ny343:=zzm hy343;clear hy343;have H':=zzm H;clear H;obtain ⟨o2,o3,o4,o5,o6,o7⟩:=zzc3 a1.out;go_wp2_with (first|((with_reducible refine gate_builtin (b:=.append) (xs:=#[.tmp 27,.tmp 29]) rfl ?_);at_builtin;refine Kd.R_append k67 (w0:=w) w.heap.size rfl (.tmp 27) (.tmp 29) 23 67 (.agg #[(.int .i64 0),(.int .i64 0),(.int .i64 0)]) 24 rfl Try.underlying23 info67 rfl (by decide) (by omega) u5 b3 (⟨a2,a3,a4⟩:S67) [.int .i64 a2,.int .i64 a3,.int .i64 a4] (fun k_=>k_≠a5) (fun _=>False) rfl rfl ?aP (fun _ hk=>hk.elim) ?aF ?aO ?aB ?aS ?aL ?_;(case aP=>exact k67_mkM _ _ _ (⟨a2,a3,a4⟩:S67));(case aB=>exact zzh2);(case aF=>exact (fun k_ hk=>Kd.freshB (g:=a5) (o:=.cells #[.int .i64 a2,.int .i64 a3,.int .i64 a4] 67 (0,0)) (zzE a1.out) k_ hk));(case aO=>exact (by (with_reducible repeat (first|apply Kd.R_alloc|apply Kd.R_drewN|apply Kd.R_drew));exact a9.out));(case aS=>exact (zzo zzh2));(case aL=>have:=LMc12.out;omega);intro d4 n0 ho hb hg hat;rw [← Ny338.out] at ho;have a6:=zzm (blk_grown (g:=a5) (o:=.cells #[.int .i64 a2,.int .i64 a3,.int .i64 a4] 67 (0,0)) (zzE a1.out) hg (Kd.R_away a9.out (fun _ hk=>hk)));have a7:=zzm (hb);have a8:=zzm (ho);clear a1 HB a9;have a1:=a6;have HB:=a7;have b6:=a8;clear a6 a7 a8 ho hb hg hat;have b4 : 0≤(a0:Int):=zzt;have b5:a0 < (l0.length:Int):=zzt;obtain ⟨c5,c1,b0,b1,b2⟩:=Rf c7.out a0 b4 b5;cases c1;replace b0:=zzx HB.out b0;replace b1:=zzx HB.out b1;replace b2:=zzx HB.out b2;replace b4:=eq_true b4;replace b5:=eq_true b5;obtain ⟨g1,g2,g3,g4,g5,g6⟩:=zzc3 a1.out;have c2 : 0≤(a0:Int):=zzt;have c4:a0 < (l0.length:Int):=zzt;obtain ⟨d7,e4,b7,b8,b9⟩:=Rf c7.out a0 c2 c4;obtain rfl:c5=d7:=(by injection e4);replace b7:=zzx HB.out b7;replace b8:=zzx HB.out b8;replace b9:=zzx HB.out b9;replace c2:=eq_true c2;replace c4:=eq_true c4)|((with_reducible refine gate_builtin (b:=.append) (xs:=#[.tmp 39,.tmp 44]) rfl ?_);at_builtin;refine Kd.R_append k67 (w0:=w) w.heap.size rfl (.tmp 39) (.tmp 44) 23 67 (.agg #[(.int .i64 0),(.int .i64 0),(.int .i64 0)]) 24 rfl Try.underlying23 info67 rfl (by decide) (by omega) d4 y338 (⟨(Qd l0 a0).f0,(Qd l0 a0).f1,(Qd l0 a0).f2⟩:S67) [.int .i64 ((Qd l0 a0).f0),.int .i64 ((Qd l0 a0).f1),.int .i64 ((Qd l0 a0).f2)] (fun k_=>k_≠a5) (fun _=>False) rfl rfl ?aP (fun _ hk=>hk.elim) ?aF ?aO ?aB ?aS ?aL ?_;(case aP=>exact k67_mkM _ _ _ (⟨(Qd l0 a0).f0,(Qd l0 a0).f1,(Qd l0 a0).f2⟩:S67));(case aB=>exact zzh2);(case aF=>exact (fun k_ hk=>Kd.freshB (g:=a5) (o:=.cells #[.int .i64 a2,.int .i64 a3,.int .i64 a4] 67 (0,0)) (zzE a1.out) k_ hk));(case aO=>exact (by (with_reducible repeat (first|apply Kd.R_alloc|apply Kd.R_drewN|apply Kd.R_drew));exact b6.out));(case aS=>exact (zzo zzh2));(case aL=>have:=LMc19.out;omega);intro l8 n1 ho hb hg hat;rw [← Ny343.out] at ho;have a6:=zzm (blk_grown (g:=a5) (o:=.cells #[.int .i64 a2,.int .i64 a3,.int .i64 a4] 67 (0,0)) (zzE a1.out) hg (Kd.R_away b6.out (fun _ hk=>hk)));have a7:=zzm (hb);have a8:=zzm (ho);clear a1 HB b6;have a1:=a6;have HB:=a7;have h3:=a8;clear a6 a7 a8 ho hb hg hat));repeat (go_quiet (first|((with_reducible refine gate_builtin (b:=.append) (xs:=#[.tmp 27,.tmp 29]) rfl ?_);at_builtin;refine Kd.R_append k67 (w0:=w) w.heap.size rfl (.tmp 27) (.tmp 29) 23 67 (.agg #[(.int .i64 0),(.int .i64 0),(.int .i64 0)]) 24 rfl Try.underlying23 info67 rfl (by decide) (by omega) u5 b3 (⟨a2,a3,a4⟩:S67) [.int .i64 a2,.int .i64 a3,.int .i64 a4] (fun k_=>k_≠a5) (fun _=>False) rfl rfl ?aP (fun _ hk=>hk.elim) ?aF ?aO ?aB ?aS ?aL ?_;(case aP=>exact k67_mkM _ _ _ (⟨a2,a3,a4⟩:S67));(case aB=>exact zzh2);(case aF=>exact (fun k_ hk=>Kd.freshB (g:=a5) (o:=.cells #[.int .i64 a2,.int .i64 a3,.int .i64 a4] 67 (0,0)) (zzE a1.out) k_ hk));(case aO=>exact (by (with_reducible repeat (first|apply Kd.R_alloc|apply Kd.R_drewN|apply Kd.R_drew));exact a9.out));(case aS=>exact (zzo zzh2));(case aL=>have:=LMc12.out;omega);intro d4 n0 ho hb hg hat;rw [← Ny338.out] at ho;have a6:=zzm (blk_grown (g:=a5) (o:=.cells #[.int .i64 a2,.int .i64 a3,.int .i64 a4] 67 (0,0)) (zzE a1.out) hg (Kd.R_away a9.out (fun _ hk=>hk)));have a7:=zzm (hb);have a8:=zzm (ho);clear a1 HB a9;have a1:=a6;have HB:=a7;have b6:=a8;clear a6 a7 a8 ho hb hg hat;have b4 : 0≤(a0:Int):=zzt;have b5:a0 < (l0.length:Int):=zzt;obtain ⟨c5,c1,b0,b1,b2⟩:=Rf c7.out a0 b4 b5;cases c1;replace b0:=zzx HB.out b0;replace b1:=zzx HB.out b1;replace b2:=zzx HB.out b2;replace b4:=eq_true b4;replace b5:=eq_true b5;obtain ⟨g1,g2,g3,g4,g5,g6⟩:=zzc3 a1.out;have c2 : 0≤(a0:Int):=zzt;have c4:a0 < (l0.length:Int):=zzt;obtain ⟨d7,e4,b7,b8,b9⟩:=Rf c7.out a0 c2 c4;obtain rfl:c5=d7:=(by injection e4);replace b7:=zzx HB.out b7;replace b8:=zzx HB.out b8;replace b9:=zzx HB.out b9;replace c2:=eq_true c2;replace c4:=eq_true c4)|((with_reducible refine gate_builtin (b:=.append) (xs:=#[.tmp 39,.tmp 44]) rfl ?_);at_builtin;refine Kd.R_append k67 (w0:=w) w.heap.size rfl (.tmp 39) (.tmp 44) 23 67 (.agg #[(.int .i64 0),(.int .i64 0),(.int .i64 0)]) 24 rfl Try.underlying23 info67 rfl (by decide) (by omega) d4 y338 (⟨(Qd l0 a0).f0,(Qd l0 a0).f1,(Qd l0 a0).f2⟩:S67) [.int .i64 ((Qd l0 a0).f0),.int .i64 ((Qd l0 a0).f1),.int .i64 ((Qd l0 a0).f2)] (fun k_=>k_≠a5) (fun _=>False) rfl rfl ?aP (fun _ hk=>hk.elim) ?aF ?aO ?aB ?aS ?aL ?_;(case aP=>exact k67_mkM _ _ _ (⟨(Qd l0 a0).f0,(Qd l0 a0).f1,(Qd l0 a0).f2⟩:S67));(case aB=>exact zzh2);(case aF=>exact (fun k_ hk=>Kd.freshB (g:=a5) (o:=.cells #[.int .i64 a2,.int .i64 a3,.int .i64 a4] 67 (0,0)) (zzE a1.out) k_ hk));(case aO=>exact (by (with_reducible repeat (first|apply Kd.R_alloc|apply Kd.R_drewN|apply Kd.R_drew));exact b6.out));(case aS=>exact (zzo zzh2));(case aL=>have:=LMc19.out;omega);intro l8 n1 ho hb hg hat;rw [← Ny343.out] at ho;have a6:=zzm (blk_grown (g:=a5) (o:=.cells #[.int .i64 a2,.int .i64 a3,.int .i64 a4] 67 (0,0)) (zzE a1.out) hg (Kd.R_away b6.out (fun _ hk=>hk)));have a7:=zzm (hb);have a8:=zzm (ho);clear a1 HB b6;have a1:=a6;have HB:=a7;have h3:=a8;clear a6 a7 a8 ho hb hg hat));try go_wp2_with (first|((with_reducible refine gate_builtin (b:=.append) (xs:=#[.tmp 27,.tmp 29]) rfl ?_);at_builtin;refine Kd.R_append k67 (w0:=w) w.heap.size rfl (.tmp 27) (.tmp 29) 23 67 (.agg #[(.int .i64 0),(.int .i64 0),(.int .i64 0)]) 24 rfl Try.underlying23 info67 rfl (by decide) (by omega) u5 b3 (⟨a2,a3,a4⟩:S67) [.int .i64 a2,.int .i64 a3,.int .i64 a4] (fun k_=>k_≠a5) (fun _=>False) rfl rfl ?aP (fun _ hk=>hk.elim) ?aF ?aO ?aB ?aS ?aL ?_;(case aP=>exact k67_mkM _ _ _ (⟨a2,a3,a4⟩:S67));(case aB=>exact zzh2);(case aF=>exact (fun k_ hk=>Kd.freshB (g:=a5) (o:=.cells #[.int .i64 a2,.int .i64 a3,.int .i64 a4] 67 (0,0)) (zzE a1.out) k_ hk));(case aO=>exact (by (with_reducible repeat (first|apply Kd.R_alloc|apply Kd.R_drewN|apply Kd.R_drew));exact a9.out));(case aS=>exact (zzo zzh2));(case aL=>have:=LMc12.out;omega);intro d4 n0 ho hb hg hat;rw [← Ny338.out] at ho;have a6:=zzm (blk_grown (g:=a5) (o:=.cells #[.int .i64 a2,.int .i64 a3,.int .i64 a4] 67 (0,0)) (zzE a1.out) hg (Kd.R_away a9.out (fun _ hk=>hk)));have a7:=zzm (hb);have a8:=zzm (ho);clear a1 HB a9;have a1:=a6;have HB:=a7;have b6:=a8;clear a6 a7 a8 ho hb hg hat;have b4 : 0≤(a0:Int):=zzt;have b5:a0 < (l0.length:Int):=zzt;obtain ⟨c5,c1,b0,b1,b2⟩:=Rf c7.out a0 b4 b5;cases c1;replace b0:=zzx HB.out b0;replace b1:=zzx HB.out b1;replace b2:=zzx HB.out b2;replace b4:=eq_true b4;replace b5:=eq_true b5;obtain ⟨g1,g2,g3,g4,g5,g6⟩:=zzc3 a1.out;have c2 : 0≤(a0:Int):=zzt;have c4:a0 < (l0.length:Int):=zzt;obtain ⟨d7,e4,b7,b8,b9⟩:=Rf c7.out a0 c2 c4;obtain rfl:c5=d7:=(by injection e4);replace b7:=zzx HB.out b7;replace b8:=zzx HB.out b8;replace b9:=zzx HB.out b9;replace c2:=eq_true c2;replace c4:=eq_true c4)|((with_reducible refine gate_builtin (b:=.append) (xs:=#[.tmp 39,.tmp 44]) rfl ?_);at_builtin;refine Kd.R_append k67 (w0:=w) w.heap.size rfl (.tmp 39) (.tmp 44) 23 67 (.agg #[(.int .i64 0),(.int .i64 0),(.int .i64 0)]) 24 rfl Try.underlying23 info67 rfl (by decide) (by omega) d4 y338 (⟨(Qd l0 a0).f0,(Qd l0 a0).f1,(Qd l0 a0).f2⟩:S67) [.int .i64 ((Qd l0 a0).f0),.int .i64 ((Qd l0 a0).f1),.int .i64 ((Qd l0 a0).f2)] (fun k_=>k_≠a5) (fun _=>False) rfl rfl ?aP (fun _ hk=>hk.elim) ?aF ?aO ?aB ?aS ?aL ?_;(case aP=>exact k67_mkM _ _ _ (⟨(Qd l0 a0).f0,(Qd l0 a0).f1,(Qd l0 a0).f2⟩:S67));(case aB=>exact zzh2);(case aF=>exact (fun k_ hk=>Kd.freshB (g:=a5) (o:=.cells #[.int .i64 a2,.int .i64 a3,.int .i64 a4] 67 (0,0)) (zzE a1.out) k_ hk));(case aO=>exact (by (with_reducible repeat (first|apply Kd.R_alloc|apply Kd.R_drewN|apply Kd.R_drew));exact b6.out));(case aS=>exact (zzo zzh2));(case aL=>have:=LMc19.out;omega);intro l8 n1 ho hb hg hat;rw [← Ny343.out] at ho;have a6:=zzm (blk_grown (g:=a5) (o:=.cells #[.int .i64 a2,.int .i64 a3,.int .i64 a4] 67 (0,0)) (zzE a1.out) hg (Kd.R_away b6.out (fun _ hk=>hk)));have a7:=zzm (hb);have a8:=zzm (ho);clear a1 HB b6;have a1:=a6;have HB:=a7;have h3:=a8;clear a6 a7 a8 ho hb hg hat)))
            go_roundg e2
            case measure=>have:=HK1.out;have:=HJ6.out;omega
            case rel=>exact ⟨(y343),(true),(wrap64 (a0+1)),(by first|rfl|(simp;done)|(simp [*];done)),(by first|rfl|(simp;done)|(simp [*];done)),H',⟨by have:=HK1.out;have:=HJ6.out;omega⟩,⟨by (with_reducible repeat (first|apply Kd.R_alloc|apply Kd.R_drewN|apply Kd.R_drew));exact h3.out⟩,⟨zzE a1.out⟩,⟨zzh3⟩⟩
           ·
            rw [if_neg k0] at H;exact absurd H (by simp)
         ·
          rw [if_neg j9] at H;exact absurd H (by simp)
        ·
         rw [if_neg j8] at H;exact absurd H (by simp)
       ·
        rw [if_neg j7] at H;exact absurd H (by simp)
      ·
       replace j6:=Bool.eq_false_iff.mpr j6;subst j6;replace H:=zzIf H;by_cases k2 : 0≤a0
       ·
        rw [if_pos k2] at H;have r3:decide (0≤a0)=true:=decide_eq_true k2;clear k2;by_cases k3:a0 < (l0.length:Int)
        ·
         rw [if_pos k3] at H;have r4:decide (a0 < (l0.length:Int))=true:=decide_eq_true k3;clear k3;by_cases h7:((Qd l0 a0).f0)=a2
         ·
          rw [if_pos h7] at H;obtain ⟨m3,m4⟩:=zzQ h7;clear h7;have H':=zzm H;clear H;have d5 : 0≤(a0:Int):=zzt;have d6:a0 < (l0.length:Int):=zzt;obtain ⟨k4,h9,d0,d1,d2⟩:=Rf c7.out a0 d5 d6;cases h9;replace d0:=zzx HB.out d0;replace d1:=zzx HB.out d1;replace d2:=zzx HB.out d2;replace d5:=eq_true d5;replace d6:=eq_true d6;obtain ⟨o8,o9,p0,p1,p4,p5⟩:=zzc3 a1.out;go_wp2;repeat (go_quiet (fail);try go_wp2)
          go_roundg e2
          case measure=>have:=HK1.out;have:=HJ6.out;omega
          case rel=>exact ⟨(b3),(d3),(wrap64 (a0+1)),(by first|rfl|(simp;done)|(simp [*];done)),(by first|rfl|(simp;done)|(simp [*];done)),H',⟨by have:=HK1.out;have:=HJ6.out;omega⟩,⟨by (with_reducible repeat (first|apply Kd.R_alloc|apply Kd.R_drewN|apply Kd.R_drew));exact a9.out⟩,⟨zzE a1.out⟩,⟨zzh3⟩⟩
         ·
          rw [if_neg h7] at H;obtain ⟨m3,m4⟩:=zzY h7;by_cases k5:b3.length < 5864062014805
          ·
           rw [if_pos k5] at H;have LMc28:=zzm k5;clear k5;obtain ⟨y348,hy348⟩:∃ y_:List (S67),y_=(b3 ++ [(⟨(Qd l0 a0).f0,(Qd l0 a0).f1,(Qd l0 a0).f2⟩:S67)]):=⟨_,rfl⟩;replace H:(Qn.l0 e2 l0 y348 d3 (wrap64 (a0+1)) a2 a3 a4)=some r:=by first|(rw [hy348];with_reducible exact H)|(have H2_:=(Option.bind_some _ _).symm.trans H;rw [hy348];with_reducible exact H2_)|(have H2_:=(Option.bind_some _ _).symm.trans H;with_reducible exact H2_)|with_reducible exact H|(rw [hy348];exact H)|exact H
           have Ny348:=zzm hy348;clear hy348;have H':=zzm H;clear H;have d5 : 0≤(a0:Int):=zzt;have d6:a0 < (l0.length:Int):=zzt;obtain ⟨k4,h9,d0,d1,d2⟩:=Rf c7.out a0 d5 d6;cases h9;replace d0:=zzx HB.out d0;replace d1:=zzx HB.out d1;replace d2:=zzx HB.out d2;replace d5:=eq_true d5;replace d6:=eq_true d6;obtain ⟨p6,p7,p8,p9,q0,q1⟩:=zzc3 a1.out;have j2 : 0≤(a0:Int):=zzt;have j3:a0 < (l0.length:Int):=zzt;obtain ⟨m5,n5,g7,g8,g9⟩:=Rf c7.out a0 j2 j3;obtain rfl:k4=m5:=(by injection n5);replace g7:=zzx HB.out g7;replace g8:=zzx HB.out g8;replace g9:=zzx HB.out g9;replace j2:=eq_true j2;replace j3:=eq_true j3;go_wp2_with (first|((with_reducible refine gate_builtin (b:=.append) (xs:=#[.tmp 39,.tmp 44]) rfl ?_);at_builtin;refine Kd.R_append k67 (w0:=w) w.heap.size rfl (.tmp 39) (.tmp 44) 23 67 (.agg #[(.int .i64 0),(.int .i64 0),(.int .i64 0)]) 24 rfl Try.underlying23 info67 rfl (by decide) (by omega) u5 b3 (⟨(Qd l0 a0).f0,(Qd l0 a0).f1,(Qd l0 a0).f2⟩:S67) [.int .i64 ((Qd l0 a0).f0),.int .i64 ((Qd l0 a0).f1),.int .i64 ((Qd l0 a0).f2)] (fun k_=>k_≠a5) (fun _=>False) rfl rfl ?aP (fun _ hk=>hk.elim) ?aF ?aO ?aB ?aS ?aL ?_;(case aP=>exact k67_mkM _ _ _ (⟨(Qd l0 a0).f0,(Qd l0 a0).f1,(Qd l0 a0).f2⟩:S67));(case aB=>exact zzh2);(case aF=>exact (fun k_ hk=>Kd.freshB (g:=a5) (o:=.cells #[.int .i64 a2,.int .i64 a3,.int .i64 a4] 67 (0,0)) (zzE a1.out) k_ hk));(case aO=>exact (by (with_reducible repeat (first|apply Kd.R_alloc|apply Kd.R_drewN|apply Kd.R_drew));exact a9.out));(case aS=>exact (zzo zzh2));(case aL=>have:=LMc28.out;omega);intro l9 n2 ho hb hg hat;rw [← Ny348.out] at ho;have a6:=zzm (blk_grown (g:=a5) (o:=.cells #[.int .i64 a2,.int .i64 a3,.int .i64 a4] 67 (0,0)) (zzE a1.out) hg (Kd.R_away a9.out (fun _ hk=>hk)));have a7:=zzm (hb);have a8:=zzm (ho);clear a1 HB a9;have a1:=a6;have HB:=a7;have h4:=a8;clear a6 a7 a8 ho hb hg hat));repeat (go_quiet (first|((with_reducible refine gate_builtin (b:=.append) (xs:=#[.tmp 39,.tmp 44]) rfl ?_);at_builtin;refine Kd.R_append k67 (w0:=w) w.heap.size rfl (.tmp 39) (.tmp 44) 23 67 (.agg #[(.int .i64 0),(.int .i64 0),(.int .i64 0)]) 24 rfl Try.underlying23 info67 rfl (by decide) (by omega) u5 b3 (⟨(Qd l0 a0).f0,(Qd l0 a0).f1,(Qd l0 a0).f2⟩:S67) [.int .i64 ((Qd l0 a0).f0),.int .i64 ((Qd l0 a0).f1),.int .i64 ((Qd l0 a0).f2)] (fun k_=>k_≠a5) (fun _=>False) rfl rfl ?aP (fun _ hk=>hk.elim) ?aF ?aO ?aB ?aS ?aL ?_;(case aP=>exact k67_mkM _ _ _ (⟨(Qd l0 a0).f0,(Qd l0 a0).f1,(Qd l0 a0).f2⟩:S67));(case aB=>exact zzh2);(case aF=>exact (fun k_ hk=>Kd.freshB (g:=a5) (o:=.cells #[.int .i64 a2,.int .i64 a3,.int .i64 a4] 67 (0,0)) (zzE a1.out) k_ hk));(case aO=>exact (by (with_reducible repeat (first|apply Kd.R_alloc|apply Kd.R_drewN|apply Kd.R_drew));exact a9.out));(case aS=>exact (zzo zzh2));(case aL=>have:=LMc28.out;omega);intro l9 n2 ho hb hg hat;rw [← Ny348.out] at ho;have a6:=zzm (blk_grown (g:=a5) (o:=.cells #[.int .i64 a2,.int .i64 a3,.int .i64 a4] 67 (0,0)) (zzE a1.out) hg (Kd.R_away a9.out (fun _ hk=>hk)));have a7:=zzm (hb);have a8:=zzm (ho);clear a1 HB a9;have a1:=a6;have HB:=a7;have h4:=a8;clear a6 a7 a8 ho hb hg hat));try go_wp2_with (first|((with_reducible refine gate_builtin (b:=.append) (xs:=#[.tmp 39,.tmp 44]) rfl ?_);at_builtin;refine Kd.R_append k67 (w0:=w) w.heap.size rfl (.tmp 39) (.tmp 44) 23 67 (.agg #[(.int .i64 0),(.int .i64 0),(.int .i64 0)]) 24 rfl Try.underlying23 info67 rfl (by decide) (by omega) u5 b3 (⟨(Qd l0 a0).f0,(Qd l0 a0).f1,(Qd l0 a0).f2⟩:S67) [.int .i64 ((Qd l0 a0).f0),.int .i64 ((Qd l0 a0).f1),.int .i64 ((Qd l0 a0).f2)] (fun k_=>k_≠a5) (fun _=>False) rfl rfl ?aP (fun _ hk=>hk.elim) ?aF ?aO ?aB ?aS ?aL ?_;(case aP=>exact k67_mkM _ _ _ (⟨(Qd l0 a0).f0,(Qd l0 a0).f1,(Qd l0 a0).f2⟩:S67));(case aB=>exact zzh2);(case aF=>exact (fun k_ hk=>Kd.freshB (g:=a5) (o:=.cells #[.int .i64 a2,.int .i64 a3,.int .i64 a4] 67 (0,0)) (zzE a1.out) k_ hk));(case aO=>exact (by (with_reducible repeat (first|apply Kd.R_alloc|apply Kd.R_drewN|apply Kd.R_drew));exact a9.out));(case aS=>exact (zzo zzh2));(case aL=>have:=LMc28.out;omega);intro l9 n2 ho hb hg hat;rw [← Ny348.out] at ho;have a6:=zzm (blk_grown (g:=a5) (o:=.cells #[.int .i64 a2,.int .i64 a3,.int .i64 a4] 67 (0,0)) (zzE a1.out) hg (Kd.R_away a9.out (fun _ hk=>hk)));have a7:=zzm (hb);have a8:=zzm (ho);clear a1 HB a9;have a1:=a6;have HB:=a7;have h4:=a8;clear a6 a7 a8 ho hb hg hat)))
           go_roundg e2
           case measure=>have:=HK1.out;have:=HJ6.out;omega
           case rel=>exact ⟨(y348),(d3),(wrap64 (a0+1)),(by first|rfl|(simp;done)|(simp [*];done)),(by first|rfl|(simp;done)|(simp [*];done)),H',⟨by have:=HK1.out;have:=HJ6.out;omega⟩,⟨by (with_reducible repeat (first|apply Kd.R_alloc|apply Kd.R_drewN|apply Kd.R_drew));exact h4.out⟩,⟨zzE a1.out⟩,⟨zzh3⟩⟩
          ·
           rw [if_neg k5] at H;exact absurd H (by simp)
        ·
         rw [if_neg k3] at H;exact absurd H (by simp)
       ·
        rw [if_neg k2] at H;exact absurd H (by simp)
   ·
    rw [if_neg c6] at H;have l6:decide (a0 < (l0.length:Int))=false:=decide_eq_false c6;clear c6;by_cases k6:d3=true
    ·
     subst k6;replace H:=zzIt H;obtain rfl:=Option.some.inj H;go_wp2;repeat (go_quiet (fail);try go_wp2)
     go_ret;exact ⟨_,zzR,by (with_reducible repeat (first|apply Kd.R_alloc|apply Kd.R_drewN|apply Kd.R_drew));exact Kd.R_mono a9.out (fun _ hk=>trivial),zzh3⟩
    ·
     replace k6:=Bool.eq_false_iff.mpr k6;subst k6;replace H:=zzIf H;by_cases k7:b3.length < 5864062014805
     ·
      rw [if_pos k7] at H;have LMc32:=zzm k7;clear k7;obtain ⟨y334,hy334⟩:∃ y_:List (S67),y_=(b3 ++ [(⟨a2,a3,a4⟩:S67)]):=⟨_,rfl⟩;replace H:(some y334)=some r:=by first|(rw [hy334];with_reducible exact H)|(have H2_:=(Option.bind_some _ _).symm.trans H;rw [hy334];with_reducible exact H2_)|(have H2_:=(Option.bind_some _ _).symm.trans H;with_reducible exact H2_)|with_reducible exact H|(rw [hy334];exact H)|exact H
      have Ny334:=zzm hy334;clear hy334;obtain rfl:=Option.some.inj H;obtain ⟨q2,q4,q5,q6,q7,q8⟩:=zzc3 a1.out;go_wp2_with (first|((with_reducible refine gate_builtin (b:=.append) (xs:=#[.tmp 48,.tmp 50]) rfl ?_);at_builtin;refine Kd.R_append k67 (w0:=w) w.heap.size rfl (.tmp 48) (.tmp 50) 23 67 (.agg #[(.int .i64 0),(.int .i64 0),(.int .i64 0)]) 24 rfl Try.underlying23 info67 rfl (by decide) (by omega) u5 b3 (⟨a2,a3,a4⟩:S67) [.int .i64 a2,.int .i64 a3,.int .i64 a4] (fun k_=>k_≠a5) (fun _=>False) rfl rfl ?aP (fun _ hk=>hk.elim) ?aF ?aO ?aB ?aS ?aL ?_;(case aP=>exact k67_mkM _ _ _ (⟨a2,a3,a4⟩:S67));(case aB=>exact zzh2);(case aF=>exact (fun k_ hk=>Kd.freshB (g:=a5) (o:=.cells #[.int .i64 a2,.int .i64 a3,.int .i64 a4] 67 (0,0)) (zzE a1.out) k_ hk));(case aO=>exact (by (with_reducible repeat (first|apply Kd.R_alloc|apply Kd.R_drewN|apply Kd.R_drew));exact a9.out));(case aS=>exact (zzo zzh2));(case aL=>have:=LMc32.out;omega);intro m0 n3 ho hb hg hat;rw [← Ny334.out] at ho;have a6:=zzm (blk_grown (g:=a5) (o:=.cells #[.int .i64 a2,.int .i64 a3,.int .i64 a4] 67 (0,0)) (zzE a1.out) hg (Kd.R_away a9.out (fun _ hk=>hk)));have a7:=zzm (hb);have a8:=zzm (ho);clear a1 HB a9;have a1:=a6;have HB:=a7;have h5:=a8;clear a6 a7 a8 ho hb hg hat));repeat (go_quiet (first|((with_reducible refine gate_builtin (b:=.append) (xs:=#[.tmp 48,.tmp 50]) rfl ?_);at_builtin;refine Kd.R_append k67 (w0:=w) w.heap.size rfl (.tmp 48) (.tmp 50) 23 67 (.agg #[(.int .i64 0),(.int .i64 0),(.int .i64 0)]) 24 rfl Try.underlying23 info67 rfl (by decide) (by omega) u5 b3 (⟨a2,a3,a4⟩:S67) [.int .i64 a2,.int .i64 a3,.int .i64 a4] (fun k_=>k_≠a5) (fun _=>False) rfl rfl ?aP (fun _ hk=>hk.elim) ?aF ?aO ?aB ?aS ?aL ?_;(case aP=>exact k67_mkM _ _ _ (⟨a2,a3,a4⟩:S67));(case aB=>exact zzh2);(case aF=>exact (fun k_ hk=>Kd.freshB (g:=a5) (o:=.cells #[.int .i64 a2,.int .i64 a3,.int .i64 a4] 67 (0,0)) (zzE a1.out) k_ hk));(case aO=>exact (by (with_reducible repeat (first|apply Kd.R_alloc|apply Kd.R_drewN|apply Kd.R_drew));exact a9.out));(case aS=>exact (zzo zzh2));(case aL=>have:=LMc32.out;omega);intro m0 n3 ho hb hg hat;rw [← Ny334.out] at ho;have a6:=zzm (blk_grown (g:=a5) (o:=.cells #[.int .i64 a2,.int .i64 a3,.int .i64 a4] 67 (0,0)) (zzE a1.out) hg (Kd.R_away a9.out (fun _ hk=>hk)));have a7:=zzm (hb);have a8:=zzm (ho);clear a1 HB a9;have a1:=a6;have HB:=a7;have h5:=a8;clear a6 a7 a8 ho hb hg hat));try go_wp2_with (first|((with_reducible refine gate_builtin (b:=.append) (xs:=#[.tmp 48,.tmp 50]) rfl ?_);at_builtin;refine Kd.R_append k67 (w0:=w) w.heap.size rfl (.tmp 48) (.tmp 50) 23 67 (.agg #[(.int .i64 0),(.int .i64 0),(.int .i64 0)]) 24 rfl Try.underlying23 info67 rfl (by decide) (by omega) u5 b3 (⟨a2,a3,a4⟩:S67) [.int .i64 a2,.int .i64 a3,.int .i64 a4] (fun k_=>k_≠a5) (fun _=>False) rfl rfl ?aP (fun _ hk=>hk.elim) ?aF ?aO ?aB ?aS ?aL ?_;(case aP=>exact k67_mkM _ _ _ (⟨a2,a3,a4⟩:S67));(case aB=>exact zzh2);(case aF=>exact (fun k_ hk=>Kd.freshB (g:=a5) (o:=.cells #[.int .i64 a2,.int .i64 a3,.int .i64 a4] 67 (0,0)) (zzE a1.out) k_ hk));(case aO=>exact (by (with_reducible repeat (first|apply Kd.R_alloc|apply Kd.R_drewN|apply Kd.R_drew));exact a9.out));(case aS=>exact (zzo zzh2));(case aL=>have:=LMc32.out;omega);intro m0 n3 ho hb hg hat;rw [← Ny334.out] at ho;have a6:=zzm (blk_grown (g:=a5) (o:=.cells #[.int .i64 a2,.int .i64 a3,.int .i64 a4] 67 (0,0)) (zzE a1.out) hg (Kd.R_away a9.out (fun _ hk=>hk)));have a7:=zzm (hb);have a8:=zzm (ho);clear a1 HB a9;have a1:=a6;have HB:=a7;have h5:=a8;clear a6 a7 a8 ho hb hg hat)))
      go_ret;exact ⟨_,zzR,by (with_reducible repeat (first|apply Kd.R_alloc|apply Kd.R_drewN|apply Kd.R_drew));exact Kd.R_mono h5.out (fun _ hk=>trivial),zzh3⟩
     ·
      rw [if_neg k7] at H;exact absurd H (by simp)
def Ra.f (k:Nat) (l0:List (S67)) (a1_0:Bool) (a1_1:Bool) (a1_2:Int) (a1_3:Int) (a1_4:Int) (l1_5:List (S75)):Option ((List (S67))×Int):=(Qt.f k l0 a1_0 a1_1 a1_2 a1_3 a1_4 l1_5).bind fun t352=>(if t352=5 then (some ((([]:List (S67))),5)) else ((some (([]:List (S67)):List (S67))).bind fun y356=>(if y356.length+l0.length < 5864062014805 then ((some (y356++l0:List (S67))).bind fun y359=>(if t352=0 then ((Qn.f k l0 a1_2 a1_3 (wrap64 (a1_4+(l1_5.length:Int)))).bind fun t362=>((Qm.f k t362).bind fun t365=>(if t365=true then (some (t362,t352)) else (some ((([]:List (S67))),5))))) else ((Qm.f k y359).bind fun t369=>(if t369=true then (some (y359,t352)) else (some ((([]:List (S67))),5)))))) else (none))))
set_option maxHeartbeats 8000000 in
theorem Ra.calls (k:Nat) (A0:Option Addr) (c0:Nat) (l0:List (S67)) (b0:Bool) (b1:Bool) (a6:Int) (a7:Int) (a8:Int) (b2:Option Addr) (b3:Nat) (a3:List (S75)) (r1:List (S67)) (r2:Int) (w:World) (e3:Kd.C k67 w A0 l0.length l0) (e4:l0.length≤c0) (d3:Kd.C k75 w b2 a3.length a3) (d4:a3.length≤b3) (h:Ra.f k l0 b0 b1 a6 a7 a8 a3=some (r1,r2)) :
  Calls Try.prog 8 #[.slice A0 l0.length c0,.agg #[.bool b0,.bool b1,.int .i64 a6,.int .i64 a7,.int .i64 a8,.slice b2 a3.length b3]] w fun e w'=>∃ e5:Value,e = .returned (.tuple #[e5,.int .i64 r2])∧Kd.R k67 67 w' w.heap.size (fun _=>True) e5 r1∧Below w.heap.size w w':=by
 have hu26:=Try.underlying26;have hu67:=Try.underlying67;have b9:=zzm e3;have d0:=zzm e4;clear e3 e4;have c5:=zzm d3;have c7:=zzm d4;clear d3 d4;have HB:=zzm (Below.refl w.heap.size w);have H:((Qt.f k l0 b0 b1 a6 a7 a8 a3).bind fun b7=>(if b7=5 then (some ((([]:List (S67))),5)) else ((some (([]:List (S67)):List (S67))).bind fun y356=>(if y356.length+l0.length < 5864062014805 then ((some (y356++l0:List (S67))).bind fun y359=>(if b7=0 then ((Qn.f k l0 a6 a7 (wrap64 (a8+(a3.length:Int)))).bind fun b8=>((Qm.f k b8).bind fun c1=>(if c1=true then (some (b8,b7)) else (some ((([]:List (S67))),5))))) else ((Qm.f k y359).bind fun c2=>(if c2=true then (some (y359,b7)) else (some ((([]:List (S67))),5)))))) else (none)))))=some (r1,r2):=h;clear h;obtain ⟨b7,A3,H⟩:=zzG H;by_cases c4:b7=5
 ·
  rw [if_pos c4] at H;obtain ⟨g0,g1⟩:=zzQ c4;clear c4;obtain ⟨y353,hy353⟩:∃ y_:List (S67),y_=(([]:List (S67))):=⟨_,rfl⟩;replace H:(some (y353,5))=some (r1,r2):=by first|(rw [hy353];with_reducible exact H)|(have H2_:=(Option.bind_some _ _).symm.trans H;rw [hy353];with_reducible exact H2_)|(have H2_:=(Option.bind_some _ _).symm.trans H;with_reducible exact H2_)|with_reducible exact H|(rw [hy353];exact H)|exact H
  have Ny353:=zzm hy353;clear hy353;simp only [Option.some.injEq,Prod.mk.injEq] at H;obtain ⟨rfl,rfl⟩:=H;go_enter Try.func8,Try.ntmps8;go_wp2_with (first|((with_reducible refine gate_dst (N:=3) rfl ?_);refine box_event ?hg (N:=3) ?hd (cs:=#[.bool b0,.bool b1,.int .i64 a6,.int .i64 a7,.int .i64 a8,.slice b2 a3.length b3]) (t:=26) ?hr ?_;(case hd=>rfl);(case hg=>rfl);(case hr=>first|(go_simp;done)|(go_simp;rfl));intro a9 hg w5 hbox hb;have a1:=zzm (zzp zzh1 hb);have a2:=zzm (hbox);have a4:=zzm ((by rw [hg];exact (zzo zzh1):w.heap.size≤a9));have b4:=zzm ((by rw [hg];exact (zzo zzh1):w.heap.size≤a9));clear HB;have HB:=a1;have a0:=a2;have c8:=a4;have c9:=b4;clear a1 a2 a4 b4 hb hbox hg;obtain ⟨p6,p7,p8,p9,q0,q1,q2,q3,q4,q5,q6,q7⟩:=zzc6 a0.out)|((with_reducible refine gate_callee (f:=36) rfl ?_);refine goesL_ (some 10) rfl rfl Try.func36 (by kernel_rfl) rfl #[.slice A0 l0.length c0,.agg #[.bool b0,.bool b1,.int .i64 a6,.int .i64 a7,.int .i64 a8,.slice b2 a3.length b3]] rfl zzM2 ?_;(with_reducible refine (Qt.calls k _ _ l0 b0 b1 a6 a7 a8 _ _ a3 b7 _ ?side1 ?side2 ?side3 ?side4 A3.out).mono ?_);(case side1=>exact zzcb b9 HB);(case side2=>exact d0.out);(case side3=>exact zzcb c5 HB);(case side4=>exact c7.out);rintro e w7 ⟨rfl,hb⟩;refine ⟨_,rfl,?_⟩;have a1:=zzm (zzh (g:=a9) (o:=.cells #[.bool b0,.bool b1,.int .i64 a6,.int .i64 a7,.int .i64 a8,.slice b2 a3.length b3] 26 (0,0)) (zzE a0.out) hb);have a2:=zzm (zzp zzh2 hb);clear a0 HB;have a0:=a1;have HB:=a2;clear a1 a2;(try clear hb);(try clear hb2);(try clear hk);(try clear hi))|((with_reducible refine gate_dst (N:=13) rfl ?_);refine Kd.R_lit k67 _ 67 ?hg (N:=13) ?hd (xs:=([]:List (S67))) (inner:=[]) (ok:=fun _=>True) (okp:=fun _=>True) ?hr ?hp (fun _ hk=>hk) trivial (Below.refl _ _) (Nat.le_refl _) (by simp) ?_;(case hd=>rfl);(case hg=>rfl);(case hr=>first|(go_simp;done)|(go_simp;rfl));(case hp=>exact (Reps.none _ _));intro q8 w8 ho9 hb hg_ hnew_;clear hg_ hnew_;(first|rw [← Ny353.out] at ho9|(simp only [Int.reduceToNat] at ho9;rw [← Ny353.out] at ho9));have a1:=zzm (Kd.R_lower ho9 (zzo zzh2));have a2:=zzm (zzh (g:=a9) (o:=.cells #[.bool b0,.bool b1,.int .i64 a6,.int .i64 a7,.int .i64 a8,.slice b2 a3.length b3] 26 (0,0)) (zzE a0.out) hb);have a4:=zzm (zzp zzh2 hb);clear a0 HB;have d8:=a1;have a0:=a2;have HB:=a4;clear a1 a2 a4 hb ho9));go_ret2;exact ⟨_,zzR,by (with_reducible repeat (first|apply Kd.R_alloc|apply Kd.R_drewN|apply Kd.R_drew));exact d8.out,zzh3⟩
 ·
  rw [if_neg c4] at H;obtain ⟨g0,g1⟩:=zzY c4;obtain ⟨y356,hy356⟩:∃ y_:List (S67),y_=(([]:List (S67))):=⟨_,rfl⟩;replace H:(if y356.length+l0.length < 5864062014805 then ((some (y356++l0:List (S67))).bind fun y359=>(if b7=0 then ((Qn.f k l0 a6 a7 (wrap64 (a8+(a3.length:Int)))).bind fun b8=>((Qm.f k b8).bind fun c1=>(if c1=true then (some (b8,b7)) else (some ((([]:List (S67))),5))))) else ((Qm.f k y359).bind fun c2=>(if c2=true then (some (y359,b7)) else (some ((([]:List (S67))),5)))))) else (none))=some (r1,r2):=by first|(rw [hy356];with_reducible exact H)|(have H2_:=(Option.bind_some _ _).symm.trans H;rw [hy356];with_reducible exact H2_)|(have H2_:=(Option.bind_some _ _).symm.trans H;with_reducible exact H2_)|with_reducible exact H|(rw [hy356];exact H)|exact H
  have Ny356:=zzm hy356;clear hy356;by_cases d5:y356.length+l0.length < 5864062014805
  ·
   rw [if_pos d5] at H;have LMc10:=zzm d5;clear d5;obtain ⟨y359,hy359⟩:∃ y_:List (S67),y_=(y356++l0):=⟨_,rfl⟩;replace H:(if b7=0 then ((Qn.f k l0 a6 a7 (wrap64 (a8+(a3.length:Int)))).bind fun b8=>((Qm.f k b8).bind fun c1=>(if c1=true then (some (b8,b7)) else (some ((([]:List (S67))),5))))) else ((Qm.f k y359).bind fun c2=>(if c2=true then (some (y359,b7)) else (some ((([]:List (S67))),5)))))=some (r1,r2):=by first|(rw [hy359];with_reducible exact H)|(have H2_:=(Option.bind_some _ _).symm.trans H;rw [hy359];with_reducible exact H2_)|(have H2_:=(Option.bind_some _ _).symm.trans H;with_reducible exact H2_)|with_reducible exact H|(rw [hy359];exact H)|exact H
   have Ny359:=zzm hy359;clear hy359;by_cases d1:b7=0
   ·
    rw [if_pos d1] at H;obtain ⟨d9,e0⟩:=zzQ d1;clear d1;obtain ⟨b8,e6,H⟩:=zzG H;obtain ⟨c1,e7,H⟩:=zzG H;by_cases d6:c1=true
    ·
     subst d6;replace H:=zzIt H;simp only [Option.some.injEq,Prod.mk.injEq] at H;obtain ⟨rfl,rfl⟩:=H;go_enter Try.func8,Try.ntmps8;go_wp2_with (first|((with_reducible refine gate_dst (N:=3) rfl ?_);refine box_event ?hg (N:=3) ?hd (cs:=#[.bool b0,.bool b1,.int .i64 a6,.int .i64 a7,.int .i64 a8,.slice b2 a3.length b3]) (t:=26) ?hr ?_;(case hd=>rfl);(case hg=>rfl);(case hr=>first|(go_simp;done)|(go_simp;rfl));intro a9 hg r3 hbox hb;have a1:=zzm (zzp zzh1 hb);have a2:=zzm (hbox);have a4:=zzm ((by rw [hg];exact (zzo zzh1):w.heap.size≤a9));have b4:=zzm ((by rw [hg];exact (zzo zzh1):w.heap.size≤a9));clear HB;have HB:=a1;have a0:=a2;have c8:=a4;have c9:=b4;clear a1 a2 a4 b4 hb hbox hg;obtain ⟨h1,h2,h3,h4,h5,h6,h7,h8,h9,j2,j3,j4⟩:=zzc6 a0.out)|((with_reducible refine gate_callee (f:=36) rfl ?_);refine goesL_ (some 10) rfl rfl Try.func36 (by kernel_rfl) rfl #[.slice A0 l0.length c0,.agg #[.bool b0,.bool b1,.int .i64 a6,.int .i64 a7,.int .i64 a8,.slice b2 a3.length b3]] rfl zzM2 ?_;(with_reducible refine (Qt.calls k _ _ l0 b0 b1 a6 a7 a8 _ _ a3 b7 _ ?side1 ?side2 ?side3 ?side4 A3.out).mono ?_);(case side1=>exact zzcb b9 HB);(case side2=>exact d0.out);(case side3=>exact zzcb c5 HB);(case side4=>exact c7.out);rintro e r4 ⟨rfl,hb⟩;refine ⟨_,rfl,?_⟩;have a1:=zzm (zzh (g:=a9) (o:=.cells #[.bool b0,.bool b1,.int .i64 a6,.int .i64 a7,.int .i64 a8,.slice b2 a3.length b3] 26 (0,0)) (zzE a0.out) hb);have a2:=zzm (zzp zzh2 hb);clear a0 HB;have a0:=a1;have HB:=a2;clear a1 a2;(try clear hb);(try clear hb2);(try clear hk);(try clear hi))|((with_reducible refine gate_dst (N:=14) rfl ?_);refine Kd.R_lit k67 _ 67 ?hg (N:=14) ?hd (xs:=([]:List (S67))) (inner:=[]) (ok:=fun _=>True) (okp:=fun _=>True) ?hr ?hp (fun _ hk=>hk) trivial (Below.refl _ _) (Nat.le_refl _) (by simp) ?_;(case hd=>rfl);(case hg=>rfl);(case hr=>first|(go_simp;done)|(go_simp;rfl));(case hp=>exact (Reps.none _ _));intro c3 r5 ho19 hb hg_ hnew_;clear hg_ hnew_;(first|rw [← Ny356.out] at ho19|(simp only [Int.reduceToNat] at ho19;rw [← Ny356.out] at ho19));have a1:=zzm (Kd.R_lower ho19 (zzo zzh2));have a2:=zzm (zzh (g:=a9) (o:=.cells #[.bool b0,.bool b1,.int .i64 a6,.int .i64 a7,.int .i64 a8,.slice b2 a3.length b3] 26 (0,0)) (zzE a0.out) hb);have a4:=zzm (zzp zzh2 hb);clear a0 HB;have b6:=a1;have a0:=a2;have HB:=a4;clear a1 a2 a4 hb ho19)|((with_reducible refine gate_builtin (b:=.append) (xs:=#[.tmp 14,.tmp 15]) rfl ?_);at_builtin;refine Kd.R_append_rows k67 (w0:=w) w.heap.size rfl (.tmp 14) (.tmp 15) 23 67 (.agg #[(.int .i64 0),(.int .i64 0),(.int .i64 0)]) 24 rfl Try.underlying23 info67 rfl (by decide) (by omega) c3 y356 l0 _ _ _ (fun _=>True) (fun _=>False) rfl rfl ?aO ?aR (fun _ _ h=>h) (fun _ h=>h.elim) ?aF ?aB ?aS ?aL ?_;(case aR=>exact zzcb b9 HB);(case aB=>exact zzh2);(case aF=>exact (fun _ _=>trivial));(case aO=>exact (by (with_reducible repeat (first|apply Kd.R_alloc|apply Kd.R_drewN|apply Kd.R_drew));exact b6.out));(case aS=>exact (zzo zzh2));(case aL=>have:=LMc10.out;omega);intro d2 r6 ho hb hg hat;rw [← Ny359.out] at ho;have a1:=zzm (blk_grown (g:=a9) (o:=.cells #[.bool b0,.bool b1,.int .i64 a6,.int .i64 a7,.int .i64 a8,.slice b2 a3.length b3] 26 (0,0)) (zzE a0.out) hg (Kd.R_ne b6.out a0.out (by decide)));have a2:=zzm (hb);have a4:=zzm (ho);clear a0 HB b6;have a0:=a1;have HB:=a2;have a5:=a4;clear a1 a2 a4 ho hb hg hat;obtain ⟨j5,j6,j7,j8,j9,k0,k1,k2,k3,k4,k5,k6⟩:=zzc6 a0.out)|((with_reducible refine gate_callee (f:=37) rfl ?_);refine goesL_ (some 31) rfl rfl Try.func37 (by kernel_rfl) rfl #[.slice A0 l0.length c0,.agg #[.int .i64 a6,.int .i64 a7,.int .i64 (wrap64 (a8+(a3.length:Int)))]] rfl zzM2 ?_;(with_reducible refine (Qn.calls k _ _ l0 a6 a7 (wrap64 (a8+(a3.length:Int))) b8 _ ?side1 ?side2 e6.out).mono ?_);(case side1=>exact zzcb b9 HB);(case side2=>exact d0.out);rintro e r7 ⟨g2,rfl,ho0,hb⟩;refine ⟨_,rfl,?_⟩;have a1:=zzm (Kd.R_elder' (by (with_reducible repeat (first|apply Kd.R_alloc|apply Kd.R_drewN|apply Kd.R_drew));exact a5.out) (Kd.R_base ho0) hb);have a2:=zzm (Kd.R_lower (Kd.R_new' ho0 (Kd.R_lt (by (with_reducible repeat (first|apply Kd.R_alloc|apply Kd.R_drewN|apply Kd.R_drew));exact a5.out))) (zzo zzh2));have a4:=zzm (zzh (g:=a9) (o:=.cells #[.bool b0,.bool b1,.int .i64 a6,.int .i64 a7,.int .i64 a8,.slice b2 a3.length b3] 26 (0,0)) (zzE a0.out) hb);have b4:=zzm (zzp zzh2 hb);clear a5 a0 HB;have a5:=a1;have b5:=a2;have a0:=a4;have HB:=b4;clear a1 a2 a4 b4;(try clear hb);(try clear hb2);(try clear hk);(try clear hi);(try clear ho0);obtain ⟨g3,g4,eo23⟩:=Kd.R_slice b5.out;subst eo23)|((with_reducible refine gate_callee (f:=38) rfl ?_);refine goesL_ (some 33) rfl rfl Try.func38 (by kernel_rfl) rfl #[.slice g3 b8.length g4] rfl zzM2 ?_;(with_reducible refine (Qm.calls k _ _ b8 true _ ?side1 ?side2 e7.out).mono ?_);(case side1=>repeat (first|exact (Kd.R_reads' b5.out).2.2|(with_reducible refine Kd.C_alloc ?_ _)|(with_reducible refine Kd.C_drewN ?_ _)|(with_reducible refine Kd.C_drew ?_)));(case side2=>exact (Kd.R_reads' b5.out).2.1);rintro e r8 ⟨rfl,hb⟩;refine ⟨_,rfl,?_⟩;have a1:=zzm (Kd.R_below (by (with_reducible repeat (first|apply Kd.R_alloc|apply Kd.R_drewN|apply Kd.R_drew));exact a5.out) hb);have a2:=zzm (Kd.R_below (by (with_reducible repeat (first|apply Kd.R_alloc|apply Kd.R_drewN|apply Kd.R_drew));exact b5.out) hb);have a4:=zzm (zzh (g:=a9) (o:=.cells #[.bool b0,.bool b1,.int .i64 a6,.int .i64 a7,.int .i64 a8,.slice b2 a3.length b3] 26 (0,0)) (zzE a0.out) hb);have b4:=zzm (zzp zzh2 hb);clear a5 b5 a0 HB;have a5:=a1;have b5:=a2;have a0:=a4;have HB:=b4;clear a1 a2 a4 b4;(try clear hb);(try clear hb2);(try clear hk);(try clear hi)));go_ret2;exact ⟨_,zzR,by (with_reducible repeat (first|apply Kd.R_alloc|apply Kd.R_drewN|apply Kd.R_drew));exact Kd.R_mono b5.out (fun _ hk=>trivial),zzh3⟩
    ·
     replace d6:=Bool.eq_false_iff.mpr d6;subst d6;replace H:=zzIf H;obtain ⟨y366,hy366⟩:∃ y_:List (S67),y_=(([]:List (S67))):=⟨_,rfl⟩;replace H:(some (y366,5))=some (r1,r2):=by first|(rw [hy366];with_reducible exact H)|(have H2_:=(Option.bind_some _ _).symm.trans H;rw [hy366];with_reducible exact H2_)|(have H2_:=(Option.bind_some _ _).symm.trans H;with_reducible exact H2_)|with_reducible exact H|(rw [hy366];exact H)|exact H
     have Ny366:=zzm hy366;clear hy366;simp only [Option.some.injEq,Prod.mk.injEq] at H;obtain ⟨rfl,rfl⟩:=H;go_enter Try.func8,Try.ntmps8;go_wp2_with (first|((with_reducible refine gate_dst (N:=3) rfl ?_);refine box_event ?hg (N:=3) ?hd (cs:=#[.bool b0,.bool b1,.int .i64 a6,.int .i64 a7,.int .i64 a8,.slice b2 a3.length b3]) (t:=26) ?hr ?_;(case hd=>rfl);(case hg=>rfl);(case hr=>first|(go_simp;done)|(go_simp;rfl));intro a9 hg r9 hbox hb;have a1:=zzm (zzp zzh1 hb);have a2:=zzm (hbox);have a4:=zzm ((by rw [hg];exact (zzo zzh1):w.heap.size≤a9));have b4:=zzm ((by rw [hg];exact (zzo zzh1):w.heap.size≤a9));clear HB;have HB:=a1;have a0:=a2;have c8:=a4;have c9:=b4;clear a1 a2 a4 b4 hb hbox hg;obtain ⟨k7,k8,k9,l1,l2,l3,l4,l5,l6,l7,l8,l9⟩:=zzc6 a0.out)|((with_reducible refine gate_callee (f:=36) rfl ?_);refine goesL_ (some 10) rfl rfl Try.func36 (by kernel_rfl) rfl #[.slice A0 l0.length c0,.agg #[.bool b0,.bool b1,.int .i64 a6,.int .i64 a7,.int .i64 a8,.slice b2 a3.length b3]] rfl zzM2 ?_;(with_reducible refine (Qt.calls k _ _ l0 b0 b1 a6 a7 a8 _ _ a3 b7 _ ?side1 ?side2 ?side3 ?side4 A3.out).mono ?_);(case side1=>exact zzcb b9 HB);(case side2=>exact d0.out);(case side3=>exact zzcb c5 HB);(case side4=>exact c7.out);rintro e s0 ⟨rfl,hb⟩;refine ⟨_,rfl,?_⟩;have a1:=zzm (zzh (g:=a9) (o:=.cells #[.bool b0,.bool b1,.int .i64 a6,.int .i64 a7,.int .i64 a8,.slice b2 a3.length b3] 26 (0,0)) (zzE a0.out) hb);have a2:=zzm (zzp zzh2 hb);clear a0 HB;have a0:=a1;have HB:=a2;clear a1 a2;(try clear hb);(try clear hb2);(try clear hk);(try clear hi))|((with_reducible refine gate_dst (N:=14) rfl ?_);refine Kd.R_lit k67 _ 67 ?hg (N:=14) ?hd (xs:=([]:List (S67))) (inner:=[]) (ok:=fun _=>True) (okp:=fun _=>True) ?hr ?hp (fun _ hk=>hk) trivial (Below.refl _ _) (Nat.le_refl _) (by simp) ?_;(case hd=>rfl);(case hg=>rfl);(case hr=>first|(go_simp;done)|(go_simp;rfl));(case hp=>exact (Reps.none _ _));intro c3 s1 ho29 hb hg_ hnew_;clear hg_ hnew_;(first|rw [← Ny356.out] at ho29|(simp only [Int.reduceToNat] at ho29;rw [← Ny356.out] at ho29));have a1:=zzm (Kd.R_lower ho29 (zzo zzh2));have a2:=zzm (zzh (g:=a9) (o:=.cells #[.bool b0,.bool b1,.int .i64 a6,.int .i64 a7,.int .i64 a8,.slice b2 a3.length b3] 26 (0,0)) (zzE a0.out) hb);have a4:=zzm (zzp zzh2 hb);clear a0 HB;have b6:=a1;have a0:=a2;have HB:=a4;clear a1 a2 a4 hb ho29)|((with_reducible refine gate_builtin (b:=.append) (xs:=#[.tmp 14,.tmp 15]) rfl ?_);at_builtin;refine Kd.R_append_rows k67 (w0:=w) w.heap.size rfl (.tmp 14) (.tmp 15) 23 67 (.agg #[(.int .i64 0),(.int .i64 0),(.int .i64 0)]) 24 rfl Try.underlying23 info67 rfl (by decide) (by omega) c3 y356 l0 _ _ _ (fun _=>True) (fun _=>False) rfl rfl ?aO ?aR (fun _ _ h=>h) (fun _ h=>h.elim) ?aF ?aB ?aS ?aL ?_;(case aR=>exact zzcb b9 HB);(case aB=>exact zzh2);(case aF=>exact (fun _ _=>trivial));(case aO=>exact (by (with_reducible repeat (first|apply Kd.R_alloc|apply Kd.R_drewN|apply Kd.R_drew));exact b6.out));(case aS=>exact (zzo zzh2));(case aL=>have:=LMc10.out;omega);intro d2 s2 ho hb hg hat;rw [← Ny359.out] at ho;have a1:=zzm (blk_grown (g:=a9) (o:=.cells #[.bool b0,.bool b1,.int .i64 a6,.int .i64 a7,.int .i64 a8,.slice b2 a3.length b3] 26 (0,0)) (zzE a0.out) hg (Kd.R_ne b6.out a0.out (by decide)));have a2:=zzm (hb);have a4:=zzm (ho);clear a0 HB b6;have a0:=a1;have HB:=a2;have a5:=a4;clear a1 a2 a4 ho hb hg hat;obtain ⟨m0,m1,m2,m3,m4,m5,m6,m7,m8,m9,n0,n1⟩:=zzc6 a0.out)|((with_reducible refine gate_callee (f:=37) rfl ?_);refine goesL_ (some 31) rfl rfl Try.func37 (by kernel_rfl) rfl #[.slice A0 l0.length c0,.agg #[.int .i64 a6,.int .i64 a7,.int .i64 (wrap64 (a8+(a3.length:Int)))]] rfl zzM2 ?_;(with_reducible refine (Qn.calls k _ _ l0 a6 a7 (wrap64 (a8+(a3.length:Int))) b8 _ ?side1 ?side2 e6.out).mono ?_);(case side1=>exact zzcb b9 HB);(case side2=>exact d0.out);rintro e s3 ⟨g2,rfl,ho0,hb⟩;refine ⟨_,rfl,?_⟩;have a1:=zzm (Kd.R_elder' (by (with_reducible repeat (first|apply Kd.R_alloc|apply Kd.R_drewN|apply Kd.R_drew));exact a5.out) (Kd.R_base ho0) hb);have a2:=zzm (Kd.R_lower (Kd.R_new' ho0 (Kd.R_lt (by (with_reducible repeat (first|apply Kd.R_alloc|apply Kd.R_drewN|apply Kd.R_drew));exact a5.out))) (zzo zzh2));have a4:=zzm (zzh (g:=a9) (o:=.cells #[.bool b0,.bool b1,.int .i64 a6,.int .i64 a7,.int .i64 a8,.slice b2 a3.length b3] 26 (0,0)) (zzE a0.out) hb);have b4:=zzm (zzp zzh2 hb);clear a5 a0 HB;have a5:=a1;have b5:=a2;have a0:=a4;have HB:=b4;clear a1 a2 a4 b4;(try clear hb);(try clear hb2);(try clear hk);(try clear hi);(try clear ho0);obtain ⟨g5,g6,eo33⟩:=Kd.R_slice b5.out;subst eo33)|((with_reducible refine gate_callee (f:=38) rfl ?_);refine goesL_ (some 33) rfl rfl Try.func38 (by kernel_rfl) rfl #[.slice g5 b8.length g6] rfl zzM2 ?_;(with_reducible refine (Qm.calls k _ _ b8 false _ ?side1 ?side2 e7.out).mono ?_);(case side1=>repeat (first|exact (Kd.R_reads' b5.out).2.2|(with_reducible refine Kd.C_alloc ?_ _)|(with_reducible refine Kd.C_drewN ?_ _)|(with_reducible refine Kd.C_drew ?_)));(case side2=>exact (Kd.R_reads' b5.out).2.1);rintro e s4 ⟨rfl,hb⟩;refine ⟨_,rfl,?_⟩;have a1:=zzm (Kd.R_below (by (with_reducible repeat (first|apply Kd.R_alloc|apply Kd.R_drewN|apply Kd.R_drew));exact a5.out) hb);have a2:=zzm (Kd.R_below (by (with_reducible repeat (first|apply Kd.R_alloc|apply Kd.R_drewN|apply Kd.R_drew));exact b5.out) hb);have a4:=zzm (zzh (g:=a9) (o:=.cells #[.bool b0,.bool b1,.int .i64 a6,.int .i64 a7,.int .i64 a8,.slice b2 a3.length b3] 26 (0,0)) (zzE a0.out) hb);have b4:=zzm (zzp zzh2 hb);clear a5 b5 a0 HB;have a5:=a1;have b5:=a2;have a0:=a4;have HB:=b4;clear a1 a2 a4 b4;(try clear hb);(try clear hb2);(try clear hk);(try clear hi))|((with_reducible refine gate_dst (N:=35) rfl ?_);refine Kd.R_lit k67 _ 67 ?hg (N:=35) ?hd (xs:=([]:List (S67))) (inner:=[]) (ok:=fun _=>True) (okp:=fun _=>True) ?hr ?hp (fun _ hk=>hk) trivial (Below.refl _ _) (Nat.le_refl _) (by simp) ?_;(case hd=>rfl);(case hg=>rfl);(case hr=>first|(go_simp;done)|(go_simp;rfl));(case hp=>exact (Reps.none _ _));intro q9 s5 ho36 hb hg_ hnew_;clear hg_ hnew_;(first|rw [← Ny366.out] at ho36|(simp only [Int.reduceToNat] at ho36;rw [← Ny366.out] at ho36));have a1:=zzm (Kd.R_elder' (by (with_reducible repeat (first|apply Kd.R_alloc|apply Kd.R_drewN|apply Kd.R_drew));exact a5.out) (Kd.R_base ho36) hb);have a2:=zzm (Kd.R_elder' (by (with_reducible repeat (first|apply Kd.R_alloc|apply Kd.R_drewN|apply Kd.R_drew));exact b5.out) (Kd.R_base ho36) hb);have a4:=zzm (Kd.R_lower (Kd.R_new' (Kd.R_new' ho36 (Kd.R_lt (by (with_reducible repeat (first|apply Kd.R_alloc|apply Kd.R_drewN|apply Kd.R_drew));exact a5.out))) (Kd.R_lt (by (with_reducible repeat (first|apply Kd.R_alloc|apply Kd.R_drewN|apply Kd.R_drew));exact b5.out))) (zzo zzh2));have b4:=zzm (zzh (g:=a9) (o:=.cells #[.bool b0,.bool b1,.int .i64 a6,.int .i64 a7,.int .i64 a8,.slice b2 a3.length b3] 26 (0,0)) (zzE a0.out) hb);have e8:=zzm (zzp zzh2 hb);clear a5 b5 a0 HB;have a5:=a1;have b5:=a2;have e1:=a4;have a0:=b4;have HB:=e8;clear a1 a2 a4 b4 e8 hb ho36));go_ret2;exact ⟨_,zzR,by (with_reducible repeat (first|apply Kd.R_alloc|apply Kd.R_drewN|apply Kd.R_drew));exact Kd.R_mono e1.out (fun _ hk=>trivial),zzh3⟩
   ·
    rw [if_neg d1] at H;obtain ⟨d9,e0⟩:=zzY d1;obtain ⟨c2,e9,H⟩:=zzG H;by_cases d7:c2=true
    ·
     subst d7;replace H:=zzIt H;simp only [Option.some.injEq,Prod.mk.injEq] at H;obtain ⟨rfl,rfl⟩:=H;go_enter Try.func8,Try.ntmps8;go_wp2_with (first|((with_reducible refine gate_dst (N:=3) rfl ?_);refine box_event ?hg (N:=3) ?hd (cs:=#[.bool b0,.bool b1,.int .i64 a6,.int .i64 a7,.int .i64 a8,.slice b2 a3.length b3]) (t:=26) ?hr ?_;(case hd=>rfl);(case hg=>rfl);(case hr=>first|(go_simp;done)|(go_simp;rfl));intro a9 hg s6 hbox hb;have a1:=zzm (zzp zzh1 hb);have a2:=zzm (hbox);have a4:=zzm ((by rw [hg];exact (zzo zzh1):w.heap.size≤a9));have b4:=zzm ((by rw [hg];exact (zzo zzh1):w.heap.size≤a9));clear HB;have HB:=a1;have a0:=a2;have c8:=a4;have c9:=b4;clear a1 a2 a4 b4 hb hbox hg;obtain ⟨n2,n3,n4,n5,n6,n7,n8,n9,o0,o1,o2,o3⟩:=zzc6 a0.out)|((with_reducible refine gate_callee (f:=36) rfl ?_);refine goesL_ (some 10) rfl rfl Try.func36 (by kernel_rfl) rfl #[.slice A0 l0.length c0,.agg #[.bool b0,.bool b1,.int .i64 a6,.int .i64 a7,.int .i64 a8,.slice b2 a3.length b3]] rfl zzM2 ?_;(with_reducible refine (Qt.calls k _ _ l0 b0 b1 a6 a7 a8 _ _ a3 b7 _ ?side1 ?side2 ?side3 ?side4 A3.out).mono ?_);(case side1=>exact zzcb b9 HB);(case side2=>exact d0.out);(case side3=>exact zzcb c5 HB);(case side4=>exact c7.out);rintro e s7 ⟨rfl,hb⟩;refine ⟨_,rfl,?_⟩;have a1:=zzm (zzh (g:=a9) (o:=.cells #[.bool b0,.bool b1,.int .i64 a6,.int .i64 a7,.int .i64 a8,.slice b2 a3.length b3] 26 (0,0)) (zzE a0.out) hb);have a2:=zzm (zzp zzh2 hb);clear a0 HB;have a0:=a1;have HB:=a2;clear a1 a2;(try clear hb);(try clear hb2);(try clear hk);(try clear hi))|((with_reducible refine gate_dst (N:=14) rfl ?_);refine Kd.R_lit k67 _ 67 ?hg (N:=14) ?hd (xs:=([]:List (S67))) (inner:=[]) (ok:=fun _=>True) (okp:=fun _=>True) ?hr ?hp (fun _ hk=>hk) trivial (Below.refl _ _) (Nat.le_refl _) (by simp) ?_;(case hd=>rfl);(case hg=>rfl);(case hr=>first|(go_simp;done)|(go_simp;rfl));(case hp=>exact (Reps.none _ _));intro c3 s8 ho43 hb hg_ hnew_;clear hg_ hnew_;(first|rw [← Ny356.out] at ho43|(simp only [Int.reduceToNat] at ho43;rw [← Ny356.out] at ho43));have a1:=zzm (Kd.R_lower ho43 (zzo zzh2));have a2:=zzm (zzh (g:=a9) (o:=.cells #[.bool b0,.bool b1,.int .i64 a6,.int .i64 a7,.int .i64 a8,.slice b2 a3.length b3] 26 (0,0)) (zzE a0.out) hb);have a4:=zzm (zzp zzh2 hb);clear a0 HB;have b6:=a1;have a0:=a2;have HB:=a4;clear a1 a2 a4 hb ho43)|((with_reducible refine gate_builtin (b:=.append) (xs:=#[.tmp 14,.tmp 15]) rfl ?_);at_builtin;refine Kd.R_append_rows k67 (w0:=w) w.heap.size rfl (.tmp 14) (.tmp 15) 23 67 (.agg #[(.int .i64 0),(.int .i64 0),(.int .i64 0)]) 24 rfl Try.underlying23 info67 rfl (by decide) (by omega) c3 y356 l0 _ _ _ (fun _=>True) (fun _=>False) rfl rfl ?aO ?aR (fun _ _ h=>h) (fun _ h=>h.elim) ?aF ?aB ?aS ?aL ?_;(case aR=>exact zzcb b9 HB);(case aB=>exact zzh2);(case aF=>exact (fun _ _=>trivial));(case aO=>exact (by (with_reducible repeat (first|apply Kd.R_alloc|apply Kd.R_drewN|apply Kd.R_drew));exact b6.out));(case aS=>exact (zzo zzh2));(case aL=>have:=LMc10.out;omega);intro d2 s9 ho hb hg hat;rw [← Ny359.out] at ho;have a1:=zzm (blk_grown (g:=a9) (o:=.cells #[.bool b0,.bool b1,.int .i64 a6,.int .i64 a7,.int .i64 a8,.slice b2 a3.length b3] 26 (0,0)) (zzE a0.out) hg (Kd.R_ne b6.out a0.out (by decide)));have a2:=zzm (hb);have a4:=zzm (ho);clear a0 HB b6;have a0:=a1;have HB:=a2;have a5:=a4;clear a1 a2 a4 ho hb hg hat;obtain ⟨g7,g8,eo45⟩:=Kd.R_slice a5.out;subst eo45)|((with_reducible refine gate_callee (f:=38) rfl ?_);refine goesL_ (some 33) rfl rfl Try.func38 (by kernel_rfl) rfl #[.slice g7 y359.length g8] rfl zzM2 ?_;(with_reducible refine (Qm.calls k _ _ y359 true _ ?side1 ?side2 e9.out).mono ?_);(case side1=>repeat (first|exact (Kd.R_reads' a5.out).2.2|(with_reducible refine Kd.C_alloc ?_ _)|(with_reducible refine Kd.C_drewN ?_ _)|(with_reducible refine Kd.C_drew ?_)));(case side2=>exact (Kd.R_reads' a5.out).2.1);rintro e t0 ⟨rfl,hb⟩;refine ⟨_,rfl,?_⟩;have a1:=zzm (Kd.R_below (by (with_reducible repeat (first|apply Kd.R_alloc|apply Kd.R_drewN|apply Kd.R_drew));exact a5.out) hb);have a2:=zzm (zzh (g:=a9) (o:=.cells #[.bool b0,.bool b1,.int .i64 a6,.int .i64 a7,.int .i64 a8,.slice b2 a3.length b3] 26 (0,0)) (zzE a0.out) hb);have a4:=zzm (zzp zzh2 hb);clear a5 a0 HB;have a5:=a1;have a0:=a2;have HB:=a4;clear a1 a2 a4;(try clear hb);(try clear hb2);(try clear hk);(try clear hi)));go_ret2;exact ⟨_,zzR,by (with_reducible repeat (first|apply Kd.R_alloc|apply Kd.R_drewN|apply Kd.R_drew));exact a5.out,zzh3⟩
    ·
     replace d7:=Bool.eq_false_iff.mpr d7;subst d7;replace H:=zzIf H;obtain ⟨y370,hy370⟩:∃ y_:List (S67),y_=(([]:List (S67))):=⟨_,rfl⟩;replace H:(some (y370,5))=some (r1,r2):=by first|(rw [hy370];with_reducible exact H)|(have H2_:=(Option.bind_some _ _).symm.trans H;rw [hy370];with_reducible exact H2_)|(have H2_:=(Option.bind_some _ _).symm.trans H;with_reducible exact H2_)|with_reducible exact H|(rw [hy370];exact H)|exact H
     have Ny370:=zzm hy370;clear hy370;simp only [Option.some.injEq,Prod.mk.injEq] at H;obtain ⟨rfl,rfl⟩:=H;go_enter Try.func8,Try.ntmps8;go_wp2_with (first|((with_reducible refine gate_dst (N:=3) rfl ?_);refine box_event ?hg (N:=3) ?hd (cs:=#[.bool b0,.bool b1,.int .i64 a6,.int .i64 a7,.int .i64 a8,.slice b2 a3.length b3]) (t:=26) ?hr ?_;(case hd=>rfl);(case hg=>rfl);(case hr=>first|(go_simp;done)|(go_simp;rfl));intro a9 hg t1 hbox hb;have a1:=zzm (zzp zzh1 hb);have a2:=zzm (hbox);have a4:=zzm ((by rw [hg];exact (zzo zzh1):w.heap.size≤a9));have b4:=zzm ((by rw [hg];exact (zzo zzh1):w.heap.size≤a9));clear HB;have HB:=a1;have a0:=a2;have c8:=a4;have c9:=b4;clear a1 a2 a4 b4 hb hbox hg;obtain ⟨o4,o5,o6,o7,o8,o9,p0,p1,p2,p3,p4,p5⟩:=zzc6 a0.out)|((with_reducible refine gate_callee (f:=36) rfl ?_);refine goesL_ (some 10) rfl rfl Try.func36 (by kernel_rfl) rfl #[.slice A0 l0.length c0,.agg #[.bool b0,.bool b1,.int .i64 a6,.int .i64 a7,.int .i64 a8,.slice b2 a3.length b3]] rfl zzM2 ?_;(with_reducible refine (Qt.calls k _ _ l0 b0 b1 a6 a7 a8 _ _ a3 b7 _ ?side1 ?side2 ?side3 ?side4 A3.out).mono ?_);(case side1=>exact zzcb b9 HB);(case side2=>exact d0.out);(case side3=>exact zzcb c5 HB);(case side4=>exact c7.out);rintro e t2 ⟨rfl,hb⟩;refine ⟨_,rfl,?_⟩;have a1:=zzm (zzh (g:=a9) (o:=.cells #[.bool b0,.bool b1,.int .i64 a6,.int .i64 a7,.int .i64 a8,.slice b2 a3.length b3] 26 (0,0)) (zzE a0.out) hb);have a2:=zzm (zzp zzh2 hb);clear a0 HB;have a0:=a1;have HB:=a2;clear a1 a2;(try clear hb);(try clear hb2);(try clear hk);(try clear hi))|((with_reducible refine gate_dst (N:=14) rfl ?_);refine Kd.R_lit k67 _ 67 ?hg (N:=14) ?hd (xs:=([]:List (S67))) (inner:=[]) (ok:=fun _=>True) (okp:=fun _=>True) ?hr ?hp (fun _ hk=>hk) trivial (Below.refl _ _) (Nat.le_refl _) (by simp) ?_;(case hd=>rfl);(case hg=>rfl);(case hr=>first|(go_simp;done)|(go_simp;rfl));(case hp=>exact (Reps.none _ _));intro c3 t3 ho51 hb hg_ hnew_;clear hg_ hnew_;(first|rw [← Ny356.out] at ho51|(simp only [Int.reduceToNat] at ho51;rw [← Ny356.out] at ho51));have a1:=zzm (Kd.R_lower ho51 (zzo zzh2));have a2:=zzm (zzh (g:=a9) (o:=.cells #[.bool b0,.bool b1,.int .i64 a6,.int .i64 a7,.int .i64 a8,.slice b2 a3.length b3] 26 (0,0)) (zzE a0.out) hb);have a4:=zzm (zzp zzh2 hb);clear a0 HB;have b6:=a1;have a0:=a2;have HB:=a4;clear a1 a2 a4 hb ho51)|((with_reducible refine gate_builtin (b:=.append) (xs:=#[.tmp 14,.tmp 15]) rfl ?_);at_builtin;refine Kd.R_append_rows k67 (w0:=w) w.heap.size rfl (.tmp 14) (.tmp 15) 23 67 (.agg #[(.int .i64 0),(.int .i64 0),(.int .i64 0)]) 24 rfl Try.underlying23 info67 rfl (by decide) (by omega) c3 y356 l0 _ _ _ (fun _=>True) (fun _=>False) rfl rfl ?aO ?aR (fun _ _ h=>h) (fun _ h=>h.elim) ?aF ?aB ?aS ?aL ?_;(case aR=>exact zzcb b9 HB);(case aB=>exact zzh2);(case aF=>exact (fun _ _=>trivial));(case aO=>exact (by (with_reducible repeat (first|apply Kd.R_alloc|apply Kd.R_drewN|apply Kd.R_drew));exact b6.out));(case aS=>exact (zzo zzh2));(case aL=>have:=LMc10.out;omega);intro d2 t4 ho hb hg hat;rw [← Ny359.out] at ho;have a1:=zzm (blk_grown (g:=a9) (o:=.cells #[.bool b0,.bool b1,.int .i64 a6,.int .i64 a7,.int .i64 a8,.slice b2 a3.length b3] 26 (0,0)) (zzE a0.out) hg (Kd.R_ne b6.out a0.out (by decide)));have a2:=zzm (hb);have a4:=zzm (ho);clear a0 HB b6;have a0:=a1;have HB:=a2;have a5:=a4;clear a1 a2 a4 ho hb hg hat;obtain ⟨g9,h0,eo53⟩:=Kd.R_slice a5.out;subst eo53)|((with_reducible refine gate_callee (f:=38) rfl ?_);refine goesL_ (some 33) rfl rfl Try.func38 (by kernel_rfl) rfl #[.slice g9 y359.length h0] rfl zzM2 ?_;(with_reducible refine (Qm.calls k _ _ y359 false _ ?side1 ?side2 e9.out).mono ?_);(case side1=>repeat (first|exact (Kd.R_reads' a5.out).2.2|(with_reducible refine Kd.C_alloc ?_ _)|(with_reducible refine Kd.C_drewN ?_ _)|(with_reducible refine Kd.C_drew ?_)));(case side2=>exact (Kd.R_reads' a5.out).2.1);rintro e t5 ⟨rfl,hb⟩;refine ⟨_,rfl,?_⟩;have a1:=zzm (Kd.R_below (by (with_reducible repeat (first|apply Kd.R_alloc|apply Kd.R_drewN|apply Kd.R_drew));exact a5.out) hb);have a2:=zzm (zzh (g:=a9) (o:=.cells #[.bool b0,.bool b1,.int .i64 a6,.int .i64 a7,.int .i64 a8,.slice b2 a3.length b3] 26 (0,0)) (zzE a0.out) hb);have a4:=zzm (zzp zzh2 hb);clear a5 a0 HB;have a5:=a1;have a0:=a2;have HB:=a4;clear a1 a2 a4;(try clear hb);(try clear hb2);(try clear hk);(try clear hi))|((with_reducible refine gate_dst (N:=35) rfl ?_);refine Kd.R_lit k67 _ 67 ?hg (N:=35) ?hd (xs:=([]:List (S67))) (inner:=[]) (ok:=fun _=>True) (okp:=fun _=>True) ?hr ?hp (fun _ hk=>hk) trivial (Below.refl _ _) (Nat.le_refl _) (by simp) ?_;(case hd=>rfl);(case hg=>rfl);(case hr=>first|(go_simp;done)|(go_simp;rfl));(case hp=>exact (Reps.none _ _));intro r0 t6 ho56 hb hg_ hnew_;clear hg_ hnew_;(first|rw [← Ny370.out] at ho56|(simp only [Int.reduceToNat] at ho56;rw [← Ny370.out] at ho56));have a1:=zzm (Kd.R_elder' (by (with_reducible repeat (first|apply Kd.R_alloc|apply Kd.R_drewN|apply Kd.R_drew));exact a5.out) (Kd.R_base ho56) hb);have a2:=zzm (Kd.R_lower (Kd.R_new' ho56 (Kd.R_lt (by (with_reducible repeat (first|apply Kd.R_alloc|apply Kd.R_drewN|apply Kd.R_drew));exact a5.out))) (zzo zzh2));have a4:=zzm (zzh (g:=a9) (o:=.cells #[.bool b0,.bool b1,.int .i64 a6,.int .i64 a7,.int .i64 a8,.slice b2 a3.length b3] 26 (0,0)) (zzE a0.out) hb);have b4:=zzm (zzp zzh2 hb);clear a5 a0 HB;have a5:=a1;have e2:=a2;have a0:=a4;have HB:=b4;clear a1 a2 a4 b4 hb ho56));go_ret2;exact ⟨_,zzR,by (with_reducible repeat (first|apply Kd.R_alloc|apply Kd.R_drewN|apply Kd.R_drew));exact Kd.R_mono e2.out (fun _ hk=>trivial),zzh3⟩
  ·
   rw [if_neg d5] at H;exact absurd H (by simp)
theorem eqA67 (d:Nat) (w:World) (x0 y0:Int) (x1 y1:Int) (x2 y2:Int) :
  (Op.equalIn (d+2) 67 (.agg #[.int .i64 x0,.int .i64 x1,.int .i64 x2]) (.agg #[.int .i64 y0,.int .i64 y1,.int .i64 y2])).run Try.prog w = .ok (x0==y0&&(x1==y1&&(x2==y2))) w:=by
 refine eqA_of Try.underlying67 (by kernel_rfl) ?_;refine eqf_cons (by rfl) (by go_simp;rfl) (by go_simp;rfl) (by go_simp) ?_;refine eqf_cons (by rfl) (by go_simp;rfl) (by go_simp;rfl) (by go_simp) ?_;exact eqf_last (by rfl) (by go_simp;rfl) (by go_simp;rfl) (by go_simp)
end Go.Proofs.Ytmophgccpnpgfaa.T
namespace Go.Proofs.Ytmophgccpnpgfaa.T
open Go.RowKit Go.Proofs.YtmophgccpnpgfaaW.PrintWords Go.Proofs.YtmophgccpnpgfaaW.PrintLast Go.Proofs.YtmophgccpnpgfaaW.PrintMore
attribute [local go_sem] max2_int max_two
set_option linter.unusedVariables false
set_option linter.unusedSimpArgs false
attribute [local go_sem high] eqA67
def Ql.l0:Nat→List (S67)→List (S67)→Int→Option (Bool)
 | 0,_,_,_=>none
 | k+1,x0,x1,x5=>if x5 < (x0.length:Int) then (if 0≤x5 then (if x5 < (x1.length:Int) then (if (!(((Qd x0 x5).f0)==((Qd x1 x5).f0))||(!(((Qd x0 x5).f1)==((Qd x1 x5).f1))||(!(((Qd x0 x5).f2)==((Qd x1 x5).f2)))))=true then (some false) else (Ql.l0 k x0 x1 (wrap64 (x5+1)))) else (none)) else (none)) else (some true)
def Ql.f (k:Nat) (l0:List (S67)) (l1:List (S67)):Option (Bool):=if (l0.length:Int)=(l1.length:Int) then (Ql.l0 k l0 l1 0) else (some false)
set_option maxHeartbeats 8000000 in
theorem Ql.calls (k:Nat) (A0:Option Addr) (c0:Nat) (l0:List (S67)) (A1:Option Addr) (c1:Nat) (l1:List (S67)) (r:Bool) (w:World) (b8:Kd.C k67 w A0 l0.length l0) (b9:l0.length≤c0) (c2:Kd.C k67 w A1 l1.length l1) (c8:l1.length≤c1) (h:Ql.f k l0 l1=some r) :
  Calls Try.prog 9 #[.slice A0 l0.length c0,.slice A1 l1.length c1] w fun e w'=>e = .returned (.bool r)∧Drawn0 w w':=by
 have hu67:=Try.underlying67;have c9:=zzm b8;have d5:=zzm b9;clear b8 b9;have d0:=zzm c2;have d6:=zzm c8;clear c2 c8;have H:(if (l0.length:Int)=(l1.length:Int) then (Ql.l0 k l0 l1 0) else (some false))=some r:=h;clear h;by_cases c3:(l0.length:Int)=(l1.length:Int)
 ·
  rw [if_pos c3] at H;obtain ⟨b3,b4⟩:=zzQ c3;have b5:(l0.length==l1.length)=true:=by first|simpa using c3|(simp at c3 ⊢;omega)
  clear c3;have H':=zzm H;clear H;go_enter Try.func9,Try.ntmps9;go_wp2;repeat (go_quiet (fail);try go_wp2)
  go_loopg [5] k (fun kq v5 w'=>∃ (a0:Int),v5 = .int .i64 a0∧Aside0 (Ql.l0 kq l0 l1 a0=some r)∧Aside0 (kq≤k)∧Drawn0 w w')
  case atStart=>exact ⟨(0),(by first|rfl|(simp;done)|(simp [*];done)),H',⟨Nat.le_refl _⟩,by repeat (first|exact Drawn0.refl _|apply Drawn0.step)⟩
  case round=>
   clear H';try clear c1
   try clear p2
   try clear c3
   try clear b3
   try clear b4
   try clear b5
   obtain ⟨a0,rfl,HA,HK1,⟨m1,rfl⟩⟩:=hrel;cases gk with
   | zero=>exact absurd HA.out (by simp [Ql.l0])
   | succ k1=>
    have H:=HA.out;clear HA;simp only [Ql.l0] at H;by_cases c4:a0 < (l0.length:Int)
    ·
     rw [if_pos c4] at H;have d1:decide (a0 < (l0.length:Int))=true:=decide_eq_true c4;clear c4;by_cases c5 : 0≤a0
     ·
      rw [if_pos c5] at H;have d3:decide (0≤a0)=true:=decide_eq_true c5;clear c5;by_cases c6:a0 < (l1.length:Int)
      ·
       rw [if_pos c6] at H;have d4:decide (a0 < (l1.length:Int))=true:=decide_eq_true c6;clear c6;by_cases c7:(!(((Qd l0 a0).f0)==((Qd l1 a0).f0))||(!(((Qd l0 a0).f1)==((Qd l1 a0).f1))||(!(((Qd l0 a0).f2)==((Qd l1 a0).f2)))))=true
       ·
        rw [if_pos c7] at H;have d2:(!(((Qd l0 a0).f0)==((Qd l1 a0).f0))||(!(((Qd l0 a0).f1)==((Qd l1 a0).f1))||(!(((Qd l0 a0).f2)==((Qd l1 a0).f2)))))=true:=c7;clear c7;obtain rfl:=Option.some.inj H;have a1 : 0≤(a0:Int):=zzt;have a2:a0 < (l0.length:Int):=zzt;obtain ⟨b6,a5,a7,a8,a9⟩:=Rf c9.out a0 a1 a2;cases a5;replace a1:=eq_true a1;replace a2:=eq_true a2;have a3 : 0≤(a0:Int):=zzt;have a4:a0 < (l1.length:Int):=zzt;obtain ⟨b7,a6,b0,b1,b2⟩:=Rf d0.out a0 a3 a4;cases a6;replace a3:=eq_true a3;replace a4:=eq_true a4;go_wp2;repeat (go_quiet (fail);try go_wp2)
        go_ret;exact ⟨by first|rfl|(simp;done)|(simp [*];done),by repeat (first|exact Drawn0.refl _|apply Drawn0.step)⟩
       ·
        rw [if_neg c7] at H;have d2:(!(((Qd l0 a0).f0)==((Qd l1 a0).f0))||(!(((Qd l0 a0).f1)==((Qd l1 a0).f1))||(!(((Qd l0 a0).f2)==((Qd l1 a0).f2)))))=false:=by simpa using c7
        clear c7;have H':=zzm H;clear H;have a1 : 0≤(a0:Int):=zzt;have a2:a0 < (l0.length:Int):=zzt;obtain ⟨b6,a5,a7,a8,a9⟩:=Rf c9.out a0 a1 a2;cases a5;replace a1:=eq_true a1;replace a2:=eq_true a2;have a3 : 0≤(a0:Int):=zzt;have a4:a0 < (l1.length:Int):=zzt;obtain ⟨b7,a6,b0,b1,b2⟩:=Rf d0.out a0 a3 a4;cases a6;replace a3:=eq_true a3;replace a4:=eq_true a4;go_wp2;repeat (go_quiet (fail);try go_wp2)
        go_roundg k1
        case measure=>have:=HK1.out;omega
        case rel=>exact ⟨(wrap64 (a0+1)),(by first|rfl|(simp;done)|(simp [*];done)),H',⟨by have:=HK1.out;omega⟩,by repeat (first|exact Drawn0.refl _|apply Drawn0.step)⟩
      ·
       rw [if_neg c6] at H;exact absurd H (by simp)
     ·
      rw [if_neg c5] at H;exact absurd H (by simp)
    ·
     rw [if_neg c4] at H;have d1:decide (a0 < (l0.length:Int))=false:=decide_eq_false c4;clear c4;obtain rfl:=Option.some.inj H;go_wp2;repeat (go_quiet (fail);try go_wp2)
     go_ret;exact ⟨by first|rfl|(simp;done)|(simp [*];done),by repeat (first|exact Drawn0.refl _|apply Drawn0.step)⟩
 ·
  rw [if_neg c3] at H;obtain ⟨b3,b4⟩:=zzY c3;have b5:(l0.length==l1.length)=false:=by first|simpa using c3|(simp at c3 ⊢;omega)
  obtain rfl:=Option.some.inj H;go_enter Try.func9,Try.ntmps9;go_wp2;repeat (go_quiet (fail);try go_wp2)
  go_ret;exact ⟨by first|rfl|(simp;done)|(simp [*];done),by repeat (first|exact Drawn0.refl _|apply Drawn0.step)⟩
end Go.Proofs.Ytmophgccpnpgfaa.T
