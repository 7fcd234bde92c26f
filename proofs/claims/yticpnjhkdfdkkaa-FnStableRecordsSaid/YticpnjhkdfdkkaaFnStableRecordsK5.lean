/- The law FnStableRecords holds (part 6 of 7; merged by pack2.py). -/
import Derived.Test.YticpnjhkdfdkkaaFnStableRecordsK4
open List (setIfInBounds_toArray set_cons_zero set_cons_succ map_toArray map_cons map_nil length_drop length_take)
namespace Go.Proofs.Yticpnjhkdfdkkaa.T
open Go.RowKit Go.Proofs.YticpnjhkdfdkkaaW.PrintWords Go.Proofs.YticpnjhkdfdkkaaW.PrintLast Go.Proofs.YticpnjhkdfdkkaaW.PrintMore
attribute [local go_sem] max2_int max_two
set_option linter.unusedVariables false
set_option linter.unusedSimpArgs false
mutual
def impl_UndoneOf.l0:Nat→List (S27)→List (S46)→List (S27)→Int→Int→List Int→List Int→Option ((List (S46)))
 | 0,_,_,_,_,_,_,_=>none
 | k+1,x0,x3,x16,x17,x18,x507000,x507001=>if x18 < x17 then (if 0≤x18 then (if x18 < (x16.length:Int) then (if x18 < (x507000.length:Int) then (if (rd x507000 x18)=2 then (impl_UndoneOf.l1 k x0 x3 x18 true (wrap64 (x18 - 1)) x16 x17 x18 x507000 x507001 ((rd_T27 x16 x18).f0) ((rd_T27 x16 x18).f1) ((rd_T27 x16 x18).f2) ((rd_T27 x16 x18).f3) ((rd_T27 x16 x18).f4) ((rd_T27 x16 x18).f5)) else (impl_UndoneOf.l0 k x0 x3 x16 x17 (wrap64 (x18+1)) x507000 x507001)) else (none)) else (none)) else (none)) else (some x3)
def impl_UndoneOf.j2:Nat→List (S27)→List (S46)→Int→Bool→List (S27)→Int→Int→List Int→List Int→Bool→Bool→Int→Int→Int→List (S34)→Option ((List (S46)))
 | 0,_,_,_,_,_,_,_,_,_,_,_,_,_,_,_=>none
 | k+1,x0,x3,x5,x7,x16,x17,x18,x507000,x507001,x509000,x509001,x509002,x509003,x509004,x509005=>if x7=true then ((impl_Batch_first.f x509000 x509001 x509002 x509003 x509004 x509005).bind fun t512=>(if 0≤x5 then (if x5 < (x507001.length:Int) then (if 0≤(rd x507001 x5) then (if (rd x507001 x5) < (x0.length:Int) then ((impl_Batch_first.f ((rd_T27 x0 (rd x507001 x5)).f0) ((rd_T27 x0 (rd x507001 x5)).f1) ((rd_T27 x0 (rd x507001 x5)).f2) ((rd_T27 x0 (rd x507001 x5)).f3) ((rd_T27 x0 (rd x507001 x5)).f4) ((rd_T27 x0 (rd x507001 x5)).f5)).bind fun t515=>(if x3.length < 5864062014805 then (impl_UndoneOf.l0 k x0 (x3 ++ [(⟨x509002,t512,t515⟩:S46)]) x16 x17 (wrap64 (x18+1)) x507000 x507001) else (none))) else (none)) else (none)) else (none)) else (none))) else (impl_UndoneOf.l0 k x0 x3 x16 x17 (wrap64 (x18+1)) x507000 x507001)
def impl_UndoneOf.l1:Nat→List (S27)→List (S46)→Int→Bool→Int→List (S27)→Int→Int→List Int→List Int→Bool→Bool→Int→Int→Int→List (S34)→Option ((List (S46)))
 | 0,_,_,_,_,_,_,_,_,_,_,_,_,_,_,_,_=>none
 | k+1,x0,x3,x5,x7,x8,x16,x17,x18,x507000,x507001,x509000,x509001,x509002,x509003,x509004,x509005=>if x8 ≥ 0 then (if 0≤x8 then (if x8 < (x0.length:Int) then (if ((rd_T27 x0 x8).f2)=x509002 then (impl_UndoneOf.j2 k x0 x3 x5 ((rd_T27 x0 x8).f1) x16 x17 x18 x507000 x507001 x509000 x509001 x509002 x509003 x509004 x509005) else (impl_UndoneOf.l1 k x0 x3 x5 x7 (wrap64 (x8 - 1)) x16 x17 x18 x507000 x507001 x509000 x509001 x509002 x509003 x509004 x509005)) else (none)) else (none)) else (impl_UndoneOf.j2 k x0 x3 x5 x7 x16 x17 x18 x507000 x507001 x509000 x509001 x509002 x509003 x509004 x509005)
end
def impl_UndoneOf.f (k:Nat) (l0:List (S27)):Option ((List (S46))):=(some (([]:List (S46)):List (S46))).bind fun y496=>((impl_LogValid.f k l0).bind fun t499=>(if t499=true then ((impl_fatesOf.f l0).bind fun bt500=>(impl_UndoneOf.l0 k l0 y496 l0 (l0.length:Int) 0 bt500.1 bt500.2)) else (some y496)))
def impl_UndoneOf.T13:Bool×List (List Nat×List Nat):=(true,[([],[]),([],[]),([0,1],[0,1]),([2],[2]),([3],[3]),([],[]),([5],[5]),([4,6],[4,6])])
def impl_UndoneOf.B13:List Nat:=[0,0,3,7,15,0,32,127]
theorem impl_UndoneOf.tab13:rtab .any (opsOf Try.f32 13)=impl_UndoneOf.T13:=by kernel_rfl
theorem impl_UndoneOf.bits13:waitsOk impl_UndoneOf.T13.2 impl_UndoneOf.B13=true:=by kernel_rfl
def impl_UndoneOf.T16:Bool×List (List Nat×List Nat):=(true,[([],[]),([],[]),([1],[1]),([],[]),([3],[3]),([],[]),([],[]),([6],[6]),([],[]),([7,8],[7,8]),([9],[9]),([5,10],[5,10]),([11],[11]),([12,4],[12]),([2,4,13],[2,4,13]),([14],[14]),([0,15,13],[0,15]),([16,16,0,1,2,3,4,5,6,7,8,9,10,11,12,13,14,15,16],[0,16])])
def impl_UndoneOf.B16:List Nat:=[0,0,2,0,8,0,0,64,0,448,960,2016,4064,8184,16382,32766,65535,131071]
theorem impl_UndoneOf.tab16:rtab .any (opsOf Try.f32 16)=impl_UndoneOf.T16:=by kernel_rfl
theorem impl_UndoneOf.bits16:waitsOk impl_UndoneOf.T16.2 impl_UndoneOf.B16=true:=by kernel_rfl
set_option maxHeartbeats 8000000 in
set_option maxRecDepth 100000 in
theorem impl_UndoneOf.calls (k:Nat) (A0:Option Addr) (c0:Nat) (l0:List (S27)) (r:List (S46)) (w:World) (hr0:Kd.C k27 w A0 l0.length l0) (hc0:l0.length≤c0) (h:impl_UndoneOf.f k l0=some r) :
  Calls Try.prog 32 #[.slice A0 l0.length c0] w fun e w'=>∃ v0_:Value,e = .returned (v0_)∧Kd.R k46 46 w' w.heap.size (fun _=>True) v0_ r∧Below w.heap.size w w':=by
 have hu72:=Try.underlying72;have hu27:=Try.underlying27;have hu46:=Try.underlying46;have HR0:=zzm hr0;have HC0:=zzm hc0;clear hr0 hc0;have HB:=zzm (Below.refl w.heap.size w);have H:((some (([]:List (S46)):List (S46))).bind fun y496=>((impl_LogValid.f k l0).bind fun t499=>(if t499=true then ((impl_fatesOf.f l0).bind fun bt500=>(impl_UndoneOf.l0 k l0 y496 l0 (l0.length:Int) 0 bt500.1 bt500.2)) else (some y496))))=some r:=h;clear h;obtain ⟨y496,hy496⟩:∃ y_:List (S46),y_=(([]:List (S46))):=⟨_,rfl⟩;replace H:((impl_LogValid.f k l0).bind fun t499=>(if t499=true then ((impl_fatesOf.f l0).bind fun bt500=>(impl_UndoneOf.l0 k l0 y496 l0 (l0.length:Int) 0 bt500.1 bt500.2)) else (some y496)))=some r:=by first|(rw [hy496];with_reducible exact H)|(have H2_:=(Option.bind_some _ _).symm.trans H;rw [hy496];with_reducible exact H2_)|(have H2_:=(Option.bind_some _ _).symm.trans H;with_reducible exact H2_)|with_reducible exact H|(rw [hy496];exact H)|exact H
 have Ny496:=zzm hy496;clear hy496;replace H:=Option.bind_eq_some_iff.mp H;obtain ⟨t499,A20,H⟩:=H;replace H:(if t499=true then ((impl_fatesOf.f l0).bind fun bt500=>(impl_UndoneOf.l0 k l0 y496 l0 (l0.length:Int) 0 bt500.1 bt500.2)) else (some y496))=some r:=H;have A2:=zzm A20;clear A20;by_cases c3:t499=true
 ·
  subst c3;have H1:((impl_fatesOf.f l0).bind fun bt500=>(impl_UndoneOf.l0 k l0 y496 l0 (l0.length:Int) 0 bt500.1 bt500.2))=some r:=by rw [if_pos rfl] at H;exact H
  clear H;have H:=H1;clear H1;replace H:=Option.bind_eq_some_iff.mp H;obtain ⟨⟨t500,t503⟩,A40,H⟩:=H;replace H:(impl_UndoneOf.l0 k l0 y496 l0 (l0.length:Int) 0 t500 t503)=some r:=H;have A4:=zzm A40;clear A40;have H':=zzm H;clear H;go_enter Try.func32,Try.ntmps32;go_wp2_with (first|((with_reducible refine gate_dst (N:=9) rfl ?_);refine Kd.R_lit k46 _ 46 ?hg (N:=9) ?hd (xs:=([]:List (S46))) (inner:=[]) (ok:=fun _=>True) (okp:=fun _=>True) ?hr ?hp (fun _ hk=>hk) trivial (Below.refl _ _) (Nat.le_refl _) (by simp) ?_;(case hd=>rfl);(case hg=>rfl);(case hr=>first|(go_simp;done)|(go_simp;rfl));(case hp=>exact (Reps.none _ _));intro v497 w5 ho6 hb hg_ hnew_;clear hg_ hnew_;(first|rw [← Ny496.out] at ho6|(simp only [Int.reduceToNat] at ho6;rw [← Ny496.out] at ho6));have n0_:=zzm (Kd.R_lower ho6 (zzo zzh1));have n1_:=zzm (zzp zzh1 hb);clear HB;have HO498:=n0_;have HB:=n1_;clear n0_ n1_ hb ho6)|((with_reducible refine gate_callee (f:=61) rfl ?_);refine goesL_ (some 11) rfl rfl Try.func61 (by kernel_rfl) rfl #[.slice A0 l0.length c0] rfl zzM2 ?_;(with_reducible refine (impl_LogValid.calls k _ _ l0 true _ ?side1 ?side2 A2.out).mono ?_);(case side1=>repeat (first|exact (Kd.C_below HR0.out HB.out)|(with_reducible refine Kd.C_alloc ?_ _)|(with_reducible refine Kd.C_drewN ?_ _)|(with_reducible refine Kd.C_drew ?_)));(case side2=>exact HC0.out);rintro e w7 ⟨rfl,hb⟩;refine ⟨_,rfl,?_⟩;have n0_:=zzm (Kd.R_below (by (with_reducible repeat (first|apply Kd.R_alloc|apply Kd.R_drewN|apply Kd.R_drew));exact HO498.out) hb);have n1_:=zzm (zzp zzh1 hb);clear HO498 HB;have HO498:=n0_;have HB:=n1_;clear n0_ n1_;(try clear hb);(try clear hb2);(try clear hk);(try clear hi))|((with_reducible refine gate_callee (f:=62) rfl ?_);refine goesL_ (some 15) rfl rfl Try.func62 (by kernel_rfl) rfl #[.slice A0 l0.length c0] rfl zzM2 ?_;(with_reducible refine (impl_fatesOf.calls _ _ l0 t500 t503 _ ?side1 ?side2 A4.out).mono ?_);(case side1=>repeat (first|exact (Kd.C_below HR0.out HB.out)|(with_reducible refine Kd.C_alloc ?_ _)|(with_reducible refine Kd.C_drewN ?_ _)|(with_reducible refine Kd.C_drew ?_)));(case side2=>exact HC0.out);rintro e w8 ⟨v501,v504,rfl,ho0,ho1,hb⟩;refine ⟨_,rfl,?_⟩;have n0_:=zzm (Kd.R_below (by (with_reducible repeat (first|apply Kd.R_alloc|apply Kd.R_drewN|apply Kd.R_drew));exact HO498.out) hb);have n1_:=zzm (Kd.R_lower ho0 (zzo zzh1));have n2_:=zzm (Kd.R_lower ho1 (zzo zzh1));have n3_:=zzm (zzp zzh1 hb);clear HO498 HB;have HO498:=n0_;have HO502:=n1_;have HO505:=n2_;have HB:=n3_;clear n0_ n1_ n2_ n3_;(try clear hb);(try clear hb2);(try clear hk);(try clear hi);(try clear ho0);(try clear ho1))|((with_reducible refine gate_dst (N:=4) rfl ?_);refine box_event ?hg (N:=4) ?hd (cs:=#[.slice none 0 0,.slice none 0 0]) (t:=72) ?hr ?_;(case hd=>rfl);(case hg=>rfl);(case hr=>first|(go_simp;done)|(go_simp;rfl));intro gb506 hg w9 hbox hb;have n0_:=zzm (Kd.R_below (by (with_reducible repeat (first|apply Kd.R_alloc|apply Kd.R_drewN|apply Kd.R_drew));exact HO498.out) hb);have n1_:=zzm (Kd.R_below (by (with_reducible repeat (first|apply Kd.R_alloc|apply Kd.R_drewN|apply Kd.R_drew));exact HO502.out) hb);have n2_:=zzm (Kd.R_below (by (with_reducible repeat (first|apply Kd.R_alloc|apply Kd.R_drewN|apply Kd.R_drew));exact HO505.out) hb);have n3_:=zzm (zzp zzh1 hb);have n4_:=zzm (hbox);have n5_:=zzm ((by rw [hg];exact (zzo zzh1):w.heap.size≤gb506));have n6_:=zzm ((by rw [hg];exact (zzo zzh1):w.heap.size≤gb506));clear HO498 HO502 HO505 HB;have HO498:=n0_;have HO502:=n1_;have HO505:=n2_;have HB:=n3_;have BK506:=n4_;have GW506:=n5_;have GE506:=n6_;clear n0_ n1_ n2_ n3_ n4_ n5_ n6_ hb hbox hg;obtain ⟨Ao10,co10,eo10⟩:=Kd.R_slice HO502.out;subst eo10;obtain ⟨hcz11_0,hcz11_1,hfz11_0,hfz11_1⟩:=zzc2 BK506.out;obtain ⟨Ao12,co12,eo12⟩:=Kd.R_slice HO505.out;subst eo12));go_loopg [3,18] k (fun kq v3 v18 w'=>∃ (x3_1:List (S46)) (x18_1:Int),v18 = .int .i64 x18_1∧Aside0 (impl_UndoneOf.l0 kq l0 x3_1 l0 (l0.length:Int) x18_1 t500 t503=some r)∧Aside0 (kq≤k)∧Aside0 (Kd.R k46 46 w' w.heap.size (fun _=>True) v3 x3_1)∧Aside0 (Kd.R (Kd.int .i64) 74 w' w.heap.size (fun _=>True) (.slice Ao10 t500.length co10) t500)∧Aside0 (Kd.R (Kd.int .i64) 3 w' w.heap.size (fun _=>True) (.slice Ao12 t503.length co12) t503)∧Aside0 (w'.heap[gb506]? = some (.cells #[(.slice Ao10 t500.length co10),(.slice Ao12 t503.length co12)] 72 (0,0)))∧Aside0 (Below w.heap.size w w'))
  case atStart=>exact ⟨(y496),(0),(by first|rfl|(simp;done)|(simp [*];done)),H',⟨Nat.le_refl _⟩,⟨by (with_reducible repeat (first|apply Kd.R_alloc|apply Kd.R_drewN|apply Kd.R_drew));exact Kd.R_mono (Kd.R_far (p:=⟨gb506,1,none⟩) (Kd.R_far (p:=⟨gb506,0,none⟩) (Kd.R_types HO498.out BK506.out (by decide)) (fun _ hk=>hk.2) (.slice Ao10 t500.length co10)) (fun _ hk=>hk.2) (.slice Ao12 t503.length co12)) (fun _ hk=>trivial)⟩,⟨by (with_reducible repeat (first|apply Kd.R_alloc|apply Kd.R_drewN|apply Kd.R_drew));exact Kd.R_mono (Kd.R_far (p:=⟨gb506,1,none⟩) (Kd.R_far (p:=⟨gb506,0,none⟩) (Kd.R_types HO502.out BK506.out (by decide)) (fun _ hk=>hk.2) (.slice Ao10 t500.length co10)) (fun _ hk=>hk.2) (.slice Ao12 t503.length co12)) (fun _ hk=>trivial)⟩,⟨by (with_reducible repeat (first|apply Kd.R_alloc|apply Kd.R_drewN|apply Kd.R_drew));exact Kd.R_mono (Kd.R_far (p:=⟨gb506,1,none⟩) (Kd.R_far (p:=⟨gb506,0,none⟩) (Kd.R_types HO505.out BK506.out (by decide)) (fun _ hk=>hk.2) (.slice Ao10 t500.length co10)) (fun _ hk=>hk.2) (.slice Ao12 t503.length co12)) (fun _ hk=>trivial)⟩,⟨by (with_reducible repeat (first|apply zzf|apply zzg|apply zze));refine zzi (cs:=#[.slice Ao10 t500.length co10,.slice none 0 0]) ?_ 1 _ rfl;(with_reducible repeat (first|apply zzf|apply zzg|apply zze));refine zzi (cs:=#[.slice none 0 0,.slice none 0 0]) ?_ 0 _ rfl;(with_reducible repeat (first|apply zzf|apply zzg|apply zze));exact BK506.out⟩,⟨by repeat (first|(with_reducible first|exact HB.out|apply zza|apply zzb|apply zzc|refine zzd ?_ GE506.out)|exact HB.out)⟩⟩
  case round=>
   clear H';try clear p2
   try clear c3
   try clear c6
   try clear hcz11_0
   try clear hcz11_1
   try clear hfz11_0
   try clear hfz11_1
   obtain ⟨x3_1,x18_1,rfl,HA,HK1,HO_3,HO_507000,HO_507001,BK506,HB⟩:=hrel;cases gk with
   | zero=>exact absurd HA.out (by simp [impl_UndoneOf.l0])
   | succ k1=>
    have H:=HA.out;clear HA;simp only [impl_UndoneOf.l0] at H;by_cases c13:x18_1 < (l0.length:Int)
    ·
     rw [if_pos c13] at H;have c13b0:decide (x18_1 < (l0.length:Int))=true:=decide_eq_true c13;clear c13;by_cases c14 : 0≤x18_1
     ·
      rw [if_pos c14] at H;have c14b0:decide (0≤x18_1)=true:=decide_eq_true c14;clear c14;by_cases c15:x18_1 < (l0.length:Int)
      ·
       rw [if_pos c15] at H;have c15b0:decide (x18_1 < (l0.length:Int))=true:=decide_eq_true c15;clear c15;by_cases c16:x18_1 < (t500.length:Int)
       ·
        rw [if_pos c16] at H;have c16b0:decide (x18_1 < (t500.length:Int))=true:=decide_eq_true c16;clear c16;by_cases c17:(rd t500 x18_1)=2
        ·
         rw [if_pos c17] at H;have c17b0:((rd t500 x18_1)==2)=true:=beq_iff_eq.mpr c17;have c17b1:((rd t500 x18_1) != 2)=false:=bne_eq_false_iff_eq.mpr c17;clear c17;have HC18:=zzm H;clear H;have p507 : 0≤(x18_1:Int):=zzt;have q507:x18_1 < (l0.length:Int):=zzt;obtain ⟨ad507,A507_5,c507_5,e507,hx507_0,hx507_1,hx507_2,hx507_3,hx507_4,hx507_5,hl507_5,hi507_5⟩:=at_T27 HR0.out x18_1 p507 q507;cases e507;replace hx507_0:=zzx HB.out hx507_0;replace hx507_1:=zzx HB.out hx507_1;replace hx507_2:=zzx HB.out hx507_2;replace hx507_3:=zzx HB.out hx507_3;replace hx507_4:=zzx HB.out hx507_4;replace hx507_5:=zzx HB.out hx507_5;have HR507_5:=zzm hi507_5;have HC507_5:=zzm hl507_5;clear hi507_5 hl507_5;replace p507:=eq_true p507;replace q507:=eq_true q507;go_upto_block 2 with (first|((with_reducible refine gate_dst (N:=6) rfl ?_);refine box_event ?hg (N:=6) ?hd (cs:=#[.bool false,.bool false,.int .i64 0,.int .i64 0,.int .i64 0,.slice none 0 0]) (t:=27) ?hr ?_;(case hd=>rfl);(case hg=>rfl);(case hr=>first|(go_simp;done)|(go_simp;rfl));intro gb508 hg w19 hbox hb;have n0_:=zzm (Kd.R_below (by (with_reducible repeat (first|apply Kd.R_alloc|apply Kd.R_drewN|apply Kd.R_drew));exact HO_3.out) hb);have n1_:=zzm (Kd.R_below (by (with_reducible repeat (first|apply Kd.R_alloc|apply Kd.R_drewN|apply Kd.R_drew));exact HO_507000.out) hb);have n2_:=zzm (Kd.R_below (by (with_reducible repeat (first|apply Kd.R_alloc|apply Kd.R_drewN|apply Kd.R_drew));exact HO_507001.out) hb);have n3_:=zzm (zzh (g:=gb506) (o:=.cells #[.slice Ao10 t500.length co10,.slice Ao12 t503.length co12] 72 (0,0)) (zzE BK506.out) hb);have n4_:=zzm (zzp zzh2 hb);have n5_:=zzm (hbox);have n6_:=zzm ((by rw [hg];exact (zzo zzh2):w.heap.size≤gb508));have n7_:=zzm ((by rw [hg];exact (zzo zzh2):w.heap.size≤gb508));have n8_:=zzm ((by rw [hg];exact Nat.ne_of_lt (blk_lt (g:=gb506) (o:=.cells #[.slice Ao10 t500.length co10,.slice Ao12 t503.length co12] 72 (0,0)) (zzE BK506.out)):gb506≠gb508));have n9_:=zzm ((by rw [hg];exact Nat.ne_of_gt (blk_lt (g:=gb506) (o:=.cells #[.slice Ao10 t500.length co10,.slice Ao12 t503.length co12] 72 (0,0)) (zzE BK506.out)):gb508≠gb506));clear HO_3 HO_507000 HO_507001 BK506 HB;have HO_3:=n0_;have HO_507000:=n1_;have HO_507001:=n2_;have BK506:=n3_;have HB:=n4_;have BK508:=n5_;have GW508:=n6_;have GE508:=n7_;have NB506_508:=n8_;have NB508_506:=n9_;clear n0_ n1_ n2_ n3_ n4_ n5_ n6_ n7_ n8_ n9_ hb hbox hg;have hnb20:=NB508_506.out;have hnc20:=NB506_508.out;obtain ⟨hcz21_0,hcz21_1,hcz21_2,hcz21_3,hcz21_4,hcz21_5,hfz21_0,hfz21_1,hfz21_2,hfz21_3,hfz21_4,hfz21_5⟩:=zzc6 BK508.out;obtain ⟨hcz22_0,hcz22_1,hfz22_0,hfz22_1⟩:=zzc2 BK506.out;have p509 : 0≤(x18_1:Int):=zzt;have q509:x18_1 < (t500.length:Int):=zzt;obtain ⟨ad509,e509,hx509_0⟩:=Kd.at_int (Kd.R_reads' HO_507000.out).2.2 x18_1 p509 q509;cases e509;have hn509_0:ad509.block≠gb508:=Kd.own_blk (Kd.R_ne HO_507000.out BK508.out (by decide));have hn509_1:ad509.block≠gb508:=Kd.own_blk (Kd.R_ne HO_507000.out BK508.out (by decide));have hn509_2:ad509.block≠gb508:=Kd.own_blk (Kd.R_ne HO_507000.out BK508.out (by decide));have hn509_3:ad509.block≠gb508:=Kd.own_blk (Kd.R_ne HO_507000.out BK508.out (by decide));have hn509_4:ad509.block≠gb508:=Kd.own_blk (Kd.R_ne HO_507000.out BK508.out (by decide));have hn509_5:ad509.block≠gb508:=Kd.own_blk (Kd.R_ne HO_507000.out BK508.out (by decide));replace hx509_0:=(cell_far (p:=⟨gb508,0,none⟩) (by first|(rw [add_block];exact hn509_0)|(show (Addr.add _ _).block≠_;rw [add_block];exact hn509_0)|exact hn509_0) (.bool ((rd_T27 l0 x18_1).f0))).trans hx509_0;replace hx509_0:=(cell_far (p:=⟨gb508,1,none⟩) (by first|(rw [add_block];exact hn509_1)|(show (Addr.add _ _).block≠_;rw [add_block];exact hn509_1)|exact hn509_1) (.bool ((rd_T27 l0 x18_1).f1))).trans hx509_0;replace hx509_0:=(cell_far (p:=⟨gb508,2,none⟩) (by first|(rw [add_block];exact hn509_2)|(show (Addr.add _ _).block≠_;rw [add_block];exact hn509_2)|exact hn509_2) (.int .i64 ((rd_T27 l0 x18_1).f2))).trans hx509_0;replace hx509_0:=(cell_far (p:=⟨gb508,3,none⟩) (by first|(rw [add_block];exact hn509_3)|(show (Addr.add _ _).block≠_;rw [add_block];exact hn509_3)|exact hn509_3) (.int .i64 ((rd_T27 l0 x18_1).f3))).trans hx509_0;replace hx509_0:=(cell_far (p:=⟨gb508,4,none⟩) (by first|(rw [add_block];exact hn509_4)|(show (Addr.add _ _).block≠_;rw [add_block];exact hn509_4)|exact hn509_4) (.int .i64 ((rd_T27 l0 x18_1).f4))).trans hx509_0;replace hx509_0:=(cell_far (p:=⟨gb508,5,none⟩) (by first|(rw [add_block];exact hn509_5)|(show (Addr.add _ _).block≠_;rw [add_block];exact hn509_5)|exact hn509_5) (.slice A507_5 ((rd_T27 l0 x18_1).f5).length c507_5)).trans hx509_0;clear hn509_0 hn509_1 hn509_2 hn509_3 hn509_4 hn509_5;replace p509:=eq_true p509;replace q509:=eq_true q509));(try simp only [Act.put,zzq,zzr,zzs]);go_cut [7] (fun v7 wc=>∃ (kq:Nat) (x7_17:Bool),v7 = .bool x7_17∧Aside0 (impl_UndoneOf.j2 kq l0 x3_1 x18_1 x7_17 l0 (l0.length:Int) x18_1 t500 t503 ((rd_T27 l0 x18_1).f0) ((rd_T27 l0 x18_1).f1) ((rd_T27 l0 x18_1).f2) ((rd_T27 l0 x18_1).f3) ((rd_T27 l0 x18_1).f4) ((rd_T27 l0 x18_1).f5)=some r)∧Aside0 (kq≤k1)∧Aside0 (Kd.R k46 46 wc w.heap.size (fun _=>True) u3 x3_1)∧Aside0 (Kd.R (Kd.int .i64) 74 wc w.heap.size (fun _=>True) (.slice (some ad509) t500.length co10) t500)∧Aside0 (Kd.R (Kd.int .i64) 3 wc w.heap.size (fun _=>True) (.slice Ao12 t503.length co12) t503)∧Aside0 (wc.heap[gb506]? = some (.cells #[(.slice (some ad509) t500.length co10),(.slice Ao12 t503.length co12)] 72 (0,0)))∧Aside0 (wc.heap[gb508]? = some (.cells #[.bool ((rd_T27 l0 x18_1).f0),.bool ((rd_T27 l0 x18_1).f1),.int .i64 ((rd_T27 l0 x18_1).f2),.int .i64 ((rd_T27 l0 x18_1).f3),.int .i64 ((rd_T27 l0 x18_1).f4),(.slice A507_5 ((rd_T27 l0 x18_1).f5).length c507_5)] 27 (0,0)))∧Aside0 (Below w.heap.size w wc))
         case first=>
          have H:=HC18.out;clear HC18;have H':=zzm H;clear H;go_wp2;go_loopg [7,8] k1 (fun kq v7 v8 w'=>∃ (x7_2:Bool) (x8_2:Int),v7 = .bool x7_2∧v8 = .int .i64 x8_2∧Aside0 (impl_UndoneOf.l1 kq l0 x3_1 x18_1 x7_2 x8_2 l0 (l0.length:Int) x18_1 t500 t503 ((rd_T27 l0 x18_1).f0) ((rd_T27 l0 x18_1).f1) ((rd_T27 l0 x18_1).f2) ((rd_T27 l0 x18_1).f3) ((rd_T27 l0 x18_1).f4) ((rd_T27 l0 x18_1).f5)=some r)∧Aside0 (kq≤k1)∧Aside0 (Kd.R k46 46 w' w.heap.size (fun _=>True) u3 x3_1)∧Aside0 (Kd.R (Kd.int .i64) 74 w' w.heap.size (fun _=>True) (.slice (some ad509) t500.length co10) t500)∧Aside0 (Kd.R (Kd.int .i64) 3 w' w.heap.size (fun _=>True) (.slice Ao12 t503.length co12) t503)∧Aside0 (w'.heap[gb506]? = some (.cells #[(.slice (some ad509) t500.length co10),(.slice Ao12 t503.length co12)] 72 (0,0)))∧Aside0 (w'.heap[gb508]? = some (.cells #[.bool ((rd_T27 l0 x18_1).f0),.bool ((rd_T27 l0 x18_1).f1),.int .i64 ((rd_T27 l0 x18_1).f2),.int .i64 ((rd_T27 l0 x18_1).f3),.int .i64 ((rd_T27 l0 x18_1).f4),(.slice A507_5 ((rd_T27 l0 x18_1).f5).length c507_5)] 27 (0,0)))∧Aside0 (Below w.heap.size w w'))
          case atStart=>exact ⟨(true),(wrap64 (x18_1 - 1)),(by first|rfl|(simp;done)|(simp [*];done)),(by first|rfl|(simp;done)|(simp [*];done)),H',⟨Nat.le_refl _⟩,⟨by (with_reducible repeat (first|apply Kd.R_alloc|apply Kd.R_drewN|apply Kd.R_drew));exact Kd.R_mono (Kd.R_far (p:=⟨gb508,5,none⟩) (Kd.R_far (p:=⟨gb508,4,none⟩) (Kd.R_far (p:=⟨gb508,3,none⟩) (Kd.R_far (p:=⟨gb508,2,none⟩) (Kd.R_far (p:=⟨gb508,1,none⟩) (Kd.R_far (p:=⟨gb508,0,none⟩) (Kd.R_types HO_3.out BK508.out (by decide)) (fun _ hk=>hk.2) (.bool ((rd_T27 l0 x18_1).f0))) (fun _ hk=>hk.2) (.bool ((rd_T27 l0 x18_1).f1))) (fun _ hk=>hk.2) (.int .i64 ((rd_T27 l0 x18_1).f2))) (fun _ hk=>hk.2) (.int .i64 ((rd_T27 l0 x18_1).f3))) (fun _ hk=>hk.2) (.int .i64 ((rd_T27 l0 x18_1).f4))) (fun _ hk=>hk.2) (.slice A507_5 ((rd_T27 l0 x18_1).f5).length c507_5)) (fun _ hk=>trivial)⟩,⟨by (with_reducible repeat (first|apply Kd.R_alloc|apply Kd.R_drewN|apply Kd.R_drew));exact Kd.R_mono (Kd.R_far (p:=⟨gb508,5,none⟩) (Kd.R_far (p:=⟨gb508,4,none⟩) (Kd.R_far (p:=⟨gb508,3,none⟩) (Kd.R_far (p:=⟨gb508,2,none⟩) (Kd.R_far (p:=⟨gb508,1,none⟩) (Kd.R_far (p:=⟨gb508,0,none⟩) (Kd.R_types HO_507000.out BK508.out (by decide)) (fun _ hk=>hk.2) (.bool ((rd_T27 l0 x18_1).f0))) (fun _ hk=>hk.2) (.bool ((rd_T27 l0 x18_1).f1))) (fun _ hk=>hk.2) (.int .i64 ((rd_T27 l0 x18_1).f2))) (fun _ hk=>hk.2) (.int .i64 ((rd_T27 l0 x18_1).f3))) (fun _ hk=>hk.2) (.int .i64 ((rd_T27 l0 x18_1).f4))) (fun _ hk=>hk.2) (.slice A507_5 ((rd_T27 l0 x18_1).f5).length c507_5)) (fun _ hk=>trivial)⟩,⟨by (with_reducible repeat (first|apply Kd.R_alloc|apply Kd.R_drewN|apply Kd.R_drew));exact Kd.R_mono (Kd.R_far (p:=⟨gb508,5,none⟩) (Kd.R_far (p:=⟨gb508,4,none⟩) (Kd.R_far (p:=⟨gb508,3,none⟩) (Kd.R_far (p:=⟨gb508,2,none⟩) (Kd.R_far (p:=⟨gb508,1,none⟩) (Kd.R_far (p:=⟨gb508,0,none⟩) (Kd.R_types HO_507001.out BK508.out (by decide)) (fun _ hk=>hk.2) (.bool ((rd_T27 l0 x18_1).f0))) (fun _ hk=>hk.2) (.bool ((rd_T27 l0 x18_1).f1))) (fun _ hk=>hk.2) (.int .i64 ((rd_T27 l0 x18_1).f2))) (fun _ hk=>hk.2) (.int .i64 ((rd_T27 l0 x18_1).f3))) (fun _ hk=>hk.2) (.int .i64 ((rd_T27 l0 x18_1).f4))) (fun _ hk=>hk.2) (.slice A507_5 ((rd_T27 l0 x18_1).f5).length c507_5)) (fun _ hk=>trivial)⟩,⟨by (with_reducible repeat (first|apply zzf|apply zzg|apply zze));refine zzj ?_ NB506_508.out _;(with_reducible repeat (first|apply zzf|apply zzg|apply zze));refine zzj ?_ NB506_508.out _;(with_reducible repeat (first|apply zzf|apply zzg|apply zze));refine zzj ?_ NB506_508.out _;(with_reducible repeat (first|apply zzf|apply zzg|apply zze));refine zzj ?_ NB506_508.out _;(with_reducible repeat (first|apply zzf|apply zzg|apply zze));refine zzj ?_ NB506_508.out _;(with_reducible repeat (first|apply zzf|apply zzg|apply zze));refine zzj ?_ NB506_508.out _;(with_reducible repeat (first|apply zzf|apply zzg|apply zze));exact BK506.out⟩,⟨by (with_reducible repeat (first|apply zzf|apply zzg|apply zze));refine zzi (cs:=#[.bool ((rd_T27 l0 x18_1).f0),.bool ((rd_T27 l0 x18_1).f1),.int .i64 ((rd_T27 l0 x18_1).f2),.int .i64 ((rd_T27 l0 x18_1).f3),.int .i64 ((rd_T27 l0 x18_1).f4),.slice none 0 0]) ?_ 5 _ rfl;(with_reducible repeat (first|apply zzf|apply zzg|apply zze));refine zzi (cs:=#[.bool ((rd_T27 l0 x18_1).f0),.bool ((rd_T27 l0 x18_1).f1),.int .i64 ((rd_T27 l0 x18_1).f2),.int .i64 ((rd_T27 l0 x18_1).f3),.int .i64 0,.slice none 0 0]) ?_ 4 _ rfl;(with_reducible repeat (first|apply zzf|apply zzg|apply zze));refine zzi (cs:=#[.bool ((rd_T27 l0 x18_1).f0),.bool ((rd_T27 l0 x18_1).f1),.int .i64 ((rd_T27 l0 x18_1).f2),.int .i64 0,.int .i64 0,.slice none 0 0]) ?_ 3 _ rfl;(with_reducible repeat (first|apply zzf|apply zzg|apply zze));refine zzi (cs:=#[.bool ((rd_T27 l0 x18_1).f0),.bool ((rd_T27 l0 x18_1).f1),.int .i64 0,.int .i64 0,.int .i64 0,.slice none 0 0]) ?_ 2 _ rfl;(with_reducible repeat (first|apply zzf|apply zzg|apply zze));refine zzi (cs:=#[.bool ((rd_T27 l0 x18_1).f0),.bool false,.int .i64 0,.int .i64 0,.int .i64 0,.slice none 0 0]) ?_ 1 _ rfl;(with_reducible repeat (first|apply zzf|apply zzg|apply zze));refine zzi (cs:=#[.bool false,.bool false,.int .i64 0,.int .i64 0,.int .i64 0,.slice none 0 0]) ?_ 0 _ rfl;(with_reducible repeat (first|apply zzf|apply zzg|apply zze));exact BK508.out⟩,⟨by repeat (first|(with_reducible first|exact HB.out|apply zza|apply zzb|apply zzc|refine zzd ?_ GE506.out|refine zzd ?_ GE508.out)|exact HB.out)⟩⟩
          case round=>
           clear H';try clear c1
           try clear c2
           try clear p2
           try clear c3
           try clear c5
           try clear p5
           try clear q5
           try clear hx5
           try clear c6
           try clear p6
           try clear c13
           try clear c13b0
           try clear c14
           try clear c14b0
           try clear c15
           try clear c15b0
           try clear c16
           try clear c16b0
           try clear c17
           try clear c17b0
           try clear c17b1
           try clear c20
           try clear hcz11_0
           try clear hcz11_1
           try clear hcz21_0
           try clear hcz21_1
           try clear hcz21_2
           try clear hcz21_3
           try clear hcz21_4
           try clear hcz21_5
           try clear hcz22_0
           try clear hcz22_1
           try clear hfz11_0
           try clear hfz11_1
           try clear hfz21_0
           try clear hfz21_1
           try clear hfz21_2
           try clear hfz21_3
           try clear hfz21_4
           try clear hfz21_5
           try clear hfz22_0
           try clear hfz22_1
           try clear hx507_0
           try clear hx507_1
           try clear hx507_2
           try clear hx507_3
           try clear hx507_4
           try clear hx507_5
           try clear hx509_0
           try clear p2
           try clear p507
           try clear p509
           try clear q507
           try clear q509
           obtain ⟨x7_2,x8_2,rfl,rfl,HA,HK2,HO_3,HO_507000,HO_507001,BK506,BK508,HB⟩:=hrel;cases gk with
           | zero=>exact absurd HA.out (by simp [impl_UndoneOf.l1])
           | succ k2=>
            have H:=HA.out;clear HA;simp only [impl_UndoneOf.l1] at H;by_cases c23:x8_2 ≥ 0
            ·
             rw [if_pos c23] at H;have c23b0:decide (0≤x8_2)=true:=decide_eq_true c23;clear c23;(first|rw [c23b0]|(simp only [i64_w,i32_w];rw [c23b0])|skip);by_cases c24 : 0≤x8_2
             ·
              rw [if_pos c24] at H;have c24b0:decide (0≤x8_2)=true:=decide_eq_true c24;clear c24;by_cases c25:x8_2 < (l0.length:Int)
              ·
               rw [if_pos c25] at H;have c25b0:decide (x8_2 < (l0.length:Int))=true:=decide_eq_true c25;clear c25;by_cases c26:((rd_T27 l0 x8_2).f2)=((rd_T27 l0 x18_1).f2)
               ·
                rw [if_pos c26] at H;have c26b0:(((rd_T27 l0 x8_2).f2)==((rd_T27 l0 x18_1).f2))=true:=beq_iff_eq.mpr c26;have c26b1:(((rd_T27 l0 x8_2).f2) != ((rd_T27 l0 x18_1).f2))=false:=bne_eq_false_iff_eq.mpr c26;clear c26;have H':=zzm H;clear H;try go_wp2
                have n0_:=zzm (Kd.R_drew HO_3.out);have n1_:=zzm (Kd.R_drew HO_507000.out);have n2_:=zzm (Kd.R_drew HO_507001.out);have n3_:=zzm (zzg BK506.out);have n4_:=zzm (zzg BK508.out);have n5_:=zzm (zzc HB.out);clear HO_3 HO_507000 HO_507001 BK506 BK508 HB;have HO_3:=n0_;have HO_507000:=n1_;have HO_507001:=n2_;have BK506:=n3_;have BK508:=n4_;have HB:=n5_;clear n0_ n1_ n2_ n3_ n4_ n5_;have p510 : 0≤(x8_2:Int):=zzt;have q510:x8_2 < (l0.length:Int):=zzt;obtain ⟨ad510,A510_5,c510_5,e510,hx510_0,hx510_1,hx510_2,hx510_3,hx510_4,hx510_5,hl510_5,hi510_5⟩:=at_T27 HR0.out x8_2 p510 q510;have hw510_5:=hx510_5;have hw510_4:=hx510_4;have hw510_3:=hx510_3;have hw510_2:=hx510_2;have hw510_1:=hx510_1;have hw510_0:=hx510_0;obtain rfl:ad507=ad510:=(by injection e510);replace hx510_0:=zzx HB.out hx510_0;replace hx510_1:=zzx HB.out hx510_1;replace hx510_2:=zzx HB.out hx510_2;replace hx510_3:=zzx HB.out hx510_3;replace hx510_4:=zzx HB.out hx510_4;replace hx510_5:=zzx HB.out hx510_5;have HR510_5:=zzm hi510_5;have HC510_5:=zzm hl510_5;clear hi510_5 hl510_5;replace p510:=eq_true p510;replace q510:=eq_true q510;refine start_ (n:=8) (S:=fun w'=>w'.cell? ⟨gb508,0,none⟩=some (.bool ((rd_T27 l0 x18_1).f0))∧w'.cell? ⟨gb508,1,none⟩=some (.bool ((rd_T27 l0 x18_1).f1))∧w'.cell? ⟨gb508,2,none⟩=some (.int .i64 ((rd_T27 l0 x18_1).f2))∧w'.cell? ⟨gb508,3,none⟩=some (.int .i64 ((rd_T27 l0 x18_1).f3))∧w'.cell? ⟨gb508,4,none⟩=some (.int .i64 ((rd_T27 l0 x18_1).f4))∧w'.cell? ⟨gb508,5,none⟩=some (.slice A507_5 ((rd_T27 l0 x18_1).f5).length c507_5)∧w'.cell? (ad507.add ((x8_2).toNat * 6))=some (.bool ((rd_T27 l0 x8_2).f0))∧w'.cell? ⟨(ad507.add ((x8_2).toNat * 6)).block,(ad507.add ((x8_2).toNat * 6)).off+1,none⟩=some (.bool ((rd_T27 l0 x8_2).f1))∧w'.cell? ⟨(ad507.add ((x8_2).toNat * 6)).block,(ad507.add ((x8_2).toNat * 6)).off+2,none⟩=some (.int .i64 ((rd_T27 l0 x8_2).f2))∧w'.cell? ⟨(ad507.add ((x8_2).toNat * 6)).block,(ad507.add ((x8_2).toNat * 6)).off+3,none⟩=some (.int .i64 ((rd_T27 l0 x8_2).f3))∧w'.cell? ⟨(ad507.add ((x8_2).toNat * 6)).block,(ad507.add ((x8_2).toNat * 6)).off+4,none⟩=some (.int .i64 ((rd_T27 l0 x8_2).f4))∧w'.cell? ⟨(ad507.add ((x8_2).toNat * 6)).block,(ad507.add ((x8_2).toNat * 6)).off+5,none⟩=some (.slice A510_5 ((rd_T27 l0 x8_2).f5).length c510_5)) (ds:=[]) (zzB 8 0) (by kernel_rfl) rfl rfl ⟨(zzk BK508.out 0).trans rfl,(zzk BK508.out 1).trans rfl,(zzk BK508.out 2).trans rfl,(zzk BK508.out 3).trans rfl,(zzk BK508.out 4).trans rfl,(zzk BK508.out 5).trans rfl,(zzx HB.out hw510_0),(zzx HB.out hw510_1),(zzx HB.out hw510_2),(zzx HB.out hw510_3),(zzx HB.out hw510_4),(zzx HB.out hw510_5)⟩ (fun hHeld=>?_);refine with_tabW impl_UndoneOf.tab13 impl_UndoneOf.bits13 (fun HT_ HW_=>?_);generalize wr.drew=w27 at HO_3 HO_507000 HO_507001 BK506 BK508 HB HR510_5 hx510_0 hx510_1 hx510_2 hx510_3 hx510_4 hx510_5 hHeld ⊢;refine pure_ (i:=0) (N:=some 35) (v:=?_) (a':=?_) (zzB 8 1) rfl rfl (zzA2 HT_.out) (fun _ _ _ h=>h) (Or.inl ⟨by rfl,?_⟩) ?_ ?_;rotate_left
                ·
                 intro w';go_simp;with_reducible rfl
                rotate_left
                ·
                 simp only [Act.put,zzq,zzr,zzs,i64_w,i32_w];rfl
                refine pure_ (i:=1) (N:=some 36) (v:=?_) (a':=?_) (zzB 8 3) rfl rfl (zzA2 HT_.out) (fun _ _ _ h=>h) (Or.inl ⟨by rfl,?_⟩) ?_ ?_;rotate_left
                ·
                 intro w';go_simp;with_reducible rfl
                rotate_left
                ·
                 simp only [Act.put,zzq,zzr,zzs,i64_w,i32_w];rfl
                refine pure_ (i:=2) (N:=some 37) (v:=?_) (a':=?_) (zzB 8 7) rfl rfl (zzA2 HT_.out) (fun _ _ _ h=>h) (Or.inl ⟨by rfl,?_⟩) ?_ ?_;rotate_left
                ·
                 intro w';go_simp;with_reducible rfl
                rotate_left
                ·
                 simp only [Act.put,zzq,zzr,zzs,i64_w,i32_w];rfl
                refine pure_ (i:=3) (N:=some 38) (v:=?_) (a':=?_) (zzB 8 15) rfl rfl (zzA2 HT_.out) (fun _ _ _ h=>h) (Or.inl ⟨by rfl,?_⟩) ?_ ?_;rotate_left
                ·
                 intro w';go_simp;with_reducible rfl
                rotate_left
                ·
                 simp only [Act.put,zzq,zzr,zzs,i64_w,i32_w];rfl
                refine pure_ (i:=5) (N:=some 40) (v:=?_) (a':=?_) (zzB 8 47) rfl rfl (zzA2 HT_.out) (fun _ _ _ h=>h) (Or.inl ⟨by rfl,?_⟩) ?_ ?_;rotate_left
                ·
                 intro w';go_simp;with_reducible rfl
                rotate_left
                ·
                 simp only [Act.put,zzq,zzr,zzs,i64_w,i32_w];rfl
                refine take_ (i:=4) (N:=some 39) (v:=?_) (a':=?_) (zzB 8 63) rfl rfl (take_ofW HT_.out HW_.out (by kernel_rfl)) (fun _ _ _ h=>h) (Or.inl ⟨by rfl,?_⟩) hHeld ?_ ?_;rotate_left
                ·
                 rintro w' ⟨s0,s1,s2,s3,s4,s5,s6,s7,s8,s9,s10,s11⟩;go_simp;with_reducible rfl
                rotate_left
                ·
                 simp only [Act.put,zzq,zzr,zzs,i64_w,i32_w];rfl
                refine take_ (i:=6) (N:=some 41) (v:=?_) (a':=?_) (zzB 8 127) rfl rfl (take_ofW HT_.out HW_.out (by kernel_rfl)) (fun _ _ _ h=>h) (Or.inl ⟨by rfl,?_⟩) hHeld ?_ ?_;rotate_left
                ·
                 rintro w' ⟨s0,s1,s2,s3,s4,s5,s6,s7,s8,s9,s10,s11⟩;go_simp;with_reducible rfl
                rotate_left
                ·
                 simp only [Act.put,zzq,zzr,zzs,i64_w,i32_w];rfl
                refine pure_ (i:=7) (N:=some 42) (v:=?_) (a':=?_) (zzB 8 255) rfl rfl (zzA2 HT_.out) (fun _ _ _ h=>h) (Or.inl ⟨by rfl,?_⟩) ?_ ?_;rotate_left
                ·
                 intro w';go_simp;with_reducible rfl
                rotate_left
                ·
                 simp only [Act.put,zzq,zzr,zzs,i64_w,i32_w];rfl
                refine done_ (done_of HT_.out (by kernel_rfl)) ?_;have p511 : 0≤(x8_2:Int):=zzt;have q511:x8_2 < (l0.length:Int):=zzt;obtain ⟨ad511,A511_5,c511_5,e511,hx511_0,hx511_1,hx511_2,hx511_3,hx511_4,hx511_5,hl511_5,hi511_5⟩:=at_T27 HR0.out x8_2 p511 q511;obtain rfl:ad507=ad511:=(by injection e511);replace hx511_0:=zzx HB.out hx511_0;replace hx511_1:=zzx HB.out hx511_1;replace hx511_2:=zzx HB.out hx511_2;replace hx511_3:=zzx HB.out hx511_3;replace hx511_4:=zzx HB.out hx511_4;replace hx511_5:=zzx HB.out hx511_5;have HR511_5:=zzm hi511_5;have HC511_5:=zzm hl511_5;clear hi511_5 hl511_5;replace p511:=eq_true p511;replace q511:=eq_true q511;have ea_:=Option.some.inj (hx510_5.symm.trans hx511_5);injection ea_ with ea_ en_ ec_;subst ea_;subst ec_;clear en_;try go_wp2
                go_meet
                case rel=>exact ⟨_,((rd_T27 l0 x8_2).f1),(by first|rfl|(simp;done)|(simp [*];done)),H',⟨by have:=HK1.out;have:=HK2.out;first|omega|exact Nat.le_refl _⟩,⟨by (with_reducible repeat (first|apply Kd.R_alloc|apply Kd.R_drewN|apply Kd.R_drew));exact HO_3.out⟩,⟨by (with_reducible repeat (first|apply Kd.R_alloc|apply Kd.R_drewN|apply Kd.R_drew));exact HO_507000.out⟩,⟨by (with_reducible repeat (first|apply Kd.R_alloc|apply Kd.R_drewN|apply Kd.R_drew));exact HO_507001.out⟩,⟨by (with_reducible repeat (first|apply zzf|apply zzg|apply zze));exact BK506.out⟩,⟨by (with_reducible repeat (first|apply zzf|apply zzg|apply zze));exact BK508.out⟩,⟨by repeat (first|(with_reducible first|exact HB.out|apply zza|apply zzb|apply zzc|refine zzd ?_ GE506.out|refine zzd ?_ GE508.out)|exact HB.out)⟩⟩
               ·
                rw [if_neg c26] at H;have c26b0:(((rd_T27 l0 x8_2).f2)==((rd_T27 l0 x18_1).f2))=false:=beq_eq_false_iff_ne.mpr c26;have c26b1:(((rd_T27 l0 x8_2).f2) != ((rd_T27 l0 x18_1).f2))=true:=bne_iff_ne.mpr c26;have H':=zzm H;clear H;try go_wp2
                have n0_:=zzm (Kd.R_drew HO_3.out);have n1_:=zzm (Kd.R_drew HO_507000.out);have n2_:=zzm (Kd.R_drew HO_507001.out);have n3_:=zzm (zzg BK506.out);have n4_:=zzm (zzg BK508.out);have n5_:=zzm (zzc HB.out);clear HO_3 HO_507000 HO_507001 BK506 BK508 HB;have HO_3:=n0_;have HO_507000:=n1_;have HO_507001:=n2_;have BK506:=n3_;have BK508:=n4_;have HB:=n5_;clear n0_ n1_ n2_ n3_ n4_ n5_;have p510 : 0≤(x8_2:Int):=zzt;have q510:x8_2 < (l0.length:Int):=zzt;obtain ⟨ad510,A510_5,c510_5,e510,hx510_0,hx510_1,hx510_2,hx510_3,hx510_4,hx510_5,hl510_5,hi510_5⟩:=at_T27 HR0.out x8_2 p510 q510;have hw510_5:=hx510_5;have hw510_4:=hx510_4;have hw510_3:=hx510_3;have hw510_2:=hx510_2;have hw510_1:=hx510_1;have hw510_0:=hx510_0;obtain rfl:ad507=ad510:=(by injection e510);replace hx510_0:=zzx HB.out hx510_0;replace hx510_1:=zzx HB.out hx510_1;replace hx510_2:=zzx HB.out hx510_2;replace hx510_3:=zzx HB.out hx510_3;replace hx510_4:=zzx HB.out hx510_4;replace hx510_5:=zzx HB.out hx510_5;have HR510_5:=zzm hi510_5;have HC510_5:=zzm hl510_5;clear hi510_5 hl510_5;replace p510:=eq_true p510;replace q510:=eq_true q510;refine start_ (n:=8) (S:=fun w'=>w'.cell? ⟨gb508,0,none⟩=some (.bool ((rd_T27 l0 x18_1).f0))∧w'.cell? ⟨gb508,1,none⟩=some (.bool ((rd_T27 l0 x18_1).f1))∧w'.cell? ⟨gb508,2,none⟩=some (.int .i64 ((rd_T27 l0 x18_1).f2))∧w'.cell? ⟨gb508,3,none⟩=some (.int .i64 ((rd_T27 l0 x18_1).f3))∧w'.cell? ⟨gb508,4,none⟩=some (.int .i64 ((rd_T27 l0 x18_1).f4))∧w'.cell? ⟨gb508,5,none⟩=some (.slice A507_5 ((rd_T27 l0 x18_1).f5).length c507_5)∧w'.cell? (ad507.add ((x8_2).toNat * 6))=some (.bool ((rd_T27 l0 x8_2).f0))∧w'.cell? ⟨(ad507.add ((x8_2).toNat * 6)).block,(ad507.add ((x8_2).toNat * 6)).off+1,none⟩=some (.bool ((rd_T27 l0 x8_2).f1))∧w'.cell? ⟨(ad507.add ((x8_2).toNat * 6)).block,(ad507.add ((x8_2).toNat * 6)).off+2,none⟩=some (.int .i64 ((rd_T27 l0 x8_2).f2))∧w'.cell? ⟨(ad507.add ((x8_2).toNat * 6)).block,(ad507.add ((x8_2).toNat * 6)).off+3,none⟩=some (.int .i64 ((rd_T27 l0 x8_2).f3))∧w'.cell? ⟨(ad507.add ((x8_2).toNat * 6)).block,(ad507.add ((x8_2).toNat * 6)).off+4,none⟩=some (.int .i64 ((rd_T27 l0 x8_2).f4))∧w'.cell? ⟨(ad507.add ((x8_2).toNat * 6)).block,(ad507.add ((x8_2).toNat * 6)).off+5,none⟩=some (.slice A510_5 ((rd_T27 l0 x8_2).f5).length c510_5)) (ds:=[]) (zzB 8 0) (by kernel_rfl) rfl rfl ⟨(zzk BK508.out 0).trans rfl,(zzk BK508.out 1).trans rfl,(zzk BK508.out 2).trans rfl,(zzk BK508.out 3).trans rfl,(zzk BK508.out 4).trans rfl,(zzk BK508.out 5).trans rfl,(zzx HB.out hw510_0),(zzx HB.out hw510_1),(zzx HB.out hw510_2),(zzx HB.out hw510_3),(zzx HB.out hw510_4),(zzx HB.out hw510_5)⟩ (fun hHeld=>?_);refine with_tabW impl_UndoneOf.tab13 impl_UndoneOf.bits13 (fun HT_ HW_=>?_);generalize wr.drew=w28 at HO_3 HO_507000 HO_507001 BK506 BK508 HB HR510_5 hx510_0 hx510_1 hx510_2 hx510_3 hx510_4 hx510_5 hHeld ⊢;refine pure_ (i:=0) (N:=some 35) (v:=?_) (a':=?_) (zzB 8 1) rfl rfl (zzA2 HT_.out) (fun _ _ _ h=>h) (Or.inl ⟨by rfl,?_⟩) ?_ ?_;rotate_left
                ·
                 intro w';go_simp;with_reducible rfl
                rotate_left
                ·
                 simp only [Act.put,zzq,zzr,zzs,i64_w,i32_w];rfl
                refine pure_ (i:=1) (N:=some 36) (v:=?_) (a':=?_) (zzB 8 3) rfl rfl (zzA2 HT_.out) (fun _ _ _ h=>h) (Or.inl ⟨by rfl,?_⟩) ?_ ?_;rotate_left
                ·
                 intro w';go_simp;with_reducible rfl
                rotate_left
                ·
                 simp only [Act.put,zzq,zzr,zzs,i64_w,i32_w];rfl
                refine pure_ (i:=2) (N:=some 37) (v:=?_) (a':=?_) (zzB 8 7) rfl rfl (zzA2 HT_.out) (fun _ _ _ h=>h) (Or.inl ⟨by rfl,?_⟩) ?_ ?_;rotate_left
                ·
                 intro w';go_simp;with_reducible rfl
                rotate_left
                ·
                 simp only [Act.put,zzq,zzr,zzs,i64_w,i32_w];rfl
                refine pure_ (i:=3) (N:=some 38) (v:=?_) (a':=?_) (zzB 8 15) rfl rfl (zzA2 HT_.out) (fun _ _ _ h=>h) (Or.inl ⟨by rfl,?_⟩) ?_ ?_;rotate_left
                ·
                 intro w';go_simp;with_reducible rfl
                rotate_left
                ·
                 simp only [Act.put,zzq,zzr,zzs,i64_w,i32_w];rfl
                refine pure_ (i:=5) (N:=some 40) (v:=?_) (a':=?_) (zzB 8 47) rfl rfl (zzA2 HT_.out) (fun _ _ _ h=>h) (Or.inl ⟨by rfl,?_⟩) ?_ ?_;rotate_left
                ·
                 intro w';go_simp;with_reducible rfl
                rotate_left
                ·
                 simp only [Act.put,zzq,zzr,zzs,i64_w,i32_w];rfl
                refine take_ (i:=4) (N:=some 39) (v:=?_) (a':=?_) (zzB 8 63) rfl rfl (take_ofW HT_.out HW_.out (by kernel_rfl)) (fun _ _ _ h=>h) (Or.inl ⟨by rfl,?_⟩) hHeld ?_ ?_;rotate_left
                ·
                 rintro w' ⟨s0,s1,s2,s3,s4,s5,s6,s7,s8,s9,s10,s11⟩;go_simp;with_reducible rfl
                rotate_left
                ·
                 simp only [Act.put,zzq,zzr,zzs,i64_w,i32_w];rfl
                refine take_ (i:=6) (N:=some 41) (v:=?_) (a':=?_) (zzB 8 127) rfl rfl (take_ofW HT_.out HW_.out (by kernel_rfl)) (fun _ _ _ h=>h) (Or.inl ⟨by rfl,?_⟩) hHeld ?_ ?_;rotate_left
                ·
                 rintro w' ⟨s0,s1,s2,s3,s4,s5,s6,s7,s8,s9,s10,s11⟩;go_simp;with_reducible rfl
                rotate_left
                ·
                 simp only [Act.put,zzq,zzr,zzs,i64_w,i32_w];rfl
                refine pure_ (i:=7) (N:=some 42) (v:=?_) (a':=?_) (zzB 8 255) rfl rfl (zzA2 HT_.out) (fun _ _ _ h=>h) (Or.inl ⟨by rfl,?_⟩) ?_ ?_;rotate_left
                ·
                 intro w';go_simp;with_reducible rfl
                rotate_left
                ·
                 simp only [Act.put,zzq,zzr,zzs,i64_w,i32_w];rfl
                refine done_ (done_of HT_.out (by kernel_rfl)) ?_;try go_wp2
                go_roundg k2
                case measure=>have:=HK1.out;have:=HK2.out;omega
                case rel=>exact ⟨(x7_2),(wrap64 (x8_2 - 1)),(by first|rfl|(simp;done)|(simp [*];done)),(by first|rfl|(simp;done)|(simp [*];done)),H',⟨by have:=HK1.out;have:=HK2.out;omega⟩,⟨by (with_reducible repeat (first|apply Kd.R_alloc|apply Kd.R_drewN|apply Kd.R_drew));exact HO_3.out⟩,⟨by (with_reducible repeat (first|apply Kd.R_alloc|apply Kd.R_drewN|apply Kd.R_drew));exact HO_507000.out⟩,⟨by (with_reducible repeat (first|apply Kd.R_alloc|apply Kd.R_drewN|apply Kd.R_drew));exact HO_507001.out⟩,⟨by (with_reducible repeat (first|apply zzf|apply zzg|apply zze));exact BK506.out⟩,⟨by (with_reducible repeat (first|apply zzf|apply zzg|apply zze));exact BK508.out⟩,⟨by repeat (first|(with_reducible first|exact HB.out|apply zza|apply zzb|apply zzc|refine zzd ?_ GE506.out|refine zzd ?_ GE508.out)|exact HB.out)⟩⟩
              ·
               rw [if_neg c25] at H;exact absurd H (by simp)
             ·
              rw [if_neg c24] at H;exact absurd H (by simp)
            ·
             rw [if_neg c23] at H;have c23b0:decide (0≤x8_2)=false:=decide_eq_false c23;clear c23;(first|rw [c23b0]|(simp only [i64_w,i32_w];rw [c23b0])|skip);have H':=zzm H;clear H;go_wp2;go_meet
             case rel=>exact ⟨_,(x7_2),(by first|rfl|(simp;done)|(simp [*];done)),H',⟨by have:=HK1.out;have:=HK2.out;first|omega|exact Nat.le_refl _⟩,⟨by (with_reducible repeat (first|apply Kd.R_alloc|apply Kd.R_drewN|apply Kd.R_drew));exact HO_3.out⟩,⟨by (with_reducible repeat (first|apply Kd.R_alloc|apply Kd.R_drewN|apply Kd.R_drew));exact HO_507000.out⟩,⟨by (with_reducible repeat (first|apply Kd.R_alloc|apply Kd.R_drewN|apply Kd.R_drew));exact HO_507001.out⟩,⟨by (with_reducible repeat (first|apply zzf|apply zzg|apply zze));exact BK506.out⟩,⟨by (with_reducible repeat (first|apply zzf|apply zzg|apply zze));exact BK508.out⟩,⟨by repeat (first|(with_reducible first|exact HB.out|apply zza|apply zzb|apply zzc|refine zzd ?_ GE506.out|refine zzd ?_ GE508.out)|exact HB.out)⟩⟩
         case rest=>
          clear HC18;try clear c1
          try clear c2
          try clear p2
          try clear c3
          try clear c5
          try clear p5
          try clear q5
          try clear hx5
          try clear c6
          try clear p6
          try clear c13
          try clear c13b0
          try clear c14
          try clear c14b0
          try clear c15
          try clear c15b0
          try clear c16
          try clear c16b0
          try clear c17
          try clear c17b0
          try clear c17b1
          try clear c20
          try clear c23
          try clear c23b0
          try clear c24
          try clear c24b0
          try clear c25
          try clear c25b0
          try clear c26
          try clear c26b0
          try clear c26b1
          try clear hcz11_0
          try clear hcz11_1
          try clear hcz21_0
          try clear hcz21_1
          try clear hcz21_2
          try clear hcz21_3
          try clear hcz21_4
          try clear hcz21_5
          try clear hcz22_0
          try clear hcz22_1
          try clear hfz11_0
          try clear hfz11_1
          try clear hfz21_0
          try clear hfz21_1
          try clear hfz21_2
          try clear hfz21_3
          try clear hfz21_4
          try clear hfz21_5
          try clear hfz22_0
          try clear hfz22_1
          try clear hx507_0
          try clear hx507_1
          try clear hx507_2
          try clear hx507_3
          try clear hx507_4
          try clear hx507_5
          try clear hx509_0
          try clear hx510_0
          try clear hx510_1
          try clear hx510_2
          try clear hx510_3
          try clear hx510_4
          try clear hx510_5
          try clear hx511_0
          try clear hx511_1
          try clear hx511_2
          try clear hx511_3
          try clear hx511_4
          try clear hx511_5
          try clear p2
          try clear p5
          try clear p507
          try clear p509
          try clear p510
          try clear p511
          try clear p6
          try clear q5
          try clear q507
          try clear q509
          try clear q510
          try clear q511
          obtain ⟨kq,x7_17,rfl,HA,HJ17,HO_3,HO_507000,HO_507001,BK506,BK508,HB⟩:=hcut;cases kq with
          | zero=>exact absurd HA.out (by simp [impl_UndoneOf.j2])
          | succ kj17=>
           have H:=HA.out;clear HA;simp only [impl_UndoneOf.j2] at H;by_cases c29:x7_17=true
           ·
            subst c29;have H1:((impl_Batch_first.f ((rd_T27 l0 x18_1).f0) ((rd_T27 l0 x18_1).f1) ((rd_T27 l0 x18_1).f2) ((rd_T27 l0 x18_1).f3) ((rd_T27 l0 x18_1).f4) ((rd_T27 l0 x18_1).f5)).bind fun t512=>(if 0≤x18_1 then (if x18_1 < (t503.length:Int) then (if 0≤(rd t503 x18_1) then (if (rd t503 x18_1) < (l0.length:Int) then ((impl_Batch_first.f ((rd_T27 l0 (rd t503 x18_1)).f0) ((rd_T27 l0 (rd t503 x18_1)).f1) ((rd_T27 l0 (rd t503 x18_1)).f2) ((rd_T27 l0 (rd t503 x18_1)).f3) ((rd_T27 l0 (rd t503 x18_1)).f4) ((rd_T27 l0 (rd t503 x18_1)).f5)).bind fun t515=>(if x3_1.length < 5864062014805 then (impl_UndoneOf.l0 kj17 l0 (x3_1 ++ [(⟨((rd_T27 l0 x18_1).f2),t512,t515⟩:S46)]) l0 (l0.length:Int) (wrap64 (x18_1+1)) t500 t503) else (none))) else (none)) else (none)) else (none)) else (none)))=some r:=by rw [if_pos rfl] at H;exact H
            clear H;have H:=H1;clear H1;replace H:=Option.bind_eq_some_iff.mp H;obtain ⟨t512,A300,H⟩:=H;replace H:(if 0≤x18_1 then (if x18_1 < (t503.length:Int) then (if 0≤(rd t503 x18_1) then (if (rd t503 x18_1) < (l0.length:Int) then ((impl_Batch_first.f ((rd_T27 l0 (rd t503 x18_1)).f0) ((rd_T27 l0 (rd t503 x18_1)).f1) ((rd_T27 l0 (rd t503 x18_1)).f2) ((rd_T27 l0 (rd t503 x18_1)).f3) ((rd_T27 l0 (rd t503 x18_1)).f4) ((rd_T27 l0 (rd t503 x18_1)).f5)).bind fun t515=>(if x3_1.length < 5864062014805 then (impl_UndoneOf.l0 kj17 l0 (x3_1 ++ [(⟨((rd_T27 l0 x18_1).f2),t512,t515⟩:S46)]) l0 (l0.length:Int) (wrap64 (x18_1+1)) t500 t503) else (none))) else (none)) else (none)) else (none)) else (none))=some r:=H;have A30:=zzm A300;clear A300;by_cases c31 : 0≤x18_1
            ·
             rw [if_pos c31] at H;have c31b0:decide (0≤x18_1)=true:=decide_eq_true c31;clear c31;by_cases c32:x18_1 < (t503.length:Int)
             ·
              rw [if_pos c32] at H;have c32b0:decide (x18_1 < (t503.length:Int))=true:=decide_eq_true c32;clear c32;by_cases c33 : 0≤(rd t503 x18_1)
              ·
               rw [if_pos c33] at H;have c33b0:decide (0≤(rd t503 x18_1))=true:=decide_eq_true c33;clear c33;by_cases c34:(rd t503 x18_1) < (l0.length:Int)
               ·
                rw [if_pos c34] at H;have c34b0:decide ((rd t503 x18_1) < (l0.length:Int))=true:=decide_eq_true c34;clear c34;replace H:=Option.bind_eq_some_iff.mp H;obtain ⟨t515,A350,H⟩:=H;replace H:(if x3_1.length < 5864062014805 then (impl_UndoneOf.l0 kj17 l0 (x3_1 ++ [(⟨((rd_T27 l0 x18_1).f2),t512,t515⟩:S46)]) l0 (l0.length:Int) (wrap64 (x18_1+1)) t500 t503) else (none))=some r:=H;have A35:=zzm A350;clear A350;by_cases c36:x3_1.length < 5864062014805
                ·
                 rw [if_pos c36] at H;have LMc36:=zzm c36;clear c36;obtain ⟨y516,hy516⟩:∃ y_:List (S46),y_=(x3_1 ++ [(⟨((rd_T27 l0 x18_1).f2),t512,t515⟩:S46)]):=⟨_,rfl⟩;replace H:(impl_UndoneOf.l0 kj17 l0 y516 l0 (l0.length:Int) (wrap64 (x18_1+1)) t500 t503)=some r:=by first|(rw [hy516];with_reducible exact H)|(have H2_:=(Option.bind_some _ _).symm.trans H;rw [hy516];with_reducible exact H2_)|(have H2_:=(Option.bind_some _ _).symm.trans H;with_reducible exact H2_)|with_reducible exact H|(rw [hy516];exact H)|exact H
                 have Ny516:=zzm hy516;clear hy516;have H':=zzm H;clear H;try go_wp2
                 have n0_:=zzm (Kd.R_drew HO_3.out);have n1_:=zzm (Kd.R_drew HO_507000.out);have n2_:=zzm (Kd.R_drew HO_507001.out);have n3_:=zzm (zzg BK506.out);have n4_:=zzm (zzg BK508.out);have n5_:=zzm (zzc HB.out);clear HO_3 HO_507000 HO_507001 BK506 BK508 HB;have HO_3:=n0_;have HO_507000:=n1_;have HO_507001:=n2_;have BK506:=n3_;have BK508:=n4_;have HB:=n5_;clear n0_ n1_ n2_ n3_ n4_ n5_;have p513 : 0≤(x18_1:Int):=zzt;have q513:x18_1 < (t503.length:Int):=zzt;obtain ⟨ad513,e513,hx513_0⟩:=Kd.at_int (Kd.R_reads' HO_507001.out).2.2 x18_1 p513 q513;cases e513;replace p513:=eq_true p513;replace q513:=eq_true q513;have p514 : 0≤((rd t503 x18_1):Int):=zzt;have q514:(rd t503 x18_1) < (l0.length:Int):=zzt;obtain ⟨ad514,A514_5,c514_5,e514,hx514_0,hx514_1,hx514_2,hx514_3,hx514_4,hx514_5,hl514_5,hi514_5⟩:=at_T27 HR0.out (rd t503 x18_1) p514 q514;have hw514_5:=hx514_5;have hw514_4:=hx514_4;have hw514_3:=hx514_3;have hw514_2:=hx514_2;have hw514_1:=hx514_1;have hw514_0:=hx514_0;obtain rfl:ad507=ad514:=(by injection e514);replace hx514_0:=zzx HB.out hx514_0;replace hx514_1:=zzx HB.out hx514_1;replace hx514_2:=zzx HB.out hx514_2;replace hx514_3:=zzx HB.out hx514_3;replace hx514_4:=zzx HB.out hx514_4;replace hx514_5:=zzx HB.out hx514_5;have HR514_5:=zzm hi514_5;have HC514_5:=zzm hl514_5;clear hi514_5 hl514_5;replace p514:=eq_true p514;replace q514:=eq_true q514;refine start_ (n:=18) (S:=fun w'=>w'.cell? ⟨gb508,0,none⟩=some (.bool ((rd_T27 l0 x18_1).f0))∧w'.cell? ⟨gb508,1,none⟩=some (.bool ((rd_T27 l0 x18_1).f1))∧w'.cell? ⟨gb508,2,none⟩=some (.int .i64 ((rd_T27 l0 x18_1).f2))∧w'.cell? ⟨gb508,3,none⟩=some (.int .i64 ((rd_T27 l0 x18_1).f3))∧w'.cell? ⟨gb508,4,none⟩=some (.int .i64 ((rd_T27 l0 x18_1).f4))∧w'.cell? ⟨gb508,5,none⟩=some (.slice A507_5 ((rd_T27 l0 x18_1).f5).length c507_5)∧w'.cell? ⟨gb506,0,none⟩=some (.slice (some ad509) t500.length co10)∧w'.cell? ⟨gb506,1,none⟩=some (.slice (some ad513) t503.length co12)∧w'.cell? (ad513.add (x18_1).toNat)=some (.int .i64 (rd t503 x18_1))∧w'.cell? (ad507.add (((rd t503 x18_1)).toNat * 6))=some (.bool ((rd_T27 l0 (rd t503 x18_1)).f0))∧w'.cell? ⟨(ad507.add (((rd t503 x18_1)).toNat * 6)).block,(ad507.add (((rd t503 x18_1)).toNat * 6)).off+1,none⟩=some (.bool ((rd_T27 l0 (rd t503 x18_1)).f1))∧w'.cell? ⟨(ad507.add (((rd t503 x18_1)).toNat * 6)).block,(ad507.add (((rd t503 x18_1)).toNat * 6)).off+2,none⟩=some (.int .i64 ((rd_T27 l0 (rd t503 x18_1)).f2))∧w'.cell? ⟨(ad507.add (((rd t503 x18_1)).toNat * 6)).block,(ad507.add (((rd t503 x18_1)).toNat * 6)).off+3,none⟩=some (.int .i64 ((rd_T27 l0 (rd t503 x18_1)).f3))∧w'.cell? ⟨(ad507.add (((rd t503 x18_1)).toNat * 6)).block,(ad507.add (((rd t503 x18_1)).toNat * 6)).off+4,none⟩=some (.int .i64 ((rd_T27 l0 (rd t503 x18_1)).f4))∧w'.cell? ⟨(ad507.add (((rd t503 x18_1)).toNat * 6)).block,(ad507.add (((rd t503 x18_1)).toNat * 6)).off+5,none⟩=some (.slice A514_5 ((rd_T27 l0 (rd t503 x18_1)).f5).length c514_5)) (ds:=[15,16]) (zzB 18 0) (by kernel_rfl) rfl rfl ⟨(zzk BK508.out 0).trans rfl,(zzk BK508.out 1).trans rfl,(zzk BK508.out 2).trans rfl,(zzk BK508.out 3).trans rfl,(zzk BK508.out 4).trans rfl,(zzk BK508.out 5).trans rfl,(zzk BK506.out 0).trans rfl,(zzk BK506.out 1).trans rfl,hx513_0,(zzx HB.out hw514_0),(zzx HB.out hw514_1),(zzx HB.out hw514_2),(zzx HB.out hw514_3),(zzx HB.out hw514_4),(zzx HB.out hw514_5)⟩ (fun hHeld=>?_);refine with_tabW impl_UndoneOf.tab16 impl_UndoneOf.bits16 (fun HT_ HW_=>?_);generalize wc.drew=w37 at HO_3 HO_507000 HO_507001 BK506 BK508 HB HR514_5 hx513_0 hx514_0 hx514_1 hx514_2 hx514_3 hx514_4 hx514_5 hHeld ⊢;refine pure_ (i:=0) (N:=some 49) (v:=?_) (a':=?_) (zzB 18 1) rfl rfl (zzA2 HT_.out) (fun _ _ _ h=>h) (Or.inl ⟨by rfl,?_⟩) ?_ ?_;rotate_left
                 ·
                  intro w';go_simp;with_reducible rfl
                 rotate_left
                 ·
                  simp only [Act.put,zzq,zzr,zzs,i64_w,i32_w];rfl
                 refine pure_ (i:=1) (N:=some 50) (v:=?_) (a':=?_) (zzB 18 3) rfl rfl (zzA2 HT_.out) (fun _ _ _ h=>h) (Or.inl ⟨by rfl,?_⟩) ?_ ?_;rotate_left
                 ·
                  intro w';go_simp;with_reducible rfl
                 rotate_left
                 ·
                  simp only [Act.put,zzq,zzr,zzs,i64_w,i32_w];rfl
                 refine pure_ (i:=5) (N:=some 54) (v:=?_) (a':=?_) (zzB 18 35) rfl rfl (zzA2 HT_.out) (fun _ _ _ h=>h) (Or.inl ⟨by rfl,?_⟩) ?_ ?_;rotate_left
                 ·
                  intro w';go_simp;with_reducible rfl
                 rotate_left
                 ·
                  simp only [Act.put,zzq,zzr,zzs,i64_w,i32_w];rfl
                 refine pure_ (i:=6) (N:=some 55) (v:=?_) (a':=?_) (zzB 18 99) rfl rfl (zzA2 HT_.out) (fun _ _ _ h=>h) (Or.inl ⟨by rfl,?_⟩) ?_ ?_;rotate_left
                 ·
                  intro w';go_simp;with_reducible rfl
                 rotate_left
                 ·
                  simp only [Act.put,zzq,zzr,zzs,i64_w,i32_w];rfl
                 refine pure_ (i:=8) (N:=some 57) (v:=?_) (a':=?_) (zzB 18 355) rfl rfl (zzA2 HT_.out) (fun _ _ _ h=>h) (Or.inl ⟨by rfl,?_⟩) ?_ ?_;rotate_left
                 ·
                  intro w';go_simp;with_reducible rfl
                 rotate_left
                 ·
                  simp only [Act.put,zzq,zzr,zzs,i64_w,i32_w];rfl
                 refine take_ (i:=2) (N:=some 51) (v:=?_) (a':=?_) (zzB 18 359) rfl rfl (take_ofW HT_.out HW_.out (by kernel_rfl)) (fun _ _ _ h=>h) (Or.inl ⟨by rfl,?_⟩) hHeld ?_ ?_;rotate_left
                 ·
                  rintro w' ⟨s0,s1,s2,s3,s4,s5,s6,s7,s8,s9,s10,s11,s12,s13,s14⟩;go_simp;with_reducible rfl
                 rotate_left
                 ·
                  simp only [Act.put,zzq,zzr,zzs,i64_w,i32_w];rfl
                 refine take_ (i:=3) (N:=some 52) (v:=?_) (a':=?_) (zzB 18 367) rfl rfl (take_ofW HT_.out HW_.out (by kernel_rfl)) (fun _ _ _ h=>h) (Or.inl ⟨by rfl,?_⟩) hHeld ?_ ?_;rotate_left
                 ·
                  rintro w' ⟨s0,s1,s2,s3,s4,s5,s6,s7,s8,s9,s10,s11,s12,s13,s14⟩;go_simp;with_reducible rfl
                 rotate_left
                 ·
                  simp only [Act.put,zzq,zzr,zzs,i64_w,i32_w];rfl
                 refine take_ (i:=7) (N:=some 56) (v:=?_) (a':=?_) (zzB 18 495) rfl rfl (take_ofW HT_.out HW_.out (by kernel_rfl)) (fun _ _ _ h=>h) (Or.inl ⟨by rfl,?_⟩) hHeld ?_ ?_;rotate_left
                 ·
                  rintro w' ⟨s0,s1,s2,s3,s4,s5,s6,s7,s8,s9,s10,s11,s12,s13,s14⟩;go_simp;with_reducible rfl
                 rotate_left
                 ·
                  simp only [Act.put,zzq,zzr,zzs,i64_w,i32_w];rfl
                 refine pure_ (i:=9) (N:=some 58) (v:=?_) (a':=?_) (zzB 18 1007) rfl rfl (zzA2 HT_.out) (fun _ _ _ h=>h) (Or.inl ⟨by rfl,?_⟩) ?_ ?_;rotate_left
                 ·
                  intro w';go_simp;with_reducible rfl
                 rotate_left
                 ·
                  simp only [Act.put,zzq,zzr,zzs,i64_w,i32_w];rfl
                 refine take_ (i:=10) (N:=some 59) (v:=?_) (a':=?_) (zzB 18 2031) rfl rfl (take_ofW HT_.out HW_.out (by kernel_rfl)) (fun _ _ _ h=>h) (Or.inl ⟨by rfl,?_⟩) hHeld ?_ ?_;rotate_left
                 ·
                  rintro w' ⟨s0,s1,s2,s3,s4,s5,s6,s7,s8,s9,s10,s11,s12,s13,s14⟩;go_simp;with_reducible rfl
                 rotate_left
                 ·
                  simp only [Act.put,zzq,zzr,zzs,i64_w,i32_w];rfl
                 refine pure_ (i:=11) (N:=some 60) (v:=?_) (a':=?_) (zzB 18 4079) rfl rfl (zzA2 HT_.out) (fun _ _ _ h=>h) (Or.inl ⟨by rfl,?_⟩) ?_ ?_;rotate_left
                 ·
                  intro w';go_simp;with_reducible rfl
                 rotate_left
                 ·
                  simp only [Act.put,zzq,zzr,zzs,i64_w,i32_w];rfl
                 refine take_ (i:=12) (N:=some 61) (v:=?_) (a':=?_) (zzB 18 8175) rfl rfl (take_ofW HT_.out HW_.out (by kernel_rfl)) (fun _ _ _ h=>h) (Or.inl ⟨by rfl,?_⟩) hHeld ?_ ?_;rotate_left
                 ·
                  rintro w' ⟨s0,s1,s2,s3,s4,s5,s6,s7,s8,s9,s10,s11,s12,s13,s14⟩;go_simp;with_reducible rfl
                 rotate_left
                 ·
                  simp only [Act.put,zzq,zzr,zzs,i64_w,i32_w];rfl
                 refine one_ (i:=4) (N:=some 53) (zzB 18 8191) rfl rfl (one_of HT_.out (by kernel_rfl)) (by decide) (fun K hK=>?_);refine goes_ Try.func63 (by kernel_rfl) rfl #[.agg #[.bool ((rd_T27 l0 x18_1).f0),.bool ((rd_T27 l0 x18_1).f1),.int .i64 ((rd_T27 l0 x18_1).f2),.int .i64 ((rd_T27 l0 x18_1).f3),.int .i64 ((rd_T27 l0 x18_1).f4),.slice A507_5 ((rd_T27 l0 x18_1).f5).length c507_5]] (by rfl) rfl rfl zzM2 ?_;with_reducible refine (impl_Batch_first.calls ((rd_T27 l0 x18_1).f0) ((rd_T27 l0 x18_1).f1) ((rd_T27 l0 x18_1).f2) ((rd_T27 l0 x18_1).f3) ((rd_T27 l0 x18_1).f4) _ _ ((rd_T27 l0 x18_1).f5) t512 _ ?side1 ?side2 A30.out).mono ?_;(case side1=>repeat (first|exact (Kd.C_below HR507_5.out HB.out)|(with_reducible refine Kd.C_alloc ?_ _)|(with_reducible refine Kd.C_drewN ?_ _)|(with_reducible refine Kd.C_drew ?_)));(case side2=>exact HC507_5.out);rintro e w38 ⟨rfl,hb⟩;have HS8_:=(hb.cell (zzn _ _ (hHeld.2.2.2.2.2.2.2.2.1))).trans (hHeld.2.2.2.2.2.2.2.2.1);refine ⟨_,rfl,?_⟩;have n0_:=zzm (Kd.R_below (by (with_reducible repeat (first|apply Kd.R_alloc|apply Kd.R_drewN|apply Kd.R_drew));exact HO_3.out) hb);have n1_:=zzm (Kd.R_below (by (with_reducible repeat (first|apply Kd.R_alloc|apply Kd.R_drewN|apply Kd.R_drew));exact HO_507000.out) hb);have n2_:=zzm (Kd.R_below (by (with_reducible repeat (first|apply Kd.R_alloc|apply Kd.R_drewN|apply Kd.R_drew));exact HO_507001.out) hb);have n3_:=zzm (zzh (g:=gb506) (o:=.cells #[.slice (some ad509) t500.length co10,.slice (some ad513) t503.length co12] 72 (0,0)) (zzE BK506.out) hb);have n4_:=zzm (zzh (g:=gb508) (o:=.cells #[.bool ((rd_T27 l0 x18_1).f0),.bool ((rd_T27 l0 x18_1).f1),.int .i64 ((rd_T27 l0 x18_1).f2),.int .i64 ((rd_T27 l0 x18_1).f3),.int .i64 ((rd_T27 l0 x18_1).f4),.slice A507_5 ((rd_T27 l0 x18_1).f5).length c507_5] 27 (0,0)) (zzE BK508.out) hb);have n5_:=zzm (zzp zzh2 hb);clear HO_3 HO_507000 HO_507001 BK506 BK508 HB;have HO_3:=n0_;have HO_507000:=n1_;have HO_507001:=n2_;have BK506:=n3_;have BK508:=n4_;have HB:=n5_;clear n0_ n1_ n2_ n3_ n4_ n5_;(try clear hb);(try clear hb2);(try clear hk);(try clear hi);refine hK.out _ _ ⟨(zzk BK508.out 0).trans rfl,(zzk BK508.out 1).trans rfl,(zzk BK508.out 2).trans rfl,(zzk BK508.out 3).trans rfl,(zzk BK508.out 4).trans rfl,(zzk BK508.out 5).trans rfl,(zzk BK506.out 0).trans rfl,(zzk BK506.out 1).trans rfl,HS8_,(zzx HB.out hw514_0),(zzx HB.out hw514_1),(zzx HB.out hw514_2),(zzx HB.out hw514_3),(zzx HB.out hw514_4),(zzx HB.out hw514_5)⟩ (fun hHeld=>?_);clear hK K;refine norm_ (a':=?_) ?_ ?_;rotate_left
                 ·
                  show Act.put _ (some 53) _ = _;simp only [Act.put,zzq,zzr,zzs,i64_w,i32_w];rfl
                 refine one_ (i:=13) (N:=some 62) (zzB 18 16383) rfl rfl (one_of HT_.out (by kernel_rfl)) (by decide) (fun K hK=>?_);refine goes_ Try.func63 (by kernel_rfl) rfl #[.agg #[.bool ((rd_T27 l0 (rd t503 x18_1)).f0),.bool ((rd_T27 l0 (rd t503 x18_1)).f1),.int .i64 ((rd_T27 l0 (rd t503 x18_1)).f2),.int .i64 ((rd_T27 l0 (rd t503 x18_1)).f3),.int .i64 ((rd_T27 l0 (rd t503 x18_1)).f4),.slice A514_5 ((rd_T27 l0 (rd t503 x18_1)).f5).length c514_5]] (by rfl) rfl rfl zzM2 ?_;with_reducible refine (impl_Batch_first.calls ((rd_T27 l0 (rd t503 x18_1)).f0) ((rd_T27 l0 (rd t503 x18_1)).f1) ((rd_T27 l0 (rd t503 x18_1)).f2) ((rd_T27 l0 (rd t503 x18_1)).f3) ((rd_T27 l0 (rd t503 x18_1)).f4) _ _ ((rd_T27 l0 (rd t503 x18_1)).f5) t515 _ ?side1 ?side2 A35.out).mono ?_;(case side1=>repeat (first|exact (Kd.C_below HR514_5.out HB.out)|(with_reducible refine Kd.C_alloc ?_ _)|(with_reducible refine Kd.C_drewN ?_ _)|(with_reducible refine Kd.C_drew ?_)));(case side2=>exact HC514_5.out);rintro e w39 ⟨rfl,hb⟩;have HS8_:=(hb.cell (zzn _ _ (hHeld.2.2.2.2.2.2.2.2.1))).trans (hHeld.2.2.2.2.2.2.2.2.1);refine ⟨_,rfl,?_⟩;have n0_:=zzm (Kd.R_below (by (with_reducible repeat (first|apply Kd.R_alloc|apply Kd.R_drewN|apply Kd.R_drew));exact HO_3.out) hb);have n1_:=zzm (Kd.R_below (by (with_reducible repeat (first|apply Kd.R_alloc|apply Kd.R_drewN|apply Kd.R_drew));exact HO_507000.out) hb);have n2_:=zzm (Kd.R_below (by (with_reducible repeat (first|apply Kd.R_alloc|apply Kd.R_drewN|apply Kd.R_drew));exact HO_507001.out) hb);have n3_:=zzm (zzh (g:=gb506) (o:=.cells #[.slice (some ad509) t500.length co10,.slice (some ad513) t503.length co12] 72 (0,0)) (zzE BK506.out) hb);have n4_:=zzm (zzh (g:=gb508) (o:=.cells #[.bool ((rd_T27 l0 x18_1).f0),.bool ((rd_T27 l0 x18_1).f1),.int .i64 ((rd_T27 l0 x18_1).f2),.int .i64 ((rd_T27 l0 x18_1).f3),.int .i64 ((rd_T27 l0 x18_1).f4),.slice A507_5 ((rd_T27 l0 x18_1).f5).length c507_5] 27 (0,0)) (zzE BK508.out) hb);have n5_:=zzm (zzp zzh2 hb);clear HO_3 HO_507000 HO_507001 BK506 BK508 HB;have HO_3:=n0_;have HO_507000:=n1_;have HO_507001:=n2_;have BK506:=n3_;have BK508:=n4_;have HB:=n5_;clear n0_ n1_ n2_ n3_ n4_ n5_;(try clear hb);(try clear hb2);(try clear hk);(try clear hi);refine hK.out _ _ ⟨(zzk BK508.out 0).trans rfl,(zzk BK508.out 1).trans rfl,(zzk BK508.out 2).trans rfl,(zzk BK508.out 3).trans rfl,(zzk BK508.out 4).trans rfl,(zzk BK508.out 5).trans rfl,(zzk BK506.out 0).trans rfl,(zzk BK506.out 1).trans rfl,HS8_,(zzx HB.out hw514_0),(zzx HB.out hw514_1),(zzx HB.out hw514_2),(zzx HB.out hw514_3),(zzx HB.out hw514_4),(zzx HB.out hw514_5)⟩ (fun hHeld=>?_);clear hK K;refine norm_ (a':=?_) ?_ ?_;rotate_left
                 ·
                  show Act.put _ (some 62) _ = _;simp only [Act.put,zzq,zzr,zzs,i64_w,i32_w];rfl
                 refine pure_ (i:=14) (N:=some 63) (v:=?_) (a':=?_) (zzB 18 32767) rfl rfl (zzA2 HT_.out) (fun _ _ _ h=>h) (Or.inl ⟨by rfl,?_⟩) ?_ ?_;rotate_left
                 ·
                  intro w';go_simp;with_reducible rfl
                 rotate_left
                 ·
                  simp only [Act.put,zzq,zzr,zzs,i64_w,i32_w];rfl
                 refine last_ (i:=15) (N:=some 64) (zzB 18 65535) rfl rfl (one_of HT_.out (by kernel_rfl)) (by decide) (fun K hK=>?_);refine value_ (w1:=?_) (v:=?_) (by rfl) rfl ?_ ?_;rotate_left 2
                 ·
                  go_simp;constructor
                  ·
                   rfl
                  ·
                   rfl
                 refine hK.out _ _ ?_;clear hK K;refine norm_ (a':=?_) ?_ ?_;rotate_left
                 ·
                  show Act.put _ (some 64) _ = _;simp only [Act.put,zzq,zzr,zzs,i64_w,i32_w];rfl
                 refine last_ (i:=16) (N:=some 65) (zzB 18 131071) rfl rfl (one_of HT_.out (by kernel_rfl)) (by decide) (fun K hK=>?_);refine Kd.R_append_step k46 (w0:=w) w.heap.size (by rfl) (.tmp 49) (.tmp 64) 42 46 (.agg #[(.int .i64 0),(.int .i64 0),(.int .i64 0)]) 24 rfl Try.underlying42 info46 rfl (by decide) (by omega) u3 x3_1 (⟨((rd_T27 l0 x18_1).f2),t512,t515⟩:S46) [.int .i64 ((rd_T27 l0 x18_1).f2),.int .i64 t512,.int .i64 t515] (fun _=>True) (fun _=>False) rfl rfl ?aP (fun _ hk=>hk.elim) ?aF ?aO ?aB ?aS ?aL ?_;(case aP=>exact k46_mkM _ _ _ (⟨((rd_T27 l0 x18_1).f2),t512,t515⟩:S46));(case aB=>exact zzh2);(case aF=>exact (fun _ _=>trivial));(case aO=>exact (by (with_reducible repeat (first|apply Kd.R_alloc|apply Kd.R_drewN|apply Kd.R_drew));exact HO_3.out));(case aS=>exact (zzo zzh2));(case aL=>have:=LMc36.out;omega);intro v517 w40 ho hb hg hat;rw [← Ny516.out] at ho;have n0_:=zzm (Kd.R_over' (by (with_reducible repeat (first|apply Kd.R_alloc|apply Kd.R_drewN|apply Kd.R_drew));exact HO_507000.out) (Kd.R_typed (by (with_reducible repeat (first|apply Kd.R_alloc|apply Kd.R_drewN|apply Kd.R_drew));exact HO_3.out)) (by decide) hg);have n1_:=zzm (Kd.R_over' (by (with_reducible repeat (first|apply Kd.R_alloc|apply Kd.R_drewN|apply Kd.R_drew));exact HO_507001.out) (Kd.R_typed (by (with_reducible repeat (first|apply Kd.R_alloc|apply Kd.R_drewN|apply Kd.R_drew));exact HO_3.out)) (by decide) hg);have n2_:=zzm (blk_grown (g:=gb506) (o:=.cells #[.slice (some ad509) t500.length co10,.slice (some ad513) t503.length co12] 72 (0,0)) (zzE BK506.out) hg (Kd.R_ne HO_3.out BK506.out (by decide)));have n3_:=zzm (blk_grown (g:=gb508) (o:=.cells #[.bool ((rd_T27 l0 x18_1).f0),.bool ((rd_T27 l0 x18_1).f1),.int .i64 ((rd_T27 l0 x18_1).f2),.int .i64 ((rd_T27 l0 x18_1).f3),.int .i64 ((rd_T27 l0 x18_1).f4),.slice A507_5 ((rd_T27 l0 x18_1).f5).length c507_5] 27 (0,0)) (zzE BK508.out) hg (Kd.R_ne HO_3.out BK508.out (by decide)));have n4_:=zzm (hb);have n5_:=zzm (ho);clear HO_507000 HO_507001 BK506 BK508 HB HO_3;have HO_507000:=n0_;have HO_507001:=n1_;have BK506:=n2_;have BK508:=n3_;have HB:=n4_;have HO518:=n5_;clear n0_ n1_ n2_ n3_ n4_ n5_;clear ho hb hg hat;refine hK.out _ _ ?_;clear hK K;refine norm_ (a':=?_) ?_ ?_;rotate_left
                 ·
                  show Act.put _ (some 65) _ = _;simp only [Act.put,zzq,zzr,zzs,i64_w,i32_w];rfl
                 refine pure_ (i:=17) (N:=some 3) (v:=?_) (a':=?_) (zzB 18 262143) rfl rfl (zzA2 HT_.out) (fun _ _ _ h=>h) (Or.inl ⟨by rfl,?_⟩) ?_ ?_;rotate_left
                 ·
                  intro w';go_simp;with_reducible rfl
                 rotate_left
                 ·
                  simp only [Act.put,zzq,zzr,zzs,i64_w,i32_w];rfl
                 refine done_ (done_of HT_.out (by kernel_rfl)) ?_;try go_wp2
                 go_roundg kj17
                 case measure=>have:=HK1.out;have:=HJ17.out;omega
                 case rel=>exact ⟨(y516),(wrap64 (x18_1+1)),(by first|rfl|(simp;done)|(simp [*];done)),H',⟨by have:=HK1.out;have:=HJ17.out;omega⟩,⟨by (with_reducible repeat (first|apply Kd.R_alloc|apply Kd.R_drewN|apply Kd.R_drew));exact HO518.out⟩,⟨by (with_reducible repeat (first|apply Kd.R_alloc|apply Kd.R_drewN|apply Kd.R_drew));exact HO_507000.out⟩,⟨by (with_reducible repeat (first|apply Kd.R_alloc|apply Kd.R_drewN|apply Kd.R_drew));exact HO_507001.out⟩,⟨by (with_reducible repeat (first|apply zzf|apply zzg|apply zze));exact BK506.out⟩,⟨by repeat (first|(with_reducible first|exact HB.out|apply zza|apply zzb|apply zzc|refine zzd ?_ GE506.out|refine zzd ?_ GE508.out)|exact HB.out)⟩⟩
                ·
                 rw [if_neg c36] at H;exact absurd H (by simp)
               ·
                rw [if_neg c34] at H;exact absurd H (by simp)
              ·
               rw [if_neg c33] at H;exact absurd H (by simp)
             ·
              rw [if_neg c32] at H;exact absurd H (by simp)
            ·
             rw [if_neg c31] at H;exact absurd H (by simp)
           ·
            replace c29:=Bool.eq_false_iff.mpr c29;subst c29;have H1:(impl_UndoneOf.l0 kj17 l0 x3_1 l0 (l0.length:Int) (wrap64 (x18_1+1)) t500 t503)=some r:=by rw [if_neg (show ¬ (false=true) by decide)] at H;exact H
            clear H;have H:=H1;clear H1;have H':=zzm H;clear H;go_wp2;go_roundg kj17
            case measure=>have:=HK1.out;have:=HJ17.out;omega
            case rel=>exact ⟨(x3_1),(wrap64 (x18_1+1)),(by first|rfl|(simp;done)|(simp [*];done)),H',⟨by have:=HK1.out;have:=HJ17.out;omega⟩,⟨by (with_reducible repeat (first|apply Kd.R_alloc|apply Kd.R_drewN|apply Kd.R_drew));exact HO_3.out⟩,⟨by (with_reducible repeat (first|apply Kd.R_alloc|apply Kd.R_drewN|apply Kd.R_drew));exact HO_507000.out⟩,⟨by (with_reducible repeat (first|apply Kd.R_alloc|apply Kd.R_drewN|apply Kd.R_drew));exact HO_507001.out⟩,⟨by (with_reducible repeat (first|apply zzf|apply zzg|apply zze));exact BK506.out⟩,⟨by repeat (first|(with_reducible first|exact HB.out|apply zza|apply zzb|apply zzc|refine zzd ?_ GE506.out|refine zzd ?_ GE508.out)|exact HB.out)⟩⟩
        ·
         rw [if_neg c17] at H;have c17b0:((rd t500 x18_1)==2)=false:=beq_eq_false_iff_ne.mpr c17;have c17b1:((rd t500 x18_1) != 2)=true:=bne_iff_ne.mpr c17;have H':=zzm H;clear H;have p507 : 0≤(x18_1:Int):=zzt;have q507:x18_1 < (l0.length:Int):=zzt;obtain ⟨ad507,A507_5,c507_5,e507,hx507_0,hx507_1,hx507_2,hx507_3,hx507_4,hx507_5,hl507_5,hi507_5⟩:=at_T27 HR0.out x18_1 p507 q507;cases e507;replace hx507_0:=zzx HB.out hx507_0;replace hx507_1:=zzx HB.out hx507_1;replace hx507_2:=zzx HB.out hx507_2;replace hx507_3:=zzx HB.out hx507_3;replace hx507_4:=zzx HB.out hx507_4;replace hx507_5:=zzx HB.out hx507_5;have HR507_5:=zzm hi507_5;have HC507_5:=zzm hl507_5;clear hi507_5 hl507_5;replace p507:=eq_true p507;replace q507:=eq_true q507;go_wp2_with (first|((with_reducible refine gate_dst (N:=6) rfl ?_);refine box_event ?hg (N:=6) ?hd (cs:=#[.bool false,.bool false,.int .i64 0,.int .i64 0,.int .i64 0,.slice none 0 0]) (t:=27) ?hr ?_;(case hd=>rfl);(case hg=>rfl);(case hr=>first|(go_simp;done)|(go_simp;rfl));intro gb508 hg w41 hbox hb;have n0_:=zzm (Kd.R_below (by (with_reducible repeat (first|apply Kd.R_alloc|apply Kd.R_drewN|apply Kd.R_drew));exact HO_3.out) hb);have n1_:=zzm (Kd.R_below (by (with_reducible repeat (first|apply Kd.R_alloc|apply Kd.R_drewN|apply Kd.R_drew));exact HO_507000.out) hb);have n2_:=zzm (Kd.R_below (by (with_reducible repeat (first|apply Kd.R_alloc|apply Kd.R_drewN|apply Kd.R_drew));exact HO_507001.out) hb);have n3_:=zzm (zzh (g:=gb506) (o:=.cells #[.slice Ao10 t500.length co10,.slice Ao12 t503.length co12] 72 (0,0)) (zzE BK506.out) hb);have n4_:=zzm (zzp zzh2 hb);have n5_:=zzm (hbox);have n6_:=zzm ((by rw [hg];exact (zzo zzh2):w.heap.size≤gb508));have n7_:=zzm ((by rw [hg];exact (zzo zzh2):w.heap.size≤gb508));have n8_:=zzm ((by rw [hg];exact Nat.ne_of_lt (blk_lt (g:=gb506) (o:=.cells #[.slice Ao10 t500.length co10,.slice Ao12 t503.length co12] 72 (0,0)) (zzE BK506.out)):gb506≠gb508));have n9_:=zzm ((by rw [hg];exact Nat.ne_of_gt (blk_lt (g:=gb506) (o:=.cells #[.slice Ao10 t500.length co10,.slice Ao12 t503.length co12] 72 (0,0)) (zzE BK506.out)):gb508≠gb506));clear HO_3 HO_507000 HO_507001 BK506 HB;have HO_3:=n0_;have HO_507000:=n1_;have HO_507001:=n2_;have BK506:=n3_;have HB:=n4_;have BK508:=n5_;have GW508:=n6_;have GE508:=n7_;have NB506_508:=n8_;have NB508_506:=n9_;clear n0_ n1_ n2_ n3_ n4_ n5_ n6_ n7_ n8_ n9_ hb hbox hg;have hnb42:=NB508_506.out;have hnc42:=NB506_508.out;obtain ⟨hcz43_0,hcz43_1,hcz43_2,hcz43_3,hcz43_4,hcz43_5,hfz43_0,hfz43_1,hfz43_2,hfz43_3,hfz43_4,hfz43_5⟩:=zzc6 BK508.out;obtain ⟨hcz44_0,hcz44_1,hfz44_0,hfz44_1⟩:=zzc2 BK506.out;have p509 : 0≤(x18_1:Int):=zzt;have q509:x18_1 < (t500.length:Int):=zzt;obtain ⟨ad509,e509,hx509_0⟩:=Kd.at_int (Kd.R_reads' HO_507000.out).2.2 x18_1 p509 q509;cases e509;have hn509_0:ad509.block≠gb508:=Kd.own_blk (Kd.R_ne HO_507000.out BK508.out (by decide));have hn509_1:ad509.block≠gb508:=Kd.own_blk (Kd.R_ne HO_507000.out BK508.out (by decide));have hn509_2:ad509.block≠gb508:=Kd.own_blk (Kd.R_ne HO_507000.out BK508.out (by decide));have hn509_3:ad509.block≠gb508:=Kd.own_blk (Kd.R_ne HO_507000.out BK508.out (by decide));have hn509_4:ad509.block≠gb508:=Kd.own_blk (Kd.R_ne HO_507000.out BK508.out (by decide));have hn509_5:ad509.block≠gb508:=Kd.own_blk (Kd.R_ne HO_507000.out BK508.out (by decide));replace hx509_0:=(cell_far (p:=⟨gb508,0,none⟩) (by first|(rw [add_block];exact hn509_0)|(show (Addr.add _ _).block≠_;rw [add_block];exact hn509_0)|exact hn509_0) (.bool ((rd_T27 l0 x18_1).f0))).trans hx509_0;replace hx509_0:=(cell_far (p:=⟨gb508,1,none⟩) (by first|(rw [add_block];exact hn509_1)|(show (Addr.add _ _).block≠_;rw [add_block];exact hn509_1)|exact hn509_1) (.bool ((rd_T27 l0 x18_1).f1))).trans hx509_0;replace hx509_0:=(cell_far (p:=⟨gb508,2,none⟩) (by first|(rw [add_block];exact hn509_2)|(show (Addr.add _ _).block≠_;rw [add_block];exact hn509_2)|exact hn509_2) (.int .i64 ((rd_T27 l0 x18_1).f2))).trans hx509_0;replace hx509_0:=(cell_far (p:=⟨gb508,3,none⟩) (by first|(rw [add_block];exact hn509_3)|(show (Addr.add _ _).block≠_;rw [add_block];exact hn509_3)|exact hn509_3) (.int .i64 ((rd_T27 l0 x18_1).f3))).trans hx509_0;replace hx509_0:=(cell_far (p:=⟨gb508,4,none⟩) (by first|(rw [add_block];exact hn509_4)|(show (Addr.add _ _).block≠_;rw [add_block];exact hn509_4)|exact hn509_4) (.int .i64 ((rd_T27 l0 x18_1).f4))).trans hx509_0;replace hx509_0:=(cell_far (p:=⟨gb508,5,none⟩) (by first|(rw [add_block];exact hn509_5)|(show (Addr.add _ _).block≠_;rw [add_block];exact hn509_5)|exact hn509_5) (.slice A507_5 ((rd_T27 l0 x18_1).f5).length c507_5)).trans hx509_0;clear hn509_0 hn509_1 hn509_2 hn509_3 hn509_4 hn509_5;replace p509:=eq_true p509;replace q509:=eq_true q509));go_roundg k1
         case measure=>have:=HK1.out;omega
         case rel=>exact ⟨(x3_1),(wrap64 (x18_1+1)),(by first|rfl|(simp;done)|(simp [*];done)),H',⟨by have:=HK1.out;omega⟩,⟨by (with_reducible repeat (first|apply Kd.R_alloc|apply Kd.R_drewN|apply Kd.R_drew));exact Kd.R_mono (Kd.R_far (p:=⟨gb508,5,none⟩) (Kd.R_far (p:=⟨gb508,4,none⟩) (Kd.R_far (p:=⟨gb508,3,none⟩) (Kd.R_far (p:=⟨gb508,2,none⟩) (Kd.R_far (p:=⟨gb508,1,none⟩) (Kd.R_far (p:=⟨gb508,0,none⟩) (Kd.R_types HO_3.out BK508.out (by decide)) (fun _ hk=>hk.2) (.bool ((rd_T27 l0 x18_1).f0))) (fun _ hk=>hk.2) (.bool ((rd_T27 l0 x18_1).f1))) (fun _ hk=>hk.2) (.int .i64 ((rd_T27 l0 x18_1).f2))) (fun _ hk=>hk.2) (.int .i64 ((rd_T27 l0 x18_1).f3))) (fun _ hk=>hk.2) (.int .i64 ((rd_T27 l0 x18_1).f4))) (fun _ hk=>hk.2) (.slice A507_5 ((rd_T27 l0 x18_1).f5).length c507_5)) (fun _ hk=>trivial)⟩,⟨by (with_reducible repeat (first|apply Kd.R_alloc|apply Kd.R_drewN|apply Kd.R_drew));exact Kd.R_mono (Kd.R_far (p:=⟨gb508,5,none⟩) (Kd.R_far (p:=⟨gb508,4,none⟩) (Kd.R_far (p:=⟨gb508,3,none⟩) (Kd.R_far (p:=⟨gb508,2,none⟩) (Kd.R_far (p:=⟨gb508,1,none⟩) (Kd.R_far (p:=⟨gb508,0,none⟩) (Kd.R_types HO_507000.out BK508.out (by decide)) (fun _ hk=>hk.2) (.bool ((rd_T27 l0 x18_1).f0))) (fun _ hk=>hk.2) (.bool ((rd_T27 l0 x18_1).f1))) (fun _ hk=>hk.2) (.int .i64 ((rd_T27 l0 x18_1).f2))) (fun _ hk=>hk.2) (.int .i64 ((rd_T27 l0 x18_1).f3))) (fun _ hk=>hk.2) (.int .i64 ((rd_T27 l0 x18_1).f4))) (fun _ hk=>hk.2) (.slice A507_5 ((rd_T27 l0 x18_1).f5).length c507_5)) (fun _ hk=>trivial)⟩,⟨by (with_reducible repeat (first|apply Kd.R_alloc|apply Kd.R_drewN|apply Kd.R_drew));exact Kd.R_mono (Kd.R_far (p:=⟨gb508,5,none⟩) (Kd.R_far (p:=⟨gb508,4,none⟩) (Kd.R_far (p:=⟨gb508,3,none⟩) (Kd.R_far (p:=⟨gb508,2,none⟩) (Kd.R_far (p:=⟨gb508,1,none⟩) (Kd.R_far (p:=⟨gb508,0,none⟩) (Kd.R_types HO_507001.out BK508.out (by decide)) (fun _ hk=>hk.2) (.bool ((rd_T27 l0 x18_1).f0))) (fun _ hk=>hk.2) (.bool ((rd_T27 l0 x18_1).f1))) (fun _ hk=>hk.2) (.int .i64 ((rd_T27 l0 x18_1).f2))) (fun _ hk=>hk.2) (.int .i64 ((rd_T27 l0 x18_1).f3))) (fun _ hk=>hk.2) (.int .i64 ((rd_T27 l0 x18_1).f4))) (fun _ hk=>hk.2) (.slice A507_5 ((rd_T27 l0 x18_1).f5).length c507_5)) (fun _ hk=>trivial)⟩,⟨by (with_reducible repeat (first|apply zzf|apply zzg|apply zze));refine zzj ?_ NB506_508.out _;(with_reducible repeat (first|apply zzf|apply zzg|apply zze));refine zzj ?_ NB506_508.out _;(with_reducible repeat (first|apply zzf|apply zzg|apply zze));refine zzj ?_ NB506_508.out _;(with_reducible repeat (first|apply zzf|apply zzg|apply zze));refine zzj ?_ NB506_508.out _;(with_reducible repeat (first|apply zzf|apply zzg|apply zze));refine zzj ?_ NB506_508.out _;(with_reducible repeat (first|apply zzf|apply zzg|apply zze));refine zzj ?_ NB506_508.out _;(with_reducible repeat (first|apply zzf|apply zzg|apply zze));exact BK506.out⟩,⟨by repeat (first|(with_reducible first|exact HB.out|apply zza|apply zzb|apply zzc|refine zzd ?_ GE506.out|refine zzd ?_ GE508.out)|exact HB.out)⟩⟩
       ·
        rw [if_neg c16] at H;exact absurd H (by simp)
      ·
       rw [if_neg c15] at H;exact absurd H (by simp)
     ·
      rw [if_neg c14] at H;exact absurd H (by simp)
    ·
     rw [if_neg c13] at H;have c13b0:decide (x18_1 < (l0.length:Int))=false:=decide_eq_false c13;clear c13;obtain rfl:=Option.some.inj H;go_wp2;go_ret;exact ⟨_,by first|rfl|(simp [errW_none,errW_some] <;> rfl)|(simp [*,errW_none,errW_some] <;> rfl),by (with_reducible repeat (first|apply Kd.R_alloc|apply Kd.R_drewN|apply Kd.R_drew));exact HO_3.out,by repeat (first|(with_reducible first|exact HB.out|apply zza|apply zzb|apply zzc|refine zzd ?_ GE506.out)|exact HB.out)⟩
 ·
  replace c3:=Bool.eq_false_iff.mpr c3;subst c3;have H1:(some y496)=some r:=by rw [if_neg (show ¬ (false=true) by decide)] at H;exact H
  clear H;have H:=H1;clear H1;obtain rfl:=Option.some.inj H;go_enter Try.func32,Try.ntmps32;go_wp2_with (first|((with_reducible refine gate_dst (N:=9) rfl ?_);refine Kd.R_lit k46 _ 46 ?hg (N:=9) ?hd (xs:=([]:List (S46))) (inner:=[]) (ok:=fun _=>True) (okp:=fun _=>True) ?hr ?hp (fun _ hk=>hk) trivial (Below.refl _ _) (Nat.le_refl _) (by simp) ?_;(case hd=>rfl);(case hg=>rfl);(case hr=>first|(go_simp;done)|(go_simp;rfl));(case hp=>exact (Reps.none _ _));intro v497 w45 ho46 hb hg_ hnew_;clear hg_ hnew_;(first|rw [← Ny496.out] at ho46|(simp only [Int.reduceToNat] at ho46;rw [← Ny496.out] at ho46));have n0_:=zzm (Kd.R_lower ho46 (zzo zzh1));have n1_:=zzm (zzp zzh1 hb);clear HB;have HO498:=n0_;have HB:=n1_;clear n0_ n1_ hb ho46)|((with_reducible refine gate_callee (f:=61) rfl ?_);refine goesL_ (some 11) rfl rfl Try.func61 (by kernel_rfl) rfl #[.slice A0 l0.length c0] rfl zzM2 ?_;(with_reducible refine (impl_LogValid.calls k _ _ l0 false _ ?side1 ?side2 A2.out).mono ?_);(case side1=>repeat (first|exact (Kd.C_below HR0.out HB.out)|(with_reducible refine Kd.C_alloc ?_ _)|(with_reducible refine Kd.C_drewN ?_ _)|(with_reducible refine Kd.C_drew ?_)));(case side2=>exact HC0.out);rintro e w47 ⟨rfl,hb⟩;refine ⟨_,rfl,?_⟩;have n0_:=zzm (Kd.R_below (by (with_reducible repeat (first|apply Kd.R_alloc|apply Kd.R_drewN|apply Kd.R_drew));exact HO498.out) hb);have n1_:=zzm (zzp zzh1 hb);clear HO498 HB;have HO498:=n0_;have HB:=n1_;clear n0_ n1_;(try clear hb);(try clear hb2);(try clear hk);(try clear hi)));go_ret;exact ⟨_,by first|rfl|(simp [errW_none,errW_some] <;> rfl)|(simp [*,errW_none,errW_some] <;> rfl),by (with_reducible repeat (first|apply Kd.R_alloc|apply Kd.R_drewN|apply Kd.R_drew));exact HO498.out,zzh1⟩
def spec_DrawStableRecords.f (k:Nat) (l0:List Int):Option ((List (S27))):=(spec_l6Open.f l0).bind fun bt519=>((spec_l92Decided.f k bt519.1 bt519.2).bind fun bt522=>(some bt522.1))
set_option maxHeartbeats 8000000 in
set_option maxRecDepth 100000 in
theorem spec_DrawStableRecords.calls (k:Nat) (A0:Option Addr) (c0:Nat) (l0:List Int) (r:List (S27)) (w:World) (hr0:Kd.C (Kd.int .u8) w A0 l0.length l0) (hc0:l0.length≤c0) (h:spec_DrawStableRecords.f k l0=some r) :
  Calls Try.prog 42 #[.slice A0 l0.length c0] w fun e w'=>∃ v0_:Value,e = .returned (v0_)∧Kd.N k27 27 w' w.heap.size (fun k_=>(w.heap.size≤k_)) v0_ r∧Below w.heap.size w w':=by
 have HR0:=zzm hr0;have HC0:=zzm hc0;clear hr0 hc0;have HB:=zzm (Below.refl w.heap.size w);have H:((spec_l6Open.f l0).bind fun bt519=>((spec_l92Decided.f k bt519.1 bt519.2).bind fun bt522=>(some bt522.1)))=some r:=h;clear h;replace H:=Option.bind_eq_some_iff.mp H;obtain ⟨⟨t519,t520⟩,A20,H⟩:=H;replace H:((spec_l92Decided.f k t519 t520).bind fun bt522=>(some bt522.1))=some r:=H;have A2:=zzm A20;clear A20;replace H:=Option.bind_eq_some_iff.mp H;obtain ⟨⟨t522,t525⟩,A30,H⟩:=H;replace H:(some t522)=some r:=H;have A3:=zzm A30;clear A30;obtain rfl:=Option.some.inj H;go_enter Try.func42,Try.ntmps42;go_wp2_with (first|((with_reducible refine gate_callee (f:=53) rfl ?_);refine goesL_ (some 4) rfl rfl Try.func53 (by kernel_rfl) rfl #[.slice A0 l0.length c0] rfl zzM2 ?_;(with_reducible refine (spec_l6Open.calls _ _ l0 t519 t520 w _ ?side1 ?side2 ?side3 A2.out).mono ?_);(case side1=>repeat (first|(with_reducible first|exact HB.out|apply zza|apply zzb|apply zzc)|exact HB.out));(case side2=>exact HR0.out);(case side3=>exact HC0.out);rintro e w4 ⟨g521,rfl,hi,hb,hb2⟩;refine ⟨_,rfl,?_⟩;have n0_:=zzm (hb);have n1_:=zzm (hi);clear HB;have HB:=n0_;have HI521:=n1_;clear n0_ n1_;(try clear hb);(try clear hb2);(try clear hk);(try clear hi))|((with_reducible refine gate_callee (f:=60) rfl ?_);refine goesL_ (some 5) rfl rfl Try.func60 (by kernel_rfl) rfl #[.pointer (some ⟨g521,0,none⟩)] rfl zzM2 ?_;(with_reducible refine (spec_l92Decided.calls k g521 t519 t520 t522 t525 w _ ?side1 ?side2 A3.out).mono ?_);(case side1=>repeat (first|(with_reducible first|exact HI521.out|apply IsS94.alloc|apply IsS94.drewN|apply IsS94.drew|apply IsS94.set_1)|exact HI521.out));(case side2=>repeat (first|(with_reducible first|exact HB.out|apply zza|apply zzb|apply zzc|refine zzd ?_ (IsS94.ge HI521.out))|exact HB.out));rintro e w5 ⟨v523,rfl,ho0,hi,hb,hk⟩;refine ⟨_,rfl,?_⟩;have n0_:=zzm (Kd.N_lower (Kd.N_mono (ok':=fun k_=>(w.heap.size≤k_)∧k_≠g521) ho0 (fun k_ hk_=>⟨(Nat.le_trans (zzo (by repeat (first|(with_reducible first|exact HB.out|apply zza|apply zzb|apply zzc|refine zzd ?_ (IsS94.ge HI521.out))|exact HB.out))) hk_),(IsS94.fresh (by repeat (first|(with_reducible first|exact HI521.out|apply IsS94.alloc|apply IsS94.drewN|apply IsS94.drew|apply IsS94.set_1)|exact HI521.out)) k_ hk_)⟩)) (zzo (by repeat (first|(with_reducible first|exact HB.out|apply zza|apply zzb|apply zzc|refine zzd ?_ (IsS94.ge HI521.out))|exact HB.out))));have n1_:=zzm (hb);have n2_:=zzm (hi);clear HB HI521;have HO524:=n0_;have HB:=n1_;have HI521:=n2_;clear n0_ n1_ n2_;(try clear hb);(try clear hb2);(try clear hk);(try clear hi);(try clear ho0)));go_ret;exact ⟨_,by first|rfl|(simp [errW_none,errW_some] <;> rfl)|(simp [*,errW_none,errW_some] <;> rfl),by (with_reducible repeat (first|apply Kd.N_alloc|apply Kd.N_drewN|apply Kd.N_drew));exact Kd.N_mono HO524.out (fun _ hk=>hk.1),by repeat (first|(with_reducible first|exact HB.out|apply zza|apply zzb|apply zzc|refine zzd ?_ (IsS94.ge HI521.out))|exact HB.out)⟩
def spec_l22Fine.f (a0_0:Bool) (a0_1:Bool) (a0_2:Int) (a0_3:Int) (a0_4:Int) (l0_5:List (S34)):Option (Bool):=if 0 < (l0_5.length:Int) then (if (((rd_T34 l0_5 0).f5).length:Int)=1 then (if 0 < (((rd_T34 l0_5 0).f5).length:Int) then (some ((rd ((rd_T34 l0_5 0).f5) 0)==1)) else (none)) else (some false)) else (none)
set_option maxHeartbeats 8000000 in
set_option maxRecDepth 100000 in
theorem spec_l22Fine.calls (a0_0:Bool) (a0_1:Bool) (a0_2:Int) (a0_3:Int) (a0_4:Int) (A0_5:Option Addr) (c0_5:Nat) (l0_5:List (S34)) (r:Bool) (w:World) (hr0_5:Kd.C k34 w A0_5 l0_5.length l0_5) (hc0_5:l0_5.length≤c0_5) (h:spec_l22Fine.f a0_0 a0_1 a0_2 a0_3 a0_4 l0_5=some r) :
  Calls Try.prog 69 #[.agg #[.bool a0_0,.bool a0_1,.int .i64 a0_2,.int .i64 a0_3,.int .i64 a0_4,.slice A0_5 l0_5.length c0_5]] w fun e w'=>e = .returned (.bool r)∧Below w.heap.size w w':=by
 have hu27:=Try.underlying27;have HR0_5:=zzm hr0_5;have HC0_5:=zzm hc0_5;clear hr0_5 hc0_5;have HB:=zzm (Below.refl w.heap.size w);have H:(if 0 < (l0_5.length:Int) then (if (((rd_T34 l0_5 0).f5).length:Int)=1 then (if 0 < (((rd_T34 l0_5 0).f5).length:Int) then (some ((rd ((rd_T34 l0_5 0).f5) 0)==1)) else (none)) else (some false)) else (none))=some r:=h;clear h;by_cases c2 : 0 < (l0_5.length:Int)
 ·
  rw [if_pos c2] at H;have c2b0:decide (0 < (l0_5.length:Int))=true:=decide_eq_true c2;have c2b1:decide (0 < l0_5.length)=true:=decide_eq_true (by omega);clear c2;by_cases c3:(((rd_T34 l0_5 0).f5).length:Int)=1
  ·
   rw [if_pos c3] at H;have c3b0:((((rd_T34 l0_5 0).f5).length:Int)==1)=true:=beq_iff_eq.mpr c3;have c3b1:((((rd_T34 l0_5 0).f5).length:Int) != 1)=false:=bne_eq_false_iff_eq.mpr c3;clear c3;by_cases c4 : 0 < (((rd_T34 l0_5 0).f5).length:Int)
   ·
    rw [if_pos c4] at H;have c4b0:decide (0 < (((rd_T34 l0_5 0).f5).length:Int))=true:=decide_eq_true c4;have c4b1:decide (0 < ((rd_T34 l0_5 0).f5).length)=true:=decide_eq_true (by omega);clear c4;obtain rfl:=Option.some.inj H;go_enter Try.func69,Try.ntmps69;go_wp2_with (first|((with_reducible refine gate_dst (N:=1) rfl ?_);refine box_event ?hg (N:=1) ?hd (cs:=#[.bool a0_0,.bool a0_1,.int .i64 a0_2,.int .i64 a0_3,.int .i64 a0_4,.slice A0_5 l0_5.length c0_5]) (t:=27) ?hr ?_;(case hd=>rfl);(case hg=>rfl);(case hr=>first|(go_simp;done)|(go_simp;rfl));intro gb526 hg w5 hbox hb;have n0_:=zzm (zzp zzh1 hb);have n1_:=zzm (hbox);have n2_:=zzm ((by rw [hg];exact (zzo zzh1):w.heap.size≤gb526));have n3_:=zzm ((by rw [hg];exact (zzo zzh1):w.heap.size≤gb526));clear HB;have HB:=n0_;have BK526:=n1_;have GW526:=n2_;have GE526:=n3_;clear n0_ n1_ n2_ n3_ hb hbox hg;obtain ⟨hcz6_0,hcz6_1,hcz6_2,hcz6_3,hcz6_4,hcz6_5,hfz6_0,hfz6_1,hfz6_2,hfz6_3,hfz6_4,hfz6_5⟩:=zzc6 BK526.out;have p527 : 0≤(0:Int):=(by omega);have q527 : 0 < (l0_5.length:Int):=zzt;obtain ⟨ad527,A527_3,c527_3,A527_5,c527_5,e527,hx527_0,hx527_1,hx527_2,hx527_3,hx527_4,hx527_5,hl527_3,hi527_3,hl527_5,hi527_5⟩:=at_T34 HR0_5.out 0 p527 q527;cases e527;have qi527:(0 < l0_5.length)=True:=eq_true (by omega);(try rw [show ((0:Int)).toNat=0 from rfl] at hx527_0);(try rw [show 0 * 6=0 from rfl] at hx527_0);(try rw [Addr.add_zero'] at hx527_0);(try rw [show ((0:Int)).toNat=0 from rfl] at hx527_1);(try rw [show 0 * 6=0 from rfl] at hx527_1);(try rw [Addr.add_zero'] at hx527_1);(try rw [show ((0:Int)).toNat=0 from rfl] at hx527_2);(try rw [show 0 * 6=0 from rfl] at hx527_2);(try rw [Addr.add_zero'] at hx527_2);(try rw [show ((0:Int)).toNat=0 from rfl] at hx527_3);(try rw [show 0 * 6=0 from rfl] at hx527_3);(try rw [Addr.add_zero'] at hx527_3);(try rw [show ((0:Int)).toNat=0 from rfl] at hx527_4);(try rw [show 0 * 6=0 from rfl] at hx527_4);(try rw [Addr.add_zero'] at hx527_4);(try rw [show ((0:Int)).toNat=0 from rfl] at hx527_5);(try rw [show 0 * 6=0 from rfl] at hx527_5);(try rw [Addr.add_zero'] at hx527_5);replace hx527_0:=zzx HB.out hx527_0;replace hx527_1:=zzx HB.out hx527_1;replace hx527_2:=zzx HB.out hx527_2;replace hx527_3:=zzx HB.out hx527_3;replace hx527_4:=zzx HB.out hx527_4;replace hx527_5:=zzx HB.out hx527_5;have HR527_3:=zzm hi527_3;have HC527_3:=zzm hl527_3;clear hi527_3 hl527_3;have HR527_5:=zzm hi527_5;have HC527_5:=zzm hl527_5;clear hi527_5 hl527_5;replace p527:=eq_true p527;replace q527:=eq_true q527;have p528 : 0≤(0:Int):=(by omega);have q528 : 0 < (l0_5.length:Int):=zzt;obtain ⟨ad528,A528_3,c528_3,A528_5,c528_5,e528,hx528_0,hx528_1,hx528_2,hx528_3,hx528_4,hx528_5,hl528_3,hi528_3,hl528_5,hi528_5⟩:=at_T34 HR0_5.out 0 p528 q528;obtain rfl:ad527=ad528:=(by injection e528);have qi528:(0 < l0_5.length)=True:=eq_true (by omega);(try rw [show ((0:Int)).toNat=0 from rfl] at hx528_0);(try rw [show 0 * 6=0 from rfl] at hx528_0);(try rw [Addr.add_zero'] at hx528_0);(try rw [show ((0:Int)).toNat=0 from rfl] at hx528_1);(try rw [show 0 * 6=0 from rfl] at hx528_1);(try rw [Addr.add_zero'] at hx528_1);(try rw [show ((0:Int)).toNat=0 from rfl] at hx528_2);(try rw [show 0 * 6=0 from rfl] at hx528_2);(try rw [Addr.add_zero'] at hx528_2);(try rw [show ((0:Int)).toNat=0 from rfl] at hx528_3);(try rw [show 0 * 6=0 from rfl] at hx528_3);(try rw [Addr.add_zero'] at hx528_3);(try rw [show ((0:Int)).toNat=0 from rfl] at hx528_4);(try rw [show 0 * 6=0 from rfl] at hx528_4);(try rw [Addr.add_zero'] at hx528_4);(try rw [show ((0:Int)).toNat=0 from rfl] at hx528_5);(try rw [show 0 * 6=0 from rfl] at hx528_5);(try rw [Addr.add_zero'] at hx528_5);replace hx528_0:=zzx HB.out hx528_0;replace hx528_1:=zzx HB.out hx528_1;replace hx528_2:=zzx HB.out hx528_2;replace hx528_3:=zzx HB.out hx528_3;replace hx528_4:=zzx HB.out hx528_4;replace hx528_5:=zzx HB.out hx528_5;have HR528_3:=zzm hi528_3;have HC528_3:=zzm hl528_3;clear hi528_3 hl528_3;have HR528_5:=zzm hi528_5;have HC528_5:=zzm hl528_5;clear hi528_5 hl528_5;replace p528:=eq_true p528;replace q528:=eq_true q528;have ea_:=Option.some.inj (hx527_3.symm.trans hx528_3);injection ea_ with ea_ en_ ec_;subst ea_;subst ec_;clear en_;have ea_:=Option.some.inj (hx527_5.symm.trans hx528_5);injection ea_ with ea_ en_ ec_;subst ea_;subst ec_;clear en_;have p529 : 0≤(0:Int):=(by omega);have q529 : 0 < (((rd_T34 l0_5 0).f5).length:Int):=zzt;obtain ⟨ad529,e529,hx529_0⟩:=Kd.at_int HR528_5.out 0 p529 q529;cases e529;have qi529:(0 < ((rd_T34 l0_5 0).f5).length)=True:=eq_true (by omega);(try rw [show ((0:Int)).toNat=0 from rfl] at hx529_0);(try rw [Addr.add_zero'] at hx529_0);replace hx529_0:=zzx HB.out hx529_0;replace p529:=eq_true p529;replace q529:=eq_true q529));go_ret;exact ⟨by first|rfl|(simp [errW_none,errW_some] <;> rfl)|(simp [*,errW_none,errW_some] <;> rfl),by repeat (first|(with_reducible first|exact HB.out|apply zza|apply zzb|apply zzc|refine zzd ?_ GE526.out)|exact HB.out)⟩
   ·
    rw [if_neg c4] at H;exact absurd H (by simp)
  ·
   rw [if_neg c3] at H;have c3b0:((((rd_T34 l0_5 0).f5).length:Int)==1)=false:=beq_eq_false_iff_ne.mpr c3;have c3b1:((((rd_T34 l0_5 0).f5).length:Int) != 1)=true:=bne_iff_ne.mpr c3;obtain rfl:=Option.some.inj H;go_enter Try.func69,Try.ntmps69;go_wp2_with (first|((with_reducible refine gate_dst (N:=1) rfl ?_);refine box_event ?hg (N:=1) ?hd (cs:=#[.bool a0_0,.bool a0_1,.int .i64 a0_2,.int .i64 a0_3,.int .i64 a0_4,.slice A0_5 l0_5.length c0_5]) (t:=27) ?hr ?_;(case hd=>rfl);(case hg=>rfl);(case hr=>first|(go_simp;done)|(go_simp;rfl));intro gb526 hg w7 hbox hb;have n0_:=zzm (zzp zzh1 hb);have n1_:=zzm (hbox);have n2_:=zzm ((by rw [hg];exact (zzo zzh1):w.heap.size≤gb526));have n3_:=zzm ((by rw [hg];exact (zzo zzh1):w.heap.size≤gb526));clear HB;have HB:=n0_;have BK526:=n1_;have GW526:=n2_;have GE526:=n3_;clear n0_ n1_ n2_ n3_ hb hbox hg;obtain ⟨hcz8_0,hcz8_1,hcz8_2,hcz8_3,hcz8_4,hcz8_5,hfz8_0,hfz8_1,hfz8_2,hfz8_3,hfz8_4,hfz8_5⟩:=zzc6 BK526.out;have p527 : 0≤(0:Int):=(by omega);have q527 : 0 < (l0_5.length:Int):=zzt;obtain ⟨ad527,A527_3,c527_3,A527_5,c527_5,e527,hx527_0,hx527_1,hx527_2,hx527_3,hx527_4,hx527_5,hl527_3,hi527_3,hl527_5,hi527_5⟩:=at_T34 HR0_5.out 0 p527 q527;cases e527;have qi527:(0 < l0_5.length)=True:=eq_true (by omega);(try rw [show ((0:Int)).toNat=0 from rfl] at hx527_0);(try rw [show 0 * 6=0 from rfl] at hx527_0);(try rw [Addr.add_zero'] at hx527_0);(try rw [show ((0:Int)).toNat=0 from rfl] at hx527_1);(try rw [show 0 * 6=0 from rfl] at hx527_1);(try rw [Addr.add_zero'] at hx527_1);(try rw [show ((0:Int)).toNat=0 from rfl] at hx527_2);(try rw [show 0 * 6=0 from rfl] at hx527_2);(try rw [Addr.add_zero'] at hx527_2);(try rw [show ((0:Int)).toNat=0 from rfl] at hx527_3);(try rw [show 0 * 6=0 from rfl] at hx527_3);(try rw [Addr.add_zero'] at hx527_3);(try rw [show ((0:Int)).toNat=0 from rfl] at hx527_4);(try rw [show 0 * 6=0 from rfl] at hx527_4);(try rw [Addr.add_zero'] at hx527_4);(try rw [show ((0:Int)).toNat=0 from rfl] at hx527_5);(try rw [show 0 * 6=0 from rfl] at hx527_5);(try rw [Addr.add_zero'] at hx527_5);replace hx527_0:=zzx HB.out hx527_0;replace hx527_1:=zzx HB.out hx527_1;replace hx527_2:=zzx HB.out hx527_2;replace hx527_3:=zzx HB.out hx527_3;replace hx527_4:=zzx HB.out hx527_4;replace hx527_5:=zzx HB.out hx527_5;have HR527_3:=zzm hi527_3;have HC527_3:=zzm hl527_3;clear hi527_3 hl527_3;have HR527_5:=zzm hi527_5;have HC527_5:=zzm hl527_5;clear hi527_5 hl527_5;replace p527:=eq_true p527;replace q527:=eq_true q527));go_ret;exact ⟨by first|rfl|(simp [errW_none,errW_some] <;> rfl)|(simp [*,errW_none,errW_some] <;> rfl),by repeat (first|(with_reducible first|exact HB.out|apply zza|apply zzb|apply zzc|refine zzd ?_ GE526.out)|exact HB.out)⟩
 ·
  rw [if_neg c2] at H;exact absurd H (by simp)
def spec_l12Copy.f (a0_0:Int) (a0_1:Int) (a0_2:Bool) (l0_3:List Int) (a0_4:Bool) (l0_5:List Int):Option (Int×Int×Bool×List Int×Bool×List Int):=(some (([]:List Int):List Int)).bind fun y532=>(if y532.length+l0_3.length < 17592186044416 then ((some (([]:List Int):List Int)).bind fun y538=>(if y538.length+l0_5.length < 17592186044416 then (some (a0_0,a0_1,a0_2,(y532++l0_3),a0_4,(y538++l0_5))) else (none))) else (none))
set_option maxHeartbeats 8000000 in
set_option maxRecDepth 100000 in
theorem spec_l12Copy.calls (a0_0:Int) (a0_1:Int) (a0_2:Bool) (A0_3:Option Addr) (c0_3:Nat) (l0_3:List Int) (a0_4:Bool) (A0_5:Option Addr) (c0_5:Nat) (l0_5:List Int) (r1:Int) (r2:Int) (r3:Bool) (r4:List Int) (r5:Bool) (r6:List Int) (w:World) (hr0_3:Kd.C (Kd.int .i64) w A0_3 l0_3.length l0_3) (hc0_3:l0_3.length≤c0_3) (hr0_5:Kd.C (Kd.int .i64) w A0_5 l0_5.length l0_5) (hc0_5:l0_5.length≤c0_5) (h:spec_l12Copy.f a0_0 a0_1 a0_2 l0_3 a0_4 l0_5=some (r1,r2,r3,r4,r5,r6)) :
  Calls Try.prog 75 #[.agg #[.int .i64 a0_0,.int .i64 a0_1,.bool a0_2,.slice A0_3 l0_3.length c0_3,.bool a0_4,.slice A0_5 l0_5.length c0_5]] w fun e w'=>∃ v3_ v5_:Value,e = .returned (.agg #[.int .i64 r1,.int .i64 r2,.bool r3,v3_,.bool r5,v5_])∧Kd.R (Kd.int .i64) 3 w' w.heap.size (fun k_=>some k_≠(v5_:Value).ownBlock) v3_ r4∧Kd.R (Kd.int .i64) 3 w' w.heap.size (fun k_=>some k_≠(v3_:Value).ownBlock) v5_ r6∧Below w.heap.size w w':=by
 have hu34:=Try.underlying34;have HR0_3:=zzm hr0_3;have HC0_3:=zzm hc0_3;clear hr0_3 hc0_3;have HR0_5:=zzm hr0_5;have HC0_5:=zzm hc0_5;clear hr0_5 hc0_5;have HB:=zzm (Below.refl w.heap.size w);have H:((some (([]:List Int):List Int)).bind fun y532=>(if y532.length+l0_3.length < 17592186044416 then ((some (([]:List Int):List Int)).bind fun y538=>(if y538.length+l0_5.length < 17592186044416 then (some (a0_0,a0_1,a0_2,(y532++l0_3),a0_4,(y538++l0_5))) else (none))) else (none)))=some (r1,r2,r3,r4,r5,r6):=h;clear h;obtain ⟨y532,hy532⟩:∃ y_:List Int,y_=(([]:List Int)):=⟨_,rfl⟩;replace H:(if y532.length+l0_3.length < 17592186044416 then ((some (([]:List Int):List Int)).bind fun y538=>(if y538.length+l0_5.length < 17592186044416 then (some (a0_0,a0_1,a0_2,(y532++l0_3),a0_4,(y538++l0_5))) else (none))) else (none))=some (r1,r2,r3,r4,r5,r6):=by first|(rw [hy532];with_reducible exact H)|(have H2_:=(Option.bind_some _ _).symm.trans H;rw [hy532];with_reducible exact H2_)|(have H2_:=(Option.bind_some _ _).symm.trans H;with_reducible exact H2_)|with_reducible exact H|(rw [hy532];exact H)|exact H
 have Ny532:=zzm hy532;clear hy532;by_cases c2:y532.length+l0_3.length < 17592186044416
 ·
  rw [if_pos c2] at H;have LMc2:=zzm c2;clear c2;obtain ⟨y535,hy535⟩:∃ y_:List Int,y_=(y532++l0_3):=⟨_,rfl⟩;replace H:((some (([]:List Int):List Int)).bind fun y538=>(if y538.length+l0_5.length < 17592186044416 then (some (a0_0,a0_1,a0_2,y535,a0_4,(y538++l0_5))) else (none)))=some (r1,r2,r3,r4,r5,r6):=by first|(rw [hy535];with_reducible exact H)|(have H2_:=(Option.bind_some _ _).symm.trans H;rw [hy535];with_reducible exact H2_)|(have H2_:=(Option.bind_some _ _).symm.trans H;with_reducible exact H2_)|with_reducible exact H|(rw [hy535];exact H)|exact H
  have Ny535:=zzm hy535;clear hy535;obtain ⟨y538,hy538⟩:∃ y_:List Int,y_=(([]:List Int)):=⟨_,rfl⟩;replace H:(if y538.length+l0_5.length < 17592186044416 then (some (a0_0,a0_1,a0_2,y535,a0_4,(y538++l0_5))) else (none))=some (r1,r2,r3,r4,r5,r6):=by first|(rw [hy538];with_reducible exact H)|(have H2_:=(Option.bind_some _ _).symm.trans H;rw [hy538];with_reducible exact H2_)|(have H2_:=(Option.bind_some _ _).symm.trans H;with_reducible exact H2_)|with_reducible exact H|(rw [hy538];exact H)|exact H
  have Ny538:=zzm hy538;clear hy538;by_cases c3:y538.length+l0_5.length < 17592186044416
  ·
   rw [if_pos c3] at H;have LMc3:=zzm c3;clear c3;obtain ⟨y541,hy541⟩:∃ y_:List Int,y_=(y538++l0_5):=⟨_,rfl⟩;replace H:(some (a0_0,a0_1,a0_2,y535,a0_4,y541))=some (r1,r2,r3,r4,r5,r6):=by first|(rw [hy541];with_reducible exact H)|(have H2_:=(Option.bind_some _ _).symm.trans H;rw [hy541];with_reducible exact H2_)|(have H2_:=(Option.bind_some _ _).symm.trans H;with_reducible exact H2_)|with_reducible exact H|(rw [hy541];exact H)|exact H
   have Ny541:=zzm hy541;clear hy541;simp only [Option.some.injEq,Prod.mk.injEq] at H;obtain ⟨rfl,rfl,rfl,rfl,rfl,rfl⟩:=H;go_enter Try.func75,Try.ntmps75;go_wp2_with (first|((with_reducible refine gate_dst (N:=1) rfl ?_);refine box_event ?hg (N:=1) ?hd (cs:=#[.int .i64 a0_0,.int .i64 a0_1,.bool a0_2,.slice A0_3 l0_3.length c0_3,.bool a0_4,.slice A0_5 l0_5.length c0_5]) (t:=34) ?hr ?_;(case hd=>rfl);(case hg=>rfl);(case hr=>first|(go_simp;done)|(go_simp;rfl));intro gb530 hg w4 hbox hb;have n0_:=zzm (zzp zzh1 hb);have n1_:=zzm (hbox);have n2_:=zzm ((by rw [hg];exact (zzo zzh1):w.heap.size≤gb530));have n3_:=zzm ((by rw [hg];exact (zzo zzh1):w.heap.size≤gb530));clear HB;have HB:=n0_;have BK530:=n1_;have GW530:=n2_;have GE530:=n3_;clear n0_ n1_ n2_ n3_ hb hbox hg)|((with_reducible refine gate_dst (N:=2) rfl ?_);refine box_event ?hg (N:=2) ?hd (cs:=#[.int .i64 0,.int .i64 0,.bool false,.slice none 0 0,.bool false,.slice none 0 0]) (t:=34) ?hr ?_;(case hd=>rfl);(case hg=>rfl);(case hr=>first|(go_simp;done)|(go_simp;rfl));intro gb531 hg w5 hbox hb;have n0_:=zzm (zzh (g:=gb530) (o:=.cells #[.int .i64 a0_0,.int .i64 a0_1,.bool a0_2,.slice A0_3 l0_3.length c0_3,.bool a0_4,.slice A0_5 l0_5.length c0_5] 34 (0,0)) (zzE BK530.out) hb);have n1_:=zzm (zzp zzh2 hb);have n2_:=zzm (hbox);have n3_:=zzm ((by rw [hg];exact (zzo zzh2):w.heap.size≤gb531));have n4_:=zzm ((by rw [hg];exact (zzo zzh2):w.heap.size≤gb531));have n5_:=zzm ((by rw [hg];exact Nat.ne_of_lt (blk_lt (g:=gb530) (o:=.cells #[.int .i64 a0_0,.int .i64 a0_1,.bool a0_2,.slice A0_3 l0_3.length c0_3,.bool a0_4,.slice A0_5 l0_5.length c0_5] 34 (0,0)) (zzE BK530.out)):gb530≠gb531));have n6_:=zzm ((by rw [hg];exact Nat.ne_of_gt (blk_lt (g:=gb530) (o:=.cells #[.int .i64 a0_0,.int .i64 a0_1,.bool a0_2,.slice A0_3 l0_3.length c0_3,.bool a0_4,.slice A0_5 l0_5.length c0_5] 34 (0,0)) (zzE BK530.out)):gb531≠gb530));clear BK530 HB;have BK530:=n0_;have HB:=n1_;have BK531:=n2_;have GW531:=n3_;have GE531:=n4_;have NB530_531:=n5_;have NB531_530:=n6_;clear n0_ n1_ n2_ n3_ n4_ n5_ n6_ hb hbox hg)|((with_reducible refine gate_dst (N:=3) rfl ?_);refine Kd.R_lit (Kd.int .i64) _ 3 ?hg (N:=3) ?hd (xs:=([]:List Int)) (inner:=[]) (ok:=fun _=>True) (okp:=fun _=>True) ?hr ?hp (fun _ hk=>hk) trivial (Below.refl _ _) (Nat.le_refl _) (by simp) ?_;(case hd=>rfl);(case hg=>rfl);(case hr=>first|(go_simp;done)|(go_simp;rfl));(case hp=>exact (Reps.none _ _));intro v533 w6 ho7 hb hg_ hnew_;clear hg_ hnew_;(first|rw [← Ny532.out] at ho7|(simp only [Int.reduceToNat] at ho7;rw [← Ny532.out] at ho7));have n0_:=zzm (Kd.R_lower ho7 (zzo zzh2));have n1_:=zzm (zzh (g:=gb530) (o:=.cells #[.int .i64 a0_0,.int .i64 a0_1,.bool a0_2,.slice A0_3 l0_3.length c0_3,.bool a0_4,.slice A0_5 l0_5.length c0_5] 34 (0,0)) (zzE BK530.out) hb);have n2_:=zzm (zzh (g:=gb531) (o:=.cells #[.int .i64 0,.int .i64 0,.bool false,.slice none 0 0,.bool false,.slice none 0 0] 34 (0,0)) (zzE BK531.out) hb);have n3_:=zzm (zzp zzh2 hb);clear BK530 BK531 HB;have HO534:=n0_;have BK530:=n1_;have BK531:=n2_;have HB:=n3_;clear n0_ n1_ n2_ n3_ hb ho7;have hnb8:=NB530_531.out;have hnc8:=NB531_530.out;obtain ⟨hcz9_0,hcz9_1,hcz9_2,hcz9_3,hcz9_4,hcz9_5,hfz9_0,hfz9_1,hfz9_2,hfz9_3,hfz9_4,hfz9_5⟩:=zzc6 BK530.out)|((with_reducible refine gate_builtin (b:=.append) (xs:=#[.tmp 3,.tmp 5]) rfl ?_);at_builtin;refine Kd.R_append_rows (Kd.int .i64) (w0:=w) w.heap.size rfl (.tmp 3) (.tmp 5) 32 3 (.int .i64 0) 8 rfl Try.underlying32 info3 rfl (by decide) (by omega) v533 y532 l0_3 _ _ _ (fun _=>True) (fun _=>False) rfl rfl ?aO ?aR (fun _ _ h=>h) (fun _ h=>h.elim) ?aF ?aB ?aS ?aL ?_;(case aR=>repeat (first|exact (Kd.C_below HR0_3.out HB.out)|(with_reducible refine Kd.C_alloc ?_ _)|(with_reducible refine Kd.C_drewN ?_ _)|(with_reducible refine Kd.C_drew ?_)));(case aB=>exact zzh2);(case aF=>exact (fun _ _=>trivial));(case aO=>exact (by (with_reducible repeat (first|apply Kd.R_alloc|apply Kd.R_drewN|apply Kd.R_drew));exact HO534.out));(case aS=>exact (zzo zzh2));(case aL=>have:=LMc2.out;omega);intro v536 w10 ho hb hg hat;rw [← Ny535.out] at ho;have n0_:=zzm (blk_grown (g:=gb530) (o:=.cells #[.int .i64 a0_0,.int .i64 a0_1,.bool a0_2,.slice A0_3 l0_3.length c0_3,.bool a0_4,.slice A0_5 l0_5.length c0_5] 34 (0,0)) (zzE BK530.out) hg (Kd.R_ne HO534.out BK530.out (by decide)));have n1_:=zzm (blk_grown (g:=gb531) (o:=.cells #[.int .i64 0,.int .i64 0,.bool false,.slice none 0 0,.bool false,.slice none 0 0] 34 (0,0)) (zzE BK531.out) hg (Kd.R_ne HO534.out BK531.out (by decide)));have n2_:=zzm (hb);have n3_:=zzm (ho);clear BK530 BK531 HB HO534;have BK530:=n0_;have BK531:=n1_;have HB:=n2_;have HO537:=n3_;clear n0_ n1_ n2_ n3_ ho hb hg hat;obtain ⟨Ao11,co11,eo11⟩:=Kd.R_slice HO537.out;subst eo11;obtain ⟨hcz12_0,hcz12_1,hcz12_2,hcz12_3,hcz12_4,hcz12_5,hfz12_0,hfz12_1,hfz12_2,hfz12_3,hfz12_4,hfz12_5⟩:=zzc6 BK530.out)|((with_reducible refine gate_dst (N:=8) rfl ?_);refine Kd.R_lit (Kd.int .i64) _ 3 ?hg (N:=8) ?hd (xs:=([]:List Int)) (inner:=[]) (ok:=fun _=>True) (okp:=fun _=>True) ?hr ?hp (fun _ hk=>hk) trivial (Below.refl _ _) (Nat.le_refl _) (by simp) ?_;(case hd=>rfl);(case hg=>rfl);(case hr=>first|(go_simp;done)|(go_simp;rfl));(case hp=>exact (Reps.none _ _));intro v539 w13 ho14 hb hg_ hnew_;clear hg_ hnew_;(first|rw [← Ny538.out] at ho14|(simp only [Int.reduceToNat] at ho14;rw [← Ny538.out] at ho14));have n0_:=zzm (Kd.R_elder' (by (with_reducible repeat (first|apply Kd.R_alloc|apply Kd.R_drewN|apply Kd.R_drew));exact (Kd.R_mono (Kd.R_far (p:=⟨gb530,3,none⟩) (Kd.R_types HO537.out BK530.out (by decide)) (fun _ hk=>hk.2) (.slice Ao11 y535.length co11)) (fun _ h_=>h_.1))) (Kd.R_base ho14) hb);have n1_:=zzm (Kd.R_lower (Kd.R_new' ho14 (Kd.R_lt (by (with_reducible repeat (first|apply Kd.R_alloc|apply Kd.R_drewN|apply Kd.R_drew));exact (Kd.R_mono (Kd.R_far (p:=⟨gb530,3,none⟩) (Kd.R_types HO537.out BK530.out (by decide)) (fun _ hk=>hk.2) (.slice Ao11 y535.length co11)) (fun _ h_=>h_.1))))) (zzo zzh2));have n2_:=zzm (zzh (g:=gb530) (o:=.cells #[.int .i64 a0_0,.int .i64 a0_1,.bool a0_2,.slice Ao11 y535.length co11,.bool a0_4,.slice A0_5 l0_5.length c0_5] 34 (0,0)) (by (with_reducible repeat (first|apply zzf|apply zzg|apply zze));refine zzi (cs:=#[.int .i64 a0_0,.int .i64 a0_1,.bool a0_2,.slice A0_3 l0_3.length c0_3,.bool a0_4,.slice A0_5 l0_5.length c0_5]) ?_ 3 _ rfl;(with_reducible repeat (first|apply zzf|apply zzg|apply zze));exact BK530.out) hb);have n3_:=zzm (zzh (g:=gb531) (o:=.cells #[.int .i64 0,.int .i64 0,.bool false,.slice none 0 0,.bool false,.slice none 0 0] 34 (0,0)) (by (with_reducible repeat (first|apply zzf|apply zzg|apply zze));refine zzj ?_ NB531_530.out _;(with_reducible repeat (first|apply zzf|apply zzg|apply zze));exact BK531.out) hb);have n4_:=zzm (zzp zzh2 hb);clear HO537 BK530 BK531 HB;have HO537:=n0_;have HO540:=n1_;have BK530:=n2_;have BK531:=n3_;have HB:=n4_;clear n0_ n1_ n2_ n3_ n4_ hb ho14;obtain ⟨hcz15_0,hcz15_1,hcz15_2,hcz15_3,hcz15_4,hcz15_5,hfz15_0,hfz15_1,hfz15_2,hfz15_3,hfz15_4,hfz15_5⟩:=zzc6 BK530.out)|((with_reducible refine gate_builtin (b:=.append) (xs:=#[.tmp 8,.tmp 10]) rfl ?_);at_builtin;refine Kd.R_append_rows (Kd.int .i64) (w0:=w) w.heap.size rfl (.tmp 8) (.tmp 10) 32 3 (.int .i64 0) 8 rfl Try.underlying32 info3 rfl (by decide) (by omega) v539 y538 l0_5 _ _ _ (fun k_=>some k_≠(.slice Ao11 y535.length co11:Value).ownBlock) (fun _=>False) rfl rfl ?aO ?aR (fun _ _ h=>h) (fun _ h=>h.elim) ?aF ?aB ?aS ?aL ?_;(case aR=>repeat (first|exact (Kd.C_below HR0_5.out HB.out)|(with_reducible refine Kd.C_alloc ?_ _)|(with_reducible refine Kd.C_drewN ?_ _)|(with_reducible refine Kd.C_drew ?_)));(case aB=>exact zzh2);(case aF=>exact (fun k_ hk=>Kd.fresh' (Kd.R_lt (by (with_reducible repeat (first|apply Kd.R_alloc|apply Kd.R_drewN|apply Kd.R_drew));exact HO537.out)) k_ hk));(case aO=>exact (by (with_reducible repeat (first|apply Kd.R_alloc|apply Kd.R_drewN|apply Kd.R_drew));exact Kd.R_mono HO540.out (fun _ hk=>hk.2)));(case aS=>exact (zzo zzh2));(case aL=>have:=LMc3.out;omega);intro v542 w16 ho hb hg hat;rw [← Ny541.out] at ho;have n0_:=zzm (blk_grown (g:=gb530) (o:=.cells #[.int .i64 a0_0,.int .i64 a0_1,.bool a0_2,.slice Ao11 y535.length co11,.bool a0_4,.slice A0_5 l0_5.length c0_5] 34 (0,0)) (zzE BK530.out) hg (Kd.R_ne HO540.out BK530.out (by decide)));have n1_:=zzm (blk_grown (g:=gb531) (o:=.cells #[.int .i64 0,.int .i64 0,.bool false,.slice none 0 0,.bool false,.slice none 0 0] 34 (0,0)) (zzE BK531.out) hg (Kd.R_ne HO540.out BK531.out (by decide)));have n2_:=zzm (Kd.R_after (ok:=(fun _=>True)) (by (with_reducible repeat (first|apply Kd.R_alloc|apply Kd.R_drewN|apply Kd.R_drew));exact HO537.out) hg hat);have n3_:=zzm (hb);have n4_:=zzm (ho);clear BK530 BK531 HO537 HB HO540;have BK530:=n0_;have BK531:=n1_;have HO537:=n2_;have HB:=n3_;have HO543:=n4_;clear n0_ n1_ n2_ n3_ n4_ ho hb hg hat;obtain ⟨Ao17,co17,eo17⟩:=Kd.R_slice HO543.out;subst eo17;obtain ⟨hcz18_0,hcz18_1,hcz18_2,hcz18_3,hcz18_4,hcz18_5,hfz18_0,hfz18_1,hfz18_2,hfz18_3,hfz18_4,hfz18_5⟩:=zzc6 BK530.out;obtain ⟨hcz19_0,hcz19_1,hcz19_2,hcz19_3,hcz19_4,hcz19_5,hfz19_0,hfz19_1,hfz19_2,hfz19_3,hfz19_4,hfz19_5⟩:=zzc6 BK531.out));refine bodyPost_ret (results_cell_row rfl _ _ gb531 34 #[.int .i64 a0_0,.int .i64 a0_1,.bool a0_2,.slice Ao11 y535.length co11,.bool a0_4,.slice Ao17 y541.length co17] (0,0) _ rfl (by (with_reducible repeat (first|apply zzf|apply zzg|apply zze));refine zzi (cs:=#[.int .i64 a0_0,.int .i64 a0_1,.bool a0_2,.slice Ao11 y535.length co11,.bool a0_4,.slice none 0 0]) ?_ 5 _ rfl;(with_reducible repeat (first|apply zzf|apply zzg|apply zze));refine zzi (cs:=#[.int .i64 a0_0,.int .i64 a0_1,.bool a0_2,.slice Ao11 y535.length co11,.bool false,.slice none 0 0]) ?_ 4 _ rfl;(with_reducible repeat (first|apply zzf|apply zzg|apply zze));refine zzi (cs:=#[.int .i64 a0_0,.int .i64 a0_1,.bool a0_2,.slice none 0 0,.bool false,.slice none 0 0]) ?_ 3 _ rfl;(with_reducible repeat (first|apply zzf|apply zzg|apply zze));refine zzi (cs:=#[.int .i64 a0_0,.int .i64 a0_1,.bool false,.slice none 0 0,.bool false,.slice none 0 0]) ?_ 2 _ rfl;(with_reducible repeat (first|apply zzf|apply zzg|apply zze));refine zzi (cs:=#[.int .i64 a0_0,.int .i64 0,.bool false,.slice none 0 0,.bool false,.slice none 0 0]) ?_ 1 _ rfl;(with_reducible repeat (first|apply zzf|apply zzg|apply zze));refine zzi (cs:=#[.int .i64 0,.int .i64 0,.bool false,.slice none 0 0,.bool false,.slice none 0 0]) ?_ 0 _ rfl;(with_reducible repeat (first|apply zzf|apply zzg|apply zze));refine zzj ?_ NB531_530.out _;(with_reducible repeat (first|apply zzf|apply zzg|apply zze));exact BK531.out) Try.underlying34 rfl (by kernel_rfl)) rfl ?_;exact ⟨_,_,by first|rfl|(simp [errW_none,errW_some] <;> rfl)|(simp [*,errW_none,errW_some] <;> rfl),by (with_reducible repeat (first|apply Kd.R_alloc|apply Kd.R_drewN|apply Kd.R_drew));exact Kd.R_mono (Kd.R_far (p:=⟨gb531,5,none⟩) (Kd.R_far (p:=⟨gb531,4,none⟩) (Kd.R_far (p:=⟨gb531,3,none⟩) (Kd.R_far (p:=⟨gb531,2,none⟩) (Kd.R_far (p:=⟨gb531,1,none⟩) (Kd.R_far (p:=⟨gb531,0,none⟩) (Kd.R_far (p:=⟨gb530,5,none⟩) (Kd.R_types (Kd.R_types HO537.out BK530.out (by decide)) BK531.out (by decide)) (fun _ hk=>hk.1.2) (.slice Ao17 y541.length co17)) (fun _ hk=>hk.2) (.int .i64 a0_0)) (fun _ hk=>hk.2) (.int .i64 a0_1)) (fun _ hk=>hk.2) (.bool a0_2)) (fun _ hk=>hk.2) (.slice Ao11 y535.length co11)) (fun _ hk=>hk.2) (.bool a0_4)) (fun _ hk=>hk.2) (.slice Ao17 y541.length co17)) (fun _ hk=>hk.1.1.2),by (with_reducible repeat (first|apply Kd.R_alloc|apply Kd.R_drewN|apply Kd.R_drew));exact Kd.R_mono (Kd.R_far (p:=⟨gb531,5,none⟩) (Kd.R_far (p:=⟨gb531,4,none⟩) (Kd.R_far (p:=⟨gb531,3,none⟩) (Kd.R_far (p:=⟨gb531,2,none⟩) (Kd.R_far (p:=⟨gb531,1,none⟩) (Kd.R_far (p:=⟨gb531,0,none⟩) (Kd.R_far (p:=⟨gb530,5,none⟩) (Kd.R_types (Kd.R_types HO543.out BK530.out (by decide)) BK531.out (by decide)) (fun _ hk=>hk.1.2) (.slice Ao17 y541.length co17)) (fun _ hk=>hk.2) (.int .i64 a0_0)) (fun _ hk=>hk.2) (.int .i64 a0_1)) (fun _ hk=>hk.2) (.bool a0_2)) (fun _ hk=>hk.2) (.slice Ao11 y535.length co11)) (fun _ hk=>hk.2) (.bool a0_4)) (fun _ hk=>hk.2) (.slice Ao17 y541.length co17)) (fun _ hk=>hk.1.1),by repeat (first|(with_reducible first|exact HB.out|apply zza|apply zzb|apply zzc|refine zzd ?_ GE530.out|refine zzd ?_ GE531.out)|exact HB.out)⟩
  ·
   rw [if_neg c3] at H;exact absurd H (by simp)
 ·
  rw [if_neg c2] at H;exact absurd H (by simp)
mutual
def spec_StableRecords.l0:Nat→List (S27)→List (S34)→Int→Option ((List (S34)))
 | 0,_,_,_=>none
 | k+1,x0,x3,x4=>if x4 < (x0.length:Int) then ((spec_LogValid.f k x0).bind fun t547=>(spec_StableRecords.j1 k x0 x3 x4 t547)) else (spec_StableRecords.j1 k x0 x3 x4 false)
def spec_StableRecords.j1:Nat→List (S27)→List (S34)→Int→Bool→Option ((List (S34)))
 | 0,_,_,_,_=>none
 | k+1,x0,x3,x4,x14=>if x14=true then (if 0≤x4 then (if x4 < (x0.length:Int) then (if (rd_T27 x0 x4).f1=true then (spec_StableRecords.j2 k x0 x3 x4 true) else (if 0 < (((rd_T27 x0 x4).f5).length:Int) then ((spec_l22End.f k x0).bind fun t551=>(spec_StableRecords.j2 k x0 x3 x4 (decide (((rd_T34 ((rd_T27 x0 x4).f5) 0).f0) ≥ t551)))) else (none))) else (none)) else (none)) else (some x3)
def spec_StableRecords.j2:Nat→List (S27)→List (S34)→Int→Bool→Option ((List (S34)))
 | 0,_,_,_,_=>none
 | k+1,x0,x3,x4,x34=>if x34=true then (spec_StableRecords.l0 k x0 x3 (wrap64 (x4+1))) else (if 0≤x4 then (if x4 < (x0.length:Int) then ((spec_l22Ours.f ((rd_T27 x0 x4).f0) ((rd_T27 x0 x4).f1) ((rd_T27 x0 x4).f2) ((rd_T27 x0 x4).f3) ((rd_T27 x0 x4).f4) ((rd_T27 x0 x4).f5)).bind fun t553=>(if t553=true then ((spec_l22Mark.f k x0 x4).bind fun t554=>(if 0≤t554 then (if t554 < (x0.length:Int) then ((spec_l22Fine.f ((rd_T27 x0 t554).f0) ((rd_T27 x0 t554).f1) ((rd_T27 x0 t554).f2) ((rd_T27 x0 t554).f3) ((rd_T27 x0 t554).f4) ((rd_T27 x0 t554).f5)).bind fun t556=>(spec_StableRecords.j3 k x0 x3 x4 (!t556))) else (none)) else (none))) else (spec_StableRecords.j3 k x0 x3 x4 false))) else (none)) else (none))
def spec_StableRecords.j3:Nat→List (S27)→List (S34)→Int→Bool→Option ((List (S34)))
 | 0,_,_,_,_=>none
 | k+1,x0,x3,x4,x49=>if x49=true then (spec_StableRecords.l0 k x0 x3 (wrap64 (x4+1))) else (spec_StableRecords.l1 k x0 x3 x4 0)
def spec_StableRecords.l1:Nat→List (S27)→List (S34)→Int→Int→Option ((List (S34)))
 | 0,_,_,_,_=>none
 | k+1,x0,x3,x4,x5=>if 0≤x4 then (if x4 < (x0.length:Int) then (if x5 < (((rd_T27 x0 x4).f5).length:Int) then (if 0≤x5 then ((spec_l12Copy.f ((rd_T34 ((rd_T27 x0 x4).f5) x5).f0) ((rd_T34 ((rd_T27 x0 x4).f5) x5).f1) ((rd_T34 ((rd_T27 x0 x4).f5) x5).f2) ((rd_T34 ((rd_T27 x0 x4).f5) x5).f3) ((rd_T34 ((rd_T27 x0 x4).f5) x5).f4) ((rd_T34 ((rd_T27 x0 x4).f5) x5).f5)).bind fun bt560=>(if x3.length < 1759218604441 then (spec_StableRecords.l1 k x0 (x3 ++ [(⟨bt560.1,bt560.2.1,bt560.2.2.1,bt560.2.2.2.1,bt560.2.2.2.2.1,bt560.2.2.2.2.2⟩:S34)]) x4 (wrap64 (x5+1))) else (none))) else (none)) else (spec_StableRecords.l0 k x0 x3 (wrap64 (x4+1)))) else (none)) else (none)
end
def spec_StableRecords.f (k:Nat) (l0:List (S27)):Option ((List (S34))):=spec_StableRecords.l0 k l0 (([]:List (S34))) 0
def spec_StableRecords.T5:Bool×List (List Nat×List Nat):=(true,[([],[]),([],[]),([0,1],[0,1]),([2],[2]),([3],[3]),([4],[4]),([5],[5]),([5],[5]),([6,7,5],[5,6,7]),([8,5],[5,8]),([9,5],[5,9]),([10,5],[5,10]),([11,5],[5,11]),([12,5],[5,12]),([5],[5]),([14,5,5],[5,14]),([13,15,5],[5,13,15]),([5,16],[5,16])])
def spec_StableRecords.B5:List Nat:=[0,0,3,7,15,31,63,63,255,511,1023,2047,4095,8191,63,16447,65535,131071]
theorem spec_StableRecords.tab5:rtab .any (opsOf Try.f43 5)=spec_StableRecords.T5:=by kernel_rfl
theorem spec_StableRecords.bits5:waitsOk spec_StableRecords.T5.2 spec_StableRecords.B5=true:=by kernel_rfl
set_option maxHeartbeats 8000000 in
set_option maxRecDepth 100000 in
theorem spec_StableRecords.calls (k:Nat) (A0:Option Addr) (c0:Nat) (l0:List (S27)) (r:List (S34)) (w:World) (hr0:Kd.C k27 w A0 l0.length l0) (hc0:l0.length≤c0) (h:spec_StableRecords.f k l0=some r) :
  Calls Try.prog 43 #[.slice A0 l0.length c0] w fun e w'=>∃ v0_:Value,e = .returned (v0_)∧Kd.S k34 34 w' w.heap.size (fun _=>True) v0_ r∧Below w.heap.size w w':=by
 have hu27:=Try.underlying27;have hu34:=Try.underlying34;have HR0:=zzm hr0;have HC0:=zzm hc0;clear hr0 hc0;have HB:=zzm (Below.refl w.heap.size w);have H:(spec_StableRecords.l0 k l0 (([]:List (S34))) 0)=some r:=h;clear h;obtain ⟨y544,hy544⟩:∃ y_:List (S34),y_=(([]:List (S34))):=⟨_,rfl⟩;replace H:(spec_StableRecords.l0 k l0 y544 0)=some r:=by first|(rw [hy544];with_reducible exact H)|(have H2_:=(Option.bind_some _ _).symm.trans H;rw [hy544];with_reducible exact H2_)|(have H2_:=(Option.bind_some _ _).symm.trans H;with_reducible exact H2_)|with_reducible exact H|(rw [hy544];exact H)|exact H
 have Ny544:=zzm hy544;clear hy544;have H':=zzm H;clear H;go_enter Try.func43,Try.ntmps43;go_wp2_with (first|((with_reducible refine gate_dst (N:=6) rfl ?_);refine Kd.S_lit k34 _ 34 ?hg (N:=6) ?hd (xs:=([]:List (S34))) (inner:=[]) (ok:=fun _=>True) (okp:=fun _=>True) ?hr ?hp (fun _ hk=>hk) trivial (Below.refl _ _) (Nat.le_refl _) (by simp) ?_;(case hd=>rfl);(case hg=>rfl);(case hr=>first|(go_simp;done)|(go_simp;rfl));(case hp=>exact (Reps.none _ _));intro v545 w2 ho3 hb hg_ hnew_;clear hg_ hnew_;(first|rw [← Ny544.out] at ho3|(simp only [Int.reduceToNat] at ho3;rw [← Ny544.out] at ho3));have n0_:=zzm (Kd.S_lower ho3 (zzo zzh1));have n1_:=zzm (zzp zzh1 hb);clear HB;have HO546:=n0_;have HB:=n1_;clear n0_ n1_ hb ho3));go_loopg [3,4] k (fun kq v3 v4 w'=>∃ (x3_1:List (S34)) (x4_1:Int),v4 = .int .i64 x4_1∧Aside0 (spec_StableRecords.l0 kq l0 x3_1 x4_1=some r)∧Aside0 (kq≤k)∧Aside0 (Kd.S k34 34 w' w.heap.size (fun _=>True) v3 x3_1)∧Aside0 (Below w.heap.size w w'))
 case atStart=>exact ⟨(y544),(0),(by first|rfl|(simp;done)|(simp [*];done)),H',⟨Nat.le_refl _⟩,⟨by (with_reducible repeat (first|apply Kd.S_alloc|apply Kd.S_drewN|apply Kd.S_drew));exact HO546.out⟩,⟨zzh1⟩⟩
 case round=>
  clear H';try clear p2
  obtain ⟨x3_1,x4_1,rfl,HA,HK1,HO_3,HB⟩:=hrel;cases gk with
  | zero=>exact absurd HA.out (by simp [spec_StableRecords.l0])
  | succ k1=>
   have H:=HA.out;clear HA;simp only [spec_StableRecords.l0] at H;have HC4:=zzm H;clear H;go_upto_region 3 with (fail);go_cut [14] (fun v14 wc=>∃ (kq:Nat) (x14_3:Bool),v14 = .bool x14_3∧Aside0 (spec_StableRecords.j1 kq l0 x3_1 x4_1 x14_3=some r)∧Aside0 (kq≤k1)∧Aside0 (Kd.S k34 34 wc w.heap.size (fun _=>True) u3 x3_1)∧Aside0 (Below w.heap.size w wc))
   case first=>
    have H:=HC4.out;clear HC4;by_cases c5:x4_1 < (l0.length:Int)
    ·
     rw [if_pos c5] at H;have c5b0:decide (x4_1 < (l0.length:Int))=true:=decide_eq_true c5;clear c5;(first|rw [c5b0]|(simp only [i64_w,i32_w];rw [c5b0])|skip);replace H:=Option.bind_eq_some_iff.mp H;obtain ⟨t547,A60,H⟩:=H;replace H:(spec_StableRecords.j1 k1 l0 x3_1 x4_1 t547)=some r:=H;have A6:=zzm A60;clear A60;have H':=zzm H;clear H;go_wp2_with (first|(go_at_call 44;(with_reducible refine (spec_LogValid.calls k1 _ _ l0 t547 _ ?side1 ?side2 A6.out).mono ?_);(case side1=>repeat (first|exact (Kd.C_below HR0.out HB.out)|(with_reducible refine Kd.C_alloc ?_ _)|(with_reducible refine Kd.C_drewN ?_ _)|(with_reducible refine Kd.C_drew ?_)));(case side2=>exact HC0.out);rintro e w7 ⟨rfl,hb⟩;have n0_:=zzm (Kd.S_below (zzS HO_3.out) hb);have n1_:=zzm (zzp zzh1 hb);clear HO_3 HB;have HO_3:=n0_;have HB:=n1_;clear n0_ n1_;(try clear hb);(try clear hb2);(try clear hk);(try clear hi)));go_meet
     case rel=>exact ⟨_,(t547),(by first|rfl|(simp;done)|(simp [*];done)),H',⟨by have:=HK1.out;first|omega|exact Nat.le_refl _⟩,⟨by (with_reducible repeat (first|apply Kd.S_alloc|apply Kd.S_drewN|apply Kd.S_drew));exact HO_3.out⟩,⟨zzh1⟩⟩
    ·
     rw [if_neg c5] at H;have c5b0:decide (x4_1 < (l0.length:Int))=false:=decide_eq_false c5;clear c5;(first|rw [c5b0]|(simp only [i64_w,i32_w];rw [c5b0])|skip);have H':=zzm H;clear H;go_wp2;go_meet
     case rel=>exact ⟨_,(false),(by first|rfl|(simp;done)|(simp [*];done)),H',⟨by have:=HK1.out;first|omega|exact Nat.le_refl _⟩,⟨by (with_reducible repeat (first|apply Kd.S_alloc|apply Kd.S_drewN|apply Kd.S_drew));exact HO_3.out⟩,⟨zzh1⟩⟩
   case rest=>
    clear HC4;try clear p2
    try clear c4
    try clear c5
    try clear c5b0
    try clear p2
    obtain ⟨kq,x14_3,rfl,HA,HJ3,HO_3,HB⟩:=hcut;cases kq with
    | zero=>exact absurd HA.out (by simp [spec_StableRecords.j1])
    | succ kj3=>
     have H:=HA.out;clear HA;simp only [spec_StableRecords.j1] at H;by_cases c8:x14_3=true
     ·
      subst c8;have H1:(if 0≤x4_1 then (if x4_1 < (l0.length:Int) then (if (rd_T27 l0 x4_1).f1=true then (spec_StableRecords.j2 kj3 l0 x3_1 x4_1 true) else (if 0 < (((rd_T27 l0 x4_1).f5).length:Int) then ((spec_l22End.f kj3 l0).bind fun t551=>(spec_StableRecords.j2 kj3 l0 x3_1 x4_1 (decide (((rd_T34 ((rd_T27 l0 x4_1).f5) 0).f0) ≥ t551)))) else (none))) else (none)) else (none))=some r:=by rw [if_pos rfl] at H;exact H
      clear H;have H:=H1;clear H1;have HC9:=zzm H;clear H;go_upto_region 5 with (fail);go_cut [34] (fun v34 wc=>∃ (kq:Nat) (x34_8:Bool),v34 = .bool x34_8∧Aside0 (spec_StableRecords.j2 kq l0 x3_1 x4_1 x34_8=some r)∧Aside0 (kq≤kj3)∧Aside0 (Kd.S k34 34 wc w.heap.size (fun _=>True) u3 x3_1)∧Aside0 (Below w.heap.size w wc))
      case first=>
       have H:=HC9.out;clear HC9;by_cases c10 : 0≤x4_1
       ·
        rw [if_pos c10] at H;have c10b0:decide (0≤x4_1)=true:=decide_eq_true c10;clear c10;(first|rw [c10b0]|(simp only [i64_w,i32_w];rw [c10b0])|skip);by_cases c11:x4_1 < (l0.length:Int)
        ·
         rw [if_pos c11] at H;have c11b0:decide (x4_1 < (l0.length:Int))=true:=decide_eq_true c11;clear c11;obtain ⟨bq12,hbq12⟩:∃ b_:Bool,b_=((rd_T27 l0 x4_1).f1):=⟨_,rfl⟩;replace H:(if bq12=true then (spec_StableRecords.j2 kj3 l0 x3_1 x4_1 true) else (if 0 < (((rd_T27 l0 x4_1).f5).length:Int) then ((spec_l22End.f kj3 l0).bind fun t551=>(spec_StableRecords.j2 kj3 l0 x3_1 x4_1 (decide (((rd_T34 ((rd_T27 l0 x4_1).f5) 0).f0) ≥ t551)))) else (none)))=some r:=by rw [← hbq12] at H;exact H
         have Nbq12:=zzm hbq12;clear hbq12;by_cases c13:bq12=true
         ·
          subst c13;have H1:(spec_StableRecords.j2 kj3 l0 x3_1 x4_1 true)=some r:=by rw [if_pos rfl] at H;exact H
          clear H;have H:=H1;clear H1;have H':=zzm H;clear H;try go_wp2
          have n0_:=zzm (Kd.S_drew HO_3.out);have n1_:=zzm (zzc HB.out);clear HO_3 HB;have HO_3:=n0_;have HB:=n1_;clear n0_ n1_;have p548 : 0≤(x4_1:Int):=zzt;have q548:x4_1 < (l0.length:Int):=zzt;obtain ⟨ad548,A548_5,c548_5,e548,hx548_0,hx548_1,hx548_2,hx548_3,hx548_4,hx548_5,hl548_5,hi548_5⟩:=at_T27 HR0.out x4_1 p548 q548;have hw548_5:=hx548_5;have hw548_4:=hx548_4;have hw548_3:=hx548_3;have hw548_2:=hx548_2;have hw548_1:=hx548_1;have hw548_0:=hx548_0;(try rw [← Nbq12.out] at hx548_0);(try rw [← Nbq12.out] at hx548_1);cases e548;replace hx548_0:=zzx HB.out hx548_0;replace hx548_1:=zzx HB.out hx548_1;replace hx548_2:=zzx HB.out hx548_2;replace hx548_3:=zzx HB.out hx548_3;replace hx548_4:=zzx HB.out hx548_4;replace hx548_5:=zzx HB.out hx548_5;have HR548_5:=zzm hi548_5;have HC548_5:=zzm hl548_5;clear hi548_5 hl548_5;replace p548:=eq_true p548;replace q548:=eq_true q548;refine start_ (n:=18) (S:=fun w'=>w'.cell? (ad548.add ((x4_1).toNat * 6))=some (.bool ((rd_T27 l0 x4_1).f0))∧w'.cell? ⟨(ad548.add ((x4_1).toNat * 6)).block,(ad548.add ((x4_1).toNat * 6)).off+1,none⟩=some (.bool true)∧w'.cell? ⟨(ad548.add ((x4_1).toNat * 6)).block,(ad548.add ((x4_1).toNat * 6)).off+2,none⟩=some (.int .i64 ((rd_T27 l0 x4_1).f2))∧w'.cell? ⟨(ad548.add ((x4_1).toNat * 6)).block,(ad548.add ((x4_1).toNat * 6)).off+3,none⟩=some (.int .i64 ((rd_T27 l0 x4_1).f3))∧w'.cell? ⟨(ad548.add ((x4_1).toNat * 6)).block,(ad548.add ((x4_1).toNat * 6)).off+4,none⟩=some (.int .i64 ((rd_T27 l0 x4_1).f4))∧w'.cell? ⟨(ad548.add ((x4_1).toNat * 6)).block,(ad548.add ((x4_1).toNat * 6)).off+5,none⟩=some (.slice A548_5 ((rd_T27 l0 x4_1).f5).length c548_5)) (ds:=[]) (zzB 18 0) (by kernel_rfl) rfl rfl ⟨(zzx HB.out hw548_0),(by first|exact zzx HB.out hw548_1|exact hx548_1|(rw [Nbq12.out];exact zzx HB.out hw548_1)),(zzx HB.out hw548_2),(zzx HB.out hw548_3),(zzx HB.out hw548_4),(zzx HB.out hw548_5)⟩ (fun hHeld=>?_);refine with_tabW spec_StableRecords.tab5 spec_StableRecords.bits5 (fun HT_ HW_=>?_);generalize wc.drew=w14 at HO_3 HB HR548_5 hx548_0 hx548_1 hx548_2 hx548_3 hx548_4 hx548_5 hHeld ⊢;refine pure_ (i:=0) (N:=some 17) (v:=?_) (a':=?_) (zzB 18 1) rfl rfl (zzA2 HT_.out) (fun _ _ _ h=>h) (Or.inl ⟨by rfl,?_⟩) ?_ ?_;rotate_left
          ·
           intro w';go_simp;with_reducible rfl
          rotate_left
          ·
           simp only [Act.put,zzq,zzr,zzs,i64_w,i32_w];rfl
          refine pure_ (i:=1) (N:=some 18) (v:=?_) (a':=?_) (zzB 18 3) rfl rfl (zzA2 HT_.out) (fun _ _ _ h=>h) (Or.inl ⟨by rfl,?_⟩) ?_ ?_;rotate_left
          ·
           intro w';go_simp;with_reducible rfl
          rotate_left
          ·
           simp only [Act.put,zzq,zzr,zzs,i64_w,i32_w];rfl
          refine pure_ (i:=2) (N:=some 19) (v:=?_) (a':=?_) (zzB 18 7) rfl rfl (zzA2 HT_.out) (fun _ _ _ h=>h) (Or.inl ⟨by rfl,?_⟩) ?_ ?_;rotate_left
          ·
           intro w';go_simp;with_reducible rfl
          rotate_left
          ·
           simp only [Act.put,zzq,zzr,zzs,i64_w,i32_w];rfl
          refine pure_ (i:=3) (N:=some 20) (v:=?_) (a':=?_) (zzB 18 15) rfl rfl (zzA2 HT_.out) (fun _ _ _ h=>h) (Or.inl ⟨by rfl,?_⟩) ?_ ?_;rotate_left
          ·
           intro w';go_simp;with_reducible rfl
          rotate_left
          ·
           simp only [Act.put,zzq,zzr,zzs,i64_w,i32_w];rfl
          refine take_ (i:=4) (N:=some 21) (v:=?_) (a':=?_) (zzB 18 31) rfl rfl (take_ofW HT_.out HW_.out (by kernel_rfl)) (fun _ _ _ h=>h) (Or.inl ⟨by rfl,?_⟩) hHeld ?_ ?_;rotate_left
          ·
           rintro w' ⟨s0,s1,s2,s3,s4,s5⟩;go_simp;with_reducible rfl
          rotate_left
          ·
           simp only [Act.put,zzq,zzr,zzs,i64_w,i32_w];rfl
          refine pure_ (i:=5) (N:=some 22) (v:=?_) (a':=?_) (zzB 18 63) rfl rfl (zzA2 HT_.out) (fun _ _ _ h=>h) (Or.inl ⟨by rfl,?_⟩) ?_ ?_;rotate_left
          ·
           intro w';go_simp;with_reducible rfl
          rotate_left
          ·
           simp only [Act.put,zzq,zzr,zzs,i64_w,i32_w];rfl
          refine pure_ (i:=6) (N:=some 23) (v:=undef) (a':=?_) (zzB 18 127) rfl rfl (zzA2 HT_.out) (fun _ _ _ h=>h) (Or.inr ⟨by rfl,rfl⟩) ?_ ?_;rotate_left
          ·
           simp only [Act.put,zzq,zzr,zzs,i64_w,i32_w];rfl
          refine pure_ (i:=7) (N:=some 24) (v:=undef) (a':=?_) (zzB 18 255) rfl rfl (zzA2 HT_.out) (fun _ _ _ h=>h) (Or.inr ⟨by rfl,rfl⟩) ?_ ?_;rotate_left
          ·
           simp only [Act.put,zzq,zzr,zzs,i64_w,i32_w];rfl
          refine pure_ (i:=8) (N:=some 25) (v:=undef) (a':=?_) (zzB 18 511) rfl rfl (zzA2 HT_.out) (fun _ _ _ h=>h) (Or.inr ⟨by rfl,rfl⟩) ?_ ?_;rotate_left
          ·
           simp only [Act.put,zzq,zzr,zzs,i64_w,i32_w];rfl
          refine pure_ (i:=9) (N:=some 26) (v:=undef) (a':=?_) (zzB 18 1023) rfl rfl (zzA2 HT_.out) (fun _ _ _ h=>h) (Or.inr ⟨by rfl,rfl⟩) ?_ ?_;rotate_left
          ·
           simp only [Act.put,zzq,zzr,zzs,i64_w,i32_w];rfl
          refine pure_ (i:=10) (N:=some 27) (v:=undef) (a':=?_) (zzB 18 2047) rfl rfl (zzA2 HT_.out) (fun _ _ _ h=>h) (Or.inr ⟨by rfl,rfl⟩) ?_ ?_;rotate_left
          ·
           simp only [Act.put,zzq,zzr,zzs,i64_w,i32_w];rfl
          refine pure_ (i:=11) (N:=some 28) (v:=undef) (a':=?_) (zzB 18 4095) rfl rfl (zzA2 HT_.out) (fun _ _ _ h=>h) (Or.inr ⟨by rfl,rfl⟩) ?_ ?_;rotate_left
          ·
           simp only [Act.put,zzq,zzr,zzs,i64_w,i32_w];rfl
          refine pure_ (i:=12) (N:=some 29) (v:=undef) (a':=?_) (zzB 18 8191) rfl rfl (zzA2 HT_.out) (fun _ _ _ h=>h) (Or.inr ⟨by rfl,rfl⟩) ?_ ?_;rotate_left
          ·
           simp only [Act.put,zzq,zzr,zzs,i64_w,i32_w];rfl
          refine pure_ (i:=13) (N:=some 30) (v:=undef) (a':=?_) (zzB 18 16383) rfl rfl (zzA2 HT_.out) (fun _ _ _ h=>h) (Or.inr ⟨by rfl,rfl⟩) ?_ ?_;rotate_left
          ·
           simp only [Act.put,zzq,zzr,zzs,i64_w,i32_w];rfl
          refine pure_ (i:=14) (N:=some 31) (v:=undef) (a':=?_) (zzB 18 32767) rfl rfl (zzA2 HT_.out) (fun _ _ _ h=>h) (Or.inr ⟨by rfl,rfl⟩) ?_ ?_;rotate_left
          ·
           simp only [Act.put,zzq,zzr,zzs,i64_w,i32_w];rfl
          refine pure_ (i:=15) (N:=some 32) (v:=undef) (a':=?_) (zzB 18 65535) rfl rfl (zzA2 HT_.out) (fun _ _ _ h=>h) (Or.inr ⟨by rfl,rfl⟩) ?_ ?_;rotate_left
          ·
           simp only [Act.put,zzq,zzr,zzs,i64_w,i32_w];rfl
          refine pure_ (i:=16) (N:=some 33) (v:=undef) (a':=?_) (zzB 18 131071) rfl rfl (zzA2 HT_.out) (fun _ _ _ h=>h) (Or.inr ⟨by rfl,rfl⟩) ?_ ?_;rotate_left
          ·
           simp only [Act.put,zzq,zzr,zzs,i64_w,i32_w];rfl
          refine pure_ (i:=17) (N:=some 34) (v:=?_) (a':=?_) (zzB 18 262143) rfl rfl (zzA2 HT_.out) (fun _ _ _ h=>h) (Or.inl ⟨by rfl,?_⟩) ?_ ?_;rotate_left
          ·
           intro w';go_simp;with_reducible rfl
          rotate_left
          ·
           simp only [Act.put,zzq,zzr,zzs,i64_w,i32_w];rfl
          refine done_ (done_of HT_.out (by kernel_rfl)) ?_;try go_wp2
          go_meet
          case rel=>exact ⟨_,(true),(by first|rfl|(simp;done)|(simp [*];done)),H',⟨by have:=HK1.out;have:=HJ3.out;first|omega|exact Nat.le_refl _⟩,⟨by (with_reducible repeat (first|apply Kd.S_alloc|apply Kd.S_drewN|apply Kd.S_drew));exact HO_3.out⟩,⟨zzh1⟩⟩
         ·
          replace c13:=Bool.eq_false_iff.mpr c13;subst c13;have H1:(if 0 < (((rd_T27 l0 x4_1).f5).length:Int) then ((spec_l22End.f kj3 l0).bind fun t551=>(spec_StableRecords.j2 kj3 l0 x3_1 x4_1 (decide (((rd_T34 ((rd_T27 l0 x4_1).f5) 0).f0) ≥ t551)))) else (none))=some r:=by rw [if_neg (show ¬ (false=true) by decide)] at H;exact H
          clear H;have H:=H1;clear H1;by_cases c15 : 0 < (((rd_T27 l0 x4_1).f5).length:Int)
          ·
           rw [if_pos c15] at H;have c15b0:decide (0 < (((rd_T27 l0 x4_1).f5).length:Int))=true:=decide_eq_true c15;have c15b1:decide (0 < ((rd_T27 l0 x4_1).f5).length)=true:=decide_eq_true (by omega);clear c15;replace H:=Option.bind_eq_some_iff.mp H;obtain ⟨t551,A160,H⟩:=H;replace H:(spec_StableRecords.j2 kj3 l0 x3_1 x4_1 (decide (((rd_T34 ((rd_T27 l0 x4_1).f5) 0).f0) ≥ t551)))=some r:=H;have A16:=zzm A160;clear A160;have H':=zzm H;clear H;try go_wp2
           have n0_:=zzm (Kd.S_drew HO_3.out);have n1_:=zzm (zzc HB.out);clear HO_3 HB;have HO_3:=n0_;have HB:=n1_;clear n0_ n1_;have p548 : 0≤(x4_1:Int):=zzt;have q548:x4_1 < (l0.length:Int):=zzt;obtain ⟨ad548,A548_5,c548_5,e548,hx548_0,hx548_1,hx548_2,hx548_3,hx548_4,hx548_5,hl548_5,hi548_5⟩:=at_T27 HR0.out x4_1 p548 q548;have hw548_5:=hx548_5;have hw548_4:=hx548_4;have hw548_3:=hx548_3;have hw548_2:=hx548_2;have hw548_1:=hx548_1;have hw548_0:=hx548_0;(try rw [← Nbq12.out] at hx548_0);(try rw [← Nbq12.out] at hx548_1);cases e548;replace hx548_0:=zzx HB.out hx548_0;replace hx548_1:=zzx HB.out hx548_1;replace hx548_2:=zzx HB.out hx548_2;replace hx548_3:=zzx HB.out hx548_3;replace hx548_4:=zzx HB.out hx548_4;replace hx548_5:=zzx HB.out hx548_5;have HR548_5:=zzm hi548_5;have HC548_5:=zzm hl548_5;clear hi548_5 hl548_5;replace p548:=eq_true p548;replace q548:=eq_true q548;have p549 : 0≤(x4_1:Int):=zzt;have q549:x4_1 < (l0.length:Int):=zzt;obtain ⟨ad549,A549_5,c549_5,e549,hx549_0,hx549_1,hx549_2,hx549_3,hx549_4,hx549_5,hl549_5,hi549_5⟩:=at_T27 HR0.out x4_1 p549 q549;have hw549_5:=hx549_5;have hw549_4:=hx549_4;have hw549_3:=hx549_3;have hw549_2:=hx549_2;have hw549_1:=hx549_1;have hw549_0:=hx549_0;(try rw [← Nbq12.out] at hx549_0);(try rw [← Nbq12.out] at hx549_1);obtain rfl:ad548=ad549:=(by injection e549);replace hx549_0:=zzx HB.out hx549_0;replace hx549_1:=zzx HB.out hx549_1;replace hx549_2:=zzx HB.out hx549_2;replace hx549_3:=zzx HB.out hx549_3;replace hx549_4:=zzx HB.out hx549_4;replace hx549_5:=zzx HB.out hx549_5;have HR549_5:=zzm hi549_5;have HC549_5:=zzm hl549_5;clear hi549_5 hl549_5;replace p549:=eq_true p549;replace q549:=eq_true q549;have ea_:=Option.some.inj (hx548_5.symm.trans hx549_5);injection ea_ with ea_ en_ ec_;subst ea_;subst ec_;clear en_;have p550 : 0≤(0:Int):=(by omega);have q550 : 0 < (((rd_T27 l0 x4_1).f5).length:Int):=zzt;obtain ⟨ad550,A550_3,c550_3,A550_5,c550_5,e550,hx550_0,hx550_1,hx550_2,hx550_3,hx550_4,hx550_5,hl550_3,hi550_3,hl550_5,hi550_5⟩:=at_T34 HR549_5.out 0 p550 q550;have hw550_5:=hx550_5;(try rw [show ((0:Int)).toNat=0 from rfl] at hw550_5);(try rw [show 0 * 6=0 from rfl] at hw550_5);(try rw [Addr.add_zero'] at hw550_5);have hw550_4:=hx550_4;(try rw [show ((0:Int)).toNat=0 from rfl] at hw550_4);(try rw [show 0 * 6=0 from rfl] at hw550_4);(try rw [Addr.add_zero'] at hw550_4);have hw550_3:=hx550_3;(try rw [show ((0:Int)).toNat=0 from rfl] at hw550_3);(try rw [show 0 * 6=0 from rfl] at hw550_3);(try rw [Addr.add_zero'] at hw550_3);have hw550_2:=hx550_2;(try rw [show ((0:Int)).toNat=0 from rfl] at hw550_2);(try rw [show 0 * 6=0 from rfl] at hw550_2);(try rw [Addr.add_zero'] at hw550_2);have hw550_1:=hx550_1;(try rw [show ((0:Int)).toNat=0 from rfl] at hw550_1);(try rw [show 0 * 6=0 from rfl] at hw550_1);(try rw [Addr.add_zero'] at hw550_1);have hw550_0:=hx550_0;(try rw [show ((0:Int)).toNat=0 from rfl] at hw550_0);(try rw [show 0 * 6=0 from rfl] at hw550_0);(try rw [Addr.add_zero'] at hw550_0);(try rw [← Nbq12.out] at hx550_2);(try rw [← Nbq12.out] at hx550_4);cases e550;have qi550:(0 < ((rd_T27 l0 x4_1).f5).length)=True:=eq_true (by omega);(try rw [show ((0:Int)).toNat=0 from rfl] at hx550_0);(try rw [show 0 * 6=0 from rfl] at hx550_0);(try rw [Addr.add_zero'] at hx550_0);(try rw [show ((0:Int)).toNat=0 from rfl] at hx550_1);(try rw [show 0 * 6=0 from rfl] at hx550_1);(try rw [Addr.add_zero'] at hx550_1);(try rw [show ((0:Int)).toNat=0 from rfl] at hx550_2);(try rw [show 0 * 6=0 from rfl] at hx550_2);(try rw [Addr.add_zero'] at hx550_2);(try rw [show ((0:Int)).toNat=0 from rfl] at hx550_3);(try rw [show 0 * 6=0 from rfl] at hx550_3);(try rw [Addr.add_zero'] at hx550_3);(try rw [show ((0:Int)).toNat=0 from rfl] at hx550_4);(try rw [show 0 * 6=0 from rfl] at hx550_4);(try rw [Addr.add_zero'] at hx550_4);(try rw [show ((0:Int)).toNat=0 from rfl] at hx550_5);(try rw [show 0 * 6=0 from rfl] at hx550_5);(try rw [Addr.add_zero'] at hx550_5);replace hx550_0:=zzx HB.out hx550_0;replace hx550_1:=zzx HB.out hx550_1;replace hx550_2:=zzx HB.out hx550_2;replace hx550_3:=zzx HB.out hx550_3;replace hx550_4:=zzx HB.out hx550_4;replace hx550_5:=zzx HB.out hx550_5;have HR550_3:=zzm hi550_3;have HC550_3:=zzm hl550_3;clear hi550_3 hl550_3;have HR550_5:=zzm hi550_5;have HC550_5:=zzm hl550_5;clear hi550_5 hl550_5;replace p550:=eq_true p550;replace q550:=eq_true q550;refine start_ (n:=18) (S:=fun w'=>w'.cell? (ad548.add ((x4_1).toNat * 6))=some (.bool ((rd_T27 l0 x4_1).f0))∧w'.cell? ⟨(ad548.add ((x4_1).toNat * 6)).block,(ad548.add ((x4_1).toNat * 6)).off+1,none⟩=some (.bool false)∧w'.cell? ⟨(ad548.add ((x4_1).toNat * 6)).block,(ad548.add ((x4_1).toNat * 6)).off+2,none⟩=some (.int .i64 ((rd_T27 l0 x4_1).f2))∧w'.cell? ⟨(ad548.add ((x4_1).toNat * 6)).block,(ad548.add ((x4_1).toNat * 6)).off+3,none⟩=some (.int .i64 ((rd_T27 l0 x4_1).f3))∧w'.cell? ⟨(ad548.add ((x4_1).toNat * 6)).block,(ad548.add ((x4_1).toNat * 6)).off+4,none⟩=some (.int .i64 ((rd_T27 l0 x4_1).f4))∧w'.cell? ⟨(ad548.add ((x4_1).toNat * 6)).block,(ad548.add ((x4_1).toNat * 6)).off+5,none⟩=some (.slice (some ad550) ((rd_T27 l0 x4_1).f5).length c548_5)∧w'.cell? (ad548.add ((x4_1).toNat * 6))=some (.bool ((rd_T27 l0 x4_1).f0))∧w'.cell? ⟨(ad548.add ((x4_1).toNat * 6)).block,(ad548.add ((x4_1).toNat * 6)).off+1,none⟩=some (.bool (false))∧w'.cell? ⟨(ad548.add ((x4_1).toNat * 6)).block,(ad548.add ((x4_1).toNat * 6)).off+2,none⟩=some (.int .i64 ((rd_T27 l0 x4_1).f2))∧w'.cell? ⟨(ad548.add ((x4_1).toNat * 6)).block,(ad548.add ((x4_1).toNat * 6)).off+3,none⟩=some (.int .i64 ((rd_T27 l0 x4_1).f3))∧w'.cell? ⟨(ad548.add ((x4_1).toNat * 6)).block,(ad548.add ((x4_1).toNat * 6)).off+4,none⟩=some (.int .i64 ((rd_T27 l0 x4_1).f4))∧w'.cell? ⟨(ad548.add ((x4_1).toNat * 6)).block,(ad548.add ((x4_1).toNat * 6)).off+5,none⟩=some (.slice (some ad550) ((rd_T27 l0 x4_1).f5).length c548_5)∧w'.cell? ad550=some (.int .i64 ((rd_T34 ((rd_T27 l0 x4_1).f5) 0).f0))∧w'.cell? ⟨ad550.block,ad550.off+1,none⟩=some (.int .i64 ((rd_T34 ((rd_T27 l0 x4_1).f5) 0).f1))∧w'.cell? ⟨ad550.block,ad550.off+2,none⟩=some (.bool ((rd_T34 ((rd_T27 l0 x4_1).f5) 0).f2))∧w'.cell? ⟨ad550.block,ad550.off+3,none⟩=some (.slice A550_3 ((rd_T34 ((rd_T27 l0 x4_1).f5) 0).f3).length c550_3)∧w'.cell? ⟨ad550.block,ad550.off+4,none⟩=some (.bool ((rd_T34 ((rd_T27 l0 x4_1).f5) 0).f4))∧w'.cell? ⟨ad550.block,ad550.off+5,none⟩=some (.slice A550_5 ((rd_T34 ((rd_T27 l0 x4_1).f5) 0).f5).length c550_5)) (ds:=[]) (zzB 18 0) (by kernel_rfl) rfl rfl ⟨(zzx HB.out hw548_0),(by first|exact zzx HB.out hw548_1|exact hx548_1|(rw [Nbq12.out];exact zzx HB.out hw548_1)),(zzx HB.out hw548_2),(zzx HB.out hw548_3),(zzx HB.out hw548_4),(zzx HB.out hw548_5),(zzx HB.out hw549_0),(by first|exact zzx HB.out hw549_1|exact hx549_1|(rw [Nbq12.out];exact zzx HB.out hw549_1)),(zzx HB.out hw549_2),(zzx HB.out hw549_3),(zzx HB.out hw549_4),(zzx HB.out hw549_5),(zzx HB.out hw550_0),(by first|exact zzx HB.out hw550_1|exact hx550_1),(zzx HB.out hw550_2),(zzx HB.out hw550_3),(zzx HB.out hw550_4),(zzx HB.out hw550_5)⟩ (fun hHeld=>?_);refine with_tabW spec_StableRecords.tab5 spec_StableRecords.bits5 (fun HT_ HW_=>?_);generalize wc.drew=w17 at HO_3 HB HR548_5 HR549_5 HR550_3 HR550_5 hx548_0 hx548_1 hx548_2 hx548_3 hx548_4 hx548_5 hx549_0 hx549_1 hx549_2 hx549_3 hx549_4 hx549_5 hx550_0 hx550_1 hx550_2 hx550_3 hx550_4 hx550_5 hHeld ⊢;refine pure_ (i:=0) (N:=some 17) (v:=?_) (a':=?_) (zzB 18 1) rfl rfl (zzA2 HT_.out) (fun _ _ _ h=>h) (Or.inl ⟨by rfl,?_⟩) ?_ ?_;rotate_left
           ·
            intro w';go_simp;with_reducible rfl
           rotate_left
           ·
            simp only [Act.put,zzq,zzr,zzs,i64_w,i32_w];rfl
           refine pure_ (i:=1) (N:=some 18) (v:=?_) (a':=?_) (zzB 18 3) rfl rfl (zzA2 HT_.out) (fun _ _ _ h=>h) (Or.inl ⟨by rfl,?_⟩) ?_ ?_;rotate_left
           ·
            intro w';go_simp;with_reducible rfl
           rotate_left
           ·
            simp only [Act.put,zzq,zzr,zzs,i64_w,i32_w];rfl
           refine pure_ (i:=2) (N:=some 19) (v:=?_) (a':=?_) (zzB 18 7) rfl rfl (zzA2 HT_.out) (fun _ _ _ h=>h) (Or.inl ⟨by rfl,?_⟩) ?_ ?_;rotate_left
           ·
            intro w';go_simp;with_reducible rfl
           rotate_left
           ·
            simp only [Act.put,zzq,zzr,zzs,i64_w,i32_w];rfl
           refine pure_ (i:=3) (N:=some 20) (v:=?_) (a':=?_) (zzB 18 15) rfl rfl (zzA2 HT_.out) (fun _ _ _ h=>h) (Or.inl ⟨by rfl,?_⟩) ?_ ?_;rotate_left
           ·
            intro w';go_simp;with_reducible rfl
           rotate_left
           ·
            simp only [Act.put,zzq,zzr,zzs,i64_w,i32_w];rfl
           refine take_ (i:=4) (N:=some 21) (v:=?_) (a':=?_) (zzB 18 31) rfl rfl (take_ofW HT_.out HW_.out (by kernel_rfl)) (fun _ _ _ h=>h) (Or.inl ⟨by rfl,?_⟩) hHeld ?_ ?_;rotate_left
           ·
            rintro w' ⟨s0,s1,s2,s3,s4,s5,s6,s7,s8,s9,s10,s11,s12,s13,s14,s15,s16,s17⟩;go_simp;with_reducible rfl
           rotate_left
           ·
            simp only [Act.put,zzq,zzr,zzs,i64_w,i32_w];rfl
           refine pure_ (i:=5) (N:=some 22) (v:=?_) (a':=?_) (zzB 18 63) rfl rfl (zzA2 HT_.out) (fun _ _ _ h=>h) (Or.inl ⟨by rfl,?_⟩) ?_ ?_;rotate_left
           ·
            intro w';go_simp;with_reducible rfl
           rotate_left
           ·
            simp only [Act.put,zzq,zzr,zzs,i64_w,i32_w];rfl
           refine pure_ (i:=6) (N:=some 23) (v:=?_) (a':=?_) (zzB 18 127) rfl rfl (zzA2 HT_.out) (fun _ _ _ h=>h) (Or.inl ⟨by rfl,?_⟩) ?_ ?_;rotate_left
           ·
            intro w';go_simp;with_reducible rfl
           rotate_left
           ·
            simp only [Act.put,zzq,zzr,zzs,i64_w,i32_w];rfl
           refine pure_ (i:=7) (N:=some 24) (v:=?_) (a':=?_) (zzB 18 255) rfl rfl (zzA2 HT_.out) (fun _ _ _ h=>h) (Or.inl ⟨by rfl,?_⟩) ?_ ?_;rotate_left
           ·
            intro w';go_simp;with_reducible rfl
           rotate_left
           ·
            simp only [Act.put,zzq,zzr,zzs,i64_w,i32_w];rfl
           refine pure_ (i:=8) (N:=some 25) (v:=?_) (a':=?_) (zzB 18 511) rfl rfl (zzA2 HT_.out) (fun _ _ _ h=>h) (Or.inl ⟨by rfl,?_⟩) ?_ ?_;rotate_left
           ·
            intro w';go_simp;with_reducible rfl
           rotate_left
           ·
            simp only [Act.put,zzq,zzr,zzs,i64_w,i32_w];rfl
           refine pure_ (i:=9) (N:=some 26) (v:=?_) (a':=?_) (zzB 18 1023) rfl rfl (zzA2 HT_.out) (fun _ _ _ h=>h) (Or.inl ⟨by rfl,?_⟩) ?_ ?_;rotate_left
           ·
            intro w';go_simp;with_reducible rfl
           rotate_left
           ·
            simp only [Act.put,zzq,zzr,zzs,i64_w,i32_w];rfl
           refine pure_ (i:=14) (N:=some 31) (v:=?_) (a':=?_) (zzB 18 17407) rfl rfl (zzA2 HT_.out) (fun _ _ _ h=>h) (Or.inl ⟨by rfl,?_⟩) ?_ ?_;rotate_left
           ·
            intro w';go_simp;with_reducible rfl
           rotate_left
           ·
            simp only [Act.put,zzq,zzr,zzs,i64_w,i32_w];rfl
           refine take_ (i:=10) (N:=some 27) (v:=?_) (a':=?_) (zzB 18 18431) rfl rfl (take_ofW HT_.out HW_.out (by kernel_rfl)) (fun _ _ _ h=>h) (Or.inl ⟨by rfl,?_⟩) hHeld ?_ ?_;rotate_left
           ·
            rintro w' ⟨s0,s1,s2,s3,s4,s5,s6,s7,s8,s9,s10,s11,s12,s13,s14,s15,s16,s17⟩;go_simp;with_reducible rfl
           rotate_left
           ·
            simp only [Act.put,zzq,zzr,zzs,i64_w,i32_w];rfl
           refine pure_ (i:=11) (N:=some 28) (v:=?_) (a':=?_) (zzB 18 20479) rfl rfl (zzA2 HT_.out) (fun _ _ _ h=>h) (Or.inl ⟨by rfl,?_⟩) ?_ ?_;rotate_left
           ·
            intro w';go_simp;with_reducible rfl
           rotate_left
           ·
            simp only [Act.put,zzq,zzr,zzs,i64_w,i32_w];rfl
           refine pure_ (i:=12) (N:=some 29) (v:=?_) (a':=?_) (zzB 18 24575) rfl rfl (zzA2 HT_.out) (fun _ _ _ h=>h) (Or.inl ⟨by rfl,?_⟩) ?_ ?_;rotate_left
           ·
            intro w';go_simp;with_reducible rfl
           rotate_left
           ·
            simp only [Act.put,zzq,zzr,zzs,i64_w,i32_w];rfl
           refine take_ (i:=13) (N:=some 30) (v:=?_) (a':=?_) (zzB 18 32767) rfl rfl (take_ofW HT_.out HW_.out (by kernel_rfl)) (fun _ _ _ h=>h) (Or.inl ⟨by rfl,?_⟩) hHeld ?_ ?_;rotate_left
           ·
            rintro w' ⟨s0,s1,s2,s3,s4,s5,s6,s7,s8,s9,s10,s11,s12,s13,s14,s15,s16,s17⟩;go_simp;with_reducible rfl
           rotate_left
           ·
            simp only [Act.put,zzq,zzr,zzs,i64_w,i32_w];rfl
           refine one_ (i:=15) (N:=some 32) (zzB 18 65535) rfl rfl (one_of HT_.out (by kernel_rfl)) (by decide) (fun K hK=>?_);refine goes_ Try.func64 (by kernel_rfl) rfl #[.slice (some ad548) l0.length c0] (by rfl) rfl rfl zzM2 ?_;with_reducible refine (spec_l22End.calls kj3 _ _ l0 t551 _ ?side1 ?side2 A16.out).mono ?_;(case side1=>repeat (first|exact (Kd.C_below HR0.out HB.out)|(with_reducible refine Kd.C_alloc ?_ _)|(with_reducible refine Kd.C_drewN ?_ _)|(with_reducible refine Kd.C_drew ?_)));(case side2=>exact HC0.out);rintro e w18 ⟨rfl,hb⟩;refine ⟨_,rfl,?_⟩;have n0_:=zzm (Kd.S_below (zzS HO_3.out) hb);have n1_:=zzm (zzp zzh1 hb);clear HO_3 HB;have HO_3:=n0_;have HB:=n1_;clear n0_ n1_;(try clear hb);(try clear hb2);(try clear hk);(try clear hi);refine hK.out _ _ ⟨(zzx HB.out hw548_0),(by first|exact zzx HB.out hw548_1|exact hx548_1|(rw [Nbq12.out];exact zzx HB.out hw548_1)),(zzx HB.out hw548_2),(zzx HB.out hw548_3),(zzx HB.out hw548_4),(zzx HB.out hw548_5),(zzx HB.out hw549_0),(by first|exact zzx HB.out hw549_1|exact hx549_1|(rw [Nbq12.out];exact zzx HB.out hw549_1)),(zzx HB.out hw549_2),(zzx HB.out hw549_3),(zzx HB.out hw549_4),(zzx HB.out hw549_5),(zzx HB.out hw550_0),(by first|exact zzx HB.out hw550_1|exact hx550_1),(zzx HB.out hw550_2),(zzx HB.out hw550_3),(zzx HB.out hw550_4),(zzx HB.out hw550_5)⟩ (fun hHeld=>?_);clear hK K;refine norm_ (a':=?_) ?_ ?_;rotate_left
           ·
            show Act.put _ (some 32) _ = _;simp only [Act.put,zzq,zzr,zzs,i64_w,i32_w];rfl
           refine pure_ (i:=16) (N:=some 33) (v:=?_) (a':=?_) (zzB 18 131071) rfl rfl (zzA2 HT_.out) (fun _ _ _ h=>h) (Or.inl ⟨by rfl,?_⟩) ?_ ?_;rotate_left
           ·
            intro w';go_simp;with_reducible rfl
           rotate_left
           ·
            simp only [Act.put,zzq,zzr,zzs,i64_w,i32_w];rfl
           refine pure_ (i:=17) (N:=some 34) (v:=?_) (a':=?_) (zzB 18 262143) rfl rfl (zzA2 HT_.out) (fun _ _ _ h=>h) (Or.inl ⟨by rfl,?_⟩) ?_ ?_;rotate_left
           ·
            intro w';go_simp;with_reducible rfl
           rotate_left
           ·
            simp only [Act.put,zzq,zzr,zzs,i64_w,i32_w];rfl
           refine done_ (done_of HT_.out (by kernel_rfl)) ?_;try go_wp2
           go_meet
           case rel=>exact ⟨_,(decide (((rd_T34 ((rd_T27 l0 x4_1).f5) 0).f0) ≥ t551)),(by first|rfl|(simp;done)|(simp [*];done)),H',⟨by have:=HK1.out;have:=HJ3.out;first|omega|exact Nat.le_refl _⟩,⟨by (with_reducible repeat (first|apply Kd.S_alloc|apply Kd.S_drewN|apply Kd.S_drew));exact HO_3.out⟩,⟨zzh1⟩⟩
          ·
           rw [if_neg c15] at H;exact absurd H (by simp)
        ·
         rw [if_neg c11] at H;exact absurd H (by simp)
       ·
        rw [if_neg c10] at H;exact absurd H (by simp)
      case rest=>
       clear HC9;try clear c1
       try clear q1
       try clear p2
       try clear c4
       try clear c5
       try clear c5b0
       try clear p5
       try clear q5
       try clear hx5
       try clear qi5
       try clear c6
       try clear c8
       try clear c10
       try clear c10b0
       try clear c11
       try clear c11b0
       try clear q12
       try clear c13
       try clear c15
       try clear c15b0
       try clear c15b1
       try clear hx548_0
       try clear hx548_1
       try clear hx548_2
       try clear hx548_3
       try clear hx548_4
       try clear hx548_5
       try clear hx549_0
       try clear hx549_1
       try clear hx549_2
       try clear hx549_3
       try clear hx549_4
       try clear hx549_5
       try clear hx550_0
       try clear hx550_1
       try clear hx550_2
       try clear hx550_3
       try clear hx550_4
       try clear hx550_5
       try clear p2
       try clear p548
       try clear p549
       try clear p550
       try clear q548
       try clear q549
       try clear q550
       obtain ⟨kq,x34_8,rfl,HA,HJ8,HO_3,HB⟩:=hcut;cases kq with
       | zero=>exact absurd HA.out (by simp [spec_StableRecords.j2])
       | succ kj8=>
        have H:=HA.out;clear HA;simp only [spec_StableRecords.j2] at H;by_cases c19:x34_8=true
        ·
         subst c19;have H1:(spec_StableRecords.l0 kj8 l0 x3_1 (wrap64 (x4_1+1)))=some r:=by rw [if_pos rfl] at H;exact H
         clear H;have H:=H1;clear H1;have H':=zzm H;clear H;go_wp2;go_roundg kj8
         case measure=>have:=HK1.out;have:=HJ3.out;have:=HJ8.out;omega
         case rel=>exact ⟨(x3_1),(wrap64 (x4_1+1)),(by first|rfl|(simp;done)|(simp [*];done)),H',⟨by have:=HK1.out;have:=HJ3.out;have:=HJ8.out;omega⟩,⟨by (with_reducible repeat (first|apply Kd.S_alloc|apply Kd.S_drewN|apply Kd.S_drew));exact HO_3.out⟩,⟨zzh1⟩⟩
        ·
         replace c19:=Bool.eq_false_iff.mpr c19;subst c19;have H1:(if 0≤x4_1 then (if x4_1 < (l0.length:Int) then ((spec_l22Ours.f ((rd_T27 l0 x4_1).f0) ((rd_T27 l0 x4_1).f1) ((rd_T27 l0 x4_1).f2) ((rd_T27 l0 x4_1).f3) ((rd_T27 l0 x4_1).f4) ((rd_T27 l0 x4_1).f5)).bind fun t553=>(if t553=true then ((spec_l22Mark.f kj8 l0 x4_1).bind fun t554=>(if 0≤t554 then (if t554 < (l0.length:Int) then ((spec_l22Fine.f ((rd_T27 l0 t554).f0) ((rd_T27 l0 t554).f1) ((rd_T27 l0 t554).f2) ((rd_T27 l0 t554).f3) ((rd_T27 l0 t554).f4) ((rd_T27 l0 t554).f5)).bind fun t556=>(spec_StableRecords.j3 kj8 l0 x3_1 x4_1 (!t556))) else (none)) else (none))) else (spec_StableRecords.j3 kj8 l0 x3_1 x4_1 false))) else (none)) else (none))=some r:=by rw [if_neg (show ¬ (false=true) by decide)] at H;exact H
         clear H;have H:=H1;clear H1;have HC20:=zzm H;clear H;go_upto_region 6 with (fail);go_cut [49] (fun v49 wc=>∃ (kq:Nat) (x49_19:Bool),v49 = .bool x49_19∧Aside0 (spec_StableRecords.j3 kq l0 x3_1 x4_1 x49_19=some r)∧Aside0 (kq≤kj8)∧Aside0 (Kd.S k34 34 wc w.heap.size (fun _=>True) u3 x3_1)∧Aside0 (Below w.heap.size w wc))
         case first=>
          have H:=HC20.out;clear HC20;by_cases c21 : 0≤x4_1
          ·
           rw [if_pos c21] at H;have c21b0:decide (0≤x4_1)=true:=decide_eq_true c21;clear c21;(first|rw [c21b0]|(simp only [i64_w,i32_w];rw [c21b0])|skip);by_cases c22:x4_1 < (l0.length:Int)
           ·
            rw [if_pos c22] at H;have c22b0:decide (x4_1 < (l0.length:Int))=true:=decide_eq_true c22;clear c22;replace H:=Option.bind_eq_some_iff.mp H;obtain ⟨t553,A230,H⟩:=H;replace H:(if t553=true then ((spec_l22Mark.f kj8 l0 x4_1).bind fun t554=>(if 0≤t554 then (if t554 < (l0.length:Int) then ((spec_l22Fine.f ((rd_T27 l0 t554).f0) ((rd_T27 l0 t554).f1) ((rd_T27 l0 t554).f2) ((rd_T27 l0 t554).f3) ((rd_T27 l0 t554).f4) ((rd_T27 l0 t554).f5)).bind fun t556=>(spec_StableRecords.j3 kj8 l0 x3_1 x4_1 (!t556))) else (none)) else (none))) else (spec_StableRecords.j3 kj8 l0 x3_1 x4_1 false))=some r:=H;have A23:=zzm A230;clear A230;by_cases c24:t553=true
            ·
             subst c24;have H1:((spec_l22Mark.f kj8 l0 x4_1).bind fun t554=>(if 0≤t554 then (if t554 < (l0.length:Int) then ((spec_l22Fine.f ((rd_T27 l0 t554).f0) ((rd_T27 l0 t554).f1) ((rd_T27 l0 t554).f2) ((rd_T27 l0 t554).f3) ((rd_T27 l0 t554).f4) ((rd_T27 l0 t554).f5)).bind fun t556=>(spec_StableRecords.j3 kj8 l0 x3_1 x4_1 (!t556))) else (none)) else (none)))=some r:=by rw [if_pos rfl] at H;exact H
             clear H;have H:=H1;clear H1;replace H:=Option.bind_eq_some_iff.mp H;obtain ⟨t554,A250,H⟩:=H;replace H:(if 0≤t554 then (if t554 < (l0.length:Int) then ((spec_l22Fine.f ((rd_T27 l0 t554).f0) ((rd_T27 l0 t554).f1) ((rd_T27 l0 t554).f2) ((rd_T27 l0 t554).f3) ((rd_T27 l0 t554).f4) ((rd_T27 l0 t554).f5)).bind fun t556=>(spec_StableRecords.j3 kj8 l0 x3_1 x4_1 (!t556))) else (none)) else (none))=some r:=H;have A25:=zzm A250;clear A250;by_cases c26 : 0≤t554
             ·
              rw [if_pos c26] at H;have c26b0:decide (0≤t554)=true:=decide_eq_true c26;clear c26;by_cases c27:t554 < (l0.length:Int)
              ·
               rw [if_pos c27] at H;have c27b0:decide (t554 < (l0.length:Int))=true:=decide_eq_true c27;clear c27;replace H:=Option.bind_eq_some_iff.mp H;obtain ⟨t556,A280,H⟩:=H;replace H:(spec_StableRecords.j3 kj8 l0 x3_1 x4_1 (!t556))=some r:=H;have A28:=zzm A280;clear A280;have H':=zzm H;clear H;have p552 : 0≤(x4_1:Int):=zzt;have q552:x4_1 < (l0.length:Int):=zzt;obtain ⟨ad552,A552_5,c552_5,e552,hx552_0,hx552_1,hx552_2,hx552_3,hx552_4,hx552_5,hl552_5,hi552_5⟩:=at_T27 HR0.out x4_1 p552 q552;cases e552;replace hx552_0:=zzx HB.out hx552_0;replace hx552_1:=zzx HB.out hx552_1;replace hx552_2:=zzx HB.out hx552_2;replace hx552_3:=zzx HB.out hx552_3;replace hx552_4:=zzx HB.out hx552_4;replace hx552_5:=zzx HB.out hx552_5;have HR552_5:=zzm hi552_5;have HC552_5:=zzm hl552_5;clear hi552_5 hl552_5;replace p552:=eq_true p552;replace q552:=eq_true q552;go_wp2_with (first|((with_reducible refine gate_callee (f:=66) rfl ?_);refine goesL_ (some 39) rfl rfl Try.func66 (by kernel_rfl) rfl #[.agg #[.bool ((rd_T27 l0 x4_1).f0),.bool ((rd_T27 l0 x4_1).f1),.int .i64 ((rd_T27 l0 x4_1).f2),.int .i64 ((rd_T27 l0 x4_1).f3),.int .i64 ((rd_T27 l0 x4_1).f4),.slice A552_5 ((rd_T27 l0 x4_1).f5).length c552_5]] rfl zzM2 ?_;(with_reducible refine (spec_l22Ours.calls ((rd_T27 l0 x4_1).f0) ((rd_T27 l0 x4_1).f1) ((rd_T27 l0 x4_1).f2) ((rd_T27 l0 x4_1).f3) ((rd_T27 l0 x4_1).f4) _ _ ((rd_T27 l0 x4_1).f5) true _ ?side1 ?side2 A23.out).mono ?_);(case side1=>repeat (first|exact (Kd.C_below HR552_5.out HB.out)|(with_reducible refine Kd.C_alloc ?_ _)|(with_reducible refine Kd.C_drewN ?_ _)|(with_reducible refine Kd.C_drew ?_)));(case side2=>exact HC552_5.out);rintro e w29 ⟨rfl,hb⟩;refine ⟨_,rfl,?_⟩;have n0_:=zzm (Kd.S_below (zzS HO_3.out) hb);have n1_:=zzm (zzp zzh1 hb);clear HO_3 HB;have HO_3:=n0_;have HB:=n1_;clear n0_ n1_;(try clear hb);(try clear hb2);(try clear hk);(try clear hi))|(go_at_call 68;(with_reducible refine (spec_l22Mark.calls kj8 _ _ l0 x4_1 t554 _ ?side1 ?side2 A25.out).mono ?_);(case side1=>repeat (first|exact (Kd.C_below HR0.out HB.out)|(with_reducible refine Kd.C_alloc ?_ _)|(with_reducible refine Kd.C_drewN ?_ _)|(with_reducible refine Kd.C_drew ?_)));(case side2=>exact HC0.out);rintro e w' ⟨rfl,⟨nd,rfl⟩⟩;have p555 : 0≤(t554:Int):=zzt;have q555:t554 < (l0.length:Int):=zzt;obtain ⟨ad555,A555_5,c555_5,e555,hx555_0,hx555_1,hx555_2,hx555_3,hx555_4,hx555_5,hl555_5,hi555_5⟩:=at_T27 HR0.out t554 p555 q555;obtain rfl:ad552=ad555:=(by injection e555);replace hx555_0:=zzx HB.out hx555_0;replace hx555_1:=zzx HB.out hx555_1;replace hx555_2:=zzx HB.out hx555_2;replace hx555_3:=zzx HB.out hx555_3;replace hx555_4:=zzx HB.out hx555_4;replace hx555_5:=zzx HB.out hx555_5;have HR555_5:=zzm hi555_5;have HC555_5:=zzm hl555_5;clear hi555_5 hl555_5;replace p555:=eq_true p555;replace q555:=eq_true q555)|(go_at_call 69;(with_reducible refine (spec_l22Fine.calls ((rd_T27 l0 t554).f0) ((rd_T27 l0 t554).f1) ((rd_T27 l0 t554).f2) ((rd_T27 l0 t554).f3) ((rd_T27 l0 t554).f4) _ _ ((rd_T27 l0 t554).f5) t556 _ ?side1 ?side2 A28.out).mono ?_);(case side1=>repeat (first|exact (Kd.C_below HR555_5.out zzh1)|(with_reducible refine Kd.C_alloc ?_ _)|(with_reducible refine Kd.C_drewN ?_ _)|(with_reducible refine Kd.C_drew ?_)));(case side2=>exact HC555_5.out);rintro e w30 ⟨rfl,hb⟩;have n0_:=zzm (Kd.S_below (zzS HO_3.out) hb);have n1_:=zzm (zzp zzh1 hb);clear HO_3 HB;have HO_3:=n0_;have HB:=n1_;clear n0_ n1_;(try clear hb);(try clear hb2);(try clear hk);(try clear hi)));go_meet
               case rel=>exact ⟨_,(!t556),(by first|rfl|(simp;done)|(simp [*];done)),H',⟨by have:=HK1.out;have:=HJ3.out;have:=HJ8.out;first|omega|exact Nat.le_refl _⟩,⟨by (with_reducible repeat (first|apply Kd.S_alloc|apply Kd.S_drewN|apply Kd.S_drew));exact HO_3.out⟩,⟨zzh1⟩⟩
              ·
               rw [if_neg c27] at H;exact absurd H (by simp)
             ·
              rw [if_neg c26] at H;exact absurd H (by simp)
            ·
             replace c24:=Bool.eq_false_iff.mpr c24;subst c24;have H1:(spec_StableRecords.j3 kj8 l0 x3_1 x4_1 false)=some r:=by rw [if_neg (show ¬ (false=true) by decide)] at H;exact H
             clear H;have H:=H1;clear H1;have H':=zzm H;clear H;have p552 : 0≤(x4_1:Int):=zzt;have q552:x4_1 < (l0.length:Int):=zzt;obtain ⟨ad552,A552_5,c552_5,e552,hx552_0,hx552_1,hx552_2,hx552_3,hx552_4,hx552_5,hl552_5,hi552_5⟩:=at_T27 HR0.out x4_1 p552 q552;cases e552;replace hx552_0:=zzx HB.out hx552_0;replace hx552_1:=zzx HB.out hx552_1;replace hx552_2:=zzx HB.out hx552_2;replace hx552_3:=zzx HB.out hx552_3;replace hx552_4:=zzx HB.out hx552_4;replace hx552_5:=zzx HB.out hx552_5;have HR552_5:=zzm hi552_5;have HC552_5:=zzm hl552_5;clear hi552_5 hl552_5;replace p552:=eq_true p552;replace q552:=eq_true q552;go_wp2_with (first|((with_reducible refine gate_callee (f:=66) rfl ?_);refine goesL_ (some 39) rfl rfl Try.func66 (by kernel_rfl) rfl #[.agg #[.bool ((rd_T27 l0 x4_1).f0),.bool ((rd_T27 l0 x4_1).f1),.int .i64 ((rd_T27 l0 x4_1).f2),.int .i64 ((rd_T27 l0 x4_1).f3),.int .i64 ((rd_T27 l0 x4_1).f4),.slice A552_5 ((rd_T27 l0 x4_1).f5).length c552_5]] rfl zzM2 ?_;(with_reducible refine (spec_l22Ours.calls ((rd_T27 l0 x4_1).f0) ((rd_T27 l0 x4_1).f1) ((rd_T27 l0 x4_1).f2) ((rd_T27 l0 x4_1).f3) ((rd_T27 l0 x4_1).f4) _ _ ((rd_T27 l0 x4_1).f5) false _ ?side1 ?side2 A23.out).mono ?_);(case side1=>repeat (first|exact (Kd.C_below HR552_5.out HB.out)|(with_reducible refine Kd.C_alloc ?_ _)|(with_reducible refine Kd.C_drewN ?_ _)|(with_reducible refine Kd.C_drew ?_)));(case side2=>exact HC552_5.out);rintro e w31 ⟨rfl,hb⟩;refine ⟨_,rfl,?_⟩;have n0_:=zzm (Kd.S_below (zzS HO_3.out) hb);have n1_:=zzm (zzp zzh1 hb);clear HO_3 HB;have HO_3:=n0_;have HB:=n1_;clear n0_ n1_;(try clear hb);(try clear hb2);(try clear hk);(try clear hi)));go_meet
             case rel=>exact ⟨_,(false),(by first|rfl|(simp;done)|(simp [*];done)),H',⟨by have:=HK1.out;have:=HJ3.out;have:=HJ8.out;first|omega|exact Nat.le_refl _⟩,⟨by (with_reducible repeat (first|apply Kd.S_alloc|apply Kd.S_drewN|apply Kd.S_drew));exact HO_3.out⟩,⟨zzh1⟩⟩
           ·
            rw [if_neg c22] at H;exact absurd H (by simp)
          ·
           rw [if_neg c21] at H;exact absurd H (by simp)
         case rest=>
          clear HC20;try clear c1
          try clear q1
          try clear c2
          try clear p2
          try clear c4
          try clear c5
          try clear c5b0
          try clear p5
          try clear q5
          try clear hx5
          try clear qi5
          try clear c6
          try clear p6
          try clear c8
          try clear c10
          try clear c10b0
          try clear c11
          try clear c11b0
          try clear q12
          try clear c13
          try clear c15
          try clear c15b0
          try clear c15b1
          try clear c19
          try clear c21
          try clear c21b0
          try clear c22
          try clear c22b0
          try clear c24
          try clear c26
          try clear c26b0
          try clear c27
          try clear c27b0
          try clear hx548_0
          try clear hx548_1
          try clear hx548_2
          try clear hx548_3
          try clear hx548_4
          try clear hx548_5
          try clear hx549_0
          try clear hx549_1
          try clear hx549_2
          try clear hx549_3
          try clear hx549_4
          try clear hx549_5
          try clear hx550_0
          try clear hx550_1
          try clear hx550_2
          try clear hx550_3
          try clear hx550_4
          try clear hx550_5
          try clear hx552_0
          try clear hx552_1
          try clear hx552_2
          try clear hx552_3
          try clear hx552_4
          try clear hx552_5
          try clear hx555_0
          try clear hx555_1
          try clear hx555_2
          try clear hx555_3
          try clear hx555_4
          try clear hx555_5
          try clear p2
          try clear p5
          try clear p548
          try clear p549
          try clear p550
          try clear p552
          try clear p555
          try clear q1
          try clear q12
          try clear q5
          try clear q548
          try clear q549
          try clear q550
          try clear q552
          try clear q555
          obtain ⟨kq,x49_19,rfl,HA,HJ19,HO_3,HB⟩:=hcut;cases kq with
          | zero=>exact absurd HA.out (by simp [spec_StableRecords.j3])
          | succ kj19=>
           have H:=HA.out;clear HA;simp only [spec_StableRecords.j3] at H;by_cases c32:x49_19=true
           ·
            subst c32;have H1:(spec_StableRecords.l0 kj19 l0 x3_1 (wrap64 (x4_1+1)))=some r:=by rw [if_pos rfl] at H;exact H
            clear H;have H:=H1;clear H1;have H':=zzm H;clear H;go_wp2;go_roundg kj19
            case measure=>have:=HK1.out;have:=HJ3.out;have:=HJ8.out;have:=HJ19.out;omega
            case rel=>exact ⟨(x3_1),(wrap64 (x4_1+1)),(by first|rfl|(simp;done)|(simp [*];done)),H',⟨by have:=HK1.out;have:=HJ3.out;have:=HJ8.out;have:=HJ19.out;omega⟩,⟨by (with_reducible repeat (first|apply Kd.S_alloc|apply Kd.S_drewN|apply Kd.S_drew));exact HO_3.out⟩,⟨zzh1⟩⟩
           ·
            replace c32:=Bool.eq_false_iff.mpr c32;subst c32;have H1:(spec_StableRecords.l1 kj19 l0 x3_1 x4_1 0)=some r:=by rw [if_neg (show ¬ (false=true) by decide)] at H;exact H
            clear H;have H:=H1;clear H1;have H':=zzm H;clear H;go_wp2;go_loopg [3,5] kj19 (fun kq v3 v5 w'=>∃ (x3_5:List (S34)) (x5_5:Int),v5 = .int .i64 x5_5∧Aside0 (spec_StableRecords.l1 kq l0 x3_5 x4_1 x5_5=some r)∧Aside0 (kq≤kj19)∧Aside0 (Kd.S k34 34 w' w.heap.size (fun _=>True) v3 x3_5)∧Aside0 (Below w.heap.size w w'))
            case atStart=>exact ⟨(x3_1),(0),(by first|rfl|(simp;done)|(simp [*];done)),H',⟨Nat.le_refl _⟩,⟨by (with_reducible repeat (first|apply Kd.S_alloc|apply Kd.S_drewN|apply Kd.S_drew));exact HO_3.out⟩,⟨zzh1⟩⟩
            case round=>
             clear H';try clear c1
             try clear q1
             try clear c2
             try clear p2
             try clear c3
             try clear c4
             try clear c5
             try clear c5b0
             try clear p5
             try clear q5
             try clear hx5
             try clear qi5
             try clear c6
             try clear p6
             try clear c8
             try clear c10
             try clear c10b0
             try clear c11
             try clear c11b0
             try clear q12
             try clear c13
             try clear c15
             try clear c15b0
             try clear c15b1
             try clear c19
             try clear c21
             try clear c21b0
             try clear c22
             try clear c22b0
             try clear c24
             try clear c26
             try clear c26b0
             try clear c27
             try clear c27b0
             try clear c32
             try clear hx548_0
             try clear hx548_1
             try clear hx548_2
             try clear hx548_3
             try clear hx548_4
             try clear hx548_5
             try clear hx549_0
             try clear hx549_1
             try clear hx549_2
             try clear hx549_3
             try clear hx549_4
             try clear hx549_5
             try clear hx550_0
             try clear hx550_1
             try clear hx550_2
             try clear hx550_3
             try clear hx550_4
             try clear hx550_5
             try clear hx552_0
             try clear hx552_1
             try clear hx552_2
             try clear hx552_3
             try clear hx552_4
             try clear hx552_5
             try clear hx555_0
             try clear hx555_1
             try clear hx555_2
             try clear hx555_3
             try clear hx555_4
             try clear hx555_5
             try clear p2
             try clear p5
             try clear p548
             try clear p549
             try clear p550
             try clear p552
             try clear p555
             try clear p6
             try clear q1
             try clear q12
             try clear q5
             try clear q548
             try clear q549
             try clear q550
             try clear q552
             try clear q555
             obtain ⟨x3_5,x5_5,rfl,HA,HK5,HO_3,HB⟩:=hrel;cases gk with
             | zero=>exact absurd HA.out (by simp [spec_StableRecords.l1])
             | succ k5=>
              have H:=HA.out;clear HA;simp only [spec_StableRecords.l1] at H;by_cases c33 : 0≤x4_1
              ·
               rw [if_pos c33] at H;have c33b0:decide (0≤x4_1)=true:=decide_eq_true c33;clear c33;by_cases c34:x4_1 < (l0.length:Int)
               ·
                rw [if_pos c34] at H;have c34b0:decide (x4_1 < (l0.length:Int))=true:=decide_eq_true c34;clear c34;by_cases c35:x5_5 < (((rd_T27 l0 x4_1).f5).length:Int)
                ·
                 rw [if_pos c35] at H;have c35b0:decide (x5_5 < (((rd_T27 l0 x4_1).f5).length:Int))=true:=decide_eq_true c35;clear c35;by_cases c36 : 0≤x5_5
                 ·
                  rw [if_pos c36] at H;have c36b0:decide (0≤x5_5)=true:=decide_eq_true c36;clear c36;replace H:=Option.bind_eq_some_iff.mp H;obtain ⟨⟨t560,t561,t562,t563,t566,t567⟩,A370,H⟩:=H;replace H:(if x3_5.length < 1759218604441 then (spec_StableRecords.l1 k5 l0 (x3_5 ++ [(⟨t560,t561,t562,t563,t566,t567⟩:S34)]) x4_1 (wrap64 (x5_5+1))) else (none))=some r:=H;have A37:=zzm A370;clear A370;by_cases c38:x3_5.length < 1759218604441
                  ·
                   rw [if_pos c38] at H;have LMc38:=zzm c38;clear c38;obtain ⟨y570,hy570⟩:∃ y_:List (S34),y_=(x3_5 ++ [(⟨t560,t561,t562,t563,t566,t567⟩:S34)]):=⟨_,rfl⟩;replace H:(spec_StableRecords.l1 k5 l0 y570 x4_1 (wrap64 (x5_5+1)))=some r:=by first|(rw [hy570];with_reducible exact H)|(have H2_:=(Option.bind_some _ _).symm.trans H;rw [hy570];with_reducible exact H2_)|(have H2_:=(Option.bind_some _ _).symm.trans H;with_reducible exact H2_)|with_reducible exact H|(rw [hy570];exact H)|exact H
                   have Ny570:=zzm hy570;clear hy570;have H':=zzm H;clear H;have p557 : 0≤(x4_1:Int):=zzt;have q557:x4_1 < (l0.length:Int):=zzt;obtain ⟨ad557,A557_5,c557_5,e557,hx557_0,hx557_1,hx557_2,hx557_3,hx557_4,hx557_5,hl557_5,hi557_5⟩:=at_T27 HR0.out x4_1 p557 q557;cases e557;replace hx557_0:=zzx HB.out hx557_0;replace hx557_1:=zzx HB.out hx557_1;replace hx557_2:=zzx HB.out hx557_2;replace hx557_3:=zzx HB.out hx557_3;replace hx557_4:=zzx HB.out hx557_4;replace hx557_5:=zzx HB.out hx557_5;have HR557_5:=zzm hi557_5;have HC557_5:=zzm hl557_5;clear hi557_5 hl557_5;replace p557:=eq_true p557;replace q557:=eq_true q557;have p558 : 0≤(x4_1:Int):=zzt;have q558:x4_1 < (l0.length:Int):=zzt;obtain ⟨ad558,A558_5,c558_5,e558,hx558_0,hx558_1,hx558_2,hx558_3,hx558_4,hx558_5,hl558_5,hi558_5⟩:=at_T27 HR0.out x4_1 p558 q558;obtain rfl:ad557=ad558:=(by injection e558);replace hx558_0:=zzx HB.out hx558_0;replace hx558_1:=zzx HB.out hx558_1;replace hx558_2:=zzx HB.out hx558_2;replace hx558_3:=zzx HB.out hx558_3;replace hx558_4:=zzx HB.out hx558_4;replace hx558_5:=zzx HB.out hx558_5;have HR558_5:=zzm hi558_5;have HC558_5:=zzm hl558_5;clear hi558_5 hl558_5;replace p558:=eq_true p558;replace q558:=eq_true q558;have ea_:=Option.some.inj (hx557_5.symm.trans hx558_5);injection ea_ with ea_ en_ ec_;subst ea_;subst ec_;clear en_;have p559 : 0≤(x5_5:Int):=zzt;have q559:x5_5 < (((rd_T27 l0 x4_1).f5).length:Int):=zzt;obtain ⟨ad559,A559_3,c559_3,A559_5,c559_5,e559,hx559_0,hx559_1,hx559_2,hx559_3,hx559_4,hx559_5,hl559_3,hi559_3,hl559_5,hi559_5⟩:=at_T34 HR558_5.out x5_5 p559 q559;cases e559;replace hx559_0:=zzx HB.out hx559_0;replace hx559_1:=zzx HB.out hx559_1;replace hx559_2:=zzx HB.out hx559_2;replace hx559_3:=zzx HB.out hx559_3;replace hx559_4:=zzx HB.out hx559_4;replace hx559_5:=zzx HB.out hx559_5;have HR559_3:=zzm hi559_3;have HC559_3:=zzm hl559_3;clear hi559_3 hl559_3;have HR559_5:=zzm hi559_5;have HC559_5:=zzm hl559_5;clear hi559_5 hl559_5;replace p559:=eq_true p559;replace q559:=eq_true q559;go_wp2_with (first|((with_reducible refine gate_callee (f:=75) rfl ?_);refine goesL_ (some 69) rfl rfl Try.func75 (by kernel_rfl) rfl #[.agg #[.int .i64 ((rd_T34 ((rd_T27 l0 x4_1).f5) x5_5).f0),.int .i64 ((rd_T34 ((rd_T27 l0 x4_1).f5) x5_5).f1),.bool ((rd_T34 ((rd_T27 l0 x4_1).f5) x5_5).f2),.slice A559_3 ((rd_T34 ((rd_T27 l0 x4_1).f5) x5_5).f3).length c559_3,.bool ((rd_T34 ((rd_T27 l0 x4_1).f5) x5_5).f4),.slice A559_5 ((rd_T34 ((rd_T27 l0 x4_1).f5) x5_5).f5).length c559_5]] rfl zzM2 ?_;(with_reducible refine (spec_l12Copy.calls ((rd_T34 ((rd_T27 l0 x4_1).f5) x5_5).f0) ((rd_T34 ((rd_T27 l0 x4_1).f5) x5_5).f1) ((rd_T34 ((rd_T27 l0 x4_1).f5) x5_5).f2) _ _ ((rd_T34 ((rd_T27 l0 x4_1).f5) x5_5).f3) ((rd_T34 ((rd_T27 l0 x4_1).f5) x5_5).f4) _ _ ((rd_T34 ((rd_T27 l0 x4_1).f5) x5_5).f5) t560 t561 t562 t563 t566 t567 _ ?side1 ?side2 ?side3 ?side4 A37.out).mono ?_);(case side1=>repeat (first|exact (Kd.C_below HR559_3.out HB.out)|(with_reducible refine Kd.C_alloc ?_ _)|(with_reducible refine Kd.C_drewN ?_ _)|(with_reducible refine Kd.C_drew ?_)));(case side2=>exact HC559_3.out);(case side3=>repeat (first|exact (Kd.C_below HR559_5.out HB.out)|(with_reducible refine Kd.C_alloc ?_ _)|(with_reducible refine Kd.C_drewN ?_ _)|(with_reducible refine Kd.C_drew ?_)));(case side4=>exact HC559_5.out);rintro e w39 ⟨v564,v568,rfl,ho0,ho1,hb⟩;refine ⟨_,rfl,?_⟩;have n0_:=zzm (Kd.S_mono (Kd.S_told (Kd.S_told (Kd.S_old (zzS HO_3.out) hb) (Kd.R_base ho0)) (Kd.R_base ho1)) (fun _ h_=>h_.1));have n1_:=zzm (Kd.R_lower ho0 (zzo zzh1));have n2_:=zzm (Kd.R_lower ho1 (zzo zzh1));have n3_:=zzm (zzp zzh1 hb);clear HO_3 HB;have HO_3:=n0_;have HO565:=n1_;have HO569:=n2_;have HB:=n3_;clear n0_ n1_ n2_ n3_;(try clear hb);(try clear hb2);(try clear hk);(try clear hi);(try clear ho0);(try clear ho1);obtain ⟨Ao41,co41,eo41⟩:=Kd.R_slice HO565.out;subst eo41;obtain ⟨Ao42,co42,eo42⟩:=Kd.R_slice HO569.out;subst eo42)|((with_reducible refine gate_builtin (b:=.append) (xs:=#[.tmp 60,.tmp 70]) rfl ?_);at_builtin;refine Kd.S_append k34 (w0:=w) w.heap.size rfl (.tmp 60) (.tmp 70) 25 34 (.agg #[(.int .i64 0),(.int .i64 0),(.bool false),(.slice none 0 0),(.bool false),(.slice none 0 0)]) 80 rfl Try.underlying25 info34 rfl (by decide) (by omega) u3 x3_5 (⟨t560,t561,t562,t563,t566,t567⟩:S34) [.int .i64 t560,.int .i64 t561,.bool t562,.slice Ao41 t563.length co41,.bool t566,.slice Ao42 t567.length co42] (fun _=>True) (fun k_=>some k_=(.slice Ao41 t563.length co41:Value).ownBlock∨some k_=(.slice Ao42 t567.length co42:Value).ownBlock) rfl rfl ?aP (fun k_ hk_=>hk_.elim (fun h_=>((Kd.R_mono (ok':=fun k_=>((fun _=>True)) k_∧some k_≠(u3:Value).ownBlock) (Kd.R_apart' (HO565.out) (Kd.S_typed HO_3.out) (by decide)) (fun k_ hk=>⟨trivial,hk.2⟩))).1 k_ h_.symm) (fun h_=>((Kd.R_mono (ok':=fun k_=>((fun _=>True)) k_∧some k_≠(u3:Value).ownBlock) (Kd.R_apart' (HO569.out) (Kd.S_typed HO_3.out) (by decide)) (fun k_ hk=>⟨trivial,hk.2⟩))).1 k_ h_.symm)) ?aF ?aO ?aB ?aS ?aL ?_;(case aP=>exact k34_mkM _ _ _ (⟨t560,t561,t562,t563,t566,t567⟩:S34) (Kd.R_mono (Kd.R_tight rfl (Kd.R_mono (ok':=fun k_=>((fun _=>True)) k_∧some k_≠(u3:Value).ownBlock) (Kd.R_apart' (HO565.out) (Kd.S_typed HO_3.out) (by decide)) (fun k_ hk=>⟨trivial,hk.2⟩))) (fun _ h_=>Or.inl h_)) (Kd.R_mono (Kd.R_tight rfl (Kd.R_mono (ok':=fun k_=>((fun _=>True)) k_∧some k_≠(u3:Value).ownBlock) (Kd.R_apart' (HO569.out) (Kd.S_typed HO_3.out) (by decide)) (fun k_ hk=>⟨trivial,hk.2⟩))) (fun _ h_=>Or.inr (h_))));(case aB=>exact zzh1);(case aF=>exact (fun _ _=>trivial));(case aO=>exact (zzS (Kd.S_mono HO_3.out (fun k_ hk=>⟨trivial,fun e_=>e_.elim (fun h_=>hk.1.2 h_) (fun h_=>hk.2 h_)⟩))));(case aS=>exact (zzo zzh1));(case aL=>have:=LMc38.out;omega);intro v571 w40 ho hb hg hat;rw [← Ny570.out] at ho;have n0_:=zzm (hb);have n1_:=zzm (ho);clear HB HO_3 HO565 HO569;have HB:=n0_;have HO572:=n1_;clear n0_ n1_ ho hb hg hat));go_roundg k5
                   case measure=>have:=HK1.out;have:=HJ3.out;have:=HJ8.out;have:=HJ19.out;have:=HK5.out;omega
                   case rel=>exact ⟨(y570),(wrap64 (x5_5+1)),(by first|rfl|(simp;done)|(simp [*];done)),H',⟨by have:=HK1.out;have:=HJ3.out;have:=HJ8.out;have:=HJ19.out;have:=HK5.out;omega⟩,⟨by (with_reducible repeat (first|apply Kd.S_alloc|apply Kd.S_drewN|apply Kd.S_drew));exact HO572.out⟩,⟨zzh1⟩⟩
                  ·
                   rw [if_neg c38] at H;exact absurd H (by simp)
                 ·
                  rw [if_neg c36] at H;exact absurd H (by simp)
                ·
                 rw [if_neg c35] at H;have c35b0:decide (x5_5 < (((rd_T27 l0 x4_1).f5).length:Int))=false:=decide_eq_false c35;clear c35;have H':=zzm H;clear H;have p557 : 0≤(x4_1:Int):=zzt;have q557:x4_1 < (l0.length:Int):=zzt;obtain ⟨ad557,A557_5,c557_5,e557,hx557_0,hx557_1,hx557_2,hx557_3,hx557_4,hx557_5,hl557_5,hi557_5⟩:=at_T27 HR0.out x4_1 p557 q557;cases e557;replace hx557_0:=zzx HB.out hx557_0;replace hx557_1:=zzx HB.out hx557_1;replace hx557_2:=zzx HB.out hx557_2;replace hx557_3:=zzx HB.out hx557_3;replace hx557_4:=zzx HB.out hx557_4;replace hx557_5:=zzx HB.out hx557_5;have HR557_5:=zzm hi557_5;have HC557_5:=zzm hl557_5;clear hi557_5 hl557_5;replace p557:=eq_true p557;replace q557:=eq_true q557;go_wp2;go_roundg k5
                 case measure=>have:=HK1.out;have:=HJ3.out;have:=HJ8.out;have:=HJ19.out;have:=HK5.out;omega
                 case rel=>exact ⟨(x3_5),(wrap64 (x4_1+1)),(by first|rfl|(simp;done)|(simp [*];done)),H',⟨by have:=HK1.out;have:=HJ3.out;have:=HJ8.out;have:=HJ19.out;have:=HK5.out;omega⟩,⟨by (with_reducible repeat (first|apply Kd.S_alloc|apply Kd.S_drewN|apply Kd.S_drew));exact HO_3.out⟩,⟨zzh1⟩⟩
               ·
                rw [if_neg c34] at H;exact absurd H (by simp)
              ·
               rw [if_neg c33] at H;exact absurd H (by simp)
     ·
      replace c8:=Bool.eq_false_iff.mpr c8;subst c8;have H1:(some x3_1)=some r:=by rw [if_neg (show ¬ (false=true) by decide)] at H;exact H
      clear H;have H:=H1;clear H1;obtain rfl:=Option.some.inj H;go_wp2;go_ret;exact ⟨_,by first|rfl|(simp [errW_none,errW_some] <;> rfl)|(simp [*,errW_none,errW_some] <;> rfl),by (with_reducible repeat (first|apply Kd.S_alloc|apply Kd.S_drewN|apply Kd.S_drew));exact HO_3.out,zzh1⟩
mutual
def laws_FnStableRecords.j0:Nat→List (S27)→List (S34)→List (S34)→Bool→Option (Bool)
 | 0,_,_,_,_=>none
 | k+1,x3,x4,x5,x28=>if x28=true then ((laws_sameRecords.f k x4 x5).bind fun t583=>(some t583)) else ((impl_StableEnd.f k x3).bind fun t584=>((impl_UndoneOf.f k x3).bind fun t585=>(laws_FnStableRecords.l0 k x3 x4 t584 t585 0)))
def laws_FnStableRecords.l0:Nat→List (S27)→List (S34)→Int→List (S46)→Int→Option (Bool)
 | 0,_,_,_,_,_=>none
 | k+1,x3,x4,x6,x7,x8=>if x8 < (x4.length:Int) then (if 0≤x8 then (if ((rd_T34 x4 x8).f0) ≥ x6 then (some false) else (laws_FnStableRecords.l1 k x3 x4 x6 x7 x8 0)) else (none)) else (some true)
def laws_FnStableRecords.l1:Nat→List (S27)→List (S34)→Int→List (S46)→Int→Int→Option (Bool)
 | 0,_,_,_,_,_,_=>none
 | k+1,x3,x4,x6,x7,x8,x9=>if x9 < (x3.length:Int) then (laws_FnStableRecords.l2 k x3 x4 x6 x7 x8 x9 0) else (laws_FnStableRecords.l0 k x3 x4 x6 x7 (wrap64 (x8+1)))
def laws_FnStableRecords.l2:Nat→List (S27)→List (S34)→Int→List (S46)→Int→Int→Int→Option (Bool)
 | 0,_,_,_,_,_,_,_=>none
 | k+1,x3,x4,x6,x7,x8,x9,x10=>if x10 < (x7.length:Int) then (if 0≤x9 then (if x9 < (x3.length:Int) then (if 0≤x10 then (if ((rd_T27 x3 x9).f2)=((rd_T46 x7 x10).f0) then (if 0 < (((rd_T27 x3 x9).f5).length:Int) then (if 0≤x8 then (if x8 < (x4.length:Int) then (if ((rd_T34 ((rd_T27 x3 x9).f5) 0).f0)=((rd_T34 x4 x8).f0) then (if ((rd_T34 x4 x8).f0) ≥ ((rd_T46 x7 x10).f1) then (if ((rd_T34 x4 x8).f0)≤((rd_T46 x7 x10).f2) then (some false) else (laws_FnStableRecords.l2 k x3 x4 x6 x7 x8 x9 (wrap64 (x10+1)))) else (laws_FnStableRecords.l2 k x3 x4 x6 x7 x8 x9 (wrap64 (x10+1)))) else (laws_FnStableRecords.l2 k x3 x4 x6 x7 x8 x9 (wrap64 (x10+1)))) else (none)) else (none)) else (none)) else (laws_FnStableRecords.l2 k x3 x4 x6 x7 x8 x9 (wrap64 (x10+1)))) else (none)) else (none)) else (none)) else (laws_FnStableRecords.l1 k x3 x4 x6 x7 x8 (wrap64 (x9+1)))
end
def laws_FnStableRecords.f (k:Nat) (l0:List Int):Option (Bool):=if (l0.length:Int) > 1048576 then (some true) else ((spec_DrawStableRecords.f k l0).bind fun t573=>((impl_StableRecords.f k t573).bind fun t576=>((spec_StableRecords.f k t573).bind fun t579=>((laws_sameRecords.f k t576 t579).bind fun t582=>(if t582=true then (laws_FnStableRecords.j0 k t573 t576 t579 ((t579.length:Int)==0)) else (laws_FnStableRecords.j0 k t573 t576 t579 true))))))
set_option maxHeartbeats 8000000 in
set_option maxRecDepth 100000 in
theorem laws_FnStableRecords.calls (k:Nat) (A0:Option Addr) (c0:Nat) (l0:List Int) (r:Bool) (w:World) (hr0:Kd.C (Kd.int .u8) w A0 l0.length l0) (hc0:l0.length≤c0) (h:laws_FnStableRecords.f k l0=some r) :
  Calls Try.prog 15 #[.slice A0 l0.length c0] w fun e w'=>e = .returned (.bool r)∧Below w.heap.size w w':=by
 have HR0:=zzm hr0;have HC0:=zzm hc0;clear hr0 hc0;have HB:=zzm (Below.refl w.heap.size w);have H:(if (l0.length:Int) > 1048576 then (some true) else ((spec_DrawStableRecords.f k l0).bind fun t573=>((impl_StableRecords.f k t573).bind fun t576=>((spec_StableRecords.f k t573).bind fun t579=>((laws_sameRecords.f k t576 t579).bind fun t582=>(if t582=true then (laws_FnStableRecords.j0 k t573 t576 t579 ((t579.length:Int)==0)) else (laws_FnStableRecords.j0 k t573 t576 t579 true)))))))=some r:=h;clear h;by_cases c2:(l0.length:Int) > 1048576
 ·
  rw [if_pos c2] at H;have c2b0:decide (1048576 < (l0.length:Int))=true:=decide_eq_true c2;have c2b1:decide (1048576 < l0.length)=true:=decide_eq_true (by omega);clear c2;obtain rfl:=Option.some.inj H;go_enter Try.func15,Try.ntmps15;go_wp2;repeat (go_quiet (fail);try go_wp2)
  go_ret;exact ⟨by first|rfl|(simp [errW_none,errW_some] <;> rfl)|(simp [*,errW_none,errW_some] <;> rfl),zzh1⟩
 ·
  rw [if_neg c2] at H;have c2b0:decide (1048576 < (l0.length:Int))=false:=decide_eq_false c2;have c2b1:decide (1048576 < l0.length)=false:=decide_eq_false (by omega);clear c2;replace H:=Option.bind_eq_some_iff.mp H;obtain ⟨t573,A30,H⟩:=H;replace H:((impl_StableRecords.f k t573).bind fun t576=>((spec_StableRecords.f k t573).bind fun t579=>((laws_sameRecords.f k t576 t579).bind fun t582=>(if t582=true then (laws_FnStableRecords.j0 k t573 t576 t579 ((t579.length:Int)==0)) else (laws_FnStableRecords.j0 k t573 t576 t579 true)))))=some r:=H;have A3:=zzm A30;clear A30;replace H:=Option.bind_eq_some_iff.mp H;obtain ⟨t576,A40,H⟩:=H;replace H:((spec_StableRecords.f k t573).bind fun t579=>((laws_sameRecords.f k t576 t579).bind fun t582=>(if t582=true then (laws_FnStableRecords.j0 k t573 t576 t579 ((t579.length:Int)==0)) else (laws_FnStableRecords.j0 k t573 t576 t579 true))))=some r:=H;have A4:=zzm A40;clear A40;replace H:=Option.bind_eq_some_iff.mp H;obtain ⟨t579,A50,H⟩:=H;replace H:((laws_sameRecords.f k t576 t579).bind fun t582=>(if t582=true then (laws_FnStableRecords.j0 k t573 t576 t579 ((t579.length:Int)==0)) else (laws_FnStableRecords.j0 k t573 t576 t579 true)))=some r:=H;have A5:=zzm A50;clear A50;have HC6:=zzm H;clear H;go_enter Try.func15,Try.ntmps15;go_upto_region 6 with (first|(go_at_call 42;(with_reducible refine (spec_DrawStableRecords.calls k _ _ l0 t573 _ ?side1 ?side2 A3.out).mono ?_);(case side1=>repeat (first|exact HR0.out|(with_reducible refine Kd.C_alloc ?_ _)|(with_reducible refine Kd.C_drewN ?_ _)|(with_reducible refine Kd.C_drew ?_)));(case side2=>exact HC0.out);rintro e w7 ⟨v574,rfl,ho0,hb⟩;have n0_:=zzm (Kd.N_lower (Kd.N_mono (ok':=fun k_=>True) ho0 (fun k_ hk_=>trivial)) (zzo zzh1));have n1_:=zzm (zzp zzh1 hb);clear HB;have HO575:=n0_;have HB:=n1_;clear n0_ n1_;(try clear hb);(try clear hb2);(try clear hk);(try clear hi);(try clear ho0);obtain ⟨Ao8,co8,eo8⟩:=Kd.N_slice HO575.out;subst eo8)|(go_at_call 37;(with_reducible refine (impl_StableRecords.calls k _ _ t573 t576 _ ?side1 ?side2 A4.out).mono ?_);(case side1=>repeat (first|exact (Kd.N_reads' HO575.out).2.2|(with_reducible refine Kd.C_alloc ?_ _)|(with_reducible refine Kd.C_drewN ?_ _)|(with_reducible refine Kd.C_drew ?_)));(case side2=>exact (Kd.N_reads' HO575.out).2.1);rintro e w9 ⟨v577,rfl,ho0,hb⟩;have n0_:=zzm (Kd.N_elder' (zzN HO575.out) (by first|exact Kd.N_base ho0|exact Kd.S_base ho0|exact Kd.R_base ho0) hb);have n1_:=zzm (Kd.N_lower (Kd.N_mono (ok':=fun k_=>some k_≠(.slice Ao8 t573.length co8:Value).ownBlock) ho0 (fun k_ hk_=>(Kd.fresh' (Kd.N_lt (zzN HO575.out)) k_ hk_))) (zzo zzh1));have n2_:=zzm (zzp zzh1 hb);clear HO575 HB;have HO575:=n0_;have HO578:=n1_;have HB:=n2_;clear n0_ n1_ n2_;(try clear hb);(try clear hb2);(try clear hk);(try clear hi);(try clear ho0))|(go_at_call 43;(with_reducible refine (spec_StableRecords.calls k _ _ t573 t579 _ ?side1 ?side2 A5.out).mono ?_);(case side1=>repeat (first|exact (Kd.N_reads' HO575.out).2.2|(with_reducible refine Kd.C_alloc ?_ _)|(with_reducible refine Kd.C_drewN ?_ _)|(with_reducible refine Kd.C_drew ?_)));(case side2=>exact (Kd.N_reads' HO575.out).2.1);rintro e w10 ⟨v580,rfl,ho0,hb⟩;have n0_:=zzm (Kd.N_elder' (zzN HO575.out) (by first|exact Kd.N_base ho0|exact Kd.S_base ho0|exact Kd.R_base ho0) hb);have n1_:=zzm (Kd.N_elder' (zzN HO578.out) (by first|exact Kd.N_base ho0|exact Kd.S_base ho0|exact Kd.R_base ho0) hb);have n2_:=zzm (Kd.N_lower (Kd.N_mono (ok':=fun k_=>some k_≠(.slice Ao8 t573.length co8:Value).ownBlock∧some k_≠(v577:Value).ownBlock) (Kd.S_N (Kd.S_bound ho0)) (fun k_ hk_=>⟨(Kd.fresh' (Kd.N_lt (zzN HO575.out)) k_ hk_.2.1),(Kd.fresh' (Kd.N_lt (zzN HO578.out)) k_ hk_.2.1)⟩)) (zzo zzh1));have n3_:=zzm (zzp zzh1 hb);clear HO575 HO578 HB;have HO575:=n0_;have HO578:=n1_;have HO581:=n2_;have HB:=n3_;clear n0_ n1_ n2_ n3_;(try clear hb);(try clear hb2);(try clear hk);(try clear hi);(try clear ho0)));repeat (go_quiet (first|(go_at_call 42;(with_reducible refine (spec_DrawStableRecords.calls k _ _ l0 t573 _ ?side1 ?side2 A3.out).mono ?_);(case side1=>repeat (first|exact HR0.out|(with_reducible refine Kd.C_alloc ?_ _)|(with_reducible refine Kd.C_drewN ?_ _)|(with_reducible refine Kd.C_drew ?_)));(case side2=>exact HC0.out);rintro e w7 ⟨v574,rfl,ho0,hb⟩;have n0_:=zzm (Kd.N_lower (Kd.N_mono (ok':=fun k_=>True) ho0 (fun k_ hk_=>trivial)) (zzo zzh1));have n1_:=zzm (zzp zzh1 hb);clear HB;have HO575:=n0_;have HB:=n1_;clear n0_ n1_;(try clear hb);(try clear hb2);(try clear hk);(try clear hi);(try clear ho0);obtain ⟨Ao8,co8,eo8⟩:=Kd.N_slice HO575.out;subst eo8)|(go_at_call 37;(with_reducible refine (impl_StableRecords.calls k _ _ t573 t576 _ ?side1 ?side2 A4.out).mono ?_);(case side1=>repeat (first|exact (Kd.N_reads' HO575.out).2.2|(with_reducible refine Kd.C_alloc ?_ _)|(with_reducible refine Kd.C_drewN ?_ _)|(with_reducible refine Kd.C_drew ?_)));(case side2=>exact (Kd.N_reads' HO575.out).2.1);rintro e w9 ⟨v577,rfl,ho0,hb⟩;have n0_:=zzm (Kd.N_elder' (zzN HO575.out) (by first|exact Kd.N_base ho0|exact Kd.S_base ho0|exact Kd.R_base ho0) hb);have n1_:=zzm (Kd.N_lower (Kd.N_mono (ok':=fun k_=>some k_≠(.slice Ao8 t573.length co8:Value).ownBlock) ho0 (fun k_ hk_=>(Kd.fresh' (Kd.N_lt (zzN HO575.out)) k_ hk_))) (zzo zzh1));have n2_:=zzm (zzp zzh1 hb);clear HO575 HB;have HO575:=n0_;have HO578:=n1_;have HB:=n2_;clear n0_ n1_ n2_;(try clear hb);(try clear hb2);(try clear hk);(try clear hi);(try clear ho0))|(go_at_call 43;(with_reducible refine (spec_StableRecords.calls k _ _ t573 t579 _ ?side1 ?side2 A5.out).mono ?_);(case side1=>repeat (first|exact (Kd.N_reads' HO575.out).2.2|(with_reducible refine Kd.C_alloc ?_ _)|(with_reducible refine Kd.C_drewN ?_ _)|(with_reducible refine Kd.C_drew ?_)));(case side2=>exact (Kd.N_reads' HO575.out).2.1);rintro e w10 ⟨v580,rfl,ho0,hb⟩;have n0_:=zzm (Kd.N_elder' (zzN HO575.out) (by first|exact Kd.N_base ho0|exact Kd.S_base ho0|exact Kd.R_base ho0) hb);have n1_:=zzm (Kd.N_elder' (zzN HO578.out) (by first|exact Kd.N_base ho0|exact Kd.S_base ho0|exact Kd.R_base ho0) hb);have n2_:=zzm (Kd.N_lower (Kd.N_mono (ok':=fun k_=>some k_≠(.slice Ao8 t573.length co8:Value).ownBlock∧some k_≠(v577:Value).ownBlock) (Kd.S_N (Kd.S_bound ho0)) (fun k_ hk_=>⟨(Kd.fresh' (Kd.N_lt (zzN HO575.out)) k_ hk_.2.1),(Kd.fresh' (Kd.N_lt (zzN HO578.out)) k_ hk_.2.1)⟩)) (zzo zzh1));have n3_:=zzm (zzp zzh1 hb);clear HO575 HO578 HB;have HO575:=n0_;have HO578:=n1_;have HO581:=n2_;have HB:=n3_;clear n0_ n1_ n2_ n3_;(try clear hb);(try clear hb2);(try clear hk);(try clear hi);(try clear ho0)));go_upto_region 6 with (first|(go_at_call 42;(with_reducible refine (spec_DrawStableRecords.calls k _ _ l0 t573 _ ?side1 ?side2 A3.out).mono ?_);(case side1=>repeat (first|exact HR0.out|(with_reducible refine Kd.C_alloc ?_ _)|(with_reducible refine Kd.C_drewN ?_ _)|(with_reducible refine Kd.C_drew ?_)));(case side2=>exact HC0.out);rintro e w7 ⟨v574,rfl,ho0,hb⟩;have n0_:=zzm (Kd.N_lower (Kd.N_mono (ok':=fun k_=>True) ho0 (fun k_ hk_=>trivial)) (zzo zzh1));have n1_:=zzm (zzp zzh1 hb);clear HB;have HO575:=n0_;have HB:=n1_;clear n0_ n1_;(try clear hb);(try clear hb2);(try clear hk);(try clear hi);(try clear ho0);obtain ⟨Ao8,co8,eo8⟩:=Kd.N_slice HO575.out;subst eo8)|(go_at_call 37;(with_reducible refine (impl_StableRecords.calls k _ _ t573 t576 _ ?side1 ?side2 A4.out).mono ?_);(case side1=>repeat (first|exact (Kd.N_reads' HO575.out).2.2|(with_reducible refine Kd.C_alloc ?_ _)|(with_reducible refine Kd.C_drewN ?_ _)|(with_reducible refine Kd.C_drew ?_)));(case side2=>exact (Kd.N_reads' HO575.out).2.1);rintro e w9 ⟨v577,rfl,ho0,hb⟩;have n0_:=zzm (Kd.N_elder' (zzN HO575.out) (by first|exact Kd.N_base ho0|exact Kd.S_base ho0|exact Kd.R_base ho0) hb);have n1_:=zzm (Kd.N_lower (Kd.N_mono (ok':=fun k_=>some k_≠(.slice Ao8 t573.length co8:Value).ownBlock) ho0 (fun k_ hk_=>(Kd.fresh' (Kd.N_lt (zzN HO575.out)) k_ hk_))) (zzo zzh1));have n2_:=zzm (zzp zzh1 hb);clear HO575 HB;have HO575:=n0_;have HO578:=n1_;have HB:=n2_;clear n0_ n1_ n2_;(try clear hb);(try clear hb2);(try clear hk);(try clear hi);(try clear ho0))|(go_at_call 43;(with_reducible refine (spec_StableRecords.calls k _ _ t573 t579 _ ?side1 ?side2 A5.out).mono ?_);(case side1=>repeat (first|exact (Kd.N_reads' HO575.out).2.2|(with_reducible refine Kd.C_alloc ?_ _)|(with_reducible refine Kd.C_drewN ?_ _)|(with_reducible refine Kd.C_drew ?_)));(case side2=>exact (Kd.N_reads' HO575.out).2.1);rintro e w10 ⟨v580,rfl,ho0,hb⟩;have n0_:=zzm (Kd.N_elder' (zzN HO575.out) (by first|exact Kd.N_base ho0|exact Kd.S_base ho0|exact Kd.R_base ho0) hb);have n1_:=zzm (Kd.N_elder' (zzN HO578.out) (by first|exact Kd.N_base ho0|exact Kd.S_base ho0|exact Kd.R_base ho0) hb);have n2_:=zzm (Kd.N_lower (Kd.N_mono (ok':=fun k_=>some k_≠(.slice Ao8 t573.length co8:Value).ownBlock∧some k_≠(v577:Value).ownBlock) (Kd.S_N (Kd.S_bound ho0)) (fun k_ hk_=>⟨(Kd.fresh' (Kd.N_lt (zzN HO575.out)) k_ hk_.2.1),(Kd.fresh' (Kd.N_lt (zzN HO578.out)) k_ hk_.2.1)⟩)) (zzo zzh1));have n3_:=zzm (zzp zzh1 hb);clear HO575 HO578 HB;have HO575:=n0_;have HO578:=n1_;have HO581:=n2_;have HB:=n3_;clear n0_ n1_ n2_ n3_;(try clear hb);(try clear hb2);(try clear hk);(try clear hi);(try clear ho0))))
  (try simp only [Act.put,zzq,zzr,zzs]);go_cut [28] (fun v28 wc=>∃ (kq:Nat) (x28_5:Bool),v28 = .bool x28_5∧Aside0 (laws_FnStableRecords.j0 kq t573 t576 t579 x28_5=some r)∧Aside0 (kq≤k)∧Aside0 (Kd.N k27 27 wc w.heap.size (fun k_=>some k_≠(v577:Value).ownBlock∧some k_≠(v580:Value).ownBlock) (.slice Ao8 t573.length co8) t573)∧Aside0 (Kd.N k34 34 wc w.heap.size (fun k_=>some k_≠((.slice Ao8 t573.length co8):Value).ownBlock∧some k_≠(v580:Value).ownBlock) v577 t576)∧Aside0 (Kd.N k34 34 wc w.heap.size (fun k_=>some k_≠((.slice Ao8 t573.length co8):Value).ownBlock∧some k_≠(v577:Value).ownBlock) v580 t579)∧Aside0 (Below w.heap.size w wc))
  case first=>
   have H:=HC6.out;clear HC6;replace H:=Option.bind_eq_some_iff.mp H;obtain ⟨t582,A110,H⟩:=H;replace H:(if t582=true then (laws_FnStableRecords.j0 k t573 t576 t579 ((t579.length:Int)==0)) else (laws_FnStableRecords.j0 k t573 t576 t579 true))=some r:=H;have A11:=zzm A110;clear A110;by_cases c12:t582=true
   ·
    subst c12;have H1:(laws_FnStableRecords.j0 k t573 t576 t579 ((t579.length:Int)==0))=some r:=by rw [if_pos rfl] at H;exact H
    clear H;have H:=H1;clear H1;have H':=zzm H;clear H;obtain ⟨Ao13,co13,eo13⟩:=Kd.N_slice HO578.out;subst eo13;obtain ⟨Ao14,co14,eo14⟩:=Kd.N_slice HO581.out;subst eo14;go_wp2_with (first|(go_at_call 36;(with_reducible refine (laws_sameRecords.calls k _ _ t576 _ _ t579 true _ ?side1 ?side2 ?side3 ?side4 A11.out).mono ?_);(case side1=>repeat (first|exact (Kd.N_reads' HO578.out).2.2|(with_reducible refine Kd.C_alloc ?_ _)|(with_reducible refine Kd.C_drewN ?_ _)|(with_reducible refine Kd.C_drew ?_)));(case side2=>exact (Kd.N_reads' HO578.out).2.1);(case side3=>repeat (first|exact (Kd.N_reads' HO581.out).2.2|(with_reducible refine Kd.C_alloc ?_ _)|(with_reducible refine Kd.C_drewN ?_ _)|(with_reducible refine Kd.C_drew ?_)));(case side4=>exact (Kd.N_reads' HO581.out).2.1);rintro e w15 ⟨rfl,hb⟩;have n0_:=zzm (Kd.N_below (zzN HO575.out) hb);have n1_:=zzm (Kd.N_below (zzN HO578.out) hb);have n2_:=zzm (Kd.N_below (zzN HO581.out) hb);have n3_:=zzm (zzp zzh1 hb);clear HO575 HO578 HO581 HB;have HO575:=n0_;have HO578:=n1_;have HO581:=n2_;have HB:=n3_;clear n0_ n1_ n2_ n3_;(try clear hb);(try clear hb2);(try clear hk);(try clear hi)));repeat (go_quiet (first|(go_at_call 36;(with_reducible refine (laws_sameRecords.calls k _ _ t576 _ _ t579 true _ ?side1 ?side2 ?side3 ?side4 A11.out).mono ?_);(case side1=>repeat (first|exact (Kd.N_reads' HO578.out).2.2|(with_reducible refine Kd.C_alloc ?_ _)|(with_reducible refine Kd.C_drewN ?_ _)|(with_reducible refine Kd.C_drew ?_)));(case side2=>exact (Kd.N_reads' HO578.out).2.1);(case side3=>repeat (first|exact (Kd.N_reads' HO581.out).2.2|(with_reducible refine Kd.C_alloc ?_ _)|(with_reducible refine Kd.C_drewN ?_ _)|(with_reducible refine Kd.C_drew ?_)));(case side4=>exact (Kd.N_reads' HO581.out).2.1);rintro e w15 ⟨rfl,hb⟩;have n0_:=zzm (Kd.N_below (zzN HO575.out) hb);have n1_:=zzm (Kd.N_below (zzN HO578.out) hb);have n2_:=zzm (Kd.N_below (zzN HO581.out) hb);have n3_:=zzm (zzp zzh1 hb);clear HO575 HO578 HO581 HB;have HO575:=n0_;have HO578:=n1_;have HO581:=n2_;have HB:=n3_;clear n0_ n1_ n2_ n3_;(try clear hb);(try clear hb2);(try clear hk);(try clear hi)));try go_wp2_with (first|(go_at_call 36;(with_reducible refine (laws_sameRecords.calls k _ _ t576 _ _ t579 true _ ?side1 ?side2 ?side3 ?side4 A11.out).mono ?_);(case side1=>repeat (first|exact (Kd.N_reads' HO578.out).2.2|(with_reducible refine Kd.C_alloc ?_ _)|(with_reducible refine Kd.C_drewN ?_ _)|(with_reducible refine Kd.C_drew ?_)));(case side2=>exact (Kd.N_reads' HO578.out).2.1);(case side3=>repeat (first|exact (Kd.N_reads' HO581.out).2.2|(with_reducible refine Kd.C_alloc ?_ _)|(with_reducible refine Kd.C_drewN ?_ _)|(with_reducible refine Kd.C_drew ?_)));(case side4=>exact (Kd.N_reads' HO581.out).2.1);rintro e w15 ⟨rfl,hb⟩;have n0_:=zzm (Kd.N_below (zzN HO575.out) hb);have n1_:=zzm (Kd.N_below (zzN HO578.out) hb);have n2_:=zzm (Kd.N_below (zzN HO581.out) hb);have n3_:=zzm (zzp zzh1 hb);clear HO575 HO578 HO581 HB;have HO575:=n0_;have HO578:=n1_;have HO581:=n2_;have HB:=n3_;clear n0_ n1_ n2_ n3_;(try clear hb);(try clear hb2);(try clear hk);(try clear hi))))
    go_meet
    case rel=>exact ⟨_,(((t579.length:Int)==0)),(by first|rfl|(simp;done)|(simp [*];done)),H',⟨by first|omega|exact Nat.le_refl _⟩,⟨by (with_reducible repeat (first|apply Kd.N_alloc|apply Kd.N_drewN|apply Kd.N_drew));exact Kd.N_mono HO575.out (fun _ hk=>⟨hk.1.2,hk.2⟩)⟩,⟨by (with_reducible repeat (first|apply Kd.N_alloc|apply Kd.N_drewN|apply Kd.N_drew));exact HO578.out⟩,⟨by (with_reducible repeat (first|apply Kd.N_alloc|apply Kd.N_drewN|apply Kd.N_drew));exact HO581.out⟩,⟨zzh1⟩⟩
   ·
    replace c12:=Bool.eq_false_iff.mpr c12;subst c12;have H1:(laws_FnStableRecords.j0 k t573 t576 t579 true)=some r:=by rw [if_neg (show ¬ (false=true) by decide)] at H;exact H
    clear H;have H:=H1;clear H1;have H':=zzm H;clear H;obtain ⟨Ao16,co16,eo16⟩:=Kd.N_slice HO578.out;subst eo16;obtain ⟨Ao17,co17,eo17⟩:=Kd.N_slice HO581.out;subst eo17;go_wp2_with (first|(go_at_call 36;(with_reducible refine (laws_sameRecords.calls k _ _ t576 _ _ t579 false _ ?side1 ?side2 ?side3 ?side4 A11.out).mono ?_);(case side1=>repeat (first|exact (Kd.N_reads' HO578.out).2.2|(with_reducible refine Kd.C_alloc ?_ _)|(with_reducible refine Kd.C_drewN ?_ _)|(with_reducible refine Kd.C_drew ?_)));(case side2=>exact (Kd.N_reads' HO578.out).2.1);(case side3=>repeat (first|exact (Kd.N_reads' HO581.out).2.2|(with_reducible refine Kd.C_alloc ?_ _)|(with_reducible refine Kd.C_drewN ?_ _)|(with_reducible refine Kd.C_drew ?_)));(case side4=>exact (Kd.N_reads' HO581.out).2.1);rintro e w18 ⟨rfl,hb⟩;have n0_:=zzm (Kd.N_below (zzN HO575.out) hb);have n1_:=zzm (Kd.N_below (zzN HO578.out) hb);have n2_:=zzm (Kd.N_below (zzN HO581.out) hb);have n3_:=zzm (zzp zzh1 hb);clear HO575 HO578 HO581 HB;have HO575:=n0_;have HO578:=n1_;have HO581:=n2_;have HB:=n3_;clear n0_ n1_ n2_ n3_;(try clear hb);(try clear hb2);(try clear hk);(try clear hi)));repeat (go_quiet (first|(go_at_call 36;(with_reducible refine (laws_sameRecords.calls k _ _ t576 _ _ t579 false _ ?side1 ?side2 ?side3 ?side4 A11.out).mono ?_);(case side1=>repeat (first|exact (Kd.N_reads' HO578.out).2.2|(with_reducible refine Kd.C_alloc ?_ _)|(with_reducible refine Kd.C_drewN ?_ _)|(with_reducible refine Kd.C_drew ?_)));(case side2=>exact (Kd.N_reads' HO578.out).2.1);(case side3=>repeat (first|exact (Kd.N_reads' HO581.out).2.2|(with_reducible refine Kd.C_alloc ?_ _)|(with_reducible refine Kd.C_drewN ?_ _)|(with_reducible refine Kd.C_drew ?_)));(case side4=>exact (Kd.N_reads' HO581.out).2.1);rintro e w18 ⟨rfl,hb⟩;have n0_:=zzm (Kd.N_below (zzN HO575.out) hb);have n1_:=zzm (Kd.N_below (zzN HO578.out) hb);have n2_:=zzm (Kd.N_below (zzN HO581.out) hb);have n3_:=zzm (zzp zzh1 hb);clear HO575 HO578 HO581 HB;have HO575:=n0_;have HO578:=n1_;have HO581:=n2_;have HB:=n3_;clear n0_ n1_ n2_ n3_;(try clear hb);(try clear hb2);(try clear hk);(try clear hi)));try go_wp2_with (first|(go_at_call 36;(with_reducible refine (laws_sameRecords.calls k _ _ t576 _ _ t579 false _ ?side1 ?side2 ?side3 ?side4 A11.out).mono ?_);(case side1=>repeat (first|exact (Kd.N_reads' HO578.out).2.2|(with_reducible refine Kd.C_alloc ?_ _)|(with_reducible refine Kd.C_drewN ?_ _)|(with_reducible refine Kd.C_drew ?_)));(case side2=>exact (Kd.N_reads' HO578.out).2.1);(case side3=>repeat (first|exact (Kd.N_reads' HO581.out).2.2|(with_reducible refine Kd.C_alloc ?_ _)|(with_reducible refine Kd.C_drewN ?_ _)|(with_reducible refine Kd.C_drew ?_)));(case side4=>exact (Kd.N_reads' HO581.out).2.1);rintro e w18 ⟨rfl,hb⟩;have n0_:=zzm (Kd.N_below (zzN HO575.out) hb);have n1_:=zzm (Kd.N_below (zzN HO578.out) hb);have n2_:=zzm (Kd.N_below (zzN HO581.out) hb);have n3_:=zzm (zzp zzh1 hb);clear HO575 HO578 HO581 HB;have HO575:=n0_;have HO578:=n1_;have HO581:=n2_;have HB:=n3_;clear n0_ n1_ n2_ n3_;(try clear hb);(try clear hb2);(try clear hk);(try clear hi))))
    go_meet
    case rel=>exact ⟨_,(true),(by first|rfl|(simp;done)|(simp [*];done)),H',⟨by first|omega|exact Nat.le_refl _⟩,⟨by (with_reducible repeat (first|apply Kd.N_alloc|apply Kd.N_drewN|apply Kd.N_drew));exact Kd.N_mono HO575.out (fun _ hk=>⟨hk.1.2,hk.2⟩)⟩,⟨by (with_reducible repeat (first|apply Kd.N_alloc|apply Kd.N_drewN|apply Kd.N_drew));exact HO578.out⟩,⟨by (with_reducible repeat (first|apply Kd.N_alloc|apply Kd.N_drewN|apply Kd.N_drew));exact HO581.out⟩,⟨zzh1⟩⟩
  case rest=>
   clear HC6;try clear c1
   try clear c2
   try clear c2b0
   try clear c2b1
   try clear p2
   try clear c12
   try clear c15
   obtain ⟨kq,x28_5,rfl,HA,HJ5,HO_3,HO_4,HO_5,HB⟩:=hcut;cases kq with
   | zero=>exact absurd HA.out (by simp [laws_FnStableRecords.j0])
   | succ kj5=>
    have H:=HA.out;clear HA;simp only [laws_FnStableRecords.j0] at H;by_cases c19:x28_5=true
    ·
     subst c19;have H1:((laws_sameRecords.f kj5 t576 t579).bind fun t583=>(some t583))=some r:=by rw [if_pos rfl] at H;exact H
     clear H;have H:=H1;clear H1;replace H:=Option.bind_eq_some_iff.mp H;obtain ⟨t583,A200,H⟩:=H;replace H:(some t583)=some r:=H;have A20:=zzm A200;clear A200;obtain rfl:=Option.some.inj H;obtain ⟨Ao21,co21,eo21⟩:=Kd.N_slice HO_4.out;subst eo21;obtain ⟨Ao22,co22,eo22⟩:=Kd.N_slice HO_5.out;subst eo22;go_wp2_with (first|(go_at_call 36;(with_reducible refine (laws_sameRecords.calls kj5 _ _ t576 _ _ t579 t583 _ ?side1 ?side2 ?side3 ?side4 A20.out).mono ?_);(case side1=>repeat (first|exact (Kd.N_reads' HO_4.out).2.2|(with_reducible refine Kd.C_alloc ?_ _)|(with_reducible refine Kd.C_drewN ?_ _)|(with_reducible refine Kd.C_drew ?_)));(case side2=>exact (Kd.N_reads' HO_4.out).2.1);(case side3=>repeat (first|exact (Kd.N_reads' HO_5.out).2.2|(with_reducible refine Kd.C_alloc ?_ _)|(with_reducible refine Kd.C_drewN ?_ _)|(with_reducible refine Kd.C_drew ?_)));(case side4=>exact (Kd.N_reads' HO_5.out).2.1);rintro e w23 ⟨rfl,hb⟩;have n0_:=zzm (Kd.N_below (zzN HO_3.out) hb);have n1_:=zzm (Kd.N_below (zzN HO_4.out) hb);have n2_:=zzm (Kd.N_below (zzN HO_5.out) hb);have n3_:=zzm (zzp zzh1 hb);clear HO_3 HO_4 HO_5 HB;have HO_3:=n0_;have HO_4:=n1_;have HO_5:=n2_;have HB:=n3_;clear n0_ n1_ n2_ n3_;(try clear hb);(try clear hb2);(try clear hk);(try clear hi)));repeat (go_quiet (first|(go_at_call 36;(with_reducible refine (laws_sameRecords.calls kj5 _ _ t576 _ _ t579 t583 _ ?side1 ?side2 ?side3 ?side4 A20.out).mono ?_);(case side1=>repeat (first|exact (Kd.N_reads' HO_4.out).2.2|(with_reducible refine Kd.C_alloc ?_ _)|(with_reducible refine Kd.C_drewN ?_ _)|(with_reducible refine Kd.C_drew ?_)));(case side2=>exact (Kd.N_reads' HO_4.out).2.1);(case side3=>repeat (first|exact (Kd.N_reads' HO_5.out).2.2|(with_reducible refine Kd.C_alloc ?_ _)|(with_reducible refine Kd.C_drewN ?_ _)|(with_reducible refine Kd.C_drew ?_)));(case side4=>exact (Kd.N_reads' HO_5.out).2.1);rintro e w23 ⟨rfl,hb⟩;have n0_:=zzm (Kd.N_below (zzN HO_3.out) hb);have n1_:=zzm (Kd.N_below (zzN HO_4.out) hb);have n2_:=zzm (Kd.N_below (zzN HO_5.out) hb);have n3_:=zzm (zzp zzh1 hb);clear HO_3 HO_4 HO_5 HB;have HO_3:=n0_;have HO_4:=n1_;have HO_5:=n2_;have HB:=n3_;clear n0_ n1_ n2_ n3_;(try clear hb);(try clear hb2);(try clear hk);(try clear hi)));try go_wp2_with (first|(go_at_call 36;(with_reducible refine (laws_sameRecords.calls kj5 _ _ t576 _ _ t579 t583 _ ?side1 ?side2 ?side3 ?side4 A20.out).mono ?_);(case side1=>repeat (first|exact (Kd.N_reads' HO_4.out).2.2|(with_reducible refine Kd.C_alloc ?_ _)|(with_reducible refine Kd.C_drewN ?_ _)|(with_reducible refine Kd.C_drew ?_)));(case side2=>exact (Kd.N_reads' HO_4.out).2.1);(case side3=>repeat (first|exact (Kd.N_reads' HO_5.out).2.2|(with_reducible refine Kd.C_alloc ?_ _)|(with_reducible refine Kd.C_drewN ?_ _)|(with_reducible refine Kd.C_drew ?_)));(case side4=>exact (Kd.N_reads' HO_5.out).2.1);rintro e w23 ⟨rfl,hb⟩;have n0_:=zzm (Kd.N_below (zzN HO_3.out) hb);have n1_:=zzm (Kd.N_below (zzN HO_4.out) hb);have n2_:=zzm (Kd.N_below (zzN HO_5.out) hb);have n3_:=zzm (zzp zzh1 hb);clear HO_3 HO_4 HO_5 HB;have HO_3:=n0_;have HO_4:=n1_;have HO_5:=n2_;have HB:=n3_;clear n0_ n1_ n2_ n3_;(try clear hb);(try clear hb2);(try clear hk);(try clear hi))))
     go_ret;exact ⟨by first|rfl|(simp [errW_none,errW_some] <;> rfl)|(simp [*,errW_none,errW_some] <;> rfl),zzh1⟩
    ·
     replace c19:=Bool.eq_false_iff.mpr c19;subst c19;have H1:((impl_StableEnd.f kj5 t573).bind fun t584=>((impl_UndoneOf.f kj5 t573).bind fun t585=>(laws_FnStableRecords.l0 kj5 t573 t576 t584 t585 0)))=some r:=by rw [if_neg (show ¬ (false=true) by decide)] at H;exact H
     clear H;have H:=H1;clear H1;replace H:=Option.bind_eq_some_iff.mp H;obtain ⟨t584,A240,H⟩:=H;replace H:((impl_UndoneOf.f kj5 t573).bind fun t585=>(laws_FnStableRecords.l0 kj5 t573 t576 t584 t585 0))=some r:=H;have A24:=zzm A240;clear A240;replace H:=Option.bind_eq_some_iff.mp H;obtain ⟨t585,A250,H⟩:=H;replace H:(laws_FnStableRecords.l0 kj5 t573 t576 t584 t585 0)=some r:=H;have A25:=zzm A250;clear A250;have H':=zzm H;clear H;go_wp2_with (first|(go_at_call 28;(with_reducible refine (impl_StableEnd.calls kj5 _ _ t573 t584 _ ?side1 ?side2 A24.out).mono ?_);(case side1=>repeat (first|exact (Kd.N_reads' HO_3.out).2.2|(with_reducible refine Kd.C_alloc ?_ _)|(with_reducible refine Kd.C_drewN ?_ _)|(with_reducible refine Kd.C_drew ?_)));(case side2=>exact (Kd.N_reads' HO_3.out).2.1);rintro e w26 ⟨rfl,hb⟩;have n0_:=zzm (Kd.N_below (zzN HO_3.out) hb);have n1_:=zzm (Kd.N_below (zzN HO_4.out) hb);have n2_:=zzm (Kd.N_below (zzN HO_5.out) hb);have n3_:=zzm (zzp zzh1 hb);clear HO_3 HO_4 HO_5 HB;have HO_3:=n0_;have HO_4:=n1_;have HO_5:=n2_;have HB:=n3_;clear n0_ n1_ n2_ n3_;(try clear hb);(try clear hb2);(try clear hk);(try clear hi))|(go_at_call 32;(with_reducible refine (impl_UndoneOf.calls kj5 _ _ t573 t585 _ ?side1 ?side2 A25.out).mono ?_);(case side1=>repeat (first|exact (Kd.N_reads' HO_3.out).2.2|(with_reducible refine Kd.C_alloc ?_ _)|(with_reducible refine Kd.C_drewN ?_ _)|(with_reducible refine Kd.C_drew ?_)));(case side2=>exact (Kd.N_reads' HO_3.out).2.1);rintro e w27 ⟨v586,rfl,ho0,hb⟩;have n0_:=zzm (Kd.N_elder' (zzN HO_3.out) (Kd.R_base ho0) hb);have n1_:=zzm (Kd.N_elder' (zzN HO_4.out) (Kd.R_base ho0) hb);have n2_:=zzm (Kd.N_elder' (zzN HO_5.out) (Kd.R_base ho0) hb);have n3_:=zzm (Kd.R_lower ho0 (zzo zzh1));have n4_:=zzm (zzp zzh1 hb);clear HO_3 HO_4 HO_5 HB;have HO_3:=n0_;have HO_4:=n1_;have HO_5:=n2_;have HO587:=n3_;have HB:=n4_;clear n0_ n1_ n2_ n3_ n4_;(try clear hb);(try clear hb2);(try clear hk);(try clear hi);(try clear ho0)));repeat (go_quiet (first|(go_at_call 28;(with_reducible refine (impl_StableEnd.calls kj5 _ _ t573 t584 _ ?side1 ?side2 A24.out).mono ?_);(case side1=>repeat (first|exact (Kd.N_reads' HO_3.out).2.2|(with_reducible refine Kd.C_alloc ?_ _)|(with_reducible refine Kd.C_drewN ?_ _)|(with_reducible refine Kd.C_drew ?_)));(case side2=>exact (Kd.N_reads' HO_3.out).2.1);rintro e w26 ⟨rfl,hb⟩;have n0_:=zzm (Kd.N_below (zzN HO_3.out) hb);have n1_:=zzm (Kd.N_below (zzN HO_4.out) hb);have n2_:=zzm (Kd.N_below (zzN HO_5.out) hb);have n3_:=zzm (zzp zzh1 hb);clear HO_3 HO_4 HO_5 HB;have HO_3:=n0_;have HO_4:=n1_;have HO_5:=n2_;have HB:=n3_;clear n0_ n1_ n2_ n3_;(try clear hb);(try clear hb2);(try clear hk);(try clear hi))|(go_at_call 32;(with_reducible refine (impl_UndoneOf.calls kj5 _ _ t573 t585 _ ?side1 ?side2 A25.out).mono ?_);(case side1=>repeat (first|exact (Kd.N_reads' HO_3.out).2.2|(with_reducible refine Kd.C_alloc ?_ _)|(with_reducible refine Kd.C_drewN ?_ _)|(with_reducible refine Kd.C_drew ?_)));(case side2=>exact (Kd.N_reads' HO_3.out).2.1);rintro e w27 ⟨v586,rfl,ho0,hb⟩;have n0_:=zzm (Kd.N_elder' (zzN HO_3.out) (Kd.R_base ho0) hb);have n1_:=zzm (Kd.N_elder' (zzN HO_4.out) (Kd.R_base ho0) hb);have n2_:=zzm (Kd.N_elder' (zzN HO_5.out) (Kd.R_base ho0) hb);have n3_:=zzm (Kd.R_lower ho0 (zzo zzh1));have n4_:=zzm (zzp zzh1 hb);clear HO_3 HO_4 HO_5 HB;have HO_3:=n0_;have HO_4:=n1_;have HO_5:=n2_;have HO587:=n3_;have HB:=n4_;clear n0_ n1_ n2_ n3_ n4_;(try clear hb);(try clear hb2);(try clear hk);(try clear hi);(try clear ho0)));try go_wp2_with (first|(go_at_call 28;(with_reducible refine (impl_StableEnd.calls kj5 _ _ t573 t584 _ ?side1 ?side2 A24.out).mono ?_);(case side1=>repeat (first|exact (Kd.N_reads' HO_3.out).2.2|(with_reducible refine Kd.C_alloc ?_ _)|(with_reducible refine Kd.C_drewN ?_ _)|(with_reducible refine Kd.C_drew ?_)));(case side2=>exact (Kd.N_reads' HO_3.out).2.1);rintro e w26 ⟨rfl,hb⟩;have n0_:=zzm (Kd.N_below (zzN HO_3.out) hb);have n1_:=zzm (Kd.N_below (zzN HO_4.out) hb);have n2_:=zzm (Kd.N_below (zzN HO_5.out) hb);have n3_:=zzm (zzp zzh1 hb);clear HO_3 HO_4 HO_5 HB;have HO_3:=n0_;have HO_4:=n1_;have HO_5:=n2_;have HB:=n3_;clear n0_ n1_ n2_ n3_;(try clear hb);(try clear hb2);(try clear hk);(try clear hi))|(go_at_call 32;(with_reducible refine (impl_UndoneOf.calls kj5 _ _ t573 t585 _ ?side1 ?side2 A25.out).mono ?_);(case side1=>repeat (first|exact (Kd.N_reads' HO_3.out).2.2|(with_reducible refine Kd.C_alloc ?_ _)|(with_reducible refine Kd.C_drewN ?_ _)|(with_reducible refine Kd.C_drew ?_)));(case side2=>exact (Kd.N_reads' HO_3.out).2.1);rintro e w27 ⟨v586,rfl,ho0,hb⟩;have n0_:=zzm (Kd.N_elder' (zzN HO_3.out) (Kd.R_base ho0) hb);have n1_:=zzm (Kd.N_elder' (zzN HO_4.out) (Kd.R_base ho0) hb);have n2_:=zzm (Kd.N_elder' (zzN HO_5.out) (Kd.R_base ho0) hb);have n3_:=zzm (Kd.R_lower ho0 (zzo zzh1));have n4_:=zzm (zzp zzh1 hb);clear HO_3 HO_4 HO_5 HB;have HO_3:=n0_;have HO_4:=n1_;have HO_5:=n2_;have HO587:=n3_;have HB:=n4_;clear n0_ n1_ n2_ n3_ n4_;(try clear hb);(try clear hb2);(try clear hk);(try clear hi);(try clear ho0))))
     go_loopg [8] kj5 (fun kq v8 w'=>∃ (x8_2:Int),v8 = .int .i64 x8_2∧Aside0 (laws_FnStableRecords.l0 kq t573 t576 t584 t585 x8_2=some r)∧Aside0 (kq≤kj5)∧Aside0 (Kd.N k27 27 w' w.heap.size (fun k_=>some k_≠(v577:Value).ownBlock∧some k_≠(v586:Value).ownBlock) (.slice Ao8 t573.length co8) t573)∧Aside0 (Kd.N k34 34 w' w.heap.size (fun k_=>some k_≠((.slice Ao8 t573.length co8):Value).ownBlock∧some k_≠(v586:Value).ownBlock) v577 t576)∧Aside0 (Kd.R k46 46 w' w.heap.size (fun _=>True) v586 t585)∧Aside0 (Below w.heap.size w w'))
     case atStart=>exact ⟨(0),(by first|rfl|(simp;done)|(simp [*];done)),H',⟨Nat.le_refl _⟩,⟨by (with_reducible repeat (first|apply Kd.N_alloc|apply Kd.N_drewN|apply Kd.N_drew));exact Kd.N_mono HO_3.out (fun _ hk=>⟨hk.1.1,hk.2⟩)⟩,⟨by (with_reducible repeat (first|apply Kd.N_alloc|apply Kd.N_drewN|apply Kd.N_drew));exact Kd.N_mono HO_4.out (fun _ hk=>⟨hk.1.1,hk.2⟩)⟩,⟨by (with_reducible repeat (first|apply Kd.R_alloc|apply Kd.R_drewN|apply Kd.R_drew));exact HO587.out⟩,⟨zzh1⟩⟩
     case round=>
      clear H';try clear c1
      try clear c2
      try clear c2b0
      try clear c2b1
      try clear p2
      try clear c12
      try clear c15
      try clear c19
      try clear p2
      obtain ⟨x8_2,rfl,HA,HK2,HO_3,HO_4,HO_7,HB⟩:=hrel;cases gk with
      | zero=>exact absurd HA.out (by simp [laws_FnStableRecords.l0])
      | succ k2=>
       have H:=HA.out;clear HA;simp only [laws_FnStableRecords.l0] at H;by_cases c28:x8_2 < (t576.length:Int)
       ·
        rw [if_pos c28] at H;have c28b0:decide (x8_2 < (t576.length:Int))=true:=decide_eq_true c28;clear c28;by_cases c29 : 0≤x8_2
        ·
         rw [if_pos c29] at H;have c29b0:decide (0≤x8_2)=true:=decide_eq_true c29;clear c29;by_cases c30:((rd_T34 t576 x8_2).f0) ≥ t584
         ·
          rw [if_pos c30] at H;have c30b0:decide (t584≤((rd_T34 t576 x8_2).f0))=true:=decide_eq_true c30;clear c30;obtain rfl:=Option.some.inj H;obtain ⟨Ao31,co31,eo31⟩:=Kd.N_slice HO_4.out;subst eo31;have p588 : 0≤(x8_2:Int):=zzt;have q588:x8_2 < (t576.length:Int):=zzt;obtain ⟨ad588,A588_3,c588_3,A588_5,c588_5,e588,hx588_0,hx588_1,hx588_2,hx588_3,hx588_4,hx588_5,hl588_3,hi588_3,hl588_5,hi588_5⟩:=at_T34 (Kd.N_reads' HO_4.out).2.2 x8_2 p588 q588;cases e588;obtain ⟨ce588,hce588,hMe588,hcc588⟩:=Kd.N_get HO_4.out z34 x8_2 p588 (by first|exact q588|exact zzt|(have e_:=(Kd.N_reads' HO_4.out).1;omega));obtain ⟨ua588_3,uc588_3,ua588_5,uc588_5,rfl,ul588_3,ge588_3,ul588_5,ge588_5⟩:=k34_openF hMe588;have hv588_3:=hcc588 3 _ rfl;rw [add_field _ _ 3 (by omega)] at hv588_3;replace hv588_3:=Option.some.inj (hv588_3.symm.trans hx588_3);injection hv588_3 with hva_ hvn_ hvc_;rw [hva_] at ge588_3;rw [hvc_] at ul588_3;have HL588_3:=zzm (show Kd.V (Kd.int .i64) 3 _ w.heap.size _ _ ((rd_T34 t576 x8_2).f3) from Kd.V_mk ul588_3 ge588_3);clear hva_ hvn_ hvc_ ge588_3 ul588_3;have hv588_5:=hcc588 5 _ rfl;rw [add_field _ _ 5 (by omega)] at hv588_5;replace hv588_5:=Option.some.inj (hv588_5.symm.trans hx588_5);injection hv588_5 with hva_ hvn_ hvc_;rw [hva_] at ge588_5;rw [hvc_] at ul588_5;have HL588_5:=zzm (show Kd.V (Kd.int .i64) 3 _ w.heap.size _ _ ((rd_T34 t576 x8_2).f5) from Kd.V_mk ul588_5 ge588_5);clear hva_ hvn_ hvc_ ge588_5 ul588_5;clear hcc588 hce588;have HR588_3:=zzm hi588_3;have HC588_3:=zzm hl588_3;clear hi588_3 hl588_3;have HR588_5:=zzm hi588_5;have HC588_5:=zzm hl588_5;clear hi588_5 hl588_5;replace p588:=eq_true p588;replace q588:=eq_true q588;go_wp2;repeat (go_quiet (fail);try go_wp2)
          go_ret;exact ⟨by first|rfl|(simp [errW_none,errW_some] <;> rfl)|(simp [*,errW_none,errW_some] <;> rfl),zzh1⟩
         ·
          rw [if_neg c30] at H;have c30b0:decide (t584≤((rd_T34 t576 x8_2).f0))=false:=decide_eq_false c30;clear c30;have H':=zzm H;clear H;obtain ⟨Ao32,co32,eo32⟩:=Kd.N_slice HO_4.out;subst eo32;have p588 : 0≤(x8_2:Int):=zzt;have q588:x8_2 < (t576.length:Int):=zzt;obtain ⟨ad588,A588_3,c588_3,A588_5,c588_5,e588,hx588_0,hx588_1,hx588_2,hx588_3,hx588_4,hx588_5,hl588_3,hi588_3,hl588_5,hi588_5⟩:=at_T34 (Kd.N_reads' HO_4.out).2.2 x8_2 p588 q588;cases e588;obtain ⟨ce588,hce588,hMe588,hcc588⟩:=Kd.N_get HO_4.out z34 x8_2 p588 (by first|exact q588|exact zzt|(have e_:=(Kd.N_reads' HO_4.out).1;omega));obtain ⟨ua588_3,uc588_3,ua588_5,uc588_5,rfl,ul588_3,ge588_3,ul588_5,ge588_5⟩:=k34_openF hMe588;have hv588_3:=hcc588 3 _ rfl;rw [add_field _ _ 3 (by omega)] at hv588_3;replace hv588_3:=Option.some.inj (hv588_3.symm.trans hx588_3);injection hv588_3 with hva_ hvn_ hvc_;rw [hva_] at ge588_3;rw [hvc_] at ul588_3;have HL588_3:=zzm (show Kd.V (Kd.int .i64) 3 _ w.heap.size _ _ ((rd_T34 t576 x8_2).f3) from Kd.V_mk ul588_3 ge588_3);clear hva_ hvn_ hvc_ ge588_3 ul588_3;have hv588_5:=hcc588 5 _ rfl;rw [add_field _ _ 5 (by omega)] at hv588_5;replace hv588_5:=Option.some.inj (hv588_5.symm.trans hx588_5);injection hv588_5 with hva_ hvn_ hvc_;rw [hva_] at ge588_5;rw [hvc_] at ul588_5;have HL588_5:=zzm (show Kd.V (Kd.int .i64) 3 _ w.heap.size _ _ ((rd_T34 t576 x8_2).f5) from Kd.V_mk ul588_5 ge588_5);clear hva_ hvn_ hvc_ ge588_5 ul588_5;clear hcc588 hce588;have HR588_3:=zzm hi588_3;have HC588_3:=zzm hl588_3;clear hi588_3 hl588_3;have HR588_5:=zzm hi588_5;have HC588_5:=zzm hl588_5;clear hi588_5 hl588_5;replace p588:=eq_true p588;replace q588:=eq_true q588;go_wp2;repeat (go_quiet (fail);try go_wp2)
          go_loopg [9] k2 (fun kq v9 w'=>∃ (x9_3:Int),v9 = .int .i64 x9_3∧Aside0 (laws_FnStableRecords.l1 kq t573 t576 t584 t585 x8_2 x9_3=some r)∧Aside0 (kq≤k2)∧Aside0 (Kd.N k27 27 w' w.heap.size (fun k_=>some k_≠((.slice (some ad588) t576.length co32):Value).ownBlock∧some k_≠(v586:Value).ownBlock) (.slice Ao8 t573.length co8) t573)∧Aside0 (Kd.N k34 34 w' w.heap.size (fun k_=>some k_≠((.slice Ao8 t573.length co8):Value).ownBlock∧some k_≠(v586:Value).ownBlock) (.slice (some ad588) t576.length co32) t576)∧Aside0 (Kd.R k46 46 w' w.heap.size (fun _=>True) v586 t585)∧Aside0 (Kd.C (Kd.int .i64) w' A588_3 ((rd_T34 t576 x8_2).f3).length ((rd_T34 t576 x8_2).f3))∧Aside0 (Kd.C (Kd.int .i64) w' A588_5 ((rd_T34 t576 x8_2).f5).length ((rd_T34 t576 x8_2).f5))∧Aside0 (Below w.heap.size w w'))
          case atStart=>exact ⟨(0),(by first|rfl|(simp;done)|(simp [*];done)),H',⟨Nat.le_refl _⟩,⟨by (with_reducible repeat (first|apply Kd.N_alloc|apply Kd.N_drewN|apply Kd.N_drew));exact HO_3.out⟩,⟨by (with_reducible repeat (first|apply Kd.N_alloc|apply Kd.N_drewN|apply Kd.N_drew));exact HO_4.out⟩,⟨by (with_reducible repeat (first|apply Kd.R_alloc|apply Kd.R_drewN|apply Kd.R_drew));exact HO_7.out⟩,⟨by repeat (first|(with_reducible exact HR588_3.out)|(with_reducible refine Kd.C_alloc ?_ _)|(with_reducible refine Kd.C_drewN ?_ _)|(with_reducible refine Kd.C_drew ?_)|exact HR588_3.out)⟩,⟨by repeat (first|(with_reducible exact HR588_5.out)|(with_reducible refine Kd.C_alloc ?_ _)|(with_reducible refine Kd.C_drewN ?_ _)|(with_reducible refine Kd.C_drew ?_)|exact HR588_5.out)⟩,⟨zzh1⟩⟩
          case round=>
           clear H';try clear c1
           try clear c2
           try clear c2b0
           try clear c2b1
           try clear p2
           try clear c3
           try clear c5
           try clear p5
           try clear q5
           try clear hx5
           try clear c12
           try clear c15
           try clear c19
           try clear c28
           try clear c28b0
           try clear c29
           try clear c29b0
           try clear c30
           try clear c30b0
           try clear hx588_0
           try clear hx588_1
           try clear hx588_2
           try clear hx588_3
           try clear hx588_4
           try clear hx588_5
           try clear p2
           try clear p588
           try clear q588
           obtain ⟨x9_3,rfl,HA,HK3,HO_3,HO_4,HO_7,HR588_3,HR588_5,HB⟩:=hrel;cases gk with
           | zero=>exact absurd HA.out (by simp [laws_FnStableRecords.l1])
           | succ k3=>
            have H:=HA.out;clear HA;simp only [laws_FnStableRecords.l1] at H;by_cases c33:x9_3 < (t573.length:Int)
            ·
             rw [if_pos c33] at H;have c33b0:decide (x9_3 < (t573.length:Int))=true:=decide_eq_true c33;clear c33;have H':=zzm H;clear H;go_wp2;repeat (go_quiet (fail);try go_wp2)
             go_loopg [10] k3 (fun kq v10 w'=>∃ (x10_4:Int),v10 = .int .i64 x10_4∧Aside0 (laws_FnStableRecords.l2 kq t573 t576 t584 t585 x8_2 x9_3 x10_4=some r)∧Aside0 (kq≤k3)∧Aside0 (Kd.N k27 27 w' w.heap.size (fun k_=>some k_≠((.slice (some ad588) t576.length co32):Value).ownBlock∧some k_≠(v586:Value).ownBlock) (.slice Ao8 t573.length co8) t573)∧Aside0 (Kd.N k34 34 w' w.heap.size (fun k_=>some k_≠((.slice Ao8 t573.length co8):Value).ownBlock∧some k_≠(v586:Value).ownBlock) (.slice (some ad588) t576.length co32) t576)∧Aside0 (Kd.R k46 46 w' w.heap.size (fun _=>True) v586 t585)∧Aside0 (Kd.C (Kd.int .i64) w' A588_3 ((rd_T34 t576 x8_2).f3).length ((rd_T34 t576 x8_2).f3))∧Aside0 (Kd.C (Kd.int .i64) w' A588_5 ((rd_T34 t576 x8_2).f5).length ((rd_T34 t576 x8_2).f5))∧Aside0 (Below w.heap.size w w'))
             case atStart=>exact ⟨(0),(by first|rfl|(simp;done)|(simp [*];done)),H',⟨Nat.le_refl _⟩,⟨by (with_reducible repeat (first|apply Kd.N_alloc|apply Kd.N_drewN|apply Kd.N_drew));exact HO_3.out⟩,⟨by (with_reducible repeat (first|apply Kd.N_alloc|apply Kd.N_drewN|apply Kd.N_drew));exact HO_4.out⟩,⟨by (with_reducible repeat (first|apply Kd.R_alloc|apply Kd.R_drewN|apply Kd.R_drew));exact HO_7.out⟩,⟨by repeat (first|(with_reducible exact HR588_3.out)|(with_reducible refine Kd.C_alloc ?_ _)|(with_reducible refine Kd.C_drewN ?_ _)|(with_reducible refine Kd.C_drew ?_)|exact HR588_3.out)⟩,⟨by repeat (first|(with_reducible exact HR588_5.out)|(with_reducible refine Kd.C_alloc ?_ _)|(with_reducible refine Kd.C_drewN ?_ _)|(with_reducible refine Kd.C_drew ?_)|exact HR588_5.out)⟩,⟨zzh1⟩⟩
             case round=>
              clear H';try clear c1
              try clear c2
              try clear c2b0
              try clear c2b1
              try clear p2
              try clear c3
              try clear c5
              try clear p5
              try clear q5
              try clear hx5
              try clear c12
              try clear c15
              try clear c19
              try clear c28
              try clear c28b0
              try clear c29
              try clear c29b0
              try clear c30
              try clear c30b0
              try clear c33
              try clear c33b0
              try clear hx588_0
              try clear hx588_1
              try clear hx588_2
              try clear hx588_3
              try clear hx588_4
              try clear hx588_5
              try clear p2
              try clear p5
              try clear p588
              try clear q5
              try clear q588
              obtain ⟨x10_4,rfl,HA,HK4,HO_3,HO_4,HO_7,HR588_3,HR588_5,HB⟩:=hrel;cases gk with
              | zero=>exact absurd HA.out (by simp [laws_FnStableRecords.l2])
              | succ k4=>
               have H:=HA.out;clear HA;simp only [laws_FnStableRecords.l2] at H;by_cases c34:x10_4 < (t585.length:Int)
               ·
                rw [if_pos c34] at H;have c34b0:decide (x10_4 < (t585.length:Int))=true:=decide_eq_true c34;clear c34;by_cases c35 : 0≤x9_3
                ·
                 rw [if_pos c35] at H;have c35b0:decide (0≤x9_3)=true:=decide_eq_true c35;clear c35;by_cases c36:x9_3 < (t573.length:Int)
                 ·
                  rw [if_pos c36] at H;have c36b0:decide (x9_3 < (t573.length:Int))=true:=decide_eq_true c36;clear c36;by_cases c37 : 0≤x10_4
                  ·
                   rw [if_pos c37] at H;have c37b0:decide (0≤x10_4)=true:=decide_eq_true c37;clear c37;by_cases c38:((rd_T27 t573 x9_3).f2)=((rd_T46 t585 x10_4).f0)
                   ·
                    rw [if_pos c38] at H;have c38b0:(((rd_T27 t573 x9_3).f2)==((rd_T46 t585 x10_4).f0))=true:=beq_iff_eq.mpr c38;have c38b1:(((rd_T27 t573 x9_3).f2) != ((rd_T46 t585 x10_4).f0))=false:=bne_eq_false_iff_eq.mpr c38;clear c38;by_cases c39 : 0 < (((rd_T27 t573 x9_3).f5).length:Int)
                    ·
                     rw [if_pos c39] at H;have c39b0:decide (0 < (((rd_T27 t573 x9_3).f5).length:Int))=true:=decide_eq_true c39;have c39b1:decide (0 < ((rd_T27 t573 x9_3).f5).length)=true:=decide_eq_true (by omega);clear c39;by_cases c40 : 0≤x8_2
                     ·
                      rw [if_pos c40] at H;have c40b0:decide (0≤x8_2)=true:=decide_eq_true c40;clear c40;by_cases c41:x8_2 < (t576.length:Int)
                      ·
                       rw [if_pos c41] at H;have c41b0:decide (x8_2 < (t576.length:Int))=true:=decide_eq_true c41;clear c41;by_cases c42:((rd_T34 ((rd_T27 t573 x9_3).f5) 0).f0)=((rd_T34 t576 x8_2).f0)
                       ·
                        rw [if_pos c42] at H;have c42b0:(((rd_T34 ((rd_T27 t573 x9_3).f5) 0).f0)==((rd_T34 t576 x8_2).f0))=true:=beq_iff_eq.mpr c42;have c42b1:(((rd_T34 ((rd_T27 t573 x9_3).f5) 0).f0) != ((rd_T34 t576 x8_2).f0))=false:=bne_eq_false_iff_eq.mpr c42;clear c42;by_cases c43:((rd_T34 t576 x8_2).f0) ≥ ((rd_T46 t585 x10_4).f1)
                        ·
                         rw [if_pos c43] at H;have c43b0:decide (((rd_T46 t585 x10_4).f1)≤((rd_T34 t576 x8_2).f0))=true:=decide_eq_true c43;clear c43;by_cases c44:((rd_T34 t576 x8_2).f0)≤((rd_T46 t585 x10_4).f2)
                         ·
                          rw [if_pos c44] at H;have c44b0:decide (((rd_T34 t576 x8_2).f0)≤((rd_T46 t585 x10_4).f2))=true:=decide_eq_true c44;clear c44;obtain rfl:=Option.some.inj H;obtain ⟨Ao45,co45,eo45⟩:=Kd.R_slice HO_7.out;subst eo45;have p589 : 0≤(x9_3:Int):=zzt;have q589:x9_3 < (t573.length:Int):=zzt;obtain ⟨ad589,A589_5,c589_5,e589,hx589_0,hx589_1,hx589_2,hx589_3,hx589_4,hx589_5,hl589_5,hi589_5⟩:=at_T27 (Kd.N_reads' HO_3.out).2.2 x9_3 p589 q589;cases e589;obtain ⟨ce589,hce589,hMe589,hcc589⟩:=Kd.N_get HO_3.out z27 x9_3 p589 (by first|exact q589|exact zzt|(have e_:=(Kd.N_reads' HO_3.out).1;omega));obtain ⟨ua589_5,uc589_5,rfl,ul589_5,ge589_5⟩:=k27_openF hMe589;have hv589_5:=hcc589 5 _ rfl;rw [add_field _ _ 5 (by omega)] at hv589_5;replace hv589_5:=Option.some.inj (hv589_5.symm.trans hx589_5);injection hv589_5 with hva_ hvn_ hvc_;rw [hva_] at ge589_5;rw [hvc_] at ul589_5;have HL589_5:=zzm (show Kd.V k34 34 _ w.heap.size _ _ ((rd_T27 t573 x9_3).f5) from Kd.V_mk ul589_5 ge589_5);clear hva_ hvn_ hvc_ ge589_5 ul589_5;clear hcc589 hce589;have HR589_5:=zzm hi589_5;have HC589_5:=zzm hl589_5;clear hi589_5 hl589_5;replace p589:=eq_true p589;replace q589:=eq_true q589;have p590 : 0≤(x10_4:Int):=zzt;have q590:x10_4 < (t585.length:Int):=zzt;obtain ⟨ad590,e590,hx590_0,hx590_1,hx590_2⟩:=at_T46 (Kd.R_reads' HO_7.out).2.2 x10_4 p590 q590;cases e590;replace p590:=eq_true p590;replace q590:=eq_true q590;have p591 : 0≤(x9_3:Int):=zzt;have q591:x9_3 < (t573.length:Int):=zzt;obtain ⟨ad591,A591_5,c591_5,e591,hx591_0,hx591_1,hx591_2,hx591_3,hx591_4,hx591_5,hl591_5,hi591_5⟩:=at_T27 (Kd.N_reads' HO_3.out).2.2 x9_3 p591 q591;obtain rfl:ad589=ad591:=(by injection e591);obtain ⟨ce591,hce591,hMe591,hcc591⟩:=Kd.N_get HO_3.out z27 x9_3 p591 (by first|exact q591|exact zzt|(have e_:=(Kd.N_reads' HO_3.out).1;omega));obtain ⟨ua591_5,uc591_5,rfl,ul591_5,ge591_5⟩:=k27_openF hMe591;have hv591_5:=hcc591 5 _ rfl;rw [add_field _ _ 5 (by omega)] at hv591_5;replace hv591_5:=Option.some.inj (hv591_5.symm.trans hx591_5);injection hv591_5 with hva_ hvn_ hvc_;rw [hva_] at ge591_5;rw [hvc_] at ul591_5;have HL591_5:=zzm (show Kd.V k34 34 _ w.heap.size _ _ ((rd_T27 t573 x9_3).f5) from Kd.V_mk ul591_5 ge591_5);clear hva_ hvn_ hvc_ ge591_5 ul591_5;clear hcc591 hce591;have HR591_5:=zzm hi591_5;have HC591_5:=zzm hl591_5;clear hi591_5 hl591_5;replace p591:=eq_true p591;replace q591:=eq_true q591;have ea_:=Option.some.inj (hx589_5.symm.trans hx591_5);injection ea_ with ea_ en_ ec_;subst ea_;subst ec_;clear en_;have p592 : 0≤(0:Int):=(by omega);have q592 : 0 < (((rd_T27 t573 x9_3).f5).length:Int):=zzt;obtain ⟨ad592,A592_3,c592_3,A592_5,c592_5,e592,hx592_0,hx592_1,hx592_2,hx592_3,hx592_4,hx592_5,hl592_3,hi592_3,hl592_5,hi592_5⟩:=at_T34 (zzC HR591_5.out) 0 p592 q592;cases e592;obtain ⟨ce592,hce592,hMe592,hcc592⟩:=Kd.V_get HL591_5.out z34 0 p592 (by first|exact q592|exact zzt|(have e_:=(Kd.V_reads' HL591_5.out).1;omega));obtain ⟨ua592_3,uc592_3,ua592_5,uc592_5,rfl,ul592_3,ge592_3,ul592_5,ge592_5⟩:=k34_openF hMe592;have hv592_3:=hcc592 3 _ rfl;rw [add_field _ _ 3 (by omega)] at hv592_3;replace hv592_3:=Option.some.inj (hv592_3.symm.trans hx592_3);injection hv592_3 with hva_ hvn_ hvc_;rw [hva_] at ge592_3;rw [hvc_] at ul592_3;have HL592_3:=zzm (show Kd.V (Kd.int .i64) 3 _ w.heap.size _ _ ((rd_T34 ((rd_T27 t573 x9_3).f5) 0).f3) from Kd.V_mk ul592_3 ge592_3);clear hva_ hvn_ hvc_ ge592_3 ul592_3;have hv592_5:=hcc592 5 _ rfl;rw [add_field _ _ 5 (by omega)] at hv592_5;replace hv592_5:=Option.some.inj (hv592_5.symm.trans hx592_5);injection hv592_5 with hva_ hvn_ hvc_;rw [hva_] at ge592_5;rw [hvc_] at ul592_5;have HL592_5:=zzm (show Kd.V (Kd.int .i64) 3 _ w.heap.size _ _ ((rd_T34 ((rd_T27 t573 x9_3).f5) 0).f5) from Kd.V_mk ul592_5 ge592_5);clear hva_ hvn_ hvc_ ge592_5 ul592_5;clear hcc592 hce592;have qi592:(0 < ((rd_T27 t573 x9_3).f5).length)=True:=eq_true (by omega);(try rw [show ((0:Int)).toNat=0 from rfl] at hx592_0);(try rw [show 0 * 6=0 from rfl] at hx592_0);(try rw [Addr.add_zero'] at hx592_0);(try rw [show ((0:Int)).toNat=0 from rfl] at hx592_1);(try rw [show 0 * 6=0 from rfl] at hx592_1);(try rw [Addr.add_zero'] at hx592_1);(try rw [show ((0:Int)).toNat=0 from rfl] at hx592_2);(try rw [show 0 * 6=0 from rfl] at hx592_2);(try rw [Addr.add_zero'] at hx592_2);(try rw [show ((0:Int)).toNat=0 from rfl] at hx592_3);(try rw [show 0 * 6=0 from rfl] at hx592_3);(try rw [Addr.add_zero'] at hx592_3);(try rw [show ((0:Int)).toNat=0 from rfl] at hx592_4);(try rw [show 0 * 6=0 from rfl] at hx592_4);(try rw [Addr.add_zero'] at hx592_4);(try rw [show ((0:Int)).toNat=0 from rfl] at hx592_5);(try rw [show 0 * 6=0 from rfl] at hx592_5);(try rw [Addr.add_zero'] at hx592_5);have HR592_3:=zzm hi592_3;have HC592_3:=zzm hl592_3;clear hi592_3 hl592_3;have HR592_5:=zzm hi592_5;have HC592_5:=zzm hl592_5;clear hi592_5 hl592_5;replace p592:=eq_true p592;replace q592:=eq_true q592;have p593 : 0≤(x8_2:Int):=zzt;have q593:x8_2 < (t576.length:Int):=zzt;obtain ⟨ad593,A593_3,c593_3,A593_5,c593_5,e593,hx593_0,hx593_1,hx593_2,hx593_3,hx593_4,hx593_5,hl593_3,hi593_3,hl593_5,hi593_5⟩:=at_T34 (Kd.N_reads' HO_4.out).2.2 x8_2 p593 q593;obtain rfl:ad588=ad593:=(by injection e593);obtain ⟨ce593,hce593,hMe593,hcc593⟩:=Kd.N_get HO_4.out z34 x8_2 p593 (by first|exact q593|exact zzt|(have e_:=(Kd.N_reads' HO_4.out).1;omega));obtain ⟨ua593_3,uc593_3,ua593_5,uc593_5,rfl,ul593_3,ge593_3,ul593_5,ge593_5⟩:=k34_openF hMe593;have hv593_3:=hcc593 3 _ rfl;rw [add_field _ _ 3 (by omega)] at hv593_3;replace hv593_3:=Option.some.inj (hv593_3.symm.trans hx593_3);injection hv593_3 with hva_ hvn_ hvc_;rw [hva_] at ge593_3;rw [hvc_] at ul593_3;have HL593_3:=zzm (show Kd.V (Kd.int .i64) 3 _ w.heap.size _ _ ((rd_T34 t576 x8_2).f3) from Kd.V_mk ul593_3 ge593_3);clear hva_ hvn_ hvc_ ge593_3 ul593_3;have hv593_5:=hcc593 5 _ rfl;rw [add_field _ _ 5 (by omega)] at hv593_5;replace hv593_5:=Option.some.inj (hv593_5.symm.trans hx593_5);injection hv593_5 with hva_ hvn_ hvc_;rw [hva_] at ge593_5;rw [hvc_] at ul593_5;have HL593_5:=zzm (show Kd.V (Kd.int .i64) 3 _ w.heap.size _ _ ((rd_T34 t576 x8_2).f5) from Kd.V_mk ul593_5 ge593_5);clear hva_ hvn_ hvc_ ge593_5 ul593_5;clear hcc593 hce593;have HR593_3:=zzm hi593_3;have HC593_3:=zzm hl593_3;clear hi593_3 hl593_3;have HR593_5:=zzm hi593_5;have HC593_5:=zzm hl593_5;clear hi593_5 hl593_5;replace p593:=eq_true p593;replace q593:=eq_true q593;have p594 : 0≤(x8_2:Int):=zzt;have q594:x8_2 < (t576.length:Int):=zzt;obtain ⟨ad594,A594_3,c594_3,A594_5,c594_5,e594,hx594_0,hx594_1,hx594_2,hx594_3,hx594_4,hx594_5,hl594_3,hi594_3,hl594_5,hi594_5⟩:=at_T34 (Kd.N_reads' HO_4.out).2.2 x8_2 p594 q594;obtain rfl:ad588=ad594:=(by injection e594);obtain ⟨ce594,hce594,hMe594,hcc594⟩:=Kd.N_get HO_4.out z34 x8_2 p594 (by first|exact q594|exact zzt|(have e_:=(Kd.N_reads' HO_4.out).1;omega));obtain ⟨ua594_3,uc594_3,ua594_5,uc594_5,rfl,ul594_3,ge594_3,ul594_5,ge594_5⟩:=k34_openF hMe594;have hv594_3:=hcc594 3 _ rfl;rw [add_field _ _ 3 (by omega)] at hv594_3;replace hv594_3:=Option.some.inj (hv594_3.symm.trans hx594_3);injection hv594_3 with hva_ hvn_ hvc_;rw [hva_] at ge594_3;rw [hvc_] at ul594_3;have HL594_3:=zzm (show Kd.V (Kd.int .i64) 3 _ w.heap.size _ _ ((rd_T34 t576 x8_2).f3) from Kd.V_mk ul594_3 ge594_3);clear hva_ hvn_ hvc_ ge594_3 ul594_3;have hv594_5:=hcc594 5 _ rfl;rw [add_field _ _ 5 (by omega)] at hv594_5;replace hv594_5:=Option.some.inj (hv594_5.symm.trans hx594_5);injection hv594_5 with hva_ hvn_ hvc_;rw [hva_] at ge594_5;rw [hvc_] at ul594_5;have HL594_5:=zzm (show Kd.V (Kd.int .i64) 3 _ w.heap.size _ _ ((rd_T34 t576 x8_2).f5) from Kd.V_mk ul594_5 ge594_5);clear hva_ hvn_ hvc_ ge594_5 ul594_5;clear hcc594 hce594;have HR594_3:=zzm hi594_3;have HC594_3:=zzm hl594_3;clear hi594_3 hl594_3;have HR594_5:=zzm hi594_5;have HC594_5:=zzm hl594_5;clear hi594_5 hl594_5;replace p594:=eq_true p594;replace q594:=eq_true q594;have ea_:=Option.some.inj (hx593_3.symm.trans hx594_3);injection ea_ with ea_ en_ ec_;subst ea_;subst ec_;clear en_;have ea_:=Option.some.inj (hx593_5.symm.trans hx594_5);injection ea_ with ea_ en_ ec_;subst ea_;subst ec_;clear en_;have p595 : 0≤(x10_4:Int):=zzt;have q595:x10_4 < (t585.length:Int):=zzt;obtain ⟨ad595,e595,hx595_0,hx595_1,hx595_2⟩:=at_T46 (Kd.R_reads' HO_7.out).2.2 x10_4 p595 q595;obtain rfl:ad590=ad595:=(by injection e595);replace p595:=eq_true p595;replace q595:=eq_true q595;have p596 : 0≤(x8_2:Int):=zzt;have q596:x8_2 < (t576.length:Int):=zzt;obtain ⟨ad596,A596_3,c596_3,A596_5,c596_5,e596,hx596_0,hx596_1,hx596_2,hx596_3,hx596_4,hx596_5,hl596_3,hi596_3,hl596_5,hi596_5⟩:=at_T34 (Kd.N_reads' HO_4.out).2.2 x8_2 p596 q596;obtain rfl:ad588=ad596:=(by injection e596);obtain ⟨ce596,hce596,hMe596,hcc596⟩:=Kd.N_get HO_4.out z34 x8_2 p596 (by first|exact q596|exact zzt|(have e_:=(Kd.N_reads' HO_4.out).1;omega));obtain ⟨ua596_3,uc596_3,ua596_5,uc596_5,rfl,ul596_3,ge596_3,ul596_5,ge596_5⟩:=k34_openF hMe596;have hv596_3:=hcc596 3 _ rfl;rw [add_field _ _ 3 (by omega)] at hv596_3;replace hv596_3:=Option.some.inj (hv596_3.symm.trans hx596_3);injection hv596_3 with hva_ hvn_ hvc_;rw [hva_] at ge596_3;rw [hvc_] at ul596_3;have HL596_3:=zzm (show Kd.V (Kd.int .i64) 3 _ w.heap.size _ _ ((rd_T34 t576 x8_2).f3) from Kd.V_mk ul596_3 ge596_3);clear hva_ hvn_ hvc_ ge596_3 ul596_3;have hv596_5:=hcc596 5 _ rfl;rw [add_field _ _ 5 (by omega)] at hv596_5;replace hv596_5:=Option.some.inj (hv596_5.symm.trans hx596_5);injection hv596_5 with hva_ hvn_ hvc_;rw [hva_] at ge596_5;rw [hvc_] at ul596_5;have HL596_5:=zzm (show Kd.V (Kd.int .i64) 3 _ w.heap.size _ _ ((rd_T34 t576 x8_2).f5) from Kd.V_mk ul596_5 ge596_5);clear hva_ hvn_ hvc_ ge596_5 ul596_5;clear hcc596 hce596;have HR596_3:=zzm hi596_3;have HC596_3:=zzm hl596_3;clear hi596_3 hl596_3;have HR596_5:=zzm hi596_5;have HC596_5:=zzm hl596_5;clear hi596_5 hl596_5;replace p596:=eq_true p596;replace q596:=eq_true q596;have ea_:=Option.some.inj (hx593_3.symm.trans hx596_3);injection ea_ with ea_ en_ ec_;subst ea_;subst ec_;clear en_;have ea_:=Option.some.inj (hx593_5.symm.trans hx596_5);injection ea_ with ea_ en_ ec_;subst ea_;subst ec_;clear en_;have p597 : 0≤(x10_4:Int):=zzt;have q597:x10_4 < (t585.length:Int):=zzt;obtain ⟨ad597,e597,hx597_0,hx597_1,hx597_2⟩:=at_T46 (Kd.R_reads' HO_7.out).2.2 x10_4 p597 q597;obtain rfl:ad590=ad597:=(by injection e597);replace p597:=eq_true p597;replace q597:=eq_true q597;go_wp2;repeat (go_quiet (fail);try go_wp2)
                          go_ret;exact ⟨by first|rfl|(simp [errW_none,errW_some] <;> rfl)|(simp [*,errW_none,errW_some] <;> rfl),zzh1⟩
                         ·
                          rw [if_neg c44] at H;have c44b0:decide (((rd_T34 t576 x8_2).f0)≤((rd_T46 t585 x10_4).f2))=false:=decide_eq_false c44;clear c44;have H':=zzm H;clear H;obtain ⟨Ao46,co46,eo46⟩:=Kd.R_slice HO_7.out;subst eo46;have p589 : 0≤(x9_3:Int):=zzt;have q589:x9_3 < (t573.length:Int):=zzt;obtain ⟨ad589,A589_5,c589_5,e589,hx589_0,hx589_1,hx589_2,hx589_3,hx589_4,hx589_5,hl589_5,hi589_5⟩:=at_T27 (Kd.N_reads' HO_3.out).2.2 x9_3 p589 q589;cases e589;obtain ⟨ce589,hce589,hMe589,hcc589⟩:=Kd.N_get HO_3.out z27 x9_3 p589 (by first|exact q589|exact zzt|(have e_:=(Kd.N_reads' HO_3.out).1;omega));obtain ⟨ua589_5,uc589_5,rfl,ul589_5,ge589_5⟩:=k27_openF hMe589;have hv589_5:=hcc589 5 _ rfl;rw [add_field _ _ 5 (by omega)] at hv589_5;replace hv589_5:=Option.some.inj (hv589_5.symm.trans hx589_5);injection hv589_5 with hva_ hvn_ hvc_;rw [hva_] at ge589_5;rw [hvc_] at ul589_5;have HL589_5:=zzm (show Kd.V k34 34 _ w.heap.size _ _ ((rd_T27 t573 x9_3).f5) from Kd.V_mk ul589_5 ge589_5);clear hva_ hvn_ hvc_ ge589_5 ul589_5;clear hcc589 hce589;have HR589_5:=zzm hi589_5;have HC589_5:=zzm hl589_5;clear hi589_5 hl589_5;replace p589:=eq_true p589;replace q589:=eq_true q589;have p590 : 0≤(x10_4:Int):=zzt;have q590:x10_4 < (t585.length:Int):=zzt;obtain ⟨ad590,e590,hx590_0,hx590_1,hx590_2⟩:=at_T46 (Kd.R_reads' HO_7.out).2.2 x10_4 p590 q590;cases e590;replace p590:=eq_true p590;replace q590:=eq_true q590;have p591 : 0≤(x9_3:Int):=zzt;have q591:x9_3 < (t573.length:Int):=zzt;obtain ⟨ad591,A591_5,c591_5,e591,hx591_0,hx591_1,hx591_2,hx591_3,hx591_4,hx591_5,hl591_5,hi591_5⟩:=at_T27 (Kd.N_reads' HO_3.out).2.2 x9_3 p591 q591;obtain rfl:ad589=ad591:=(by injection e591);obtain ⟨ce591,hce591,hMe591,hcc591⟩:=Kd.N_get HO_3.out z27 x9_3 p591 (by first|exact q591|exact zzt|(have e_:=(Kd.N_reads' HO_3.out).1;omega));obtain ⟨ua591_5,uc591_5,rfl,ul591_5,ge591_5⟩:=k27_openF hMe591;have hv591_5:=hcc591 5 _ rfl;rw [add_field _ _ 5 (by omega)] at hv591_5;replace hv591_5:=Option.some.inj (hv591_5.symm.trans hx591_5);injection hv591_5 with hva_ hvn_ hvc_;rw [hva_] at ge591_5;rw [hvc_] at ul591_5;have HL591_5:=zzm (show Kd.V k34 34 _ w.heap.size _ _ ((rd_T27 t573 x9_3).f5) from Kd.V_mk ul591_5 ge591_5);clear hva_ hvn_ hvc_ ge591_5 ul591_5;clear hcc591 hce591;have HR591_5:=zzm hi591_5;have HC591_5:=zzm hl591_5;clear hi591_5 hl591_5;replace p591:=eq_true p591;replace q591:=eq_true q591;have ea_:=Option.some.inj (hx589_5.symm.trans hx591_5);injection ea_ with ea_ en_ ec_;subst ea_;subst ec_;clear en_;have p592 : 0≤(0:Int):=(by omega);have q592 : 0 < (((rd_T27 t573 x9_3).f5).length:Int):=zzt;obtain ⟨ad592,A592_3,c592_3,A592_5,c592_5,e592,hx592_0,hx592_1,hx592_2,hx592_3,hx592_4,hx592_5,hl592_3,hi592_3,hl592_5,hi592_5⟩:=at_T34 (zzC HR591_5.out) 0 p592 q592;cases e592;obtain ⟨ce592,hce592,hMe592,hcc592⟩:=Kd.V_get HL591_5.out z34 0 p592 (by first|exact q592|exact zzt|(have e_:=(Kd.V_reads' HL591_5.out).1;omega));obtain ⟨ua592_3,uc592_3,ua592_5,uc592_5,rfl,ul592_3,ge592_3,ul592_5,ge592_5⟩:=k34_openF hMe592;have hv592_3:=hcc592 3 _ rfl;rw [add_field _ _ 3 (by omega)] at hv592_3;replace hv592_3:=Option.some.inj (hv592_3.symm.trans hx592_3);injection hv592_3 with hva_ hvn_ hvc_;rw [hva_] at ge592_3;rw [hvc_] at ul592_3;have HL592_3:=zzm (show Kd.V (Kd.int .i64) 3 _ w.heap.size _ _ ((rd_T34 ((rd_T27 t573 x9_3).f5) 0).f3) from Kd.V_mk ul592_3 ge592_3);clear hva_ hvn_ hvc_ ge592_3 ul592_3;have hv592_5:=hcc592 5 _ rfl;rw [add_field _ _ 5 (by omega)] at hv592_5;replace hv592_5:=Option.some.inj (hv592_5.symm.trans hx592_5);injection hv592_5 with hva_ hvn_ hvc_;rw [hva_] at ge592_5;rw [hvc_] at ul592_5;have HL592_5:=zzm (show Kd.V (Kd.int .i64) 3 _ w.heap.size _ _ ((rd_T34 ((rd_T27 t573 x9_3).f5) 0).f5) from Kd.V_mk ul592_5 ge592_5);clear hva_ hvn_ hvc_ ge592_5 ul592_5;clear hcc592 hce592;have qi592:(0 < ((rd_T27 t573 x9_3).f5).length)=True:=eq_true (by omega);(try rw [show ((0:Int)).toNat=0 from rfl] at hx592_0);(try rw [show 0 * 6=0 from rfl] at hx592_0);(try rw [Addr.add_zero'] at hx592_0);(try rw [show ((0:Int)).toNat=0 from rfl] at hx592_1);(try rw [show 0 * 6=0 from rfl] at hx592_1);(try rw [Addr.add_zero'] at hx592_1);(try rw [show ((0:Int)).toNat=0 from rfl] at hx592_2);(try rw [show 0 * 6=0 from rfl] at hx592_2);(try rw [Addr.add_zero'] at hx592_2);(try rw [show ((0:Int)).toNat=0 from rfl] at hx592_3);(try rw [show 0 * 6=0 from rfl] at hx592_3);(try rw [Addr.add_zero'] at hx592_3);(try rw [show ((0:Int)).toNat=0 from rfl] at hx592_4);(try rw [show 0 * 6=0 from rfl] at hx592_4);(try rw [Addr.add_zero'] at hx592_4);(try rw [show ((0:Int)).toNat=0 from rfl] at hx592_5);(try rw [show 0 * 6=0 from rfl] at hx592_5);(try rw [Addr.add_zero'] at hx592_5);have HR592_3:=zzm hi592_3;have HC592_3:=zzm hl592_3;clear hi592_3 hl592_3;have HR592_5:=zzm hi592_5;have HC592_5:=zzm hl592_5;clear hi592_5 hl592_5;replace p592:=eq_true p592;replace q592:=eq_true q592;have p593 : 0≤(x8_2:Int):=zzt;have q593:x8_2 < (t576.length:Int):=zzt;obtain ⟨ad593,A593_3,c593_3,A593_5,c593_5,e593,hx593_0,hx593_1,hx593_2,hx593_3,hx593_4,hx593_5,hl593_3,hi593_3,hl593_5,hi593_5⟩:=at_T34 (Kd.N_reads' HO_4.out).2.2 x8_2 p593 q593;obtain rfl:ad588=ad593:=(by injection e593);obtain ⟨ce593,hce593,hMe593,hcc593⟩:=Kd.N_get HO_4.out z34 x8_2 p593 (by first|exact q593|exact zzt|(have e_:=(Kd.N_reads' HO_4.out).1;omega));obtain ⟨ua593_3,uc593_3,ua593_5,uc593_5,rfl,ul593_3,ge593_3,ul593_5,ge593_5⟩:=k34_openF hMe593;have hv593_3:=hcc593 3 _ rfl;rw [add_field _ _ 3 (by omega)] at hv593_3;replace hv593_3:=Option.some.inj (hv593_3.symm.trans hx593_3);injection hv593_3 with hva_ hvn_ hvc_;rw [hva_] at ge593_3;rw [hvc_] at ul593_3;have HL593_3:=zzm (show Kd.V (Kd.int .i64) 3 _ w.heap.size _ _ ((rd_T34 t576 x8_2).f3) from Kd.V_mk ul593_3 ge593_3);clear hva_ hvn_ hvc_ ge593_3 ul593_3;have hv593_5:=hcc593 5 _ rfl;rw [add_field _ _ 5 (by omega)] at hv593_5;replace hv593_5:=Option.some.inj (hv593_5.symm.trans hx593_5);injection hv593_5 with hva_ hvn_ hvc_;rw [hva_] at ge593_5;rw [hvc_] at ul593_5;have HL593_5:=zzm (show Kd.V (Kd.int .i64) 3 _ w.heap.size _ _ ((rd_T34 t576 x8_2).f5) from Kd.V_mk ul593_5 ge593_5);clear hva_ hvn_ hvc_ ge593_5 ul593_5;clear hcc593 hce593;have HR593_3:=zzm hi593_3;have HC593_3:=zzm hl593_3;clear hi593_3 hl593_3;have HR593_5:=zzm hi593_5;have HC593_5:=zzm hl593_5;clear hi593_5 hl593_5;replace p593:=eq_true p593;replace q593:=eq_true q593;have p594 : 0≤(x8_2:Int):=zzt;have q594:x8_2 < (t576.length:Int):=zzt;obtain ⟨ad594,A594_3,c594_3,A594_5,c594_5,e594,hx594_0,hx594_1,hx594_2,hx594_3,hx594_4,hx594_5,hl594_3,hi594_3,hl594_5,hi594_5⟩:=at_T34 (Kd.N_reads' HO_4.out).2.2 x8_2 p594 q594;obtain rfl:ad588=ad594:=(by injection e594);obtain ⟨ce594,hce594,hMe594,hcc594⟩:=Kd.N_get HO_4.out z34 x8_2 p594 (by first|exact q594|exact zzt|(have e_:=(Kd.N_reads' HO_4.out).1;omega));obtain ⟨ua594_3,uc594_3,ua594_5,uc594_5,rfl,ul594_3,ge594_3,ul594_5,ge594_5⟩:=k34_openF hMe594;have hv594_3:=hcc594 3 _ rfl;rw [add_field _ _ 3 (by omega)] at hv594_3;replace hv594_3:=Option.some.inj (hv594_3.symm.trans hx594_3);injection hv594_3 with hva_ hvn_ hvc_;rw [hva_] at ge594_3;rw [hvc_] at ul594_3;have HL594_3:=zzm (show Kd.V (Kd.int .i64) 3 _ w.heap.size _ _ ((rd_T34 t576 x8_2).f3) from Kd.V_mk ul594_3 ge594_3);clear hva_ hvn_ hvc_ ge594_3 ul594_3;have hv594_5:=hcc594 5 _ rfl;rw [add_field _ _ 5 (by omega)] at hv594_5;replace hv594_5:=Option.some.inj (hv594_5.symm.trans hx594_5);injection hv594_5 with hva_ hvn_ hvc_;rw [hva_] at ge594_5;rw [hvc_] at ul594_5;have HL594_5:=zzm (show Kd.V (Kd.int .i64) 3 _ w.heap.size _ _ ((rd_T34 t576 x8_2).f5) from Kd.V_mk ul594_5 ge594_5);clear hva_ hvn_ hvc_ ge594_5 ul594_5;clear hcc594 hce594;have HR594_3:=zzm hi594_3;have HC594_3:=zzm hl594_3;clear hi594_3 hl594_3;have HR594_5:=zzm hi594_5;have HC594_5:=zzm hl594_5;clear hi594_5 hl594_5;replace p594:=eq_true p594;replace q594:=eq_true q594;have ea_:=Option.some.inj (hx593_3.symm.trans hx594_3);injection ea_ with ea_ en_ ec_;subst ea_;subst ec_;clear en_;have ea_:=Option.some.inj (hx593_5.symm.trans hx594_5);injection ea_ with ea_ en_ ec_;subst ea_;subst ec_;clear en_;have p595 : 0≤(x10_4:Int):=zzt;have q595:x10_4 < (t585.length:Int):=zzt;obtain ⟨ad595,e595,hx595_0,hx595_1,hx595_2⟩:=at_T46 (Kd.R_reads' HO_7.out).2.2 x10_4 p595 q595;obtain rfl:ad590=ad595:=(by injection e595);replace p595:=eq_true p595;replace q595:=eq_true q595;have p596 : 0≤(x8_2:Int):=zzt;have q596:x8_2 < (t576.length:Int):=zzt;obtain ⟨ad596,A596_3,c596_3,A596_5,c596_5,e596,hx596_0,hx596_1,hx596_2,hx596_3,hx596_4,hx596_5,hl596_3,hi596_3,hl596_5,hi596_5⟩:=at_T34 (Kd.N_reads' HO_4.out).2.2 x8_2 p596 q596;obtain rfl:ad588=ad596:=(by injection e596);obtain ⟨ce596,hce596,hMe596,hcc596⟩:=Kd.N_get HO_4.out z34 x8_2 p596 (by first|exact q596|exact zzt|(have e_:=(Kd.N_reads' HO_4.out).1;omega));obtain ⟨ua596_3,uc596_3,ua596_5,uc596_5,rfl,ul596_3,ge596_3,ul596_5,ge596_5⟩:=k34_openF hMe596;have hv596_3:=hcc596 3 _ rfl;rw [add_field _ _ 3 (by omega)] at hv596_3;replace hv596_3:=Option.some.inj (hv596_3.symm.trans hx596_3);injection hv596_3 with hva_ hvn_ hvc_;rw [hva_] at ge596_3;rw [hvc_] at ul596_3;have HL596_3:=zzm (show Kd.V (Kd.int .i64) 3 _ w.heap.size _ _ ((rd_T34 t576 x8_2).f3) from Kd.V_mk ul596_3 ge596_3);clear hva_ hvn_ hvc_ ge596_3 ul596_3;have hv596_5:=hcc596 5 _ rfl;rw [add_field _ _ 5 (by omega)] at hv596_5;replace hv596_5:=Option.some.inj (hv596_5.symm.trans hx596_5);injection hv596_5 with hva_ hvn_ hvc_;rw [hva_] at ge596_5;rw [hvc_] at ul596_5;have HL596_5:=zzm (show Kd.V (Kd.int .i64) 3 _ w.heap.size _ _ ((rd_T34 t576 x8_2).f5) from Kd.V_mk ul596_5 ge596_5);clear hva_ hvn_ hvc_ ge596_5 ul596_5;clear hcc596 hce596;have HR596_3:=zzm hi596_3;have HC596_3:=zzm hl596_3;clear hi596_3 hl596_3;have HR596_5:=zzm hi596_5;have HC596_5:=zzm hl596_5;clear hi596_5 hl596_5;replace p596:=eq_true p596;replace q596:=eq_true q596;have ea_:=Option.some.inj (hx593_3.symm.trans hx596_3);injection ea_ with ea_ en_ ec_;subst ea_;subst ec_;clear en_;have ea_:=Option.some.inj (hx593_5.symm.trans hx596_5);injection ea_ with ea_ en_ ec_;subst ea_;subst ec_;clear en_;have p597 : 0≤(x10_4:Int):=zzt;have q597:x10_4 < (t585.length:Int):=zzt;obtain ⟨ad597,e597,hx597_0,hx597_1,hx597_2⟩:=at_T46 (Kd.R_reads' HO_7.out).2.2 x10_4 p597 q597;obtain rfl:ad590=ad597:=(by injection e597);replace p597:=eq_true p597;replace q597:=eq_true q597;go_wp2;repeat (go_quiet (fail);try go_wp2)
                          go_roundg k4
                          case measure=>have:=HJ5.out;have:=HK2.out;have:=HK3.out;have:=HK4.out;omega
                          case rel=>exact ⟨(wrap64 (x10_4+1)),(by first|rfl|(simp;done)|(simp [*];done)),H',⟨by have:=HJ5.out;have:=HK2.out;have:=HK3.out;have:=HK4.out;omega⟩,⟨by (with_reducible repeat (first|apply Kd.N_alloc|apply Kd.N_drewN|apply Kd.N_drew));exact HO_3.out⟩,⟨by (with_reducible repeat (first|apply Kd.N_alloc|apply Kd.N_drewN|apply Kd.N_drew));exact HO_4.out⟩,⟨by (with_reducible repeat (first|apply Kd.R_alloc|apply Kd.R_drewN|apply Kd.R_drew));exact HO_7.out⟩,⟨by repeat (first|(with_reducible exact HR588_3.out)|(with_reducible refine Kd.C_alloc ?_ _)|(with_reducible refine Kd.C_drewN ?_ _)|(with_reducible refine Kd.C_drew ?_)|exact HR588_3.out)⟩,⟨by repeat (first|(with_reducible exact HR588_5.out)|(with_reducible refine Kd.C_alloc ?_ _)|(with_reducible refine Kd.C_drewN ?_ _)|(with_reducible refine Kd.C_drew ?_)|exact HR588_5.out)⟩,⟨zzh1⟩⟩
                        ·
                         rw [if_neg c43] at H;have c43b0:decide (((rd_T46 t585 x10_4).f1)≤((rd_T34 t576 x8_2).f0))=false:=decide_eq_false c43;clear c43;have H':=zzm H;clear H;obtain ⟨Ao47,co47,eo47⟩:=Kd.R_slice HO_7.out;subst eo47;have p589 : 0≤(x9_3:Int):=zzt;have q589:x9_3 < (t573.length:Int):=zzt;obtain ⟨ad589,A589_5,c589_5,e589,hx589_0,hx589_1,hx589_2,hx589_3,hx589_4,hx589_5,hl589_5,hi589_5⟩:=at_T27 (Kd.N_reads' HO_3.out).2.2 x9_3 p589 q589;cases e589;obtain ⟨ce589,hce589,hMe589,hcc589⟩:=Kd.N_get HO_3.out z27 x9_3 p589 (by first|exact q589|exact zzt|(have e_:=(Kd.N_reads' HO_3.out).1;omega));obtain ⟨ua589_5,uc589_5,rfl,ul589_5,ge589_5⟩:=k27_openF hMe589;have hv589_5:=hcc589 5 _ rfl;rw [add_field _ _ 5 (by omega)] at hv589_5;replace hv589_5:=Option.some.inj (hv589_5.symm.trans hx589_5);injection hv589_5 with hva_ hvn_ hvc_;rw [hva_] at ge589_5;rw [hvc_] at ul589_5;have HL589_5:=zzm (show Kd.V k34 34 _ w.heap.size _ _ ((rd_T27 t573 x9_3).f5) from Kd.V_mk ul589_5 ge589_5);clear hva_ hvn_ hvc_ ge589_5 ul589_5;clear hcc589 hce589;have HR589_5:=zzm hi589_5;have HC589_5:=zzm hl589_5;clear hi589_5 hl589_5;replace p589:=eq_true p589;replace q589:=eq_true q589;have p590 : 0≤(x10_4:Int):=zzt;have q590:x10_4 < (t585.length:Int):=zzt;obtain ⟨ad590,e590,hx590_0,hx590_1,hx590_2⟩:=at_T46 (Kd.R_reads' HO_7.out).2.2 x10_4 p590 q590;cases e590;replace p590:=eq_true p590;replace q590:=eq_true q590;have p591 : 0≤(x9_3:Int):=zzt;have q591:x9_3 < (t573.length:Int):=zzt;obtain ⟨ad591,A591_5,c591_5,e591,hx591_0,hx591_1,hx591_2,hx591_3,hx591_4,hx591_5,hl591_5,hi591_5⟩:=at_T27 (Kd.N_reads' HO_3.out).2.2 x9_3 p591 q591;obtain rfl:ad589=ad591:=(by injection e591);obtain ⟨ce591,hce591,hMe591,hcc591⟩:=Kd.N_get HO_3.out z27 x9_3 p591 (by first|exact q591|exact zzt|(have e_:=(Kd.N_reads' HO_3.out).1;omega));obtain ⟨ua591_5,uc591_5,rfl,ul591_5,ge591_5⟩:=k27_openF hMe591;have hv591_5:=hcc591 5 _ rfl;rw [add_field _ _ 5 (by omega)] at hv591_5;replace hv591_5:=Option.some.inj (hv591_5.symm.trans hx591_5);injection hv591_5 with hva_ hvn_ hvc_;rw [hva_] at ge591_5;rw [hvc_] at ul591_5;have HL591_5:=zzm (show Kd.V k34 34 _ w.heap.size _ _ ((rd_T27 t573 x9_3).f5) from Kd.V_mk ul591_5 ge591_5);clear hva_ hvn_ hvc_ ge591_5 ul591_5;clear hcc591 hce591;have HR591_5:=zzm hi591_5;have HC591_5:=zzm hl591_5;clear hi591_5 hl591_5;replace p591:=eq_true p591;replace q591:=eq_true q591;have ea_:=Option.some.inj (hx589_5.symm.trans hx591_5);injection ea_ with ea_ en_ ec_;subst ea_;subst ec_;clear en_;have p592 : 0≤(0:Int):=(by omega);have q592 : 0 < (((rd_T27 t573 x9_3).f5).length:Int):=zzt;obtain ⟨ad592,A592_3,c592_3,A592_5,c592_5,e592,hx592_0,hx592_1,hx592_2,hx592_3,hx592_4,hx592_5,hl592_3,hi592_3,hl592_5,hi592_5⟩:=at_T34 (zzC HR591_5.out) 0 p592 q592;cases e592;obtain ⟨ce592,hce592,hMe592,hcc592⟩:=Kd.V_get HL591_5.out z34 0 p592 (by first|exact q592|exact zzt|(have e_:=(Kd.V_reads' HL591_5.out).1;omega));obtain ⟨ua592_3,uc592_3,ua592_5,uc592_5,rfl,ul592_3,ge592_3,ul592_5,ge592_5⟩:=k34_openF hMe592;have hv592_3:=hcc592 3 _ rfl;rw [add_field _ _ 3 (by omega)] at hv592_3;replace hv592_3:=Option.some.inj (hv592_3.symm.trans hx592_3);injection hv592_3 with hva_ hvn_ hvc_;rw [hva_] at ge592_3;rw [hvc_] at ul592_3;have HL592_3:=zzm (show Kd.V (Kd.int .i64) 3 _ w.heap.size _ _ ((rd_T34 ((rd_T27 t573 x9_3).f5) 0).f3) from Kd.V_mk ul592_3 ge592_3);clear hva_ hvn_ hvc_ ge592_3 ul592_3;have hv592_5:=hcc592 5 _ rfl;rw [add_field _ _ 5 (by omega)] at hv592_5;replace hv592_5:=Option.some.inj (hv592_5.symm.trans hx592_5);injection hv592_5 with hva_ hvn_ hvc_;rw [hva_] at ge592_5;rw [hvc_] at ul592_5;have HL592_5:=zzm (show Kd.V (Kd.int .i64) 3 _ w.heap.size _ _ ((rd_T34 ((rd_T27 t573 x9_3).f5) 0).f5) from Kd.V_mk ul592_5 ge592_5);clear hva_ hvn_ hvc_ ge592_5 ul592_5;clear hcc592 hce592;have qi592:(0 < ((rd_T27 t573 x9_3).f5).length)=True:=eq_true (by omega);(try rw [show ((0:Int)).toNat=0 from rfl] at hx592_0);(try rw [show 0 * 6=0 from rfl] at hx592_0);(try rw [Addr.add_zero'] at hx592_0);(try rw [show ((0:Int)).toNat=0 from rfl] at hx592_1);(try rw [show 0 * 6=0 from rfl] at hx592_1);(try rw [Addr.add_zero'] at hx592_1);(try rw [show ((0:Int)).toNat=0 from rfl] at hx592_2);(try rw [show 0 * 6=0 from rfl] at hx592_2);(try rw [Addr.add_zero'] at hx592_2);(try rw [show ((0:Int)).toNat=0 from rfl] at hx592_3);(try rw [show 0 * 6=0 from rfl] at hx592_3);(try rw [Addr.add_zero'] at hx592_3);(try rw [show ((0:Int)).toNat=0 from rfl] at hx592_4);(try rw [show 0 * 6=0 from rfl] at hx592_4);(try rw [Addr.add_zero'] at hx592_4);(try rw [show ((0:Int)).toNat=0 from rfl] at hx592_5);(try rw [show 0 * 6=0 from rfl] at hx592_5);(try rw [Addr.add_zero'] at hx592_5);have HR592_3:=zzm hi592_3;have HC592_3:=zzm hl592_3;clear hi592_3 hl592_3;have HR592_5:=zzm hi592_5;have HC592_5:=zzm hl592_5;clear hi592_5 hl592_5;replace p592:=eq_true p592;replace q592:=eq_true q592;have p593 : 0≤(x8_2:Int):=zzt;have q593:x8_2 < (t576.length:Int):=zzt;obtain ⟨ad593,A593_3,c593_3,A593_5,c593_5,e593,hx593_0,hx593_1,hx593_2,hx593_3,hx593_4,hx593_5,hl593_3,hi593_3,hl593_5,hi593_5⟩:=at_T34 (Kd.N_reads' HO_4.out).2.2 x8_2 p593 q593;obtain rfl:ad588=ad593:=(by injection e593);obtain ⟨ce593,hce593,hMe593,hcc593⟩:=Kd.N_get HO_4.out z34 x8_2 p593 (by first|exact q593|exact zzt|(have e_:=(Kd.N_reads' HO_4.out).1;omega));obtain ⟨ua593_3,uc593_3,ua593_5,uc593_5,rfl,ul593_3,ge593_3,ul593_5,ge593_5⟩:=k34_openF hMe593;have hv593_3:=hcc593 3 _ rfl;rw [add_field _ _ 3 (by omega)] at hv593_3;replace hv593_3:=Option.some.inj (hv593_3.symm.trans hx593_3);injection hv593_3 with hva_ hvn_ hvc_;rw [hva_] at ge593_3;rw [hvc_] at ul593_3;have HL593_3:=zzm (show Kd.V (Kd.int .i64) 3 _ w.heap.size _ _ ((rd_T34 t576 x8_2).f3) from Kd.V_mk ul593_3 ge593_3);clear hva_ hvn_ hvc_ ge593_3 ul593_3;have hv593_5:=hcc593 5 _ rfl;rw [add_field _ _ 5 (by omega)] at hv593_5;replace hv593_5:=Option.some.inj (hv593_5.symm.trans hx593_5);injection hv593_5 with hva_ hvn_ hvc_;rw [hva_] at ge593_5;rw [hvc_] at ul593_5;have HL593_5:=zzm (show Kd.V (Kd.int .i64) 3 _ w.heap.size _ _ ((rd_T34 t576 x8_2).f5) from Kd.V_mk ul593_5 ge593_5);clear hva_ hvn_ hvc_ ge593_5 ul593_5;clear hcc593 hce593;have HR593_3:=zzm hi593_3;have HC593_3:=zzm hl593_3;clear hi593_3 hl593_3;have HR593_5:=zzm hi593_5;have HC593_5:=zzm hl593_5;clear hi593_5 hl593_5;replace p593:=eq_true p593;replace q593:=eq_true q593;have p594 : 0≤(x8_2:Int):=zzt;have q594:x8_2 < (t576.length:Int):=zzt;obtain ⟨ad594,A594_3,c594_3,A594_5,c594_5,e594,hx594_0,hx594_1,hx594_2,hx594_3,hx594_4,hx594_5,hl594_3,hi594_3,hl594_5,hi594_5⟩:=at_T34 (Kd.N_reads' HO_4.out).2.2 x8_2 p594 q594;obtain rfl:ad588=ad594:=(by injection e594);obtain ⟨ce594,hce594,hMe594,hcc594⟩:=Kd.N_get HO_4.out z34 x8_2 p594 (by first|exact q594|exact zzt|(have e_:=(Kd.N_reads' HO_4.out).1;omega));obtain ⟨ua594_3,uc594_3,ua594_5,uc594_5,rfl,ul594_3,ge594_3,ul594_5,ge594_5⟩:=k34_openF hMe594;have hv594_3:=hcc594 3 _ rfl;rw [add_field _ _ 3 (by omega)] at hv594_3;replace hv594_3:=Option.some.inj (hv594_3.symm.trans hx594_3);injection hv594_3 with hva_ hvn_ hvc_;rw [hva_] at ge594_3;rw [hvc_] at ul594_3;have HL594_3:=zzm (show Kd.V (Kd.int .i64) 3 _ w.heap.size _ _ ((rd_T34 t576 x8_2).f3) from Kd.V_mk ul594_3 ge594_3);clear hva_ hvn_ hvc_ ge594_3 ul594_3;have hv594_5:=hcc594 5 _ rfl;rw [add_field _ _ 5 (by omega)] at hv594_5;replace hv594_5:=Option.some.inj (hv594_5.symm.trans hx594_5);injection hv594_5 with hva_ hvn_ hvc_;rw [hva_] at ge594_5;rw [hvc_] at ul594_5;have HL594_5:=zzm (show Kd.V (Kd.int .i64) 3 _ w.heap.size _ _ ((rd_T34 t576 x8_2).f5) from Kd.V_mk ul594_5 ge594_5);clear hva_ hvn_ hvc_ ge594_5 ul594_5;clear hcc594 hce594;have HR594_3:=zzm hi594_3;have HC594_3:=zzm hl594_3;clear hi594_3 hl594_3;have HR594_5:=zzm hi594_5;have HC594_5:=zzm hl594_5;clear hi594_5 hl594_5;replace p594:=eq_true p594;replace q594:=eq_true q594;have ea_:=Option.some.inj (hx593_3.symm.trans hx594_3);injection ea_ with ea_ en_ ec_;subst ea_;subst ec_;clear en_;have ea_:=Option.some.inj (hx593_5.symm.trans hx594_5);injection ea_ with ea_ en_ ec_;subst ea_;subst ec_;clear en_;have p595 : 0≤(x10_4:Int):=zzt;have q595:x10_4 < (t585.length:Int):=zzt;obtain ⟨ad595,e595,hx595_0,hx595_1,hx595_2⟩:=at_T46 (Kd.R_reads' HO_7.out).2.2 x10_4 p595 q595;obtain rfl:ad590=ad595:=(by injection e595);replace p595:=eq_true p595;replace q595:=eq_true q595;go_wp2;repeat (go_quiet (fail);try go_wp2)
                         go_roundg k4
                         case measure=>have:=HJ5.out;have:=HK2.out;have:=HK3.out;have:=HK4.out;omega
                         case rel=>exact ⟨(wrap64 (x10_4+1)),(by first|rfl|(simp;done)|(simp [*];done)),H',⟨by have:=HJ5.out;have:=HK2.out;have:=HK3.out;have:=HK4.out;omega⟩,⟨by (with_reducible repeat (first|apply Kd.N_alloc|apply Kd.N_drewN|apply Kd.N_drew));exact HO_3.out⟩,⟨by (with_reducible repeat (first|apply Kd.N_alloc|apply Kd.N_drewN|apply Kd.N_drew));exact HO_4.out⟩,⟨by (with_reducible repeat (first|apply Kd.R_alloc|apply Kd.R_drewN|apply Kd.R_drew));exact HO_7.out⟩,⟨by repeat (first|(with_reducible exact HR588_3.out)|(with_reducible refine Kd.C_alloc ?_ _)|(with_reducible refine Kd.C_drewN ?_ _)|(with_reducible refine Kd.C_drew ?_)|exact HR588_3.out)⟩,⟨by repeat (first|(with_reducible exact HR588_5.out)|(with_reducible refine Kd.C_alloc ?_ _)|(with_reducible refine Kd.C_drewN ?_ _)|(with_reducible refine Kd.C_drew ?_)|exact HR588_5.out)⟩,⟨zzh1⟩⟩
                       ·
                        rw [if_neg c42] at H;have c42b0:(((rd_T34 ((rd_T27 t573 x9_3).f5) 0).f0)==((rd_T34 t576 x8_2).f0))=false:=beq_eq_false_iff_ne.mpr c42;have c42b1:(((rd_T34 ((rd_T27 t573 x9_3).f5) 0).f0) != ((rd_T34 t576 x8_2).f0))=true:=bne_iff_ne.mpr c42;have H':=zzm H;clear H;obtain ⟨Ao48,co48,eo48⟩:=Kd.R_slice HO_7.out;subst eo48;have p589 : 0≤(x9_3:Int):=zzt;have q589:x9_3 < (t573.length:Int):=zzt;obtain ⟨ad589,A589_5,c589_5,e589,hx589_0,hx589_1,hx589_2,hx589_3,hx589_4,hx589_5,hl589_5,hi589_5⟩:=at_T27 (Kd.N_reads' HO_3.out).2.2 x9_3 p589 q589;cases e589;obtain ⟨ce589,hce589,hMe589,hcc589⟩:=Kd.N_get HO_3.out z27 x9_3 p589 (by first|exact q589|exact zzt|(have e_:=(Kd.N_reads' HO_3.out).1;omega));obtain ⟨ua589_5,uc589_5,rfl,ul589_5,ge589_5⟩:=k27_openF hMe589;have hv589_5:=hcc589 5 _ rfl;rw [add_field _ _ 5 (by omega)] at hv589_5;replace hv589_5:=Option.some.inj (hv589_5.symm.trans hx589_5);injection hv589_5 with hva_ hvn_ hvc_;rw [hva_] at ge589_5;rw [hvc_] at ul589_5;have HL589_5:=zzm (show Kd.V k34 34 _ w.heap.size _ _ ((rd_T27 t573 x9_3).f5) from Kd.V_mk ul589_5 ge589_5);clear hva_ hvn_ hvc_ ge589_5 ul589_5;clear hcc589 hce589;have HR589_5:=zzm hi589_5;have HC589_5:=zzm hl589_5;clear hi589_5 hl589_5;replace p589:=eq_true p589;replace q589:=eq_true q589;have p590 : 0≤(x10_4:Int):=zzt;have q590:x10_4 < (t585.length:Int):=zzt;obtain ⟨ad590,e590,hx590_0,hx590_1,hx590_2⟩:=at_T46 (Kd.R_reads' HO_7.out).2.2 x10_4 p590 q590;cases e590;replace p590:=eq_true p590;replace q590:=eq_true q590;have p591 : 0≤(x9_3:Int):=zzt;have q591:x9_3 < (t573.length:Int):=zzt;obtain ⟨ad591,A591_5,c591_5,e591,hx591_0,hx591_1,hx591_2,hx591_3,hx591_4,hx591_5,hl591_5,hi591_5⟩:=at_T27 (Kd.N_reads' HO_3.out).2.2 x9_3 p591 q591;obtain rfl:ad589=ad591:=(by injection e591);obtain ⟨ce591,hce591,hMe591,hcc591⟩:=Kd.N_get HO_3.out z27 x9_3 p591 (by first|exact q591|exact zzt|(have e_:=(Kd.N_reads' HO_3.out).1;omega));obtain ⟨ua591_5,uc591_5,rfl,ul591_5,ge591_5⟩:=k27_openF hMe591;have hv591_5:=hcc591 5 _ rfl;rw [add_field _ _ 5 (by omega)] at hv591_5;replace hv591_5:=Option.some.inj (hv591_5.symm.trans hx591_5);injection hv591_5 with hva_ hvn_ hvc_;rw [hva_] at ge591_5;rw [hvc_] at ul591_5;have HL591_5:=zzm (show Kd.V k34 34 _ w.heap.size _ _ ((rd_T27 t573 x9_3).f5) from Kd.V_mk ul591_5 ge591_5);clear hva_ hvn_ hvc_ ge591_5 ul591_5;clear hcc591 hce591;have HR591_5:=zzm hi591_5;have HC591_5:=zzm hl591_5;clear hi591_5 hl591_5;replace p591:=eq_true p591;replace q591:=eq_true q591;have ea_:=Option.some.inj (hx589_5.symm.trans hx591_5);injection ea_ with ea_ en_ ec_;subst ea_;subst ec_;clear en_;have p592 : 0≤(0:Int):=(by omega);have q592 : 0 < (((rd_T27 t573 x9_3).f5).length:Int):=zzt;obtain ⟨ad592,A592_3,c592_3,A592_5,c592_5,e592,hx592_0,hx592_1,hx592_2,hx592_3,hx592_4,hx592_5,hl592_3,hi592_3,hl592_5,hi592_5⟩:=at_T34 (zzC HR591_5.out) 0 p592 q592;cases e592;obtain ⟨ce592,hce592,hMe592,hcc592⟩:=Kd.V_get HL591_5.out z34 0 p592 (by first|exact q592|exact zzt|(have e_:=(Kd.V_reads' HL591_5.out).1;omega));obtain ⟨ua592_3,uc592_3,ua592_5,uc592_5,rfl,ul592_3,ge592_3,ul592_5,ge592_5⟩:=k34_openF hMe592;have hv592_3:=hcc592 3 _ rfl;rw [add_field _ _ 3 (by omega)] at hv592_3;replace hv592_3:=Option.some.inj (hv592_3.symm.trans hx592_3);injection hv592_3 with hva_ hvn_ hvc_;rw [hva_] at ge592_3;rw [hvc_] at ul592_3;have HL592_3:=zzm (show Kd.V (Kd.int .i64) 3 _ w.heap.size _ _ ((rd_T34 ((rd_T27 t573 x9_3).f5) 0).f3) from Kd.V_mk ul592_3 ge592_3);clear hva_ hvn_ hvc_ ge592_3 ul592_3;have hv592_5:=hcc592 5 _ rfl;rw [add_field _ _ 5 (by omega)] at hv592_5;replace hv592_5:=Option.some.inj (hv592_5.symm.trans hx592_5);injection hv592_5 with hva_ hvn_ hvc_;rw [hva_] at ge592_5;rw [hvc_] at ul592_5;have HL592_5:=zzm (show Kd.V (Kd.int .i64) 3 _ w.heap.size _ _ ((rd_T34 ((rd_T27 t573 x9_3).f5) 0).f5) from Kd.V_mk ul592_5 ge592_5);clear hva_ hvn_ hvc_ ge592_5 ul592_5;clear hcc592 hce592;have qi592:(0 < ((rd_T27 t573 x9_3).f5).length)=True:=eq_true (by omega);(try rw [show ((0:Int)).toNat=0 from rfl] at hx592_0);(try rw [show 0 * 6=0 from rfl] at hx592_0);(try rw [Addr.add_zero'] at hx592_0);(try rw [show ((0:Int)).toNat=0 from rfl] at hx592_1);(try rw [show 0 * 6=0 from rfl] at hx592_1);(try rw [Addr.add_zero'] at hx592_1);(try rw [show ((0:Int)).toNat=0 from rfl] at hx592_2);(try rw [show 0 * 6=0 from rfl] at hx592_2);(try rw [Addr.add_zero'] at hx592_2);(try rw [show ((0:Int)).toNat=0 from rfl] at hx592_3);(try rw [show 0 * 6=0 from rfl] at hx592_3);(try rw [Addr.add_zero'] at hx592_3);(try rw [show ((0:Int)).toNat=0 from rfl] at hx592_4);(try rw [show 0 * 6=0 from rfl] at hx592_4);(try rw [Addr.add_zero'] at hx592_4);(try rw [show ((0:Int)).toNat=0 from rfl] at hx592_5);(try rw [show 0 * 6=0 from rfl] at hx592_5);(try rw [Addr.add_zero'] at hx592_5);have HR592_3:=zzm hi592_3;have HC592_3:=zzm hl592_3;clear hi592_3 hl592_3;have HR592_5:=zzm hi592_5;have HC592_5:=zzm hl592_5;clear hi592_5 hl592_5;replace p592:=eq_true p592;replace q592:=eq_true q592;have p593 : 0≤(x8_2:Int):=zzt;have q593:x8_2 < (t576.length:Int):=zzt;obtain ⟨ad593,A593_3,c593_3,A593_5,c593_5,e593,hx593_0,hx593_1,hx593_2,hx593_3,hx593_4,hx593_5,hl593_3,hi593_3,hl593_5,hi593_5⟩:=at_T34 (Kd.N_reads' HO_4.out).2.2 x8_2 p593 q593;obtain rfl:ad588=ad593:=(by injection e593);obtain ⟨ce593,hce593,hMe593,hcc593⟩:=Kd.N_get HO_4.out z34 x8_2 p593 (by first|exact q593|exact zzt|(have e_:=(Kd.N_reads' HO_4.out).1;omega));obtain ⟨ua593_3,uc593_3,ua593_5,uc593_5,rfl,ul593_3,ge593_3,ul593_5,ge593_5⟩:=k34_openF hMe593;have hv593_3:=hcc593 3 _ rfl;rw [add_field _ _ 3 (by omega)] at hv593_3;replace hv593_3:=Option.some.inj (hv593_3.symm.trans hx593_3);injection hv593_3 with hva_ hvn_ hvc_;rw [hva_] at ge593_3;rw [hvc_] at ul593_3;have HL593_3:=zzm (show Kd.V (Kd.int .i64) 3 _ w.heap.size _ _ ((rd_T34 t576 x8_2).f3) from Kd.V_mk ul593_3 ge593_3);clear hva_ hvn_ hvc_ ge593_3 ul593_3;have hv593_5:=hcc593 5 _ rfl;rw [add_field _ _ 5 (by omega)] at hv593_5;replace hv593_5:=Option.some.inj (hv593_5.symm.trans hx593_5);injection hv593_5 with hva_ hvn_ hvc_;rw [hva_] at ge593_5;rw [hvc_] at ul593_5;have HL593_5:=zzm (show Kd.V (Kd.int .i64) 3 _ w.heap.size _ _ ((rd_T34 t576 x8_2).f5) from Kd.V_mk ul593_5 ge593_5);clear hva_ hvn_ hvc_ ge593_5 ul593_5;clear hcc593 hce593;have HR593_3:=zzm hi593_3;have HC593_3:=zzm hl593_3;clear hi593_3 hl593_3;have HR593_5:=zzm hi593_5;have HC593_5:=zzm hl593_5;clear hi593_5 hl593_5;replace p593:=eq_true p593;replace q593:=eq_true q593;go_wp2;repeat (go_quiet (fail);try go_wp2)
                        go_roundg k4
                        case measure=>have:=HJ5.out;have:=HK2.out;have:=HK3.out;have:=HK4.out;omega
                        case rel=>exact ⟨(wrap64 (x10_4+1)),(by first|rfl|(simp;done)|(simp [*];done)),H',⟨by have:=HJ5.out;have:=HK2.out;have:=HK3.out;have:=HK4.out;omega⟩,⟨by (with_reducible repeat (first|apply Kd.N_alloc|apply Kd.N_drewN|apply Kd.N_drew));exact HO_3.out⟩,⟨by (with_reducible repeat (first|apply Kd.N_alloc|apply Kd.N_drewN|apply Kd.N_drew));exact HO_4.out⟩,⟨by (with_reducible repeat (first|apply Kd.R_alloc|apply Kd.R_drewN|apply Kd.R_drew));exact HO_7.out⟩,⟨by repeat (first|(with_reducible exact HR588_3.out)|(with_reducible refine Kd.C_alloc ?_ _)|(with_reducible refine Kd.C_drewN ?_ _)|(with_reducible refine Kd.C_drew ?_)|exact HR588_3.out)⟩,⟨by repeat (first|(with_reducible exact HR588_5.out)|(with_reducible refine Kd.C_alloc ?_ _)|(with_reducible refine Kd.C_drewN ?_ _)|(with_reducible refine Kd.C_drew ?_)|exact HR588_5.out)⟩,⟨zzh1⟩⟩
                      ·
                       rw [if_neg c41] at H;exact absurd H (by simp)
                     ·
                      rw [if_neg c40] at H;exact absurd H (by simp)
                    ·
                     rw [if_neg c39] at H;exact absurd H (by simp)
                   ·
                    rw [if_neg c38] at H;have c38b0:(((rd_T27 t573 x9_3).f2)==((rd_T46 t585 x10_4).f0))=false:=beq_eq_false_iff_ne.mpr c38;have c38b1:(((rd_T27 t573 x9_3).f2) != ((rd_T46 t585 x10_4).f0))=true:=bne_iff_ne.mpr c38;have H':=zzm H;clear H;obtain ⟨Ao49,co49,eo49⟩:=Kd.R_slice HO_7.out;subst eo49;have p589 : 0≤(x9_3:Int):=zzt;have q589:x9_3 < (t573.length:Int):=zzt;obtain ⟨ad589,A589_5,c589_5,e589,hx589_0,hx589_1,hx589_2,hx589_3,hx589_4,hx589_5,hl589_5,hi589_5⟩:=at_T27 (Kd.N_reads' HO_3.out).2.2 x9_3 p589 q589;cases e589;obtain ⟨ce589,hce589,hMe589,hcc589⟩:=Kd.N_get HO_3.out z27 x9_3 p589 (by first|exact q589|exact zzt|(have e_:=(Kd.N_reads' HO_3.out).1;omega));obtain ⟨ua589_5,uc589_5,rfl,ul589_5,ge589_5⟩:=k27_openF hMe589;have hv589_5:=hcc589 5 _ rfl;rw [add_field _ _ 5 (by omega)] at hv589_5;replace hv589_5:=Option.some.inj (hv589_5.symm.trans hx589_5);injection hv589_5 with hva_ hvn_ hvc_;rw [hva_] at ge589_5;rw [hvc_] at ul589_5;have HL589_5:=zzm (show Kd.V k34 34 _ w.heap.size _ _ ((rd_T27 t573 x9_3).f5) from Kd.V_mk ul589_5 ge589_5);clear hva_ hvn_ hvc_ ge589_5 ul589_5;clear hcc589 hce589;have HR589_5:=zzm hi589_5;have HC589_5:=zzm hl589_5;clear hi589_5 hl589_5;replace p589:=eq_true p589;replace q589:=eq_true q589;have p590 : 0≤(x10_4:Int):=zzt;have q590:x10_4 < (t585.length:Int):=zzt;obtain ⟨ad590,e590,hx590_0,hx590_1,hx590_2⟩:=at_T46 (Kd.R_reads' HO_7.out).2.2 x10_4 p590 q590;cases e590;replace p590:=eq_true p590;replace q590:=eq_true q590;go_wp2;repeat (go_quiet (fail);try go_wp2)
                    go_roundg k4
                    case measure=>have:=HJ5.out;have:=HK2.out;have:=HK3.out;have:=HK4.out;omega
                    case rel=>exact ⟨(wrap64 (x10_4+1)),(by first|rfl|(simp;done)|(simp [*];done)),H',⟨by have:=HJ5.out;have:=HK2.out;have:=HK3.out;have:=HK4.out;omega⟩,⟨by (with_reducible repeat (first|apply Kd.N_alloc|apply Kd.N_drewN|apply Kd.N_drew));exact HO_3.out⟩,⟨by (with_reducible repeat (first|apply Kd.N_alloc|apply Kd.N_drewN|apply Kd.N_drew));exact HO_4.out⟩,⟨by (with_reducible repeat (first|apply Kd.R_alloc|apply Kd.R_drewN|apply Kd.R_drew));exact HO_7.out⟩,⟨by repeat (first|(with_reducible exact HR588_3.out)|(with_reducible refine Kd.C_alloc ?_ _)|(with_reducible refine Kd.C_drewN ?_ _)|(with_reducible refine Kd.C_drew ?_)|exact HR588_3.out)⟩,⟨by repeat (first|(with_reducible exact HR588_5.out)|(with_reducible refine Kd.C_alloc ?_ _)|(with_reducible refine Kd.C_drewN ?_ _)|(with_reducible refine Kd.C_drew ?_)|exact HR588_5.out)⟩,⟨zzh1⟩⟩
                  ·
                   rw [if_neg c37] at H;exact absurd H (by simp)
                 ·
                  rw [if_neg c36] at H;exact absurd H (by simp)
                ·
                 rw [if_neg c35] at H;exact absurd H (by simp)
               ·
                rw [if_neg c34] at H;have c34b0:decide (x10_4 < (t585.length:Int))=false:=decide_eq_false c34;clear c34;have H':=zzm H;clear H;obtain ⟨Ao50,co50,eo50⟩:=Kd.R_slice HO_7.out;subst eo50;go_wp2;repeat (go_quiet (fail);try go_wp2)
                go_roundg k4
                case measure=>have:=HJ5.out;have:=HK2.out;have:=HK3.out;have:=HK4.out;omega
                case rel=>exact ⟨(wrap64 (x9_3+1)),(by first|rfl|(simp;done)|(simp [*];done)),H',⟨by have:=HJ5.out;have:=HK2.out;have:=HK3.out;have:=HK4.out;omega⟩,⟨by (with_reducible repeat (first|apply Kd.N_alloc|apply Kd.N_drewN|apply Kd.N_drew));exact HO_3.out⟩,⟨by (with_reducible repeat (first|apply Kd.N_alloc|apply Kd.N_drewN|apply Kd.N_drew));exact HO_4.out⟩,⟨by (with_reducible repeat (first|apply Kd.R_alloc|apply Kd.R_drewN|apply Kd.R_drew));exact HO_7.out⟩,⟨by repeat (first|(with_reducible exact HR588_3.out)|(with_reducible refine Kd.C_alloc ?_ _)|(with_reducible refine Kd.C_drewN ?_ _)|(with_reducible refine Kd.C_drew ?_)|exact HR588_3.out)⟩,⟨by repeat (first|(with_reducible exact HR588_5.out)|(with_reducible refine Kd.C_alloc ?_ _)|(with_reducible refine Kd.C_drewN ?_ _)|(with_reducible refine Kd.C_drew ?_)|exact HR588_5.out)⟩,⟨zzh1⟩⟩
            ·
             rw [if_neg c33] at H;have c33b0:decide (x9_3 < (t573.length:Int))=false:=decide_eq_false c33;clear c33;have H':=zzm H;clear H;go_wp2;repeat (go_quiet (fail);try go_wp2)
             go_roundg k3
             case measure=>have:=HJ5.out;have:=HK2.out;have:=HK3.out;omega
             case rel=>exact ⟨(wrap64 (x8_2+1)),(by first|rfl|(simp;done)|(simp [*];done)),H',⟨by have:=HJ5.out;have:=HK2.out;have:=HK3.out;omega⟩,⟨by (with_reducible repeat (first|apply Kd.N_alloc|apply Kd.N_drewN|apply Kd.N_drew));exact HO_3.out⟩,⟨by (with_reducible repeat (first|apply Kd.N_alloc|apply Kd.N_drewN|apply Kd.N_drew));exact HO_4.out⟩,⟨by (with_reducible repeat (first|apply Kd.R_alloc|apply Kd.R_drewN|apply Kd.R_drew));exact HO_7.out⟩,⟨zzh1⟩⟩
        ·
         rw [if_neg c29] at H;exact absurd H (by simp)
       ·
        rw [if_neg c28] at H;have c28b0:decide (x8_2 < (t576.length:Int))=false:=decide_eq_false c28;clear c28;obtain rfl:=Option.some.inj H;obtain ⟨Ao51,co51,eo51⟩:=Kd.N_slice HO_4.out;subst eo51;go_wp2;repeat (go_quiet (fail);try go_wp2)
        go_ret;exact ⟨by first|rfl|(simp [errW_none,errW_some] <;> rfl)|(simp [*,errW_none,errW_some] <;> rfl),zzh1⟩
def laws_FnStableRecords.Pure:Prop:=∀ (l0:List Int),l0.length≤maxLen→l0.length * 1≤140737488351232→(∀ x∈l0,(Lit.int .u8 x).wf=true)→∃ k,laws_FnStableRecords.f k l0=some true
theorem laws_FnStableRecords.walk (P:laws_FnStableRecords.Pure) (a0:Option Addr) (len0 cap0:Nat) (z0:List Int) (w:World) (w0:(a0=none∧len0=0∧cap0=0∧z0 = [])∨∃ x,a0=some x∧len0≤cap0∧cap0≤maxLen∧z0.length=cap0∧(∀ i,i < z0.length→w.cell? (x.add i)=some (.int .u8 (z0.getD i 0)))∧∀ n∈z0,(Lit.int .u8 n).wf=true) (y0:len0 * 1≤140737488351232) :
  Calls Try.prog 15 #[.slice a0 len0 cap0] w fun e w'=>e = .returned (.bool true)∧Below w.heap.size w w':=by
 obtain ⟨l0,rfl,hr0,hm0,hw0,hc0⟩:=ReadsInt.ofRowC w0;obtain ⟨k,h⟩:=P l0 hm0 y0 hw0;refine (laws_FnStableRecords.calls k _ _ l0 true w (Kd.C_of_reads (d:=(0:Int)) (h1:=fun _=>rfl) hr0) hc0 h).mono ?_;rintro e w' ⟨rfl,hd⟩;exact ⟨rfl,hd⟩
end Go.Proofs.Yticpnjhkdfdkkaa.T
namespace Go.Proofs.Yticpnjhkdfdkkaa.Q
open Go.RowKit Go.Proofs.YticpnjhkdfdkkaaW.PrintWords
set_option linter.unusedVariables false
set_option linter.unusedSimpArgs false
theorem ev_succ {α:Type} {g:Nat→Option α} {r : α} (h:Ev (fun k=>g (k+1)) r):Ev g r:=Ev.step (f:=fun k=>g (k+1)) (fun _=>rfl) h
theorem ev_of_all {α:Type} {g:Nat→Option α} {r : α} (h:∀ k,g k=some r):Ev g r:=⟨0,fun k _=>h k⟩
theorem ev_some {α:Type} (r : α):Ev (fun _=>some r) r:=ev_of_all fun _=>rfl
def Evs {α:Type} (g:Nat→Option α) (Q : α→Prop):Prop:=∃ r,Ev g r∧Q r
theorem Evs.of {α:Type} {g:Nat→Option α} {Q : α→Prop} {r : α} (h:Ev g r) (hq:Q r):Evs g Q:=⟨r,h,hq⟩
theorem Evs.done {α:Type} {Q : α→Prop} {r : α} (hq:Q r):Evs (fun _=>some r) Q:=⟨r,ev_some r,hq⟩
theorem Evs.mono {α:Type} {g:Nat→Option α} {Q Q' : α→Prop} (h:Evs g Q) (hq:∀ r,Q r→Q' r):Evs g Q':=by
 obtain ⟨r,h1,h2⟩:=h
 exact ⟨r,h1,hq r h2⟩
theorem Evs.succ {α:Type} {g:Nat→Option α} {Q : α→Prop} (h:Evs (fun k=>g (k+1)) Q):Evs g Q:=by
 obtain ⟨r,h1,h2⟩:=h
 exact ⟨r,ev_succ h1,h2⟩
theorem Evs.bind {α β:Type} {g:Nat→Option α} {f:Nat→α→Option β} {Q : α→Prop} {R : β→Prop} (h:Evs g Q) (k:∀ a,Q a→Evs (fun n=>f n a) R):Evs (fun n=>(g n).bind (f n)) R:=by
 obtain ⟨a,h1,h2⟩:=h
 obtain ⟨r,k1,k2⟩:=k a h2
 exact ⟨r,Ev.bind h1 k1,k2⟩
theorem bsome {α β:Type} (a : α) (f : α→Option β):(some a).bind f=f a:=Eq.trans (Option.bind_some a f) (Eq.refl _)
end Go.Proofs.Yticpnjhkdfdkkaa.Q
namespace Go.Proofs.Yticpnjhkdfdkkaa.Q
open Go.RowKit Go.Proofs.Yticpnjhkdfdkkaa.T Go.Proofs.YticpnjhkdfdkkaaW.PrintWords Go.Proofs.YticpnjhkdfdkkaaW.PrintLast
set_option linter.unusedVariables false
set_option linter.unusedSimpArgs false
theorem wrap_id {x:Int} (h0 : -9223372036854775808≤x) (h1:x < 9223372036854775808):wrap64 x=x:=by unfold wrap64;omega
theorem tmod_range {x n:Int} (h : 0≤x) (hn : 1≤n) : 0≤Int.tmod x n∧Int.tmod x n < n:=by
 rw [Int.tmod_eq_emod_of_nonneg h]
 exact ⟨Int.emod_nonneg _ (by omega),Int.emod_lt_of_pos _ (by omega)⟩
theorem xor_nonneg {a b:Int} (h1 : 0≤a) (h2:a < 4611686018427387904) (h3 : 0≤b) (h4:b < 4611686018427387904) : 0≤Go.bits .xor .i64 a b:=by
 obtain ⟨A,rfl⟩:=Int.eq_ofNat_of_zero_le h1
 obtain ⟨B,rfl⟩:=Int.eq_ofNat_of_zero_le h3
 have hx:A ^^^ B < 2 ^ 62:=Nat.xor_lt_two_pow (by omega) (by omega)
 have e1:(BitVec.ofInt 64 (A:Int)).toNat=A:=by
  rw [BitVec.ofInt_natCast,BitVec.toNat_ofNat];exact Nat.mod_eq_of_lt (by omega)
 have e2:(BitVec.ofInt 64 (B:Int)).toNat=B:=by
  rw [BitVec.ofInt_natCast,BitVec.toNat_ofNat];exact Nat.mod_eq_of_lt (by omega)
 show 0≤IntKind.i64.wrap ((BitVec.ofInt 64 (A:Int) ^^^ BitVec.ofInt 64 (B:Int)).toNat:Int)
 rw [BitVec.toNat_xor,e1,e2]
 simp only [IntKind.wrap,IntKind.bits,IntKind.signed]
 simp
 omega
def Bytes (b:List Int):Prop:=∀ x∈b,0≤x∧x≤255
theorem rd_bytes {b:List Int} (h:Bytes b) (i:Int) : 0≤rd b i∧rd b i≤255:=by
 unfold rd
 rw [List.getD_eq_getElem?_getD]
 cases e:b[i.toNat]? with
 | none=>simp
 | some x=>exact h x (List.mem_of_getElem? e)
theorem pick_ev (b:List Int) (p n:Int) (hb:Bytes b) (hl:b.length≤2000) (h0 : 0≤p) (h1:p≤1000000000) (hn : 1≤n) :
  ∃ v,Ev (fun k=>spec_l6Rd_pick.f k b p n) (v,p+1)∧0≤v∧v < n:=by
 have e1:wrap64 (p+1)=p+1:=wrap_id (by omega) (by omega)
 have e2:wrap64 (p+1 - 1)=p:=by rw [wrap_id (by omega) (by omega)];omega
 by_cases hz:b.length=0
 ·refine ⟨0,⟨1,fun k hk=>?_⟩,by omega,by omega⟩
  obtain ⟨k,rfl⟩:∃ m,k=m+1:=⟨k - 1,by omega⟩
  show spec_l6Rd_pick.f (k+1) b p n = _
  unfold spec_l6Rd_pick.f
  rw [if_neg (by omega),e1]
  simp [spec_l6Rd_pick.j0,hz]
 ·have hz' : (((b.length:Int)==0)=true)=False:=by simp;intro h;simp [h] at hz
  by_cases hlt:p < (b.length:Int)
  ·obtain ⟨r0,r1⟩:=rd_bytes hb p
   have:=tmod_range (x:=rd b p) r0 hn
   refine ⟨Int.tmod (rd b p) n,⟨1,fun k hk=>?_⟩,this.1,this.2⟩
   obtain ⟨k,rfl⟩:∃ m,k=m+1:=⟨k - 1,by omega⟩
   show spec_l6Rd_pick.f (k+1) b p n = _
   unfold spec_l6Rd_pick.f
   rw [if_neg (by omega),e1]
   simp only [spec_l6Rd_pick.j0,e2,hz']
   rw [if_neg (by simp),if_pos hlt,if_pos h0,if_neg (by omega),wrap_id (by omega) (by omega)]
  ·obtain ⟨q0,q1⟩:=tmod_range (x:=p) (n:=(b.length:Int)) h0 (by omega)
   obtain ⟨r0,r1⟩:=rd_bytes hb (Int.tmod p (b.length:Int))
   have f1:wrap64 (p * 7)=p * 7:=wrap_id (by omega) (by omega)
   have f2:wrap64 (p * 7+3)=p * 7+3:=wrap_id (by omega) (by omega)
   obtain ⟨q2,q3⟩:=tmod_range (x:=p * 7+3) (n:=(b.length:Int)) (by omega) (by omega)
   obtain ⟨r2,r3⟩:=rd_bytes hb (Int.tmod (p * 7+3) (b.length:Int))
   have d0 : 0≤Int.tdiv p (b.length:Int)∧Int.tdiv p (b.length:Int)≤p:=by
    rw [Int.tdiv_eq_ediv_of_nonneg h0]
    exact ⟨Int.ediv_nonneg h0 (by omega),Int.ediv_le_self _ h0⟩
   obtain ⟨x,hx⟩:∃ x,x=rd b (Int.tmod p (b.length:Int)):=⟨_,rfl⟩
   obtain ⟨y,hy⟩:∃ y,y=rd b (Int.tmod (p * 7+3) (b.length:Int)):=⟨_,rfl⟩
   obtain ⟨z,hz2⟩:∃ z,z=Int.tdiv p (b.length:Int):=⟨_,rfl⟩
   obtain ⟨s,hs⟩:∃ s,s=x * 131+y * 1117+p * 29+z * 53:=⟨_,rfl⟩
   rw [← hx] at r0 r1
   rw [← hy] at r2 r3
   rw [← hz2] at d0
   have s0 : 0≤s∧s < 4611686018427387904:=by omega
   have t0 : 0≤Int.tdiv s 64∧Int.tdiv s 64≤s:=by
    rw [Int.tdiv_eq_ediv_of_nonneg s0.1]
    exact ⟨Int.ediv_nonneg s0.1 (by omega),Int.ediv_le_self _ s0.1⟩
   have w1:wrap64 x=x:=wrap_id (by omega) (by omega)
   have w2:wrap64 y=y:=wrap_id (by omega) (by omega)
   have w3:wrap64 z=z:=wrap_id (by omega) (by omega)
   have w4:wrap64 (x * 131)=x * 131:=wrap_id (by omega) (by omega)
   have w5:wrap64 (y * 1117)=y * 1117:=wrap_id (by omega) (by omega)
   have w6:wrap64 (p * 29)=p * 29:=wrap_id (by omega) (by omega)
   have w7:wrap64 (z * 53)=z * 53:=wrap_id (by omega) (by omega)
   have w8:wrap64 (x * 131+y * 1117)=x * 131+y * 1117:=wrap_id (by omega) (by omega)
   have w9:wrap64 (x * 131+y * 1117+p * 29)=x * 131+y * 1117+p * 29:=wrap_id (by omega) (by omega)
   have wa:wrap64 (x * 131+y * 1117+p * 29+z * 53)=s:=by rw [hs];exact wrap_id (by omega) (by omega)
   have wb:wrap64 (Int.tdiv s 64)=Int.tdiv s 64:=wrap_id (by omega) (by omega)
   have:=tmod_range (x:=Go.bits .xor .i64 s (Int.tdiv s 64)) (n:=n) (xor_nonneg s0.1 s0.2 t0.1 (by omega)) hn
   refine ⟨_,⟨1,fun k hk=>?_⟩,this.1,this.2⟩
   obtain ⟨k,rfl⟩:∃ m,k=m+1:=⟨k - 1,by omega⟩
   show spec_l6Rd_pick.f (k+1) b p n = _
   unfold spec_l6Rd_pick.f
   rw [if_neg (by omega),e1]
   simp only [spec_l6Rd_pick.j0,e2,hz',f1,f2]
   rw [if_neg (by simp),if_neg hlt,if_neg (by omega),if_pos q0,if_pos q1,if_pos q2,if_pos q3,if_neg (by omega),← hx,← hy,← hz2,w1,w2,w3,w4,w5,w6,w7,w8,w9,wa,wb]
theorem pick_evs (b:List Int) (p n:Int) (hb:Bytes b) (hl:b.length≤2000) (h0 : 0≤p) (h1:p≤1000000000) (hn : 1≤n) :
  Evs (fun k=>spec_l6Rd_pick.f k b p n) (fun r=>0≤r.1∧r.1 < n∧r.2=p+1):=by
 obtain ⟨v,h,v0,v1⟩:=pick_ev b p n hb hl h0 h1 hn
 exact ⟨_,h,v0,v1,rfl⟩
theorem impl_within_eq (a b c:Int):impl_within.f a b c=some (decide (b≤a∧a≤c)):=by
 unfold impl_within.f
 by_cases h:a ≥ b
 ·rw [if_pos h]
  have:(b≤a∧a≤c)↔a≤c:=⟨fun h=>h.2,fun h'=>⟨h,h'⟩⟩
  simp [this]
 ·rw [if_neg h]
  have:¬ (b≤a∧a≤c):=fun h'=>h h'.1
  simp [this]
theorem spec_l6In_eq (a b c:Int):spec_l6In.f a b c=some (decide (b≤a∧a≤c)):=by
 unfold spec_l6In.f
 by_cases h:a ≥ b
 ·rw [if_pos h]
  have:(b≤a∧a≤c)↔a≤c:=⟨fun h=>h.2,fun h'=>⟨h,h'⟩⟩
  simp [this]
 ·rw [if_neg h]
  have:¬ (b≤a∧a≤c):=fun h'=>h h'.1
  simp [this]
theorem rd_nat (l:List Int) (j:Nat) (h:j < l.length):rd l (j:Int)=l[j]:=by
 unfold rd
 rw [Int.toNat_natCast,List.getD_eq_getElem?_getD,List.getElem?_eq_getElem h]
 rfl
theorem drop_int {l:List Int} {i:Nat} (h:i < l.length):l.drop i=rd l i::l.drop (i+1):=by
 rw [List.drop_eq_getElem_cons h,rd_nat l i h]
def ab (l:List Int):Bool:=decide (∀ x∈l,0≤x∧x≤255)
theorem ab_cons (x:Int) (l:List Int):ab (x::l)=(decide (0≤x∧x≤255)&&ab l):=by
 rw [Bool.eq_iff_iff]
 simp [ab,List.forall_mem_cons]
theorem ab_nil:ab []=true:=by simp [ab]
theorem isByte_eq (a:Int):impl_isByte.f a=some (decide (0≤a∧a≤255)):=by
 unfold impl_isByte.f
 by_cases h:a ≥ 0
 ·rw [if_pos h]
  have:(0≤a∧a≤255)↔a≤255:=⟨fun h=>h.2,fun h'=>⟨h,h'⟩⟩
  simp [this]
 ·rw [if_neg h]
  have:¬ (0≤a∧a≤255):=fun h'=>h h'.1
  simp [this]
theorem baseValid_eq (a b:Int):impl_baseValid.f a b=some (decide ((0≤a∧a≤99999)∧(0≤b∧b≤99999))):=by
 unfold impl_baseValid.f
 rw [impl_within_eq,impl_within_eq]
 by_cases h : 0≤a∧a≤99999 <;> simp [h]
theorem idValid_eqB (a:Int):impl_idValid.f a=some (decide (0≤a∧a≤254)):=by
 unfold impl_idValid.f
 rw [impl_within_eq]
 rfl
theorem implAll_loop (l:List Int) (hl:l.length≤1000000000000000):∀ (d i:Nat),l.length - i=d→i≤l.length→Ev (fun k=>impl_allBytes.l0 k l (l.length:Int) (i:Int)) (ab (l.drop i)):=by
 intro d
 induction d with
 | zero=>
  intro i hd hi
  rw [show l.drop i = [] from List.drop_eq_nil_of_le (by omega),ab_nil]
  refine ev_succ ?_
  simp only [impl_allBytes.l0,if_neg (show ¬ (i:Int) < (l.length:Int) by omega)]
  exact ev_some _
 | succ d ih=>
  intro i hd hi
  have e1:wrap64 ((i:Int)+1)=((i+1:Nat):Int):=by rw [wrap_id (by omega) (by omega)];omega
  rw [drop_int (show i < l.length by omega),ab_cons]
  refine ev_succ ?_
  simp only [impl_allBytes.l0,if_pos (show (i:Int) < (l.length:Int) by omega),if_pos (show (0:Int)≤i by omega),isByte_eq,bsome,decide_eq_true_eq,e1]
  by_cases h : 0≤rd l (i:Int)∧rd l (i:Int)≤255
  ·simp only [if_pos h,decide_eq_true h,Bool.true_and]
   exact ih (i+1) (by omega) (by omega)
  ·simp only [if_neg h,decide_eq_false h,Bool.false_and]
   exact ev_some _
theorem implAll (l:List Int) (hl:l.length≤1000000000000000):Ev (fun k=>impl_allBytes.f k l) (ab l):=by
 unfold impl_allBytes.f
 have:=implAll_loop l hl l.length 0 (by omega) (by omega)
 simpa using this
theorem specAll_loop (l:List Int) (hl:l.length≤1000000000000000):∀ (d i:Nat),l.length - i=d→i≤l.length→Ev (fun k=>spec_l1Ok.l0 k l (i:Int)) (ab (l.drop i)):=by
 intro d
 induction d with
 | zero=>
  intro i hd hi
  rw [show l.drop i = [] from List.drop_eq_nil_of_le (by omega),ab_nil]
  refine ev_succ ?_
  simp only [spec_l1Ok.l0,if_neg (show ¬ (i:Int) < (l.length:Int) by omega)]
  exact ev_some _
 | succ d ih=>
  intro i hd hi
  have e1:wrap64 ((i:Int)+1)=((i+1:Nat):Int):=by rw [wrap_id (by omega) (by omega)];omega
  rw [drop_int (show i < l.length by omega),ab_cons]
  refine ev_succ ?_
  simp only [spec_l1Ok.l0,if_pos (show (i:Int) < (l.length:Int) by omega),if_pos (show (0:Int)≤i by omega),spec_l6In_eq,bsome,decide_eq_true_eq,e1]
  by_cases h : 0≤rd l (i:Int)∧rd l (i:Int)≤255
  ·simp only [if_pos h,decide_eq_true h,Bool.true_and]
   exact ih (i+1) (by omega) (by omega)
  ·simp only [if_neg h,decide_eq_false h,Bool.false_and]
   exact ev_some _
theorem specAll (l:List Int) (hl:l.length≤1000000000000000):Ev (fun k=>spec_l1Ok.f k l) (ab l):=by
 unfold spec_l1Ok.f
 have:=specAll_loop l hl l.length 0 (by omega) (by omega)
 simpa using this
def pv (has:Bool) (l:List Int):Bool:=if has=true then decide (l.length≤12)&&ab l else decide (l.length=0)
theorem implPart (has:Bool) (l:List Int) (hl:l.length≤1000000000000000):Ev (fun k=>impl_partValid.f k has l) (pv has l):=by
 unfold impl_partValid.f pv
 cases has with
 | true=>
  simp only [if_true]
  by_cases h:(l.length:Int)≤12
  ·simp only [if_pos h,decide_eq_true (show l.length≤12 by omega),Bool.true_and]
   exact Ev.bind (implAll l hl) (ev_some _)
  ·simp only [if_neg h,decide_eq_false (show ¬ l.length≤12 by omega),Bool.false_and]
   exact ev_some _
 | false=>
  simp only [Bool.false_eq_true,if_false]
  rw [show ((l.length:Int)==0)=decide (l.length=0) by rw [Bool.eq_iff_iff];simp]
  exact ev_some _
theorem specPart (has:Bool) (l:List Int) (hl:l.length≤1000000000000000):Ev (fun k=>spec_l3Part.f k has l) (pv has l):=by
 unfold spec_l3Part.f pv
 cases has with
 | true=>
  simp only [if_true]
  refine Ev.bind (specAll l hl) ?_
  by_cases h:ab l=true
  ·simp only [if_pos h,h,Bool.and_true]
   rw [show decide ((l.length:Int)≤12)=decide (l.length≤12) by rw [decide_eq_decide];omega]
   exact ev_some _
  ·simp only [if_neg h,show ab l=false by simpa using h,Bool.and_false]
   exact ev_some _
 | false=>
  simp only [Bool.false_eq_true,if_false]
  by_cases h:l.length=0
  ·simp only [if_pos (show (l.length:Int)=0 by omega),decide_eq_true h]
   refine Ev.bind (specAll l hl) ?_
   have hn:l = []:=List.length_eq_zero_iff.1 h
   subst hn
   simp only [ab_nil,if_true]
   exact ev_some _
  ·simp only [if_neg (show ¬ (l.length:Int)=0 by omega),decide_eq_false h]
   exact ev_some _
abbrev Rc:=S34
abbrev rr (l:List Rc) (i:Int):Rc:=rd_T34 l i
theorem rr_nat (l:List Rc) (j:Nat) (h:j < l.length):rr l (j:Int)=l[j]:=by
 unfold rr rd_T34
 rw [Int.toNat_natCast,List.getD_eq_getElem?_getD,List.getElem?_eq_getElem h]
 rfl
def smallR (r:Rc):Prop:=r.f3.length≤1000000000000000∧r.f5.length≤1000000000000000
def smallRs (l:List Rc):Prop:=l.length≤1000000000000000∧∀ r∈l,smallR r
theorem smallRs_at {l:List Rc} (h:smallRs l) (j:Nat) (hj:j < l.length):smallR (rr l (j:Int)):=by
 rw [rr_nat l j hj]
 exact h.2 _ (List.getElem_mem hj)
def rv (r:Rc):Bool:=decide ((0≤r.f0∧r.f0≤99999)∧(0≤r.f1∧r.f1≤99999))&&(pv r.f2 r.f3&&pv r.f4 r.f5)
theorem implRec (r:Rc) (h:smallR r):Ev (fun k=>impl_RecordValid.f k r.f0 r.f1 r.f2 r.f3 r.f4 r.f5) (rv r):=by
 unfold impl_RecordValid.f rv
 simp only [baseValid_eq,bsome,decide_eq_true_eq]
 by_cases h0:(0≤r.f0∧r.f0≤99999)∧(0≤r.f1∧r.f1≤99999)
 ·simp only [if_pos h0,decide_eq_true h0,Bool.true_and]
  refine Ev.bind (implPart _ _ h.1) ?_
  by_cases h1:pv r.f2 r.f3=true
  ·simp only [if_pos h1,h1,Bool.true_and]
   exact Ev.bind (implPart _ _ h.2) (ev_some _)
  ·simp only [if_neg h1,show pv r.f2 r.f3=false by simpa using h1,Bool.false_and]
   exact ev_some _
 ·simp only [if_neg h0,decide_eq_false h0,Bool.false_and]
  exact ev_some _
theorem specRec (r:Rc) (h:smallR r):Ev (fun k=>spec_RecordValid.f k r.f0 r.f1 r.f2 r.f3 r.f4 r.f5) (rv r):=by
 unfold spec_RecordValid.f rv
 simp only [spec_l6In_eq,bsome,decide_eq_true_eq]
 by_cases h0 : 0≤r.f0∧r.f0≤99999
 ·by_cases h1 : 0≤r.f1∧r.f1≤99999
  ·simp only [if_pos h0,if_pos h1,decide_eq_true (show (0≤r.f0∧r.f0≤99999)∧(0≤r.f1∧r.f1≤99999) from ⟨h0,h1⟩),Bool.true_and]
   refine Ev.bind (specPart _ _ h.1) ?_
   by_cases h2:pv r.f2 r.f3=true
   ·simp only [if_pos h2,h2,Bool.true_and]
    exact Ev.bind (specPart _ _ h.2) (ev_some _)
   ·simp only [if_neg h2,show pv r.f2 r.f3=false by simpa using h2,Bool.false_and]
    exact ev_some _
  ·simp only [if_pos h0,if_neg h1,decide_eq_false (show ¬ ((0≤r.f0∧r.f0≤99999)∧(0≤r.f1∧r.f1≤99999)) from fun h=>h1 h.2),Bool.false_and]
   exact ev_some _
 ·simp only [if_neg h0,decide_eq_false (show ¬ ((0≤r.f0∧r.f0≤99999)∧(0≤r.f1∧r.f1≤99999)) from fun h=>h0 h.1),Bool.false_and]
  exact ev_some _
def RF (l:List Rc) (i:Nat):Prop:=∀ j,i≤j→j < l.length→rv (rr l j)=true∧(0 < j→(rr l ((j:Int) - 1)).f0 < (rr l j).f0)
theorem RF_end {l:List Rc} {i:Nat} (h:l.length≤i):RF l i:=fun j h1 h2=>by omega
theorem RF_step {l:List Rc} {i:Nat} (h:i < l.length):RF l i↔(rv (rr l i)=true∧(0 < i→(rr l ((i:Int) - 1)).f0 < (rr l i).f0))∧RF l (i+1):=by
 constructor
 ·intro hv
  exact ⟨hv i (Nat.le_refl _) h,fun j h1 h2=>hv j (by omega) h2⟩
 ·rintro ⟨h1,h2⟩ j h3 h4
  by_cases e:j=i
  ·subst e;exact h1
  ·exact h2 j (by omega) h4
theorem implRecs_loop (l:List Rc) (hl:smallRs l) (a0 a1:Bool) (a2 a3 a4:Int):∀ (d i:Nat),l.length - i=d→i≤l.length→Evs (fun k=>impl_BatchValid.l0 k l (l.length:Int) (i:Int) a0 a1 a2 a3 a4 l) (fun b=>b=true↔RF l i):=by
 intro d
 induction d with
 | zero=>
  intro i hd hi
  refine Evs.succ ?_
  simp only [impl_BatchValid.l0,if_neg (show ¬ (i:Int) < (l.length:Int) by omega)]
  exact Evs.done (by simp;exact RF_end (by omega))
 | succ d ih=>
  intro i hd hi
  have hll:=hl.1
  have hn:=ih (i+1) (by omega) (by omega)
  have e1:wrap64 ((i:Int)+1)=((i+1:Nat):Int):=by rw [wrap_id (by omega) (by omega)];omega
  have e2:wrap64 ((i:Int) - 1)=(i:Int) - 1:=wrap_id (by omega) (by omega)
  rw [RF_step (show i < l.length by omega)]
  refine Evs.succ ?_
  simp only [impl_BatchValid.l0,if_pos (show (i:Int) < (l.length:Int) by omega),if_pos (show (0:Int)≤i by omega),e1,e2]
  refine Evs.bind (Evs.of (implRec (rr l (i:Int)) (smallRs_at hl i (by omega))) rfl:Evs _ (fun x=>x=rv (rr l (i:Int)))) ?_
  rintro _ rfl
  by_cases h1:rv (rr l (i:Int))=true
  ·simp only [if_pos h1]
   by_cases h0:(i:Int) > 0
   ·simp only [if_pos h0,if_pos (show 0≤(i:Int) - 1 by omega),if_pos (show (i:Int) - 1 < (l.length:Int) by omega)]
    by_cases h2:(rr l ((i:Int) - 1)).f0 ≥ (rr l (i:Int)).f0
    ·simp only [if_pos h2]
     refine Evs.done ?_
     simp only [Bool.false_eq_true,false_iff]
     rintro ⟨⟨_,h3⟩,_⟩
     have:=h3 (by omega)
     omega
    ·simp only [if_neg h2]
     refine hn.mono fun b hb=>?_
     rw [hb]
     exact ⟨fun h=>⟨⟨h1,fun _=>by omega⟩,h⟩,fun h=>h.2⟩
   ·simp only [if_neg h0]
    refine hn.mono fun b hb=>?_
    rw [hb]
    exact ⟨fun h=>⟨⟨h1,fun h'=>absurd h' (by omega)⟩,h⟩,fun h=>h.2⟩
  ·simp only [if_neg h1]
   exact Evs.done (by simp only [Bool.false_eq_true,false_iff];exact fun h=>h1 h.1.1)
theorem specRecs_loop (l:List Rc) (hl:smallRs l):∀ (d i:Nat),l.length - i=d→i≤l.length→Evs (fun k=>spec_l5Records.l0 k l (i:Int)) (fun b=>b=true↔RF l i∧1≤l.length∧l.length≤6):=by
 intro d
 induction d with
 | zero=>
  intro i hd hi
  refine Evs.succ ?_
  simp only [spec_l5Records.l0,if_neg (show ¬ (i:Int) < (l.length:Int) by omega),spec_l6In_eq,bsome]
  exact Evs.done (by simp only [decide_eq_true_eq];exact ⟨fun h=>⟨RF_end (by omega),by omega,by omega⟩,fun h=>by have:=h.2;omega⟩)
 | succ d ih=>
  intro i hd hi
  have hll:=hl.1
  have hn:=ih (i+1) (by omega) (by omega)
  have e1:wrap64 ((i:Int)+1)=((i+1:Nat):Int):=by rw [wrap_id (by omega) (by omega)];omega
  have e2:wrap64 ((i:Int) - 1)=(i:Int) - 1:=wrap_id (by omega) (by omega)
  rw [RF_step (show i < l.length by omega)]
  refine Evs.succ ?_
  simp only [spec_l5Records.l0,if_pos (show (i:Int) < (l.length:Int) by omega),if_pos (show (0:Int)≤i by omega),e1,e2]
  refine Evs.bind (Evs.of (specRec (rr l (i:Int)) (smallRs_at hl i (by omega))) rfl:Evs _ (fun x=>x=rv (rr l (i:Int)))) ?_
  rintro _ rfl
  by_cases h1:rv (rr l (i:Int))=true
  ·simp only [if_pos h1]
   by_cases h0:(i:Int) > 0
   ·simp only [if_pos h0,if_pos (show 0≤(i:Int) - 1 by omega),if_pos (show (i:Int) - 1 < (l.length:Int) by omega)]
    by_cases h2:(rr l ((i:Int) - 1)).f0 ≥ (rr l (i:Int)).f0
    ·simp only [if_pos h2]
     refine Evs.done ?_
     simp only [Bool.false_eq_true,false_iff]
     rintro ⟨⟨⟨_,h3⟩,_⟩,_⟩
     have:=h3 (by omega)
     omega
    ·simp only [if_neg h2]
     refine hn.mono fun b hb=>?_
     rw [hb]
     exact ⟨fun h=>⟨⟨⟨h1,fun _=>by omega⟩,h.1⟩,h.2⟩,fun h=>⟨h.1.2,h.2⟩⟩
   ·simp only [if_neg h0]
    refine hn.mono fun b hb=>?_
    rw [hb]
    exact ⟨fun h=>⟨⟨⟨h1,fun h'=>absurd h' (by omega)⟩,h.1⟩,h.2⟩,fun h=>⟨h.1.2,h.2⟩⟩
  ·simp only [if_neg h1]
   exact Evs.done (by simp only [Bool.false_eq_true,false_iff];exact fun h=>h1 h.1.1.1)
def VB (a1:Bool) (a2 a3 a4:Int) (l:List Rc):Prop:=
 (if a2=255 then a3=0∧a4=0∧a1=false else (0≤a2∧a2≤254)∧(0≤a3∧a3≤99)∧(0≤a4∧a4≤9999))∧(1≤l.length∧l.length≤6)∧(a1=true→l.length=1)∧RF l 0
theorem implB_j0 (a0 a1:Bool) (a2 a3 a4:Int) (l:List Rc) (hl:smallRs l):Evs (fun k=>impl_BatchValid.j0 k a0 a1 a2 a3 a4 l) (fun b=>b=true↔(1≤l.length∧l.length≤6)∧(a1=true→l.length=1)∧RF l 0):=by
 have hr:=implRecs_loop l hl a0 a1 a2 a3 a4 l.length 0 (by omega) (by omega)
 refine Evs.succ ?_
 simp only [impl_BatchValid.j0,impl_within_eq,bsome,decide_eq_true_eq]
 by_cases h : 1≤(l.length:Int)∧(l.length:Int)≤6
 ·simp only [if_pos h]
  cases a1 with
  | true=>
   simp only [if_true]
   refine Evs.succ ?_
   by_cases h1:l.length=1
   ·simp only [impl_BatchValid.j1,show ((l.length:Int) != 1)=false by rw [h1];rfl,Bool.false_eq_true,if_false]
    refine hr.mono fun b hb=>?_
    rw [hb]
    exact ⟨fun h2=>⟨by omega,fun _=>h1,h2⟩,fun h2=>h2.2.2⟩
   ·simp only [impl_BatchValid.j1,show ((l.length:Int) != 1)=true by simp;omega,if_true]
    exact Evs.done (by simp only [Bool.false_eq_true,false_iff];exact fun h2=>h1 (h2.2.1 trivial))
  | false=>
   simp only [Bool.false_eq_true,if_false]
   refine Evs.succ ?_
   simp only [impl_BatchValid.j1,Bool.false_eq_true,if_false]
   refine hr.mono fun b hb=>?_
   rw [hb]
   exact ⟨fun h2=>⟨by omega,(fun h3=>h3.elim),h2⟩,fun h2=>h2.2.2⟩
 ·simp only [if_neg h]
  refine Evs.succ ?_
  simp only [impl_BatchValid.j1,if_true]
  exact Evs.done (by simp only [Bool.false_eq_true,false_iff];exact fun h2=>h ⟨by have:=h2.1.1;omega,by have:=h2.1.2;omega⟩)
theorem implB_evs (a0 a1:Bool) (a2 a3 a4:Int) (l:List Rc) (hl:smallRs l):Evs (fun k=>impl_BatchValid.f k a0 a1 a2 a3 a4 l) (fun b=>b=true↔VB a1 a2 a3 a4 l):=by
 have hj:=implB_j0 a0 a1 a2 a3 a4 l hl
 unfold impl_BatchValid.f VB
 by_cases h:a2=255
 ·simp only [if_pos h]
  by_cases h3:a3=0
  ·simp only [if_pos h3]
   by_cases h4:a4=0
   ·simp only [if_pos h4]
    cases a1 with
    | true=>
     simp only [if_true]
     exact Evs.done (by simp)
    | false=>
     simp only [Bool.false_eq_true,if_false]
     refine hj.mono fun b hb=>?_
     rw [hb]
     exact ⟨fun h2=>⟨⟨h3,h4,trivial⟩,h2.1,(fun h5=>h5.elim),h2.2.2⟩,fun h2=>⟨h2.2.1,(fun h5=>by cases h5),h2.2.2.2⟩⟩
   ·simp only [if_neg h4]
    exact Evs.done (by simp only [Bool.false_eq_true,false_iff];exact fun h2=>h4 h2.1.2.1)
  ·simp only [if_neg h3]
   exact Evs.done (by simp only [Bool.false_eq_true,false_iff];exact fun h2=>h3 h2.1.1)
 ·simp only [if_neg h,idValid_eqB,impl_within_eq,bsome,decide_eq_true_eq]
  by_cases h2 : 0≤a2∧a2≤254
  ·simp only [if_pos h2]
   by_cases h3 : 0≤a3∧a3≤99
   ·simp only [if_pos h3]
    by_cases h4 : 0≤a4∧a4≤9999
    ·simp only [if_pos h4]
     refine hj.mono fun b hb=>?_
     rw [hb]
     exact ⟨fun h5=>⟨⟨h2,h3,h4⟩,h5⟩,fun h5=>h5.2⟩
    ·simp only [if_neg h4]
     exact Evs.done (by simp only [Bool.false_eq_true,false_iff];exact fun h5=>h4 h5.1.2.2)
   ·simp only [if_neg h3]
    exact Evs.done (by simp only [Bool.false_eq_true,false_iff];exact fun h5=>h3 h5.1.2.1)
  ·simp only [if_neg h2]
   exact Evs.done (by simp only [Bool.false_eq_true,false_iff];exact fun h5=>h2 h5.1.1)
theorem specB_j0_true (a0 a1:Bool) (a2 a3 a4:Int) (l:List Rc):Evs (fun k=>spec_BatchValid.j0 k true a0 a1 a2 a3 a4 l) (fun b=>b=false):=by
 refine Evs.succ ?_
 simp only [spec_BatchValid.j0,if_true]
 exact Evs.done rfl
theorem specB_evs (a0 a1:Bool) (a2 a3 a4:Int) (l:List Rc) (hl:smallRs l):Evs (fun k=>spec_BatchValid.f k a0 a1 a2 a3 a4 l) (fun b=>b=true↔VB a1 a2 a3 a4 l):=by
 have hr:=specRecs_loop l hl l.length 0 (by omega) (by omega)
 have no:∀ {P:Prop},¬ P→∀ b:Bool,b=false→(b=true↔P):=fun hP b hb=>by rw [hb];simp only [Bool.false_eq_true,false_iff];exact hP
 unfold spec_BatchValid.f
 unfold spec_l5Records.f
 refine Evs.bind hr ?_
 intro t ht
 by_cases h:t=true
 ·obtain ⟨hRF,hl1⟩:=ht.1 h
  simp only [if_pos h,spec_l6In_eq,bsome,decide_eq_true_eq]
  by_cases h2 : 0≤a2∧a2≤255
  ·simp only [if_pos h2]
   by_cases h3 : 0≤a3∧a3≤99
   ·simp only [if_pos h3]
    by_cases h4 : 0≤a4∧a4≤9999
    ·simp only [decide_eq_true h4,Bool.not_true]
     refine Evs.succ ?_
     simp only [spec_BatchValid.j0,Bool.false_eq_true,if_false]
     unfold VB
     by_cases h5:a2=255
     ·simp only [if_pos h5]
      by_cases h6:a3=0
      ·simp only [if_pos h6]
       by_cases h7:a4=0
       ·simp only [if_pos h7]
        refine Evs.done ?_
        cases a1
        ·simp;exact ⟨⟨h6,h7⟩,hl1,hRF⟩
        ·simp
       ·simp only [if_neg h7]
        exact Evs.done (no (fun h8=>h7 h8.1.2.1) _ rfl)
      ·simp only [if_neg h6]
       exact Evs.done (no (fun h8=>h6 h8.1.1) _ rfl)
     ·simp only [if_neg h5]
      cases a1 with
      | true=>
       simp only [if_true]
       refine Evs.done ?_
       simp only [beq_iff_eq]
       exact ⟨fun h8=>⟨⟨by omega,h3,h4⟩,hl1,fun _=>by omega,hRF⟩,fun h8=>by have:=h8.2.2.1 trivial;omega⟩
      | false=>
       simp only [Bool.false_eq_true,if_false]
       refine Evs.done ?_
       simp only [true_iff]
       exact ⟨⟨by omega,h3,h4⟩,hl1,(fun h8=>h8.elim),hRF⟩
    ·simp only [decide_eq_false h4,Bool.not_false]
     refine (specB_j0_true a0 a1 a2 a3 a4 l).mono (no ?_)
     unfold VB
     split
     ·rintro ⟨⟨_,h8,_⟩,_⟩
      exact h4 (by omega)
     ·exact fun h8=>h4 h8.1.2.2
   ·simp only [if_neg h3]
    refine (specB_j0_true a0 a1 a2 a3 a4 l).mono (no ?_)
    unfold VB
    split
    ·rintro ⟨⟨h8,_,_⟩,_⟩
     exact h3 (by omega)
    ·exact fun h8=>h3 h8.1.2.1
  ·simp only [if_neg h2]
   refine (specB_j0_true a0 a1 a2 a3 a4 l).mono (no ?_)
   unfold VB
   split
   ·rename_i h8
    exact fun _=>h2 (by omega)
   ·exact fun h8=>h2 (by have:=h8.1.1;omega)
 ·simp only [if_neg h]
  refine (specB_j0_true a0 a1 a2 a3 a4 l).mono (no ?_)
  exact fun h8=>h (ht.2 ⟨h8.2.2.2,h8.2.1⟩)
open Classical in
noncomputable def vb (a1:Bool) (a2 a3 a4:Int) (l:List Rc):Bool:=decide (VB a1 a2 a3 a4 l)
theorem vb_iff (a1:Bool) (a2 a3 a4:Int) (l:List Rc):vb a1 a2 a3 a4 l=true↔VB a1 a2 a3 a4 l:=by unfold vb;simp
theorem implB (a0 a1:Bool) (a2 a3 a4:Int) (l:List Rc) (hl:smallRs l):Ev (fun k=>impl_BatchValid.f k a0 a1 a2 a3 a4 l) (vb a1 a2 a3 a4 l):=by
 obtain ⟨b,hb,h⟩:=implB_evs a0 a1 a2 a3 a4 l hl
 rw [show vb a1 a2 a3 a4 l=b by rw [Bool.eq_iff_iff,vb_iff,h]]
 exact hb
theorem specB (a0 a1:Bool) (a2 a3 a4:Int) (l:List Rc) (hl:smallRs l):Ev (fun k=>spec_BatchValid.f k a0 a1 a2 a3 a4 l) (vb a1 a2 a3 a4 l):=by
 obtain ⟨b,hb,h⟩:=specB_evs a0 a1 a2 a3 a4 l hl
 rw [show vb a1 a2 a3 a4 l=b by rw [Bool.eq_iff_iff,vb_iff,h]]
 exact hb
theorem bytes_of {l:List Int} (h:∀ x∈l,(Lit.int .u8 x).wf=true):Bytes l:=by
 intro x hx
 have:=h x hx
 simp [Lit.wf,IntKind.min,IntKind.max,IntKind.signed,IntKind.bits] at this
 omega
theorem open_ev (l:List Int) (h:Bytes l):∃ b,spec_l6Open.f l=some (b,0)∧Bytes b∧b.length≤2000:=by
 unfold spec_l6Open.f
 by_cases hc:(l.length:Int) > 2000
 ·rw [if_pos hc,if_pos (by omega)]
  exact ⟨_,rfl,fun x hx=>h x (List.mem_of_mem_take hx),by rw [length_take];omega⟩
 ·rw [if_neg hc]
  exact ⟨_,rfl,h,by omega⟩
end Go.Proofs.Yticpnjhkdfdkkaa.Q
