/- The law FnStableRecords holds (part 5 of 7; merged by pack2.py). -/
import Derived.Lib.SliceRun
import Derived.Test.YticpnjhkdfdkkaaFnStableRecordsK3
open List (setIfInBounds_toArray set_cons_zero set_cons_succ map_toArray map_cons map_nil length_drop length_take)
namespace Go.Proofs.Yticpnjhkdfdkkaa.T
open Go.RowKit Go.Proofs.YticpnjhkdfdkkaaW.PrintWords Go.Proofs.YticpnjhkdfdkkaaW.PrintLast Go.Proofs.YticpnjhkdfdkkaaW.PrintMore
attribute [local go_sem] max2_int max_two
set_option linter.unusedVariables false
set_option linter.unusedSimpArgs false
def impl_StableEnd.l0:Nat→List (S27)→List Int→Int→Int→Option (Int)
 | 0,_,_,_,_=>none
 | k+1,x0,x10,x11,x12=>if x12 < x11 then (if 0≤x12 then (if x12 < (x10.length:Int) then (if (rd x10 x12)=0 then (if x12 < (x0.length:Int) then ((impl_Batch_first.f ((rd_T27 x0 x12).f0) ((rd_T27 x0 x12).f1) ((rd_T27 x0 x12).f2) ((rd_T27 x0 x12).f3) ((rd_T27 x0 x12).f4) ((rd_T27 x0 x12).f5)).bind fun t295=>(some t295)) else (none)) else (impl_StableEnd.l0 k x0 x10 x11 (wrap64 (x12+1)))) else (none)) else (none)) else ((impl_ReadEnd.f k x0).bind fun t296=>(some t296))
def impl_StableEnd.f (k:Nat) (l0:List (S27)):Option (Int):=(impl_LogValid.f k l0).bind fun t286=>(if t286=true then ((impl_fatesOf.f l0).bind fun bt287=>(impl_StableEnd.l0 k l0 bt287.1 (bt287.1.length:Int) 0)) else (some (-1)))
set_option maxHeartbeats 8000000 in
set_option maxRecDepth 100000 in
theorem impl_StableEnd.calls (k:Nat) (A0:Option Addr) (c0:Nat) (l0:List (S27)) (r:Int) (w:World) (hr0:Kd.C k27 w A0 l0.length l0) (hc0:l0.length≤c0) (h:impl_StableEnd.f k l0=some r) :
  Calls Try.prog 28 #[.slice A0 l0.length c0] w fun e w'=>e = .returned (.int .i64 r)∧Below w.heap.size w w':=by
 have hu27:=Try.underlying27;have hfld_:=field_fates;have HR0:=zzm hr0;have HC0:=zzm hc0;clear hr0 hc0;have HB:=zzm (Below.refl w.heap.size w);have H:((impl_LogValid.f k l0).bind fun t286=>(if t286=true then ((impl_fatesOf.f l0).bind fun bt287=>(impl_StableEnd.l0 k l0 bt287.1 (bt287.1.length:Int) 0)) else (some (-1))))=some r:=h;clear h;replace H:=Option.bind_eq_some_iff.mp H;obtain ⟨t286,A20,H⟩:=H;replace H:(if t286=true then ((impl_fatesOf.f l0).bind fun bt287=>(impl_StableEnd.l0 k l0 bt287.1 (bt287.1.length:Int) 0)) else (some (-1)))=some r:=H;have A2:=zzm A20;clear A20;by_cases c3:t286=true
 ·
  subst c3;have H1:((impl_fatesOf.f l0).bind fun bt287=>(impl_StableEnd.l0 k l0 bt287.1 (bt287.1.length:Int) 0))=some r:=by rw [if_pos rfl] at H;exact H
  clear H;have H:=H1;clear H1;replace H:=Option.bind_eq_some_iff.mp H;obtain ⟨⟨t287,t290⟩,A40,H⟩:=H;replace H:(impl_StableEnd.l0 k l0 t287 (t287.length:Int) 0)=some r:=H;have A4:=zzm A40;clear A40;have H':=zzm H;clear H;go_enter Try.func28,Try.ntmps28;go_wp2_with (first|((with_reducible refine gate_callee (f:=61) rfl ?_);refine goesL_ (some 6) rfl rfl Try.func61 (by kernel_rfl) rfl #[.slice A0 l0.length c0] rfl zzM2 ?_;(with_reducible refine (impl_LogValid.calls k _ _ l0 true _ ?side1 ?side2 A2.out).mono ?_);(case side1=>repeat (first|exact HR0.out|(with_reducible refine Kd.C_alloc ?_ _)|(with_reducible refine Kd.C_drewN ?_ _)|(with_reducible refine Kd.C_drew ?_)));(case side2=>exact HC0.out);rintro e w5 ⟨rfl,hb⟩;refine ⟨_,rfl,?_⟩;have n0_:=zzm (zzp zzh1 hb);clear HB;have HB:=n0_;clear n0_;(try clear hb);(try clear hb2);(try clear hk);(try clear hi))|((with_reducible refine gate_callee (f:=62) rfl ?_);refine goesL_ (some 9) rfl rfl Try.func62 (by kernel_rfl) rfl #[.slice A0 l0.length c0] rfl zzM2 ?_;(with_reducible refine (impl_fatesOf.calls _ _ l0 t287 t290 _ ?side1 ?side2 A4.out).mono ?_);(case side1=>repeat (first|exact (Kd.C_below HR0.out HB.out)|(with_reducible refine Kd.C_alloc ?_ _)|(with_reducible refine Kd.C_drewN ?_ _)|(with_reducible refine Kd.C_drew ?_)));(case side2=>exact HC0.out);rintro e w6 ⟨v288,v291,rfl,ho0,ho1,hb⟩;refine ⟨_,rfl,?_⟩;have n0_:=zzm (Kd.R_lower ho0 (zzo zzh1));have n1_:=zzm (Kd.R_lower ho1 (zzo zzh1));have n2_:=zzm (zzp zzh1 hb);clear HB;have HO289:=n0_;have HO292:=n1_;have HB:=n2_;clear n0_ n1_ n2_;(try clear hb);(try clear hb2);(try clear hk);(try clear hi);(try clear ho0);(try clear ho1);obtain ⟨Ao7,co7,eo7⟩:=Kd.R_slice HO289.out;subst eo7));go_loopg [12] k (fun kq v12 w'=>∃ (x12_1:Int),v12 = .int .i64 x12_1∧Aside0 (impl_StableEnd.l0 kq l0 t287 (t287.length:Int) x12_1=some r)∧Aside0 (kq≤k)∧Aside0 (Kd.R (Kd.int .i64) 74 w' w.heap.size (fun _=>True) (.slice Ao7 t287.length co7) t287)∧Aside0 (Below w.heap.size w w'))
  case atStart=>exact ⟨(0),(by first|rfl|(simp;done)|(simp [*];done)),H',⟨Nat.le_refl _⟩,⟨by (with_reducible repeat (first|apply Kd.R_alloc|apply Kd.R_drewN|apply Kd.R_drew));exact HO289.out⟩,⟨zzh1⟩⟩
  case round=>
   clear H';try clear c2
   try clear p2
   try clear c3
   try clear c6
   obtain ⟨x12_1,rfl,HA,HK1,HO_10,HB⟩:=hrel;cases gk with
   | zero=>exact absurd HA.out (by simp [impl_StableEnd.l0])
   | succ k1=>
    have H:=HA.out;clear HA;simp only [impl_StableEnd.l0] at H;by_cases c8:x12_1 < (t287.length:Int)
    ·
     rw [if_pos c8] at H;have c8b0:decide (x12_1 < (t287.length:Int))=true:=decide_eq_true c8;clear c8;by_cases c9 : 0≤x12_1
     ·
      rw [if_pos c9] at H;have c9b0:decide (0≤x12_1)=true:=decide_eq_true c9;clear c9;by_cases c10:x12_1 < (t287.length:Int)
      ·
       rw [if_pos c10] at H;have c10b0:decide (x12_1 < (t287.length:Int))=true:=decide_eq_true c10;clear c10;by_cases c11:(rd t287 x12_1)=0
       ·
        rw [if_pos c11] at H;have c11b0:((rd t287 x12_1)==0)=true:=beq_iff_eq.mpr c11;have c11b1:((rd t287 x12_1) != 0)=false:=bne_eq_false_iff_eq.mpr c11;clear c11;by_cases c12:x12_1 < (l0.length:Int)
        ·
         rw [if_pos c12] at H;have c12b0:decide (x12_1 < (l0.length:Int))=true:=decide_eq_true c12;clear c12;replace H:=Option.bind_eq_some_iff.mp H;obtain ⟨t295,A130,H⟩:=H;replace H:(some t295)=some r:=H;have A13:=zzm A130;clear A130;obtain rfl:=Option.some.inj H;have p293 : 0≤(x12_1:Int):=zzt;have q293:x12_1 < (t287.length:Int):=zzt;obtain ⟨ad293,e293,hx293_0⟩:=Kd.at_int (Kd.R_reads' HO_10.out).2.2 x12_1 p293 q293;cases e293;replace p293:=eq_true p293;replace q293:=eq_true q293;have p294 : 0≤(x12_1:Int):=zzt;have q294:x12_1 < (l0.length:Int):=zzt;obtain ⟨ad294,A294_5,c294_5,e294,hx294_0,hx294_1,hx294_2,hx294_3,hx294_4,hx294_5,hl294_5,hi294_5⟩:=at_T27 HR0.out x12_1 p294 q294;cases e294;replace hx294_0:=zzx HB.out hx294_0;replace hx294_1:=zzx HB.out hx294_1;replace hx294_2:=zzx HB.out hx294_2;replace hx294_3:=zzx HB.out hx294_3;replace hx294_4:=zzx HB.out hx294_4;replace hx294_5:=zzx HB.out hx294_5;have HR294_5:=zzm hi294_5;have HC294_5:=zzm hl294_5;clear hi294_5 hl294_5;replace p294:=eq_true p294;replace q294:=eq_true q294;go_wp2_with (first|((with_reducible refine gate_callee (f:=63) rfl ?_);refine goesL_ (some 23) rfl rfl Try.func63 (by kernel_rfl) rfl #[.agg #[.bool ((rd_T27 l0 x12_1).f0),.bool ((rd_T27 l0 x12_1).f1),.int .i64 ((rd_T27 l0 x12_1).f2),.int .i64 ((rd_T27 l0 x12_1).f3),.int .i64 ((rd_T27 l0 x12_1).f4),.slice A294_5 ((rd_T27 l0 x12_1).f5).length c294_5]] rfl zzM2 ?_;(with_reducible refine (impl_Batch_first.calls ((rd_T27 l0 x12_1).f0) ((rd_T27 l0 x12_1).f1) ((rd_T27 l0 x12_1).f2) ((rd_T27 l0 x12_1).f3) ((rd_T27 l0 x12_1).f4) _ _ ((rd_T27 l0 x12_1).f5) t295 _ ?side1 ?side2 A13.out).mono ?_);(case side1=>repeat (first|exact (Kd.C_below HR294_5.out HB.out)|(with_reducible refine Kd.C_alloc ?_ _)|(with_reducible refine Kd.C_drewN ?_ _)|(with_reducible refine Kd.C_drew ?_)));(case side2=>exact HC294_5.out);rintro e w14 ⟨rfl,hb⟩;refine ⟨_,rfl,?_⟩;have n0_:=zzm (Kd.R_below (by (with_reducible repeat (first|apply Kd.R_alloc|apply Kd.R_drewN|apply Kd.R_drew));exact HO_10.out) hb);have n1_:=zzm (zzp zzh1 hb);clear HO_10 HB;have HO_10:=n0_;have HB:=n1_;clear n0_ n1_;(try clear hb);(try clear hb2);(try clear hk);(try clear hi)));go_ret;exact ⟨by first|rfl|(simp [errW_none,errW_some] <;> rfl)|(simp [*,errW_none,errW_some] <;> rfl),zzh1⟩
        ·
         rw [if_neg c12] at H;exact absurd H (by simp)
       ·
        rw [if_neg c11] at H;have c11b0:((rd t287 x12_1)==0)=false:=beq_eq_false_iff_ne.mpr c11;have c11b1:((rd t287 x12_1) != 0)=true:=bne_iff_ne.mpr c11;have H':=zzm H;clear H;have p293 : 0≤(x12_1:Int):=zzt;have q293:x12_1 < (t287.length:Int):=zzt;obtain ⟨ad293,e293,hx293_0⟩:=Kd.at_int (Kd.R_reads' HO_10.out).2.2 x12_1 p293 q293;cases e293;replace p293:=eq_true p293;replace q293:=eq_true q293;go_wp2;go_roundg k1
        case measure=>have:=HK1.out;omega
        case rel=>exact ⟨(wrap64 (x12_1+1)),(by first|rfl|(simp;done)|(simp [*];done)),H',⟨by have:=HK1.out;omega⟩,⟨by (with_reducible repeat (first|apply Kd.R_alloc|apply Kd.R_drewN|apply Kd.R_drew));exact HO_10.out⟩,⟨zzh1⟩⟩
      ·
       rw [if_neg c10] at H;exact absurd H (by simp)
     ·
      rw [if_neg c9] at H;exact absurd H (by simp)
    ·
     rw [if_neg c8] at H;have c8b0:decide (x12_1 < (t287.length:Int))=false:=decide_eq_false c8;clear c8;replace H:=Option.bind_eq_some_iff.mp H;obtain ⟨t296,A150,H⟩:=H;replace H:(some t296)=some r:=H;have A15:=zzm A150;clear A150;obtain rfl:=Option.some.inj H;go_wp2_with (first|((with_reducible refine gate_callee (f:=30) rfl ?_);refine goesL_ (some 26) rfl rfl Try.func30 (by kernel_rfl) rfl #[.slice A0 l0.length c0] rfl zzM2 ?_;(with_reducible refine (impl_ReadEnd.calls k1 _ _ l0 t296 _ ?side1 ?side2 A15.out).mono ?_);(case side1=>repeat (first|exact (Kd.C_below HR0.out HB.out)|(with_reducible refine Kd.C_alloc ?_ _)|(with_reducible refine Kd.C_drewN ?_ _)|(with_reducible refine Kd.C_drew ?_)));(case side2=>exact HC0.out);rintro e w16 ⟨rfl,hb⟩;refine ⟨_,rfl,?_⟩;have n0_:=zzm (Kd.R_below (by (with_reducible repeat (first|apply Kd.R_alloc|apply Kd.R_drewN|apply Kd.R_drew));exact HO_10.out) hb);have n1_:=zzm (zzp zzh1 hb);clear HO_10 HB;have HO_10:=n0_;have HB:=n1_;clear n0_ n1_;(try clear hb);(try clear hb2);(try clear hk);(try clear hi)));go_ret;exact ⟨by first|rfl|(simp [errW_none,errW_some] <;> rfl)|(simp [*,errW_none,errW_some] <;> rfl),zzh1⟩
 ·
  replace c3:=Bool.eq_false_iff.mpr c3;subst c3;have H1:(some (-1))=some r:=by rw [if_neg (show ¬ (false=true) by decide)] at H;exact H
  clear H;have H:=H1;clear H1;obtain rfl:=Option.some.inj H;go_enter Try.func28,Try.ntmps28;go_wp2_with (first|((with_reducible refine gate_callee (f:=61) rfl ?_);refine goesL_ (some 6) rfl rfl Try.func61 (by kernel_rfl) rfl #[.slice A0 l0.length c0] rfl zzM2 ?_;(with_reducible refine (impl_LogValid.calls k _ _ l0 false _ ?side1 ?side2 A2.out).mono ?_);(case side1=>repeat (first|exact HR0.out|(with_reducible refine Kd.C_alloc ?_ _)|(with_reducible refine Kd.C_drewN ?_ _)|(with_reducible refine Kd.C_drew ?_)));(case side2=>exact HC0.out);rintro e w17 ⟨rfl,hb⟩;refine ⟨_,rfl,?_⟩;have n0_:=zzm (zzp zzh1 hb);clear HB;have HB:=n0_;clear n0_;(try clear hb);(try clear hb2);(try clear hk);(try clear hi)));go_ret;exact ⟨by first|rfl|(simp [errW_none,errW_some] <;> rfl)|(simp [*,errW_none,errW_some] <;> rfl),zzh1⟩
def laws_sameInts.l0:Nat→List Int→List Int→Int→Option (Bool)
 | 0,_,_,_=>none
 | k+1,x0,x1,x5=>if x5 < (x0.length:Int) then (if 0≤x5 then (if x5 < (x1.length:Int) then (if (rd x0 x5)=(rd x1 x5) then (laws_sameInts.l0 k x0 x1 (wrap64 (x5+1))) else (some false)) else (none)) else (none)) else (some true)
def laws_sameInts.f (k:Nat) (l0:List Int) (l1:List Int):Option (Bool):=if (l0.length:Int)=(l1.length:Int) then (laws_sameInts.l0 k l0 l1 0) else (some false)
set_option maxHeartbeats 8000000 in
set_option maxRecDepth 100000 in
theorem laws_sameInts.calls (k:Nat) (A0:Option Addr) (c0:Nat) (l0:List Int) (A1:Option Addr) (c1:Nat) (l1:List Int) (r:Bool) (w:World) (hr0:Kd.C (Kd.int .i64) w A0 l0.length l0) (hc0:l0.length≤c0) (hr1:Kd.C (Kd.int .i64) w A1 l1.length l1) (hc1:l1.length≤c1) (h:laws_sameInts.f k l0 l1=some r) :
  Calls Try.prog 59 #[.slice A0 l0.length c0,.slice A1 l1.length c1] w fun e w'=>e = .returned (.bool r)∧Drawn0 w w':=by
 have HR0:=zzm hr0;have HC0:=zzm hc0;clear hr0 hc0;have HR1:=zzm hr1;have HC1:=zzm hc1;clear hr1 hc1;have H:(if (l0.length:Int)=(l1.length:Int) then (laws_sameInts.l0 k l0 l1 0) else (some false))=some r:=h;clear h;by_cases c3:(l0.length:Int)=(l1.length:Int)
 ·
  rw [if_pos c3] at H;have c3b0:((l0.length:Int)==(l1.length:Int))=true:=beq_iff_eq.mpr c3;have c3b1:((l0.length:Int) != (l1.length:Int))=false:=bne_eq_false_iff_eq.mpr c3;have c3b2:(l0.length==l1.length)=true:=by first|simpa using c3|(simp at c3 ⊢;omega)
  clear c3;have H':=zzm H;clear H;go_enter Try.func59,Try.ntmps59;go_wp2;repeat (go_quiet (fail);try go_wp2)
  go_loopg [5] k (fun kq v5 w'=>∃ (x5_1:Int),v5 = .int .i64 x5_1∧Aside0 (laws_sameInts.l0 kq l0 l1 x5_1=some r)∧Aside0 (kq≤k)∧Drawn0 w w')
  case atStart=>exact ⟨(0),(by first|rfl|(simp;done)|(simp [*];done)),H',⟨Nat.le_refl _⟩,by repeat (first|exact Drawn0.refl _|apply Drawn0.step)⟩
  case round=>
   clear H';try clear c1
   try clear p2
   try clear c3
   try clear c3b0
   try clear c3b1
   try clear c3b2
   obtain ⟨x5_1,rfl,HA,HK1,⟨m1,rfl⟩⟩:=hrel;cases gk with
   | zero=>exact absurd HA.out (by simp [laws_sameInts.l0])
   | succ k1=>
    have H:=HA.out;clear HA;simp only [laws_sameInts.l0] at H;by_cases c4:x5_1 < (l0.length:Int)
    ·
     rw [if_pos c4] at H;have c4b0:decide (x5_1 < (l0.length:Int))=true:=decide_eq_true c4;clear c4;by_cases c5 : 0≤x5_1
     ·
      rw [if_pos c5] at H;have c5b0:decide (0≤x5_1)=true:=decide_eq_true c5;clear c5;by_cases c6:x5_1 < (l1.length:Int)
      ·
       rw [if_pos c6] at H;have c6b0:decide (x5_1 < (l1.length:Int))=true:=decide_eq_true c6;clear c6;by_cases c7:(rd l0 x5_1)=(rd l1 x5_1)
       ·
        rw [if_pos c7] at H;have c7b0:((rd l0 x5_1)==(rd l1 x5_1))=true:=beq_iff_eq.mpr c7;have c7b1:((rd l0 x5_1) != (rd l1 x5_1))=false:=bne_eq_false_iff_eq.mpr c7;clear c7;have H':=zzm H;clear H;have p447 : 0≤(x5_1:Int):=zzt;have q447:x5_1 < (l0.length:Int):=zzt;obtain ⟨ad447,e447,hx447_0⟩:=Kd.at_int HR0.out x5_1 p447 q447;cases e447;replace p447:=eq_true p447;replace q447:=eq_true q447;have p448 : 0≤(x5_1:Int):=zzt;have q448:x5_1 < (l1.length:Int):=zzt;obtain ⟨ad448,e448,hx448_0⟩:=Kd.at_int HR1.out x5_1 p448 q448;cases e448;replace p448:=eq_true p448;replace q448:=eq_true q448;go_wp2;repeat (go_quiet (fail);try go_wp2)
        go_roundg k1
        case measure=>have:=HK1.out;omega
        case rel=>exact ⟨(wrap64 (x5_1+1)),(by first|rfl|(simp;done)|(simp [*];done)),H',⟨by have:=HK1.out;omega⟩,by repeat (first|exact Drawn0.refl _|apply Drawn0.step)⟩
       ·
        rw [if_neg c7] at H;have c7b0:((rd l0 x5_1)==(rd l1 x5_1))=false:=beq_eq_false_iff_ne.mpr c7;have c7b1:((rd l0 x5_1) != (rd l1 x5_1))=true:=bne_iff_ne.mpr c7;obtain rfl:=Option.some.inj H;have p447 : 0≤(x5_1:Int):=zzt;have q447:x5_1 < (l0.length:Int):=zzt;obtain ⟨ad447,e447,hx447_0⟩:=Kd.at_int HR0.out x5_1 p447 q447;cases e447;replace p447:=eq_true p447;replace q447:=eq_true q447;have p448 : 0≤(x5_1:Int):=zzt;have q448:x5_1 < (l1.length:Int):=zzt;obtain ⟨ad448,e448,hx448_0⟩:=Kd.at_int HR1.out x5_1 p448 q448;cases e448;replace p448:=eq_true p448;replace q448:=eq_true q448;go_wp2;repeat (go_quiet (fail);try go_wp2)
        go_ret;exact ⟨by first|rfl|(simp;done)|(simp [*];done),by repeat (first|exact Drawn0.refl _|apply Drawn0.step)⟩
      ·
       rw [if_neg c6] at H;exact absurd H (by simp)
     ·
      rw [if_neg c5] at H;exact absurd H (by simp)
    ·
     rw [if_neg c4] at H;have c4b0:decide (x5_1 < (l0.length:Int))=false:=decide_eq_false c4;clear c4;obtain rfl:=Option.some.inj H;go_wp2;repeat (go_quiet (fail);try go_wp2)
     go_ret;exact ⟨by first|rfl|(simp;done)|(simp [*];done),by repeat (first|exact Drawn0.refl _|apply Drawn0.step)⟩
 ·
  rw [if_neg c3] at H;have c3b0:((l0.length:Int)==(l1.length:Int))=false:=beq_eq_false_iff_ne.mpr c3;have c3b1:((l0.length:Int) != (l1.length:Int))=true:=bne_iff_ne.mpr c3;have c3b2:(l0.length==l1.length)=false:=by first|simpa using c3|(simp at c3 ⊢;omega)
  obtain rfl:=Option.some.inj H;go_enter Try.func59,Try.ntmps59;go_wp2;repeat (go_quiet (fail);try go_wp2)
  go_ret;exact ⟨by first|rfl|(simp;done)|(simp [*];done),by repeat (first|exact Drawn0.refl _|apply Drawn0.step)⟩
def laws_sameRecord.f (k:Nat) (a0_0:Int) (a0_1:Int) (a0_2:Bool) (l0_3:List Int) (a0_4:Bool) (l0_5:List Int) (a1_0:Int) (a1_1:Int) (a1_2:Bool) (l1_3:List Int) (a1_4:Bool) (l1_5:List Int):Option (Bool):=if a0_0=a1_0 then (if a0_1=a1_1 then (if (a0_2==a1_2)=true then (if (a0_4==a1_4)=true then ((laws_sameInts.f k l0_3 l1_3).bind fun t451=>(if t451=true then ((laws_sameInts.f k l0_5 l1_5).bind fun t452=>(some t452)) else (some false))) else (some false)) else (some false)) else (some false)) else (some false)
set_option maxHeartbeats 8000000 in
set_option maxRecDepth 100000 in
theorem laws_sameRecord.calls (k:Nat) (a0_0:Int) (a0_1:Int) (a0_2:Bool) (A0_3:Option Addr) (c0_3:Nat) (l0_3:List Int) (a0_4:Bool) (A0_5:Option Addr) (c0_5:Nat) (l0_5:List Int) (a1_0:Int) (a1_1:Int) (a1_2:Bool) (A1_3:Option Addr) (c1_3:Nat) (l1_3:List Int) (a1_4:Bool) (A1_5:Option Addr) (c1_5:Nat) (l1_5:List Int) (r:Bool) (w:World) (hr0_3:Kd.C (Kd.int .i64) w A0_3 l0_3.length l0_3) (hc0_3:l0_3.length≤c0_3) (hr0_5:Kd.C (Kd.int .i64) w A0_5 l0_5.length l0_5) (hc0_5:l0_5.length≤c0_5) (hr1_3:Kd.C (Kd.int .i64) w A1_3 l1_3.length l1_3) (hc1_3:l1_3.length≤c1_3) (hr1_5:Kd.C (Kd.int .i64) w A1_5 l1_5.length l1_5) (hc1_5:l1_5.length≤c1_5) (h:laws_sameRecord.f k a0_0 a0_1 a0_2 l0_3 a0_4 l0_5 a1_0 a1_1 a1_2 l1_3 a1_4 l1_5=some r) :
  Calls Try.prog 23 #[.agg #[.int .i64 a0_0,.int .i64 a0_1,.bool a0_2,.slice A0_3 l0_3.length c0_3,.bool a0_4,.slice A0_5 l0_5.length c0_5],.agg #[.int .i64 a1_0,.int .i64 a1_1,.bool a1_2,.slice A1_3 l1_3.length c1_3,.bool a1_4,.slice A1_5 l1_5.length c1_5]] w fun e w'=>e = .returned (.bool r)∧Below w.heap.size w w':=by
 have hu34:=Try.underlying34;have HR0_3:=zzm hr0_3;have HC0_3:=zzm hc0_3;clear hr0_3 hc0_3;have HR0_5:=zzm hr0_5;have HC0_5:=zzm hc0_5;clear hr0_5 hc0_5;have HR1_3:=zzm hr1_3;have HC1_3:=zzm hc1_3;clear hr1_3 hc1_3;have HR1_5:=zzm hr1_5;have HC1_5:=zzm hc1_5;clear hr1_5 hc1_5;have HB:=zzm (Below.refl w.heap.size w);have H:(if a0_0=a1_0 then (if a0_1=a1_1 then (if (a0_2==a1_2)=true then (if (a0_4==a1_4)=true then ((laws_sameInts.f k l0_3 l1_3).bind fun t451=>(if t451=true then ((laws_sameInts.f k l0_5 l1_5).bind fun t452=>(some t452)) else (some false))) else (some false)) else (some false)) else (some false)) else (some false))=some r:=h;clear h;by_cases c3:a0_0=a1_0
 ·
  rw [if_pos c3] at H;have c3b0:(a0_0==a1_0)=true:=beq_iff_eq.mpr c3;have c3b1:(a0_0 != a1_0)=false:=bne_eq_false_iff_eq.mpr c3;clear c3;by_cases c4:a0_1=a1_1
  ·
   rw [if_pos c4] at H;have c4b0:(a0_1==a1_1)=true:=beq_iff_eq.mpr c4;have c4b1:(a0_1 != a1_1)=false:=bne_eq_false_iff_eq.mpr c4;clear c4;by_cases c5:(a0_2==a1_2)=true
   ·
    rw [if_pos c5] at H;have c5b0:(a0_2==a1_2)=true:=c5;(try (have c5b1:decide (a0_2=a1_2)=true:=by simpa using c5));(try (have c5b2:(a0_2==a1_2)=true:=by simpa using c5));clear c5;by_cases c6:(a0_4==a1_4)=true
    ·
     rw [if_pos c6] at H;have c6b0:(a0_4==a1_4)=true:=c6;(try (have c6b1:decide (a0_4=a1_4)=true:=by simpa using c6));(try (have c6b2:(a0_4==a1_4)=true:=by simpa using c6));clear c6;replace H:=Option.bind_eq_some_iff.mp H;obtain ⟨t451,A70,H⟩:=H;replace H:(if t451=true then ((laws_sameInts.f k l0_5 l1_5).bind fun t452=>(some t452)) else (some false))=some r:=H;have A7:=zzm A70;clear A70;by_cases c8:t451=true
     ·
      subst c8;have H1:((laws_sameInts.f k l0_5 l1_5).bind fun t452=>(some t452))=some r:=by rw [if_pos rfl] at H;exact H
      clear H;have H:=H1;clear H1;replace H:=Option.bind_eq_some_iff.mp H;obtain ⟨t452,A90,H⟩:=H;replace H:(some t452)=some r:=H;have A9:=zzm A90;clear A90;obtain rfl:=Option.some.inj H;go_enter Try.func23,Try.ntmps23;go_wp2_with (first|((with_reducible refine gate_dst (N:=2) rfl ?_);refine box_event ?hg (N:=2) ?hd (cs:=#[.int .i64 a0_0,.int .i64 a0_1,.bool a0_2,.slice A0_3 l0_3.length c0_3,.bool a0_4,.slice A0_5 l0_5.length c0_5]) (t:=34) ?hr ?_;(case hd=>rfl);(case hg=>rfl);(case hr=>first|(go_simp;done)|(go_simp;rfl));intro gb449 hg w10 hbox hb;have n0_:=zzm (zzp zzh1 hb);have n1_:=zzm (hbox);have n2_:=zzm ((by rw [hg];exact (zzo zzh1):w.heap.size≤gb449));have n3_:=zzm ((by rw [hg];exact (zzo zzh1):w.heap.size≤gb449));clear HB;have HB:=n0_;have BK449:=n1_;have GW449:=n2_;have GE449:=n3_;clear n0_ n1_ n2_ n3_ hb hbox hg)|((with_reducible refine gate_dst (N:=3) rfl ?_);refine box_event ?hg (N:=3) ?hd (cs:=#[.int .i64 a1_0,.int .i64 a1_1,.bool a1_2,.slice A1_3 l1_3.length c1_3,.bool a1_4,.slice A1_5 l1_5.length c1_5]) (t:=34) ?hr ?_;(case hd=>rfl);(case hg=>rfl);(case hr=>first|(go_simp;done)|(go_simp;rfl));intro gb450 hg w11 hbox hb;have n0_:=zzm (zzh (g:=gb449) (o:=.cells #[.int .i64 a0_0,.int .i64 a0_1,.bool a0_2,.slice A0_3 l0_3.length c0_3,.bool a0_4,.slice A0_5 l0_5.length c0_5] 34 (0,0)) (zzE BK449.out) hb);have n1_:=zzm (zzp zzh2 hb);have n2_:=zzm (hbox);have n3_:=zzm ((by rw [hg];exact (zzo zzh2):w.heap.size≤gb450));have n4_:=zzm ((by rw [hg];exact (zzo zzh2):w.heap.size≤gb450));have n5_:=zzm ((by rw [hg];exact Nat.ne_of_lt (blk_lt (g:=gb449) (o:=.cells #[.int .i64 a0_0,.int .i64 a0_1,.bool a0_2,.slice A0_3 l0_3.length c0_3,.bool a0_4,.slice A0_5 l0_5.length c0_5] 34 (0,0)) (zzE BK449.out)):gb449≠gb450));have n6_:=zzm ((by rw [hg];exact Nat.ne_of_gt (blk_lt (g:=gb449) (o:=.cells #[.int .i64 a0_0,.int .i64 a0_1,.bool a0_2,.slice A0_3 l0_3.length c0_3,.bool a0_4,.slice A0_5 l0_5.length c0_5] 34 (0,0)) (zzE BK449.out)):gb450≠gb449));clear BK449 HB;have BK449:=n0_;have HB:=n1_;have BK450:=n2_;have GW450:=n3_;have GE450:=n4_;have NB449_450:=n5_;have NB450_449:=n6_;clear n0_ n1_ n2_ n3_ n4_ n5_ n6_ hb hbox hg;have hnb12:=NB449_450.out;have hnc12:=NB450_449.out;obtain ⟨hcz13_0,hcz13_1,hcz13_2,hcz13_3,hcz13_4,hcz13_5,hfz13_0,hfz13_1,hfz13_2,hfz13_3,hfz13_4,hfz13_5⟩:=zzc6 BK449.out;obtain ⟨hcz14_0,hcz14_1,hcz14_2,hcz14_3,hcz14_4,hcz14_5,hfz14_0,hfz14_1,hfz14_2,hfz14_3,hfz14_4,hfz14_5⟩:=zzc6 BK450.out)|(go_at_call 59;(with_reducible refine (laws_sameInts.calls k _ _ l0_3 _ _ l1_3 true _ ?side1 ?side2 ?side3 ?side4 A7.out).mono ?_);(case side1=>repeat (first|exact (Kd.C_below HR0_3.out HB.out)|(with_reducible refine Kd.C_alloc ?_ _)|(with_reducible refine Kd.C_drewN ?_ _)|(with_reducible refine Kd.C_drew ?_)));(case side2=>exact HC0_3.out);(case side3=>repeat (first|exact (Kd.C_below HR1_3.out HB.out)|(with_reducible refine Kd.C_alloc ?_ _)|(with_reducible refine Kd.C_drewN ?_ _)|(with_reducible refine Kd.C_drew ?_)));(case side4=>exact HC1_3.out);rintro e w' ⟨rfl,⟨nd,rfl⟩⟩)|(go_at_call 59;(with_reducible refine (laws_sameInts.calls k _ _ l0_5 _ _ l1_5 t452 _ ?side1 ?side2 ?side3 ?side4 A9.out).mono ?_);(case side1=>repeat (first|exact (Kd.C_below HR0_5.out zzh2)|(with_reducible refine Kd.C_alloc ?_ _)|(with_reducible refine Kd.C_drewN ?_ _)|(with_reducible refine Kd.C_drew ?_)));(case side2=>exact HC0_5.out);(case side3=>repeat (first|exact (Kd.C_below HR1_5.out zzh2)|(with_reducible refine Kd.C_alloc ?_ _)|(with_reducible refine Kd.C_drewN ?_ _)|(with_reducible refine Kd.C_drew ?_)));(case side4=>exact HC1_5.out);rintro e w' ⟨rfl,⟨nd,rfl⟩⟩));go_ret;exact ⟨by first|rfl|(simp [errW_none,errW_some] <;> rfl)|(simp [*,errW_none,errW_some] <;> rfl),by repeat (first|(with_reducible first|exact HB.out|apply zza|apply zzb|apply zzc|refine zzd ?_ GE449.out|refine zzd ?_ GE450.out)|exact HB.out)⟩
     ·
      replace c8:=Bool.eq_false_iff.mpr c8;subst c8;have H1:(some false)=some r:=by rw [if_neg (show ¬ (false=true) by decide)] at H;exact H
      clear H;have H:=H1;clear H1;obtain rfl:=Option.some.inj H;go_enter Try.func23,Try.ntmps23;go_wp2_with (first|((with_reducible refine gate_dst (N:=2) rfl ?_);refine box_event ?hg (N:=2) ?hd (cs:=#[.int .i64 a0_0,.int .i64 a0_1,.bool a0_2,.slice A0_3 l0_3.length c0_3,.bool a0_4,.slice A0_5 l0_5.length c0_5]) (t:=34) ?hr ?_;(case hd=>rfl);(case hg=>rfl);(case hr=>first|(go_simp;done)|(go_simp;rfl));intro gb449 hg w15 hbox hb;have n0_:=zzm (zzp zzh1 hb);have n1_:=zzm (hbox);have n2_:=zzm ((by rw [hg];exact (zzo zzh1):w.heap.size≤gb449));have n3_:=zzm ((by rw [hg];exact (zzo zzh1):w.heap.size≤gb449));clear HB;have HB:=n0_;have BK449:=n1_;have GW449:=n2_;have GE449:=n3_;clear n0_ n1_ n2_ n3_ hb hbox hg)|((with_reducible refine gate_dst (N:=3) rfl ?_);refine box_event ?hg (N:=3) ?hd (cs:=#[.int .i64 a1_0,.int .i64 a1_1,.bool a1_2,.slice A1_3 l1_3.length c1_3,.bool a1_4,.slice A1_5 l1_5.length c1_5]) (t:=34) ?hr ?_;(case hd=>rfl);(case hg=>rfl);(case hr=>first|(go_simp;done)|(go_simp;rfl));intro gb450 hg w16 hbox hb;have n0_:=zzm (zzh (g:=gb449) (o:=.cells #[.int .i64 a0_0,.int .i64 a0_1,.bool a0_2,.slice A0_3 l0_3.length c0_3,.bool a0_4,.slice A0_5 l0_5.length c0_5] 34 (0,0)) (zzE BK449.out) hb);have n1_:=zzm (zzp zzh2 hb);have n2_:=zzm (hbox);have n3_:=zzm ((by rw [hg];exact (zzo zzh2):w.heap.size≤gb450));have n4_:=zzm ((by rw [hg];exact (zzo zzh2):w.heap.size≤gb450));have n5_:=zzm ((by rw [hg];exact Nat.ne_of_lt (blk_lt (g:=gb449) (o:=.cells #[.int .i64 a0_0,.int .i64 a0_1,.bool a0_2,.slice A0_3 l0_3.length c0_3,.bool a0_4,.slice A0_5 l0_5.length c0_5] 34 (0,0)) (zzE BK449.out)):gb449≠gb450));have n6_:=zzm ((by rw [hg];exact Nat.ne_of_gt (blk_lt (g:=gb449) (o:=.cells #[.int .i64 a0_0,.int .i64 a0_1,.bool a0_2,.slice A0_3 l0_3.length c0_3,.bool a0_4,.slice A0_5 l0_5.length c0_5] 34 (0,0)) (zzE BK449.out)):gb450≠gb449));clear BK449 HB;have BK449:=n0_;have HB:=n1_;have BK450:=n2_;have GW450:=n3_;have GE450:=n4_;have NB449_450:=n5_;have NB450_449:=n6_;clear n0_ n1_ n2_ n3_ n4_ n5_ n6_ hb hbox hg;have hnb17:=NB449_450.out;have hnc17:=NB450_449.out;obtain ⟨hcz18_0,hcz18_1,hcz18_2,hcz18_3,hcz18_4,hcz18_5,hfz18_0,hfz18_1,hfz18_2,hfz18_3,hfz18_4,hfz18_5⟩:=zzc6 BK449.out;obtain ⟨hcz19_0,hcz19_1,hcz19_2,hcz19_3,hcz19_4,hcz19_5,hfz19_0,hfz19_1,hfz19_2,hfz19_3,hfz19_4,hfz19_5⟩:=zzc6 BK450.out)|(go_at_call 59;(with_reducible refine (laws_sameInts.calls k _ _ l0_3 _ _ l1_3 false _ ?side1 ?side2 ?side3 ?side4 A7.out).mono ?_);(case side1=>repeat (first|exact (Kd.C_below HR0_3.out HB.out)|(with_reducible refine Kd.C_alloc ?_ _)|(with_reducible refine Kd.C_drewN ?_ _)|(with_reducible refine Kd.C_drew ?_)));(case side2=>exact HC0_3.out);(case side3=>repeat (first|exact (Kd.C_below HR1_3.out HB.out)|(with_reducible refine Kd.C_alloc ?_ _)|(with_reducible refine Kd.C_drewN ?_ _)|(with_reducible refine Kd.C_drew ?_)));(case side4=>exact HC1_3.out);rintro e w' ⟨rfl,⟨nd,rfl⟩⟩));go_ret;exact ⟨by first|rfl|(simp [errW_none,errW_some] <;> rfl)|(simp [*,errW_none,errW_some] <;> rfl),by repeat (first|(with_reducible first|exact HB.out|apply zza|apply zzb|apply zzc|refine zzd ?_ GE449.out|refine zzd ?_ GE450.out)|exact HB.out)⟩
    ·
     rw [if_neg c6] at H;have c6b0:(a0_4==a1_4)=false:=by simpa using c6
     (try (have c6b1:decide (a0_4=a1_4)=false:=by simpa using c6));(try (have c6b2:(a0_4==a1_4)=false:=by simpa using c6));(try (have c6b3:¬ (a0_4=a1_4):=by simpa using c6));clear c6;obtain rfl:=Option.some.inj H;go_enter Try.func23,Try.ntmps23;go_wp2_with (first|((with_reducible refine gate_dst (N:=2) rfl ?_);refine box_event ?hg (N:=2) ?hd (cs:=#[.int .i64 a0_0,.int .i64 a0_1,.bool a0_2,.slice A0_3 l0_3.length c0_3,.bool a0_4,.slice A0_5 l0_5.length c0_5]) (t:=34) ?hr ?_;(case hd=>rfl);(case hg=>rfl);(case hr=>first|(go_simp;done)|(go_simp;rfl));intro gb449 hg w20 hbox hb;have n0_:=zzm (zzp zzh1 hb);have n1_:=zzm (hbox);have n2_:=zzm ((by rw [hg];exact (zzo zzh1):w.heap.size≤gb449));have n3_:=zzm ((by rw [hg];exact (zzo zzh1):w.heap.size≤gb449));clear HB;have HB:=n0_;have BK449:=n1_;have GW449:=n2_;have GE449:=n3_;clear n0_ n1_ n2_ n3_ hb hbox hg)|((with_reducible refine gate_dst (N:=3) rfl ?_);refine box_event ?hg (N:=3) ?hd (cs:=#[.int .i64 a1_0,.int .i64 a1_1,.bool a1_2,.slice A1_3 l1_3.length c1_3,.bool a1_4,.slice A1_5 l1_5.length c1_5]) (t:=34) ?hr ?_;(case hd=>rfl);(case hg=>rfl);(case hr=>first|(go_simp;done)|(go_simp;rfl));intro gb450 hg w21 hbox hb;have n0_:=zzm (zzh (g:=gb449) (o:=.cells #[.int .i64 a0_0,.int .i64 a0_1,.bool a0_2,.slice A0_3 l0_3.length c0_3,.bool a0_4,.slice A0_5 l0_5.length c0_5] 34 (0,0)) (zzE BK449.out) hb);have n1_:=zzm (zzp zzh2 hb);have n2_:=zzm (hbox);have n3_:=zzm ((by rw [hg];exact (zzo zzh2):w.heap.size≤gb450));have n4_:=zzm ((by rw [hg];exact (zzo zzh2):w.heap.size≤gb450));have n5_:=zzm ((by rw [hg];exact Nat.ne_of_lt (blk_lt (g:=gb449) (o:=.cells #[.int .i64 a0_0,.int .i64 a0_1,.bool a0_2,.slice A0_3 l0_3.length c0_3,.bool a0_4,.slice A0_5 l0_5.length c0_5] 34 (0,0)) (zzE BK449.out)):gb449≠gb450));have n6_:=zzm ((by rw [hg];exact Nat.ne_of_gt (blk_lt (g:=gb449) (o:=.cells #[.int .i64 a0_0,.int .i64 a0_1,.bool a0_2,.slice A0_3 l0_3.length c0_3,.bool a0_4,.slice A0_5 l0_5.length c0_5] 34 (0,0)) (zzE BK449.out)):gb450≠gb449));clear BK449 HB;have BK449:=n0_;have HB:=n1_;have BK450:=n2_;have GW450:=n3_;have GE450:=n4_;have NB449_450:=n5_;have NB450_449:=n6_;clear n0_ n1_ n2_ n3_ n4_ n5_ n6_ hb hbox hg;have hnb22:=NB449_450.out;have hnc22:=NB450_449.out;obtain ⟨hcz23_0,hcz23_1,hcz23_2,hcz23_3,hcz23_4,hcz23_5,hfz23_0,hfz23_1,hfz23_2,hfz23_3,hfz23_4,hfz23_5⟩:=zzc6 BK449.out;obtain ⟨hcz24_0,hcz24_1,hcz24_2,hcz24_3,hcz24_4,hcz24_5,hfz24_0,hfz24_1,hfz24_2,hfz24_3,hfz24_4,hfz24_5⟩:=zzc6 BK450.out));go_ret;exact ⟨by first|rfl|(simp [errW_none,errW_some] <;> rfl)|(simp [*,errW_none,errW_some] <;> rfl),by repeat (first|(with_reducible first|exact HB.out|apply zza|apply zzb|apply zzc|refine zzd ?_ GE449.out|refine zzd ?_ GE450.out)|exact HB.out)⟩
   ·
    rw [if_neg c5] at H;have c5b0:(a0_2==a1_2)=false:=by simpa using c5
    (try (have c5b1:decide (a0_2=a1_2)=false:=by simpa using c5));(try (have c5b2:(a0_2==a1_2)=false:=by simpa using c5));(try (have c5b3:¬ (a0_2=a1_2):=by simpa using c5));clear c5;obtain rfl:=Option.some.inj H;go_enter Try.func23,Try.ntmps23;go_wp2_with (first|((with_reducible refine gate_dst (N:=2) rfl ?_);refine box_event ?hg (N:=2) ?hd (cs:=#[.int .i64 a0_0,.int .i64 a0_1,.bool a0_2,.slice A0_3 l0_3.length c0_3,.bool a0_4,.slice A0_5 l0_5.length c0_5]) (t:=34) ?hr ?_;(case hd=>rfl);(case hg=>rfl);(case hr=>first|(go_simp;done)|(go_simp;rfl));intro gb449 hg w25 hbox hb;have n0_:=zzm (zzp zzh1 hb);have n1_:=zzm (hbox);have n2_:=zzm ((by rw [hg];exact (zzo zzh1):w.heap.size≤gb449));have n3_:=zzm ((by rw [hg];exact (zzo zzh1):w.heap.size≤gb449));clear HB;have HB:=n0_;have BK449:=n1_;have GW449:=n2_;have GE449:=n3_;clear n0_ n1_ n2_ n3_ hb hbox hg)|((with_reducible refine gate_dst (N:=3) rfl ?_);refine box_event ?hg (N:=3) ?hd (cs:=#[.int .i64 a1_0,.int .i64 a1_1,.bool a1_2,.slice A1_3 l1_3.length c1_3,.bool a1_4,.slice A1_5 l1_5.length c1_5]) (t:=34) ?hr ?_;(case hd=>rfl);(case hg=>rfl);(case hr=>first|(go_simp;done)|(go_simp;rfl));intro gb450 hg w26 hbox hb;have n0_:=zzm (zzh (g:=gb449) (o:=.cells #[.int .i64 a0_0,.int .i64 a0_1,.bool a0_2,.slice A0_3 l0_3.length c0_3,.bool a0_4,.slice A0_5 l0_5.length c0_5] 34 (0,0)) (zzE BK449.out) hb);have n1_:=zzm (zzp zzh2 hb);have n2_:=zzm (hbox);have n3_:=zzm ((by rw [hg];exact (zzo zzh2):w.heap.size≤gb450));have n4_:=zzm ((by rw [hg];exact (zzo zzh2):w.heap.size≤gb450));have n5_:=zzm ((by rw [hg];exact Nat.ne_of_lt (blk_lt (g:=gb449) (o:=.cells #[.int .i64 a0_0,.int .i64 a0_1,.bool a0_2,.slice A0_3 l0_3.length c0_3,.bool a0_4,.slice A0_5 l0_5.length c0_5] 34 (0,0)) (zzE BK449.out)):gb449≠gb450));have n6_:=zzm ((by rw [hg];exact Nat.ne_of_gt (blk_lt (g:=gb449) (o:=.cells #[.int .i64 a0_0,.int .i64 a0_1,.bool a0_2,.slice A0_3 l0_3.length c0_3,.bool a0_4,.slice A0_5 l0_5.length c0_5] 34 (0,0)) (zzE BK449.out)):gb450≠gb449));clear BK449 HB;have BK449:=n0_;have HB:=n1_;have BK450:=n2_;have GW450:=n3_;have GE450:=n4_;have NB449_450:=n5_;have NB450_449:=n6_;clear n0_ n1_ n2_ n3_ n4_ n5_ n6_ hb hbox hg;have hnb27:=NB449_450.out;have hnc27:=NB450_449.out;obtain ⟨hcz28_0,hcz28_1,hcz28_2,hcz28_3,hcz28_4,hcz28_5,hfz28_0,hfz28_1,hfz28_2,hfz28_3,hfz28_4,hfz28_5⟩:=zzc6 BK449.out;obtain ⟨hcz29_0,hcz29_1,hcz29_2,hcz29_3,hcz29_4,hcz29_5,hfz29_0,hfz29_1,hfz29_2,hfz29_3,hfz29_4,hfz29_5⟩:=zzc6 BK450.out));go_ret;exact ⟨by first|rfl|(simp [errW_none,errW_some] <;> rfl)|(simp [*,errW_none,errW_some] <;> rfl),by repeat (first|(with_reducible first|exact HB.out|apply zza|apply zzb|apply zzc|refine zzd ?_ GE449.out|refine zzd ?_ GE450.out)|exact HB.out)⟩
  ·
   rw [if_neg c4] at H;have c4b0:(a0_1==a1_1)=false:=beq_eq_false_iff_ne.mpr c4;have c4b1:(a0_1 != a1_1)=true:=bne_iff_ne.mpr c4;obtain rfl:=Option.some.inj H;go_enter Try.func23,Try.ntmps23;go_wp2_with (first|((with_reducible refine gate_dst (N:=2) rfl ?_);refine box_event ?hg (N:=2) ?hd (cs:=#[.int .i64 a0_0,.int .i64 a0_1,.bool a0_2,.slice A0_3 l0_3.length c0_3,.bool a0_4,.slice A0_5 l0_5.length c0_5]) (t:=34) ?hr ?_;(case hd=>rfl);(case hg=>rfl);(case hr=>first|(go_simp;done)|(go_simp;rfl));intro gb449 hg w30 hbox hb;have n0_:=zzm (zzp zzh1 hb);have n1_:=zzm (hbox);have n2_:=zzm ((by rw [hg];exact (zzo zzh1):w.heap.size≤gb449));have n3_:=zzm ((by rw [hg];exact (zzo zzh1):w.heap.size≤gb449));clear HB;have HB:=n0_;have BK449:=n1_;have GW449:=n2_;have GE449:=n3_;clear n0_ n1_ n2_ n3_ hb hbox hg)|((with_reducible refine gate_dst (N:=3) rfl ?_);refine box_event ?hg (N:=3) ?hd (cs:=#[.int .i64 a1_0,.int .i64 a1_1,.bool a1_2,.slice A1_3 l1_3.length c1_3,.bool a1_4,.slice A1_5 l1_5.length c1_5]) (t:=34) ?hr ?_;(case hd=>rfl);(case hg=>rfl);(case hr=>first|(go_simp;done)|(go_simp;rfl));intro gb450 hg w31 hbox hb;have n0_:=zzm (zzh (g:=gb449) (o:=.cells #[.int .i64 a0_0,.int .i64 a0_1,.bool a0_2,.slice A0_3 l0_3.length c0_3,.bool a0_4,.slice A0_5 l0_5.length c0_5] 34 (0,0)) (zzE BK449.out) hb);have n1_:=zzm (zzp zzh2 hb);have n2_:=zzm (hbox);have n3_:=zzm ((by rw [hg];exact (zzo zzh2):w.heap.size≤gb450));have n4_:=zzm ((by rw [hg];exact (zzo zzh2):w.heap.size≤gb450));have n5_:=zzm ((by rw [hg];exact Nat.ne_of_lt (blk_lt (g:=gb449) (o:=.cells #[.int .i64 a0_0,.int .i64 a0_1,.bool a0_2,.slice A0_3 l0_3.length c0_3,.bool a0_4,.slice A0_5 l0_5.length c0_5] 34 (0,0)) (zzE BK449.out)):gb449≠gb450));have n6_:=zzm ((by rw [hg];exact Nat.ne_of_gt (blk_lt (g:=gb449) (o:=.cells #[.int .i64 a0_0,.int .i64 a0_1,.bool a0_2,.slice A0_3 l0_3.length c0_3,.bool a0_4,.slice A0_5 l0_5.length c0_5] 34 (0,0)) (zzE BK449.out)):gb450≠gb449));clear BK449 HB;have BK449:=n0_;have HB:=n1_;have BK450:=n2_;have GW450:=n3_;have GE450:=n4_;have NB449_450:=n5_;have NB450_449:=n6_;clear n0_ n1_ n2_ n3_ n4_ n5_ n6_ hb hbox hg;have hnb32:=NB449_450.out;have hnc32:=NB450_449.out;obtain ⟨hcz33_0,hcz33_1,hcz33_2,hcz33_3,hcz33_4,hcz33_5,hfz33_0,hfz33_1,hfz33_2,hfz33_3,hfz33_4,hfz33_5⟩:=zzc6 BK449.out;obtain ⟨hcz34_0,hcz34_1,hcz34_2,hcz34_3,hcz34_4,hcz34_5,hfz34_0,hfz34_1,hfz34_2,hfz34_3,hfz34_4,hfz34_5⟩:=zzc6 BK450.out));go_ret;exact ⟨by first|rfl|(simp [errW_none,errW_some] <;> rfl)|(simp [*,errW_none,errW_some] <;> rfl),by repeat (first|(with_reducible first|exact HB.out|apply zza|apply zzb|apply zzc|refine zzd ?_ GE449.out|refine zzd ?_ GE450.out)|exact HB.out)⟩
 ·
  rw [if_neg c3] at H;have c3b0:(a0_0==a1_0)=false:=beq_eq_false_iff_ne.mpr c3;have c3b1:(a0_0 != a1_0)=true:=bne_iff_ne.mpr c3;obtain rfl:=Option.some.inj H;go_enter Try.func23,Try.ntmps23;go_wp2_with (first|((with_reducible refine gate_dst (N:=2) rfl ?_);refine box_event ?hg (N:=2) ?hd (cs:=#[.int .i64 a0_0,.int .i64 a0_1,.bool a0_2,.slice A0_3 l0_3.length c0_3,.bool a0_4,.slice A0_5 l0_5.length c0_5]) (t:=34) ?hr ?_;(case hd=>rfl);(case hg=>rfl);(case hr=>first|(go_simp;done)|(go_simp;rfl));intro gb449 hg w35 hbox hb;have n0_:=zzm (zzp zzh1 hb);have n1_:=zzm (hbox);have n2_:=zzm ((by rw [hg];exact (zzo zzh1):w.heap.size≤gb449));have n3_:=zzm ((by rw [hg];exact (zzo zzh1):w.heap.size≤gb449));clear HB;have HB:=n0_;have BK449:=n1_;have GW449:=n2_;have GE449:=n3_;clear n0_ n1_ n2_ n3_ hb hbox hg)|((with_reducible refine gate_dst (N:=3) rfl ?_);refine box_event ?hg (N:=3) ?hd (cs:=#[.int .i64 a1_0,.int .i64 a1_1,.bool a1_2,.slice A1_3 l1_3.length c1_3,.bool a1_4,.slice A1_5 l1_5.length c1_5]) (t:=34) ?hr ?_;(case hd=>rfl);(case hg=>rfl);(case hr=>first|(go_simp;done)|(go_simp;rfl));intro gb450 hg w36 hbox hb;have n0_:=zzm (zzh (g:=gb449) (o:=.cells #[.int .i64 a0_0,.int .i64 a0_1,.bool a0_2,.slice A0_3 l0_3.length c0_3,.bool a0_4,.slice A0_5 l0_5.length c0_5] 34 (0,0)) (zzE BK449.out) hb);have n1_:=zzm (zzp zzh2 hb);have n2_:=zzm (hbox);have n3_:=zzm ((by rw [hg];exact (zzo zzh2):w.heap.size≤gb450));have n4_:=zzm ((by rw [hg];exact (zzo zzh2):w.heap.size≤gb450));have n5_:=zzm ((by rw [hg];exact Nat.ne_of_lt (blk_lt (g:=gb449) (o:=.cells #[.int .i64 a0_0,.int .i64 a0_1,.bool a0_2,.slice A0_3 l0_3.length c0_3,.bool a0_4,.slice A0_5 l0_5.length c0_5] 34 (0,0)) (zzE BK449.out)):gb449≠gb450));have n6_:=zzm ((by rw [hg];exact Nat.ne_of_gt (blk_lt (g:=gb449) (o:=.cells #[.int .i64 a0_0,.int .i64 a0_1,.bool a0_2,.slice A0_3 l0_3.length c0_3,.bool a0_4,.slice A0_5 l0_5.length c0_5] 34 (0,0)) (zzE BK449.out)):gb450≠gb449));clear BK449 HB;have BK449:=n0_;have HB:=n1_;have BK450:=n2_;have GW450:=n3_;have GE450:=n4_;have NB449_450:=n5_;have NB450_449:=n6_;clear n0_ n1_ n2_ n3_ n4_ n5_ n6_ hb hbox hg;have hnb37:=NB449_450.out;have hnc37:=NB450_449.out;obtain ⟨hcz38_0,hcz38_1,hcz38_2,hcz38_3,hcz38_4,hcz38_5,hfz38_0,hfz38_1,hfz38_2,hfz38_3,hfz38_4,hfz38_5⟩:=zzc6 BK449.out;obtain ⟨hcz39_0,hcz39_1,hcz39_2,hcz39_3,hcz39_4,hcz39_5,hfz39_0,hfz39_1,hfz39_2,hfz39_3,hfz39_4,hfz39_5⟩:=zzc6 BK450.out));go_ret;exact ⟨by first|rfl|(simp [errW_none,errW_some] <;> rfl)|(simp [*,errW_none,errW_some] <;> rfl),by repeat (first|(with_reducible first|exact HB.out|apply zza|apply zzb|apply zzc|refine zzd ?_ GE449.out|refine zzd ?_ GE450.out)|exact HB.out)⟩
def laws_sameRecords.l0:Nat→List (S34)→List (S34)→Int→Option (Bool)
 | 0,_,_,_=>none
 | k+1,x0,x1,x5=>if x5 < (x0.length:Int) then (if 0≤x5 then (if x5 < (x1.length:Int) then ((laws_sameRecord.f k ((rd_T34 x0 x5).f0) ((rd_T34 x0 x5).f1) ((rd_T34 x0 x5).f2) ((rd_T34 x0 x5).f3) ((rd_T34 x0 x5).f4) ((rd_T34 x0 x5).f5) ((rd_T34 x1 x5).f0) ((rd_T34 x1 x5).f1) ((rd_T34 x1 x5).f2) ((rd_T34 x1 x5).f3) ((rd_T34 x1 x5).f4) ((rd_T34 x1 x5).f5)).bind fun t455=>(if t455=true then (laws_sameRecords.l0 k x0 x1 (wrap64 (x5+1))) else (some false))) else (none)) else (none)) else (some true)
def laws_sameRecords.f (k:Nat) (l0:List (S34)) (l1:List (S34)):Option (Bool):=if (l0.length:Int)=(l1.length:Int) then (laws_sameRecords.l0 k l0 l1 0) else (some false)
def laws_sameRecords.T6:Bool×List (List Nat×List Nat):=(true,[([],[]),([],[]),([0,1],[0,1]),([2],[2]),([],[]),([],[]),([4,5],[4,5]),([6],[6]),([3,7],[3,7]),([8],[8])])
def laws_sameRecords.B6:List Nat:=[0,0,3,7,0,0,48,112,255,511]
theorem laws_sameRecords.tab6:rtab .any (opsOf Try.f36 6)=laws_sameRecords.T6:=by kernel_rfl
theorem laws_sameRecords.bits6:waitsOk laws_sameRecords.T6.2 laws_sameRecords.B6=true:=by kernel_rfl
set_option maxHeartbeats 8000000 in
set_option maxRecDepth 100000 in
theorem laws_sameRecords.calls (k:Nat) (A0:Option Addr) (c0:Nat) (l0:List (S34)) (A1:Option Addr) (c1:Nat) (l1:List (S34)) (r:Bool) (w:World) (hr0:Kd.C k34 w A0 l0.length l0) (hc0:l0.length≤c0) (hr1:Kd.C k34 w A1 l1.length l1) (hc1:l1.length≤c1) (h:laws_sameRecords.f k l0 l1=some r) :
  Calls Try.prog 36 #[.slice A0 l0.length c0,.slice A1 l1.length c1] w fun e w'=>e = .returned (.bool r)∧Below w.heap.size w w':=by
 have hu34:=Try.underlying34;have HR0:=zzm hr0;have HC0:=zzm hc0;clear hr0 hc0;have HR1:=zzm hr1;have HC1:=zzm hc1;clear hr1 hc1;have HB:=zzm (Below.refl w.heap.size w);have H:(if (l0.length:Int)=(l1.length:Int) then (laws_sameRecords.l0 k l0 l1 0) else (some false))=some r:=h;clear h;by_cases c3:(l0.length:Int)=(l1.length:Int)
 ·
  rw [if_pos c3] at H;have c3b0:((l0.length:Int)==(l1.length:Int))=true:=beq_iff_eq.mpr c3;have c3b1:((l0.length:Int) != (l1.length:Int))=false:=bne_eq_false_iff_eq.mpr c3;have c3b2:(l0.length==l1.length)=true:=by first|simpa using c3|(simp at c3 ⊢;omega)
  clear c3;have H':=zzm H;clear H;go_enter Try.func36,Try.ntmps36;go_wp2;go_loopg [5] k (fun kq v5 w'=>∃ (x5_1:Int),v5 = .int .i64 x5_1∧Aside0 (laws_sameRecords.l0 kq l0 l1 x5_1=some r)∧Aside0 (kq≤k)∧Aside0 (Below w.heap.size w w'))
  case atStart=>exact ⟨(0),(by first|rfl|(simp;done)|(simp [*];done)),H',⟨Nat.le_refl _⟩,⟨zzh1⟩⟩
  case round=>
   clear H';try clear c1
   try clear p2
   try clear c3
   try clear c3b0
   try clear c3b1
   try clear c3b2
   obtain ⟨x5_1,rfl,HA,HK1,HB⟩:=hrel;cases gk with
   | zero=>exact absurd HA.out (by simp [laws_sameRecords.l0])
   | succ k1=>
    have H:=HA.out;clear HA;simp only [laws_sameRecords.l0] at H;by_cases c4:x5_1 < (l0.length:Int)
    ·
     rw [if_pos c4] at H;have c4b0:decide (x5_1 < (l0.length:Int))=true:=decide_eq_true c4;clear c4;by_cases c5 : 0≤x5_1
     ·
      rw [if_pos c5] at H;have c5b0:decide (0≤x5_1)=true:=decide_eq_true c5;clear c5;by_cases c6:x5_1 < (l1.length:Int)
      ·
       rw [if_pos c6] at H;have c6b0:decide (x5_1 < (l1.length:Int))=true:=decide_eq_true c6;clear c6;replace H:=Option.bind_eq_some_iff.mp H;obtain ⟨t455,A70,H⟩:=H;replace H:(if t455=true then (laws_sameRecords.l0 k1 l0 l1 (wrap64 (x5_1+1))) else (some false))=some r:=H;have A7:=zzm A70;clear A70;by_cases c8:t455=true
       ·
        subst c8;have H1:(laws_sameRecords.l0 k1 l0 l1 (wrap64 (x5_1+1)))=some r:=by rw [if_pos rfl] at H;exact H
        clear H;have H:=H1;clear H1;have H':=zzm H;clear H;try go_wp2
        have n0_:=zzm (zzc HB.out);clear HB;have HB:=n0_;clear n0_;have p453 : 0≤(x5_1:Int):=zzt;have q453:x5_1 < (l0.length:Int):=zzt;obtain ⟨ad453,A453_3,c453_3,A453_5,c453_5,e453,hx453_0,hx453_1,hx453_2,hx453_3,hx453_4,hx453_5,hl453_3,hi453_3,hl453_5,hi453_5⟩:=at_T34 HR0.out x5_1 p453 q453;have hw453_5:=hx453_5;have hw453_4:=hx453_4;have hw453_3:=hx453_3;have hw453_2:=hx453_2;have hw453_1:=hx453_1;have hw453_0:=hx453_0;cases e453;replace hx453_0:=zzx HB.out hx453_0;replace hx453_1:=zzx HB.out hx453_1;replace hx453_2:=zzx HB.out hx453_2;replace hx453_3:=zzx HB.out hx453_3;replace hx453_4:=zzx HB.out hx453_4;replace hx453_5:=zzx HB.out hx453_5;have HR453_3:=zzm hi453_3;have HC453_3:=zzm hl453_3;clear hi453_3 hl453_3;have HR453_5:=zzm hi453_5;have HC453_5:=zzm hl453_5;clear hi453_5 hl453_5;replace p453:=eq_true p453;replace q453:=eq_true q453;have p454 : 0≤(x5_1:Int):=zzt;have q454:x5_1 < (l1.length:Int):=zzt;obtain ⟨ad454,A454_3,c454_3,A454_5,c454_5,e454,hx454_0,hx454_1,hx454_2,hx454_3,hx454_4,hx454_5,hl454_3,hi454_3,hl454_5,hi454_5⟩:=at_T34 HR1.out x5_1 p454 q454;have hw454_5:=hx454_5;have hw454_4:=hx454_4;have hw454_3:=hx454_3;have hw454_2:=hx454_2;have hw454_1:=hx454_1;have hw454_0:=hx454_0;cases e454;replace hx454_0:=zzx HB.out hx454_0;replace hx454_1:=zzx HB.out hx454_1;replace hx454_2:=zzx HB.out hx454_2;replace hx454_3:=zzx HB.out hx454_3;replace hx454_4:=zzx HB.out hx454_4;replace hx454_5:=zzx HB.out hx454_5;have HR454_3:=zzm hi454_3;have HC454_3:=zzm hl454_3;clear hi454_3 hl454_3;have HR454_5:=zzm hi454_5;have HC454_5:=zzm hl454_5;clear hi454_5 hl454_5;replace p454:=eq_true p454;replace q454:=eq_true q454;refine start_ (n:=10) (S:=fun w'=>w'.cell? (ad453.add ((x5_1).toNat * 6))=some (.int .i64 ((rd_T34 l0 x5_1).f0))∧w'.cell? ⟨(ad453.add ((x5_1).toNat * 6)).block,(ad453.add ((x5_1).toNat * 6)).off+1,none⟩=some (.int .i64 ((rd_T34 l0 x5_1).f1))∧w'.cell? ⟨(ad453.add ((x5_1).toNat * 6)).block,(ad453.add ((x5_1).toNat * 6)).off+2,none⟩=some (.bool ((rd_T34 l0 x5_1).f2))∧w'.cell? ⟨(ad453.add ((x5_1).toNat * 6)).block,(ad453.add ((x5_1).toNat * 6)).off+3,none⟩=some (.slice A453_3 ((rd_T34 l0 x5_1).f3).length c453_3)∧w'.cell? ⟨(ad453.add ((x5_1).toNat * 6)).block,(ad453.add ((x5_1).toNat * 6)).off+4,none⟩=some (.bool ((rd_T34 l0 x5_1).f4))∧w'.cell? ⟨(ad453.add ((x5_1).toNat * 6)).block,(ad453.add ((x5_1).toNat * 6)).off+5,none⟩=some (.slice A453_5 ((rd_T34 l0 x5_1).f5).length c453_5)∧w'.cell? (ad454.add ((x5_1).toNat * 6))=some (.int .i64 ((rd_T34 l1 x5_1).f0))∧w'.cell? ⟨(ad454.add ((x5_1).toNat * 6)).block,(ad454.add ((x5_1).toNat * 6)).off+1,none⟩=some (.int .i64 ((rd_T34 l1 x5_1).f1))∧w'.cell? ⟨(ad454.add ((x5_1).toNat * 6)).block,(ad454.add ((x5_1).toNat * 6)).off+2,none⟩=some (.bool ((rd_T34 l1 x5_1).f2))∧w'.cell? ⟨(ad454.add ((x5_1).toNat * 6)).block,(ad454.add ((x5_1).toNat * 6)).off+3,none⟩=some (.slice A454_3 ((rd_T34 l1 x5_1).f3).length c454_3)∧w'.cell? ⟨(ad454.add ((x5_1).toNat * 6)).block,(ad454.add ((x5_1).toNat * 6)).off+4,none⟩=some (.bool ((rd_T34 l1 x5_1).f4))∧w'.cell? ⟨(ad454.add ((x5_1).toNat * 6)).block,(ad454.add ((x5_1).toNat * 6)).off+5,none⟩=some (.slice A454_5 ((rd_T34 l1 x5_1).f5).length c454_5)) (ds:=[]) (zzB 10 0) (by kernel_rfl) rfl rfl ⟨(zzx HB.out hw453_0),(zzx HB.out hw453_1),(zzx HB.out hw453_2),(zzx HB.out hw453_3),(zzx HB.out hw453_4),(zzx HB.out hw453_5),(zzx HB.out hw454_0),(zzx HB.out hw454_1),(zzx HB.out hw454_2),(zzx HB.out hw454_3),(zzx HB.out hw454_4),(zzx HB.out hw454_5)⟩ (fun hHeld=>?_);refine with_tabW laws_sameRecords.tab6 laws_sameRecords.bits6 (fun HT_ HW_=>?_);generalize wr.drew=w9 at HB HR453_3 HR453_5 HR454_3 HR454_5 hx453_0 hx453_1 hx453_2 hx453_3 hx453_4 hx453_5 hx454_0 hx454_1 hx454_2 hx454_3 hx454_4 hx454_5 hHeld ⊢;refine pure_ (i:=0) (N:=some 17) (v:=?_) (a':=?_) (zzB 10 1) rfl rfl (zzA2 HT_.out) (fun _ _ _ h=>h) (Or.inl ⟨by rfl,?_⟩) ?_ ?_;rotate_left
        ·
         intro w';go_simp;with_reducible rfl
        rotate_left
        ·
         simp only [Act.put,zzq,zzr,zzs,i64_w,i32_w];rfl
        refine pure_ (i:=1) (N:=some 18) (v:=?_) (a':=?_) (zzB 10 3) rfl rfl (zzA2 HT_.out) (fun _ _ _ h=>h) (Or.inl ⟨by rfl,?_⟩) ?_ ?_;rotate_left
        ·
         intro w';go_simp;with_reducible rfl
        rotate_left
        ·
         simp only [Act.put,zzq,zzr,zzs,i64_w,i32_w];rfl
        refine pure_ (i:=2) (N:=some 19) (v:=?_) (a':=?_) (zzB 10 7) rfl rfl (zzA2 HT_.out) (fun _ _ _ h=>h) (Or.inl ⟨by rfl,?_⟩) ?_ ?_;rotate_left
        ·
         intro w';go_simp;with_reducible rfl
        rotate_left
        ·
         simp only [Act.put,zzq,zzr,zzs,i64_w,i32_w];rfl
        refine pure_ (i:=4) (N:=some 21) (v:=?_) (a':=?_) (zzB 10 23) rfl rfl (zzA2 HT_.out) (fun _ _ _ h=>h) (Or.inl ⟨by rfl,?_⟩) ?_ ?_;rotate_left
        ·
         intro w';go_simp;with_reducible rfl
        rotate_left
        ·
         simp only [Act.put,zzq,zzr,zzs,i64_w,i32_w];rfl
        refine pure_ (i:=5) (N:=some 22) (v:=?_) (a':=?_) (zzB 10 55) rfl rfl (zzA2 HT_.out) (fun _ _ _ h=>h) (Or.inl ⟨by rfl,?_⟩) ?_ ?_;rotate_left
        ·
         intro w';go_simp;with_reducible rfl
        rotate_left
        ·
         simp only [Act.put,zzq,zzr,zzs,i64_w,i32_w];rfl
        refine pure_ (i:=6) (N:=some 23) (v:=?_) (a':=?_) (zzB 10 119) rfl rfl (zzA2 HT_.out) (fun _ _ _ h=>h) (Or.inl ⟨by rfl,?_⟩) ?_ ?_;rotate_left
        ·
         intro w';go_simp;with_reducible rfl
        rotate_left
        ·
         simp only [Act.put,zzq,zzr,zzs,i64_w,i32_w];rfl
        refine take_ (i:=3) (N:=some 20) (v:=?_) (a':=?_) (zzB 10 127) rfl rfl (take_ofW HT_.out HW_.out (by kernel_rfl)) (fun _ _ _ h=>h) (Or.inl ⟨by rfl,?_⟩) hHeld ?_ ?_;rotate_left
        ·
         rintro w' ⟨s0,s1,s2,s3,s4,s5,s6,s7,s8,s9,s10,s11⟩;go_simp;with_reducible rfl
        rotate_left
        ·
         simp only [Act.put,zzq,zzr,zzs,i64_w,i32_w];rfl
        refine take_ (i:=7) (N:=some 24) (v:=?_) (a':=?_) (zzB 10 255) rfl rfl (take_ofW HT_.out HW_.out (by kernel_rfl)) (fun _ _ _ h=>h) (Or.inl ⟨by rfl,?_⟩) hHeld ?_ ?_;rotate_left
        ·
         rintro w' ⟨s0,s1,s2,s3,s4,s5,s6,s7,s8,s9,s10,s11⟩;go_simp;with_reducible rfl
        rotate_left
        ·
         simp only [Act.put,zzq,zzr,zzs,i64_w,i32_w];rfl
        refine one_ (i:=8) (N:=some 25) (zzB 10 511) rfl rfl (one_of HT_.out (by kernel_rfl)) (by decide) (fun K hK=>?_);refine goes_ Try.func23 (by kernel_rfl) rfl #[.agg #[.int .i64 ((rd_T34 l0 x5_1).f0),.int .i64 ((rd_T34 l0 x5_1).f1),.bool ((rd_T34 l0 x5_1).f2),.slice A453_3 ((rd_T34 l0 x5_1).f3).length c453_3,.bool ((rd_T34 l0 x5_1).f4),.slice A453_5 ((rd_T34 l0 x5_1).f5).length c453_5],.agg #[.int .i64 ((rd_T34 l1 x5_1).f0),.int .i64 ((rd_T34 l1 x5_1).f1),.bool ((rd_T34 l1 x5_1).f2),.slice A454_3 ((rd_T34 l1 x5_1).f3).length c454_3,.bool ((rd_T34 l1 x5_1).f4),.slice A454_5 ((rd_T34 l1 x5_1).f5).length c454_5]] (by rfl) rfl rfl zzM2 ?_;with_reducible refine (laws_sameRecord.calls k1 ((rd_T34 l0 x5_1).f0) ((rd_T34 l0 x5_1).f1) ((rd_T34 l0 x5_1).f2) _ _ ((rd_T34 l0 x5_1).f3) ((rd_T34 l0 x5_1).f4) _ _ ((rd_T34 l0 x5_1).f5) ((rd_T34 l1 x5_1).f0) ((rd_T34 l1 x5_1).f1) ((rd_T34 l1 x5_1).f2) _ _ ((rd_T34 l1 x5_1).f3) ((rd_T34 l1 x5_1).f4) _ _ ((rd_T34 l1 x5_1).f5) true _ ?side1 ?side2 ?side3 ?side4 ?side5 ?side6 ?side7 ?side8 A7.out).mono ?_;(case side1=>repeat (first|exact (Kd.C_below HR453_3.out HB.out)|(with_reducible refine Kd.C_alloc ?_ _)|(with_reducible refine Kd.C_drewN ?_ _)|(with_reducible refine Kd.C_drew ?_)));(case side2=>exact HC453_3.out);(case side3=>repeat (first|exact (Kd.C_below HR453_5.out HB.out)|(with_reducible refine Kd.C_alloc ?_ _)|(with_reducible refine Kd.C_drewN ?_ _)|(with_reducible refine Kd.C_drew ?_)));(case side4=>exact HC453_5.out);(case side5=>repeat (first|exact (Kd.C_below HR454_3.out HB.out)|(with_reducible refine Kd.C_alloc ?_ _)|(with_reducible refine Kd.C_drewN ?_ _)|(with_reducible refine Kd.C_drew ?_)));(case side6=>exact HC454_3.out);(case side7=>repeat (first|exact (Kd.C_below HR454_5.out HB.out)|(with_reducible refine Kd.C_alloc ?_ _)|(with_reducible refine Kd.C_drewN ?_ _)|(with_reducible refine Kd.C_drew ?_)));(case side8=>exact HC454_5.out);rintro e w10 ⟨rfl,hb⟩;refine ⟨_,rfl,?_⟩;have n0_:=zzm (zzp zzh1 hb);clear HB;have HB:=n0_;clear n0_;(try clear hb);(try clear hb2);(try clear hk);(try clear hi);refine hK.out _ _ ⟨(zzx HB.out hw453_0),(zzx HB.out hw453_1),(zzx HB.out hw453_2),(zzx HB.out hw453_3),(zzx HB.out hw453_4),(zzx HB.out hw453_5),(zzx HB.out hw454_0),(zzx HB.out hw454_1),(zzx HB.out hw454_2),(zzx HB.out hw454_3),(zzx HB.out hw454_4),(zzx HB.out hw454_5)⟩ (fun hHeld=>?_);clear hK K;refine norm_ (a':=?_) ?_ ?_;rotate_left
        ·
         show Act.put _ (some 25) _ = _;simp only [Act.put,zzq,zzr,zzs,i64_w,i32_w];rfl
        refine pure_ (i:=9) (N:=some 26) (v:=?_) (a':=?_) (zzB 10 1023) rfl rfl (zzA2 HT_.out) (fun _ _ _ h=>h) (Or.inl ⟨by rfl,?_⟩) ?_ ?_;rotate_left
        ·
         intro w';go_simp;with_reducible rfl
        rotate_left
        ·
         simp only [Act.put,zzq,zzr,zzs,i64_w,i32_w];rfl
        refine done_ (done_of HT_.out (by kernel_rfl)) ?_;try go_wp2
        go_roundg k1
        case measure=>have:=HK1.out;omega
        case rel=>exact ⟨(wrap64 (x5_1+1)),(by first|rfl|(simp;done)|(simp [*];done)),H',⟨by have:=HK1.out;omega⟩,⟨zzh1⟩⟩
       ·
        replace c8:=Bool.eq_false_iff.mpr c8;subst c8;have H1:(some false)=some r:=by rw [if_neg (show ¬ (false=true) by decide)] at H;exact H
        clear H;have H:=H1;clear H1;obtain rfl:=Option.some.inj H;try go_wp2
        have n0_:=zzm (zzc HB.out);clear HB;have HB:=n0_;clear n0_;have p453 : 0≤(x5_1:Int):=zzt;have q453:x5_1 < (l0.length:Int):=zzt;obtain ⟨ad453,A453_3,c453_3,A453_5,c453_5,e453,hx453_0,hx453_1,hx453_2,hx453_3,hx453_4,hx453_5,hl453_3,hi453_3,hl453_5,hi453_5⟩:=at_T34 HR0.out x5_1 p453 q453;have hw453_5:=hx453_5;have hw453_4:=hx453_4;have hw453_3:=hx453_3;have hw453_2:=hx453_2;have hw453_1:=hx453_1;have hw453_0:=hx453_0;cases e453;replace hx453_0:=zzx HB.out hx453_0;replace hx453_1:=zzx HB.out hx453_1;replace hx453_2:=zzx HB.out hx453_2;replace hx453_3:=zzx HB.out hx453_3;replace hx453_4:=zzx HB.out hx453_4;replace hx453_5:=zzx HB.out hx453_5;have HR453_3:=zzm hi453_3;have HC453_3:=zzm hl453_3;clear hi453_3 hl453_3;have HR453_5:=zzm hi453_5;have HC453_5:=zzm hl453_5;clear hi453_5 hl453_5;replace p453:=eq_true p453;replace q453:=eq_true q453;have p454 : 0≤(x5_1:Int):=zzt;have q454:x5_1 < (l1.length:Int):=zzt;obtain ⟨ad454,A454_3,c454_3,A454_5,c454_5,e454,hx454_0,hx454_1,hx454_2,hx454_3,hx454_4,hx454_5,hl454_3,hi454_3,hl454_5,hi454_5⟩:=at_T34 HR1.out x5_1 p454 q454;have hw454_5:=hx454_5;have hw454_4:=hx454_4;have hw454_3:=hx454_3;have hw454_2:=hx454_2;have hw454_1:=hx454_1;have hw454_0:=hx454_0;cases e454;replace hx454_0:=zzx HB.out hx454_0;replace hx454_1:=zzx HB.out hx454_1;replace hx454_2:=zzx HB.out hx454_2;replace hx454_3:=zzx HB.out hx454_3;replace hx454_4:=zzx HB.out hx454_4;replace hx454_5:=zzx HB.out hx454_5;have HR454_3:=zzm hi454_3;have HC454_3:=zzm hl454_3;clear hi454_3 hl454_3;have HR454_5:=zzm hi454_5;have HC454_5:=zzm hl454_5;clear hi454_5 hl454_5;replace p454:=eq_true p454;replace q454:=eq_true q454;refine start_ (n:=10) (S:=fun w'=>w'.cell? (ad453.add ((x5_1).toNat * 6))=some (.int .i64 ((rd_T34 l0 x5_1).f0))∧w'.cell? ⟨(ad453.add ((x5_1).toNat * 6)).block,(ad453.add ((x5_1).toNat * 6)).off+1,none⟩=some (.int .i64 ((rd_T34 l0 x5_1).f1))∧w'.cell? ⟨(ad453.add ((x5_1).toNat * 6)).block,(ad453.add ((x5_1).toNat * 6)).off+2,none⟩=some (.bool ((rd_T34 l0 x5_1).f2))∧w'.cell? ⟨(ad453.add ((x5_1).toNat * 6)).block,(ad453.add ((x5_1).toNat * 6)).off+3,none⟩=some (.slice A453_3 ((rd_T34 l0 x5_1).f3).length c453_3)∧w'.cell? ⟨(ad453.add ((x5_1).toNat * 6)).block,(ad453.add ((x5_1).toNat * 6)).off+4,none⟩=some (.bool ((rd_T34 l0 x5_1).f4))∧w'.cell? ⟨(ad453.add ((x5_1).toNat * 6)).block,(ad453.add ((x5_1).toNat * 6)).off+5,none⟩=some (.slice A453_5 ((rd_T34 l0 x5_1).f5).length c453_5)∧w'.cell? (ad454.add ((x5_1).toNat * 6))=some (.int .i64 ((rd_T34 l1 x5_1).f0))∧w'.cell? ⟨(ad454.add ((x5_1).toNat * 6)).block,(ad454.add ((x5_1).toNat * 6)).off+1,none⟩=some (.int .i64 ((rd_T34 l1 x5_1).f1))∧w'.cell? ⟨(ad454.add ((x5_1).toNat * 6)).block,(ad454.add ((x5_1).toNat * 6)).off+2,none⟩=some (.bool ((rd_T34 l1 x5_1).f2))∧w'.cell? ⟨(ad454.add ((x5_1).toNat * 6)).block,(ad454.add ((x5_1).toNat * 6)).off+3,none⟩=some (.slice A454_3 ((rd_T34 l1 x5_1).f3).length c454_3)∧w'.cell? ⟨(ad454.add ((x5_1).toNat * 6)).block,(ad454.add ((x5_1).toNat * 6)).off+4,none⟩=some (.bool ((rd_T34 l1 x5_1).f4))∧w'.cell? ⟨(ad454.add ((x5_1).toNat * 6)).block,(ad454.add ((x5_1).toNat * 6)).off+5,none⟩=some (.slice A454_5 ((rd_T34 l1 x5_1).f5).length c454_5)) (ds:=[]) (zzB 10 0) (by kernel_rfl) rfl rfl ⟨(zzx HB.out hw453_0),(zzx HB.out hw453_1),(zzx HB.out hw453_2),(zzx HB.out hw453_3),(zzx HB.out hw453_4),(zzx HB.out hw453_5),(zzx HB.out hw454_0),(zzx HB.out hw454_1),(zzx HB.out hw454_2),(zzx HB.out hw454_3),(zzx HB.out hw454_4),(zzx HB.out hw454_5)⟩ (fun hHeld=>?_);refine with_tabW laws_sameRecords.tab6 laws_sameRecords.bits6 (fun HT_ HW_=>?_);generalize wr.drew=w11 at HB HR453_3 HR453_5 HR454_3 HR454_5 hx453_0 hx453_1 hx453_2 hx453_3 hx453_4 hx453_5 hx454_0 hx454_1 hx454_2 hx454_3 hx454_4 hx454_5 hHeld ⊢;refine pure_ (i:=0) (N:=some 17) (v:=?_) (a':=?_) (zzB 10 1) rfl rfl (zzA2 HT_.out) (fun _ _ _ h=>h) (Or.inl ⟨by rfl,?_⟩) ?_ ?_;rotate_left
        ·
         intro w';go_simp;with_reducible rfl
        rotate_left
        ·
         simp only [Act.put,zzq,zzr,zzs,i64_w,i32_w];rfl
        refine pure_ (i:=1) (N:=some 18) (v:=?_) (a':=?_) (zzB 10 3) rfl rfl (zzA2 HT_.out) (fun _ _ _ h=>h) (Or.inl ⟨by rfl,?_⟩) ?_ ?_;rotate_left
        ·
         intro w';go_simp;with_reducible rfl
        rotate_left
        ·
         simp only [Act.put,zzq,zzr,zzs,i64_w,i32_w];rfl
        refine pure_ (i:=2) (N:=some 19) (v:=?_) (a':=?_) (zzB 10 7) rfl rfl (zzA2 HT_.out) (fun _ _ _ h=>h) (Or.inl ⟨by rfl,?_⟩) ?_ ?_;rotate_left
        ·
         intro w';go_simp;with_reducible rfl
        rotate_left
        ·
         simp only [Act.put,zzq,zzr,zzs,i64_w,i32_w];rfl
        refine pure_ (i:=4) (N:=some 21) (v:=?_) (a':=?_) (zzB 10 23) rfl rfl (zzA2 HT_.out) (fun _ _ _ h=>h) (Or.inl ⟨by rfl,?_⟩) ?_ ?_;rotate_left
        ·
         intro w';go_simp;with_reducible rfl
        rotate_left
        ·
         simp only [Act.put,zzq,zzr,zzs,i64_w,i32_w];rfl
        refine pure_ (i:=5) (N:=some 22) (v:=?_) (a':=?_) (zzB 10 55) rfl rfl (zzA2 HT_.out) (fun _ _ _ h=>h) (Or.inl ⟨by rfl,?_⟩) ?_ ?_;rotate_left
        ·
         intro w';go_simp;with_reducible rfl
        rotate_left
        ·
         simp only [Act.put,zzq,zzr,zzs,i64_w,i32_w];rfl
        refine pure_ (i:=6) (N:=some 23) (v:=?_) (a':=?_) (zzB 10 119) rfl rfl (zzA2 HT_.out) (fun _ _ _ h=>h) (Or.inl ⟨by rfl,?_⟩) ?_ ?_;rotate_left
        ·
         intro w';go_simp;with_reducible rfl
        rotate_left
        ·
         simp only [Act.put,zzq,zzr,zzs,i64_w,i32_w];rfl
        refine take_ (i:=3) (N:=some 20) (v:=?_) (a':=?_) (zzB 10 127) rfl rfl (take_ofW HT_.out HW_.out (by kernel_rfl)) (fun _ _ _ h=>h) (Or.inl ⟨by rfl,?_⟩) hHeld ?_ ?_;rotate_left
        ·
         rintro w' ⟨s0,s1,s2,s3,s4,s5,s6,s7,s8,s9,s10,s11⟩;go_simp;with_reducible rfl
        rotate_left
        ·
         simp only [Act.put,zzq,zzr,zzs,i64_w,i32_w];rfl
        refine take_ (i:=7) (N:=some 24) (v:=?_) (a':=?_) (zzB 10 255) rfl rfl (take_ofW HT_.out HW_.out (by kernel_rfl)) (fun _ _ _ h=>h) (Or.inl ⟨by rfl,?_⟩) hHeld ?_ ?_;rotate_left
        ·
         rintro w' ⟨s0,s1,s2,s3,s4,s5,s6,s7,s8,s9,s10,s11⟩;go_simp;with_reducible rfl
        rotate_left
        ·
         simp only [Act.put,zzq,zzr,zzs,i64_w,i32_w];rfl
        refine one_ (i:=8) (N:=some 25) (zzB 10 511) rfl rfl (one_of HT_.out (by kernel_rfl)) (by decide) (fun K hK=>?_);refine goes_ Try.func23 (by kernel_rfl) rfl #[.agg #[.int .i64 ((rd_T34 l0 x5_1).f0),.int .i64 ((rd_T34 l0 x5_1).f1),.bool ((rd_T34 l0 x5_1).f2),.slice A453_3 ((rd_T34 l0 x5_1).f3).length c453_3,.bool ((rd_T34 l0 x5_1).f4),.slice A453_5 ((rd_T34 l0 x5_1).f5).length c453_5],.agg #[.int .i64 ((rd_T34 l1 x5_1).f0),.int .i64 ((rd_T34 l1 x5_1).f1),.bool ((rd_T34 l1 x5_1).f2),.slice A454_3 ((rd_T34 l1 x5_1).f3).length c454_3,.bool ((rd_T34 l1 x5_1).f4),.slice A454_5 ((rd_T34 l1 x5_1).f5).length c454_5]] (by rfl) rfl rfl zzM2 ?_;with_reducible refine (laws_sameRecord.calls k1 ((rd_T34 l0 x5_1).f0) ((rd_T34 l0 x5_1).f1) ((rd_T34 l0 x5_1).f2) _ _ ((rd_T34 l0 x5_1).f3) ((rd_T34 l0 x5_1).f4) _ _ ((rd_T34 l0 x5_1).f5) ((rd_T34 l1 x5_1).f0) ((rd_T34 l1 x5_1).f1) ((rd_T34 l1 x5_1).f2) _ _ ((rd_T34 l1 x5_1).f3) ((rd_T34 l1 x5_1).f4) _ _ ((rd_T34 l1 x5_1).f5) false _ ?side1 ?side2 ?side3 ?side4 ?side5 ?side6 ?side7 ?side8 A7.out).mono ?_;(case side1=>repeat (first|exact (Kd.C_below HR453_3.out HB.out)|(with_reducible refine Kd.C_alloc ?_ _)|(with_reducible refine Kd.C_drewN ?_ _)|(with_reducible refine Kd.C_drew ?_)));(case side2=>exact HC453_3.out);(case side3=>repeat (first|exact (Kd.C_below HR453_5.out HB.out)|(with_reducible refine Kd.C_alloc ?_ _)|(with_reducible refine Kd.C_drewN ?_ _)|(with_reducible refine Kd.C_drew ?_)));(case side4=>exact HC453_5.out);(case side5=>repeat (first|exact (Kd.C_below HR454_3.out HB.out)|(with_reducible refine Kd.C_alloc ?_ _)|(with_reducible refine Kd.C_drewN ?_ _)|(with_reducible refine Kd.C_drew ?_)));(case side6=>exact HC454_3.out);(case side7=>repeat (first|exact (Kd.C_below HR454_5.out HB.out)|(with_reducible refine Kd.C_alloc ?_ _)|(with_reducible refine Kd.C_drewN ?_ _)|(with_reducible refine Kd.C_drew ?_)));(case side8=>exact HC454_5.out);rintro e w12 ⟨rfl,hb⟩;refine ⟨_,rfl,?_⟩;have n0_:=zzm (zzp zzh1 hb);clear HB;have HB:=n0_;clear n0_;(try clear hb);(try clear hb2);(try clear hk);(try clear hi);refine hK.out _ _ ⟨(zzx HB.out hw453_0),(zzx HB.out hw453_1),(zzx HB.out hw453_2),(zzx HB.out hw453_3),(zzx HB.out hw453_4),(zzx HB.out hw453_5),(zzx HB.out hw454_0),(zzx HB.out hw454_1),(zzx HB.out hw454_2),(zzx HB.out hw454_3),(zzx HB.out hw454_4),(zzx HB.out hw454_5)⟩ (fun hHeld=>?_);clear hK K;refine norm_ (a':=?_) ?_ ?_;rotate_left
        ·
         show Act.put _ (some 25) _ = _;simp only [Act.put,zzq,zzr,zzs,i64_w,i32_w];rfl
        refine pure_ (i:=9) (N:=some 26) (v:=?_) (a':=?_) (zzB 10 1023) rfl rfl (zzA2 HT_.out) (fun _ _ _ h=>h) (Or.inl ⟨by rfl,?_⟩) ?_ ?_;rotate_left
        ·
         intro w';go_simp;with_reducible rfl
        rotate_left
        ·
         simp only [Act.put,zzq,zzr,zzs,i64_w,i32_w];rfl
        refine done_ (done_of HT_.out (by kernel_rfl)) ?_;try go_wp2
        go_ret;exact ⟨by first|rfl|(simp [errW_none,errW_some] <;> rfl)|(simp [*,errW_none,errW_some] <;> rfl),zzh1⟩
      ·
       rw [if_neg c6] at H;exact absurd H (by simp)
     ·
      rw [if_neg c5] at H;exact absurd H (by simp)
    ·
     rw [if_neg c4] at H;have c4b0:decide (x5_1 < (l0.length:Int))=false:=decide_eq_false c4;clear c4;obtain rfl:=Option.some.inj H;go_wp2;go_ret;exact ⟨by first|rfl|(simp [errW_none,errW_some] <;> rfl)|(simp [*,errW_none,errW_some] <;> rfl),zzh1⟩
 ·
  rw [if_neg c3] at H;have c3b0:((l0.length:Int)==(l1.length:Int))=false:=beq_eq_false_iff_ne.mpr c3;have c3b1:((l0.length:Int) != (l1.length:Int))=true:=bne_iff_ne.mpr c3;have c3b2:(l0.length==l1.length)=false:=by first|simpa using c3|(simp at c3 ⊢;omega)
  obtain rfl:=Option.some.inj H;go_enter Try.func36,Try.ntmps36;go_wp2;go_ret;exact ⟨by first|rfl|(simp [errW_none,errW_some] <;> rfl)|(simp [*,errW_none,errW_some] <;> rfl),zzh1⟩
def spec_l12Last.f (a0_0:Bool) (a0_1:Bool) (a0_2:Int) (a0_3:Int) (a0_4:Int) (l0_5:List (S34)):Option (Int):=if 0≤(wrap64 ((l0_5.length:Int) - 1)) then (if (wrap64 ((l0_5.length:Int) - 1)) < (l0_5.length:Int) then (some ((rd_T34 l0_5 (wrap64 ((l0_5.length:Int) - 1))).f0)) else (none)) else (none)
set_option maxHeartbeats 8000000 in
set_option maxRecDepth 100000 in
theorem spec_l12Last.calls (a0_0:Bool) (a0_1:Bool) (a0_2:Int) (a0_3:Int) (a0_4:Int) (A0_5:Option Addr) (c0_5:Nat) (l0_5:List (S34)) (r:Int) (w:World) (hr0_5:Kd.C k34 w A0_5 l0_5.length l0_5) (hc0_5:l0_5.length≤c0_5) (h:spec_l12Last.f a0_0 a0_1 a0_2 a0_3 a0_4 l0_5=some r) :
  Calls Try.prog 76 #[.agg #[.bool a0_0,.bool a0_1,.int .i64 a0_2,.int .i64 a0_3,.int .i64 a0_4,.slice A0_5 l0_5.length c0_5]] w fun e w'=>e = .returned (.int .i64 r)∧Below w.heap.size w w':=by
 have hu27:=Try.underlying27;have HR0_5:=zzm hr0_5;have HC0_5:=zzm hc0_5;clear hr0_5 hc0_5;have HB:=zzm (Below.refl w.heap.size w);have H:(if 0≤(wrap64 ((l0_5.length:Int) - 1)) then (if (wrap64 ((l0_5.length:Int) - 1)) < (l0_5.length:Int) then (some ((rd_T34 l0_5 (wrap64 ((l0_5.length:Int) - 1))).f0)) else (none)) else (none))=some r:=h;clear h;obtain ⟨ji2,hji2⟩:∃ j_:Int,(wrap64 ((l0_5.length:Int) - 1))=j_:=⟨_,rfl⟩;replace H:(if 0≤(ji2) then (if (ji2) < (l0_5.length:Int) then (some ((rd_T34 l0_5 (ji2)).f0)) else (none)) else (none))=some r:=by first|(rw [hji2] at H;exact H)|(simp only [hji2] at H ⊢;exact H)
 have hji2w:(IntKind.i64.wrap ((l0_5.length:Int) - 1))=ji2:=(i64_w _).trans hji2;by_cases c3 : 0≤(ji2)
 ·
  rw [if_pos c3] at H;have c3b0:decide (0≤(ji2))=true:=decide_eq_true c3;clear c3;by_cases c4:(ji2) < (l0_5.length:Int)
  ·
   rw [if_pos c4] at H;have c4b0:decide ((ji2) < (l0_5.length:Int))=true:=decide_eq_true c4;clear c4;obtain rfl:=Option.some.inj H;go_enter Try.func76,Try.ntmps76;go_wp2_with (first|((with_reducible refine gate_dst (N:=1) rfl ?_);refine box_event ?hg (N:=1) ?hd (cs:=#[.bool a0_0,.bool a0_1,.int .i64 a0_2,.int .i64 a0_3,.int .i64 a0_4,.slice A0_5 l0_5.length c0_5]) (t:=27) ?hr ?_;(case hd=>rfl);(case hg=>rfl);(case hr=>first|(go_simp;done)|(go_simp;rfl));intro gb297 hg w5 hbox hb;have n0_:=zzm (zzp zzh1 hb);have n1_:=zzm (hbox);have n2_:=zzm ((by rw [hg];exact (zzo zzh1):w.heap.size≤gb297));have n3_:=zzm ((by rw [hg];exact (zzo zzh1):w.heap.size≤gb297));clear HB;have HB:=n0_;have BK297:=n1_;have GW297:=n2_;have GE297:=n3_;clear n0_ n1_ n2_ n3_ hb hbox hg;obtain ⟨hcz6_0,hcz6_1,hcz6_2,hcz6_3,hcz6_4,hcz6_5,hfz6_0,hfz6_1,hfz6_2,hfz6_3,hfz6_4,hfz6_5⟩:=zzc6 BK297.out;have p298 : 0≤((ji2):Int):=zzt;have q298:(ji2) < (l0_5.length:Int):=zzt;obtain ⟨ad298,A298_3,c298_3,A298_5,c298_5,e298,hx298_0,hx298_1,hx298_2,hx298_3,hx298_4,hx298_5,hl298_3,hi298_3,hl298_5,hi298_5⟩:=at_T34 HR0_5.out (ji2) p298 q298;cases e298;replace hx298_0:=zzx HB.out hx298_0;replace hx298_1:=zzx HB.out hx298_1;replace hx298_2:=zzx HB.out hx298_2;replace hx298_3:=zzx HB.out hx298_3;replace hx298_4:=zzx HB.out hx298_4;replace hx298_5:=zzx HB.out hx298_5;have HR298_3:=zzm hi298_3;have HC298_3:=zzm hl298_3;clear hi298_3 hl298_3;have HR298_5:=zzm hi298_5;have HC298_5:=zzm hl298_5;clear hi298_5 hl298_5;replace p298:=eq_true p298;replace q298:=eq_true q298));go_ret;exact ⟨by first|rfl|(simp [errW_none,errW_some] <;> rfl)|(simp only [← hji2];first|rfl|(simp [errW_none,errW_some] <;> rfl))|(simp [*,errW_none,errW_some] <;> rfl),by repeat (first|(with_reducible first|exact HB.out|apply zza|apply zzb|apply zzc|refine zzd ?_ GE297.out)|exact HB.out)⟩
  ·
   rw [if_neg c4] at H;exact absurd H (by simp)
 ·
  rw [if_neg c3] at H;exact absurd H (by simp)
def spec_LogValid.l0:Nat→List (S27)→Int→Option (Bool)
 | 0,_,_=>none
 | k+1,x0,x3=>if x3 < (x0.length:Int) then (if 0≤x3 then ((spec_BatchValid.f k ((rd_T27 x0 x3).f0) ((rd_T27 x0 x3).f1) ((rd_T27 x0 x3).f2) ((rd_T27 x0 x3).f3) ((rd_T27 x0 x3).f4) ((rd_T27 x0 x3).f5)).bind fun t300=>(if t300=true then (if x3 > 0 then (if 0≤(wrap64 (x3 - 1)) then (if (wrap64 (x3 - 1)) < (x0.length:Int) then ((spec_l12Last.f ((rd_T27 x0 (wrap64 (x3 - 1))).f0) ((rd_T27 x0 (wrap64 (x3 - 1))).f1) ((rd_T27 x0 (wrap64 (x3 - 1))).f2) ((rd_T27 x0 (wrap64 (x3 - 1))).f3) ((rd_T27 x0 (wrap64 (x3 - 1))).f4) ((rd_T27 x0 (wrap64 (x3 - 1))).f5)).bind fun t302=>(if 0 < (((rd_T27 x0 x3).f5).length:Int) then (if t302 ≥ ((rd_T34 ((rd_T27 x0 x3).f5) 0).f0) then (some false) else (spec_LogValid.l0 k x0 (wrap64 (x3+1)))) else (none))) else (none)) else (none)) else (spec_LogValid.l0 k x0 (wrap64 (x3+1)))) else (some false))) else (none)) else (some (decide ((x0.length:Int)≤8)))
def spec_LogValid.f (k:Nat) (l0:List (S27)):Option (Bool):=spec_LogValid.l0 k l0 0
def spec_LogValid.T4:Bool×List (List Nat×List Nat):=(true,[([],[]),([],[]),([0,1],[0,1]),([2],[2]),([3],[3]),([4],[4]),([5,4],[5]),([6],[6]),([7,6],[6,7]),([8,6,6],[6,8]),([9],[9]),([9],[9]),([11,9],[9,11]),([10,12,9],[9,10,12]),([13,9],[9,13]),([14,9,9],[9,14]),([9],[9]),([9],[9]),([16,17,9],[9,16,17]),([18,9],[9,18]),([19,9],[9,19]),([20,9],[9,20]),([21,9],[9,21]),([22,9],[9,22]),([15,23,9],[9,15,23]),([9,24,6],[6,9,24]),([6,25],[6,25])])
def spec_LogValid.B4:List Nat:=[0,0,3,7,15,31,63,127,255,511,1023,1023,3071,8191,16383,32767,1023,1023,197631,459775,984063,2032639,4129791,8324095,16777215,33554431,67108863]
theorem spec_LogValid.tab4:rtab .any (opsOf Try.f44 4)=spec_LogValid.T4:=by kernel_rfl
theorem spec_LogValid.bits4:waitsOk spec_LogValid.T4.2 spec_LogValid.B4=true:=by kernel_rfl
set_option maxHeartbeats 8000000 in
set_option maxRecDepth 100000 in
theorem spec_LogValid.calls (k:Nat) (A0:Option Addr) (c0:Nat) (l0:List (S27)) (r:Bool) (w:World) (hr0:Kd.C k27 w A0 l0.length l0) (hc0:l0.length≤c0) (h:spec_LogValid.f k l0=some r) :
  Calls Try.prog 44 #[.slice A0 l0.length c0] w fun e w'=>e = .returned (.bool r)∧Below w.heap.size w w':=by
 have hu27:=Try.underlying27;have HR0:=zzm hr0;have HC0:=zzm hc0;clear hr0 hc0;have HB:=zzm (Below.refl w.heap.size w);have H:(spec_LogValid.l0 k l0 0)=some r:=h;clear h;have H':=zzm H;clear H;go_enter Try.func44,Try.ntmps44;go_wp2;go_loopg [3] k (fun kq v3 w'=>∃ (x3_1:Int),v3 = .int .i64 x3_1∧Aside0 (spec_LogValid.l0 kq l0 x3_1=some r)∧Aside0 (kq≤k)∧Aside0 (Below w.heap.size w w'))
 case atStart=>exact ⟨(0),(by first|rfl|(simp;done)|(simp [*];done)),H',⟨Nat.le_refl _⟩,⟨zzh1⟩⟩
 case round=>
  clear H';obtain ⟨x3_1,rfl,HA,HK1,HB⟩:=hrel;cases gk with
  | zero=>exact absurd HA.out (by simp [spec_LogValid.l0])
  | succ k1=>
   have H:=HA.out;clear HA;simp only [spec_LogValid.l0] at H;by_cases c2:x3_1 < (l0.length:Int)
   ·
    rw [if_pos c2] at H;have c2b0:decide (x3_1 < (l0.length:Int))=true:=decide_eq_true c2;clear c2;by_cases c3 : 0≤x3_1
    ·
     rw [if_pos c3] at H;have c3b0:decide (0≤x3_1)=true:=decide_eq_true c3;clear c3;replace H:=Option.bind_eq_some_iff.mp H;obtain ⟨t300,A40,H⟩:=H;replace H:(if t300=true then (if x3_1 > 0 then (if 0≤(wrap64 (x3_1 - 1)) then (if (wrap64 (x3_1 - 1)) < (l0.length:Int) then ((spec_l12Last.f ((rd_T27 l0 (wrap64 (x3_1 - 1))).f0) ((rd_T27 l0 (wrap64 (x3_1 - 1))).f1) ((rd_T27 l0 (wrap64 (x3_1 - 1))).f2) ((rd_T27 l0 (wrap64 (x3_1 - 1))).f3) ((rd_T27 l0 (wrap64 (x3_1 - 1))).f4) ((rd_T27 l0 (wrap64 (x3_1 - 1))).f5)).bind fun t302=>(if 0 < (((rd_T27 l0 x3_1).f5).length:Int) then (if t302 ≥ ((rd_T34 ((rd_T27 l0 x3_1).f5) 0).f0) then (some false) else (spec_LogValid.l0 k1 l0 (wrap64 (x3_1+1)))) else (none))) else (none)) else (none)) else (spec_LogValid.l0 k1 l0 (wrap64 (x3_1+1)))) else (some false))=some r:=H;have A4:=zzm A40;clear A40;by_cases c5:t300=true
     ·
      subst c5;have H1:(if x3_1 > 0 then (if 0≤(wrap64 (x3_1 - 1)) then (if (wrap64 (x3_1 - 1)) < (l0.length:Int) then ((spec_l12Last.f ((rd_T27 l0 (wrap64 (x3_1 - 1))).f0) ((rd_T27 l0 (wrap64 (x3_1 - 1))).f1) ((rd_T27 l0 (wrap64 (x3_1 - 1))).f2) ((rd_T27 l0 (wrap64 (x3_1 - 1))).f3) ((rd_T27 l0 (wrap64 (x3_1 - 1))).f4) ((rd_T27 l0 (wrap64 (x3_1 - 1))).f5)).bind fun t302=>(if 0 < (((rd_T27 l0 x3_1).f5).length:Int) then (if t302 ≥ ((rd_T34 ((rd_T27 l0 x3_1).f5) 0).f0) then (some false) else (spec_LogValid.l0 k1 l0 (wrap64 (x3_1+1)))) else (none))) else (none)) else (none)) else (spec_LogValid.l0 k1 l0 (wrap64 (x3_1+1))))=some r:=by rw [if_pos rfl] at H;exact H
      clear H;have H:=H1;clear H1;by_cases c6:x3_1 > 0
      ·
       rw [if_pos c6] at H;have c6b0:decide (0 < x3_1)=true:=decide_eq_true c6;clear c6;obtain ⟨ji7,hji7⟩:∃ j_:Int,(wrap64 (x3_1 - 1))=j_:=⟨_,rfl⟩;replace H:(if 0≤(ji7) then (if (ji7) < (l0.length:Int) then ((spec_l12Last.f ((rd_T27 l0 (ji7)).f0) ((rd_T27 l0 (ji7)).f1) ((rd_T27 l0 (ji7)).f2) ((rd_T27 l0 (ji7)).f3) ((rd_T27 l0 (ji7)).f4) ((rd_T27 l0 (ji7)).f5)).bind fun t302=>(if 0 < (((rd_T27 l0 x3_1).f5).length:Int) then (if t302 ≥ ((rd_T34 ((rd_T27 l0 x3_1).f5) 0).f0) then (some false) else (spec_LogValid.l0 k1 l0 (wrap64 (x3_1+1)))) else (none))) else (none)) else (none))=some r:=by first|(rw [hji7] at H;exact H)|(simp only [hji7] at H ⊢;exact H)
       (try rw [hji7] at A4);have hji7w:(IntKind.i64.wrap (x3_1 - 1))=ji7:=(i64_w _).trans hji7;by_cases c8 : 0≤(ji7)
       ·
        rw [if_pos c8] at H;have c8b0:decide (0≤(ji7))=true:=decide_eq_true c8;clear c8;by_cases c9:(ji7) < (l0.length:Int)
        ·
         rw [if_pos c9] at H;have c9b0:decide ((ji7) < (l0.length:Int))=true:=decide_eq_true c9;clear c9;replace H:=Option.bind_eq_some_iff.mp H;obtain ⟨t302,A100,H⟩:=H;replace H:(if 0 < (((rd_T27 l0 x3_1).f5).length:Int) then (if t302 ≥ ((rd_T34 ((rd_T27 l0 x3_1).f5) 0).f0) then (some false) else (spec_LogValid.l0 k1 l0 (wrap64 (x3_1+1)))) else (none))=some r:=H;have A10:=zzm A100;clear A100;by_cases c11 : 0 < (((rd_T27 l0 x3_1).f5).length:Int)
         ·
          rw [if_pos c11] at H;have c11b0:decide (0 < (((rd_T27 l0 x3_1).f5).length:Int))=true:=decide_eq_true c11;have c11b1:decide (0 < ((rd_T27 l0 x3_1).f5).length)=true:=decide_eq_true (by omega);clear c11;by_cases c12:t302 ≥ ((rd_T34 ((rd_T27 l0 x3_1).f5) 0).f0)
          ·
           rw [if_pos c12] at H;have c12b0:decide (((rd_T34 ((rd_T27 l0 x3_1).f5) 0).f0)≤t302)=true:=decide_eq_true c12;clear c12;obtain rfl:=Option.some.inj H;try go_wp2
           have n0_:=zzm (zzc HB.out);clear HB;have HB:=n0_;clear n0_;have p299 : 0≤(x3_1:Int):=zzt;have q299:x3_1 < (l0.length:Int):=zzt;obtain ⟨ad299,A299_5,c299_5,e299,hx299_0,hx299_1,hx299_2,hx299_3,hx299_4,hx299_5,hl299_5,hi299_5⟩:=at_T27 HR0.out x3_1 p299 q299;have hw299_5:=hx299_5;have hw299_4:=hx299_4;have hw299_3:=hx299_3;have hw299_2:=hx299_2;have hw299_1:=hx299_1;have hw299_0:=hx299_0;cases e299;replace hx299_0:=zzx HB.out hx299_0;replace hx299_1:=zzx HB.out hx299_1;replace hx299_2:=zzx HB.out hx299_2;replace hx299_3:=zzx HB.out hx299_3;replace hx299_4:=zzx HB.out hx299_4;replace hx299_5:=zzx HB.out hx299_5;have HR299_5:=zzm hi299_5;have HC299_5:=zzm hl299_5;clear hi299_5 hl299_5;replace p299:=eq_true p299;replace q299:=eq_true q299;have p301 : 0≤((ji7):Int):=zzt;have q301:(ji7) < (l0.length:Int):=zzt;obtain ⟨ad301,A301_5,c301_5,e301,hx301_0,hx301_1,hx301_2,hx301_3,hx301_4,hx301_5,hl301_5,hi301_5⟩:=at_T27 HR0.out (ji7) p301 q301;have hw301_5:=hx301_5;have hw301_4:=hx301_4;have hw301_3:=hx301_3;have hw301_2:=hx301_2;have hw301_1:=hx301_1;have hw301_0:=hx301_0;obtain rfl:ad299=ad301:=(by injection e301);replace hx301_0:=zzx HB.out hx301_0;replace hx301_1:=zzx HB.out hx301_1;replace hx301_2:=zzx HB.out hx301_2;replace hx301_3:=zzx HB.out hx301_3;replace hx301_4:=zzx HB.out hx301_4;replace hx301_5:=zzx HB.out hx301_5;have HR301_5:=zzm hi301_5;have HC301_5:=zzm hl301_5;clear hi301_5 hl301_5;replace p301:=eq_true p301;replace q301:=eq_true q301;have p303 : 0≤(x3_1:Int):=zzt;have q303:x3_1 < (l0.length:Int):=zzt;obtain ⟨ad303,A303_5,c303_5,e303,hx303_0,hx303_1,hx303_2,hx303_3,hx303_4,hx303_5,hl303_5,hi303_5⟩:=at_T27 HR0.out x3_1 p303 q303;have hw303_5:=hx303_5;have hw303_4:=hx303_4;have hw303_3:=hx303_3;have hw303_2:=hx303_2;have hw303_1:=hx303_1;have hw303_0:=hx303_0;obtain rfl:ad299=ad303:=(by injection e303);replace hx303_0:=zzx HB.out hx303_0;replace hx303_1:=zzx HB.out hx303_1;replace hx303_2:=zzx HB.out hx303_2;replace hx303_3:=zzx HB.out hx303_3;replace hx303_4:=zzx HB.out hx303_4;replace hx303_5:=zzx HB.out hx303_5;have HR303_5:=zzm hi303_5;have HC303_5:=zzm hl303_5;clear hi303_5 hl303_5;replace p303:=eq_true p303;replace q303:=eq_true q303;have p304 : 0≤(0:Int):=(by omega);have q304 : 0 < (((rd_T27 l0 x3_1).f5).length:Int):=zzt;have eA_:A303_5=A299_5:=by have e_:=Option.some.inj (hw299_5.symm.trans hw303_5);injection e_ with e1_ _ e3_;exact e1_.symm
           have eC_:c303_5=c299_5:=by have e_:=Option.some.inj (hw299_5.symm.trans hw303_5);injection e_ with e1_ _ e3_;exact e3_.symm
           subst A303_5;subst c303_5;obtain ⟨ad304,A304_3,c304_3,A304_5,c304_5,e304,hx304_0,hx304_1,hx304_2,hx304_3,hx304_4,hx304_5,hl304_3,hi304_3,hl304_5,hi304_5⟩:=at_T34 HR303_5.out 0 p304 q304;have hw304_5:=hx304_5;(try rw [show ((0:Int)).toNat=0 from rfl] at hw304_5);(try rw [show 0 * 6=0 from rfl] at hw304_5);(try rw [Addr.add_zero'] at hw304_5);have hw304_4:=hx304_4;(try rw [show ((0:Int)).toNat=0 from rfl] at hw304_4);(try rw [show 0 * 6=0 from rfl] at hw304_4);(try rw [Addr.add_zero'] at hw304_4);have hw304_3:=hx304_3;(try rw [show ((0:Int)).toNat=0 from rfl] at hw304_3);(try rw [show 0 * 6=0 from rfl] at hw304_3);(try rw [Addr.add_zero'] at hw304_3);have hw304_2:=hx304_2;(try rw [show ((0:Int)).toNat=0 from rfl] at hw304_2);(try rw [show 0 * 6=0 from rfl] at hw304_2);(try rw [Addr.add_zero'] at hw304_2);have hw304_1:=hx304_1;(try rw [show ((0:Int)).toNat=0 from rfl] at hw304_1);(try rw [show 0 * 6=0 from rfl] at hw304_1);(try rw [Addr.add_zero'] at hw304_1);have hw304_0:=hx304_0;(try rw [show ((0:Int)).toNat=0 from rfl] at hw304_0);(try rw [show 0 * 6=0 from rfl] at hw304_0);(try rw [Addr.add_zero'] at hw304_0);cases e304;have qi304:(0 < ((rd_T27 l0 x3_1).f5).length)=True:=eq_true (by omega);(try rw [show ((0:Int)).toNat=0 from rfl] at hx304_0);(try rw [show 0 * 6=0 from rfl] at hx304_0);(try rw [Addr.add_zero'] at hx304_0);(try rw [show ((0:Int)).toNat=0 from rfl] at hx304_1);(try rw [show 0 * 6=0 from rfl] at hx304_1);(try rw [Addr.add_zero'] at hx304_1);(try rw [show ((0:Int)).toNat=0 from rfl] at hx304_2);(try rw [show 0 * 6=0 from rfl] at hx304_2);(try rw [Addr.add_zero'] at hx304_2);(try rw [show ((0:Int)).toNat=0 from rfl] at hx304_3);(try rw [show 0 * 6=0 from rfl] at hx304_3);(try rw [Addr.add_zero'] at hx304_3);(try rw [show ((0:Int)).toNat=0 from rfl] at hx304_4);(try rw [show 0 * 6=0 from rfl] at hx304_4);(try rw [Addr.add_zero'] at hx304_4);(try rw [show ((0:Int)).toNat=0 from rfl] at hx304_5);(try rw [show 0 * 6=0 from rfl] at hx304_5);(try rw [Addr.add_zero'] at hx304_5);replace hx304_0:=zzx HB.out hx304_0;replace hx304_1:=zzx HB.out hx304_1;replace hx304_2:=zzx HB.out hx304_2;replace hx304_3:=zzx HB.out hx304_3;replace hx304_4:=zzx HB.out hx304_4;replace hx304_5:=zzx HB.out hx304_5;have HR304_3:=zzm hi304_3;have HC304_3:=zzm hl304_3;clear hi304_3 hl304_3;have HR304_5:=zzm hi304_5;have HC304_5:=zzm hl304_5;clear hi304_5 hl304_5;replace p304:=eq_true p304;replace q304:=eq_true q304;refine start_ (n:=27) (S:=fun w'=>w'.cell? (ad299.add ((x3_1).toNat * 6))=some (.bool ((rd_T27 l0 x3_1).f0))∧w'.cell? ⟨(ad299.add ((x3_1).toNat * 6)).block,(ad299.add ((x3_1).toNat * 6)).off+1,none⟩=some (.bool ((rd_T27 l0 x3_1).f1))∧w'.cell? ⟨(ad299.add ((x3_1).toNat * 6)).block,(ad299.add ((x3_1).toNat * 6)).off+2,none⟩=some (.int .i64 ((rd_T27 l0 x3_1).f2))∧w'.cell? ⟨(ad299.add ((x3_1).toNat * 6)).block,(ad299.add ((x3_1).toNat * 6)).off+3,none⟩=some (.int .i64 ((rd_T27 l0 x3_1).f3))∧w'.cell? ⟨(ad299.add ((x3_1).toNat * 6)).block,(ad299.add ((x3_1).toNat * 6)).off+4,none⟩=some (.int .i64 ((rd_T27 l0 x3_1).f4))∧w'.cell? ⟨(ad299.add ((x3_1).toNat * 6)).block,(ad299.add ((x3_1).toNat * 6)).off+5,none⟩=some (.slice (some ad304) ((rd_T27 l0 x3_1).f5).length c299_5)∧w'.cell? (ad299.add (((ji7)).toNat * 6))=some (.bool ((rd_T27 l0 (ji7)).f0))∧w'.cell? ⟨(ad299.add (((ji7)).toNat * 6)).block,(ad299.add (((ji7)).toNat * 6)).off+1,none⟩=some (.bool ((rd_T27 l0 (ji7)).f1))∧w'.cell? ⟨(ad299.add (((ji7)).toNat * 6)).block,(ad299.add (((ji7)).toNat * 6)).off+2,none⟩=some (.int .i64 ((rd_T27 l0 (ji7)).f2))∧w'.cell? ⟨(ad299.add (((ji7)).toNat * 6)).block,(ad299.add (((ji7)).toNat * 6)).off+3,none⟩=some (.int .i64 ((rd_T27 l0 (ji7)).f3))∧w'.cell? ⟨(ad299.add (((ji7)).toNat * 6)).block,(ad299.add (((ji7)).toNat * 6)).off+4,none⟩=some (.int .i64 ((rd_T27 l0 (ji7)).f4))∧w'.cell? ⟨(ad299.add (((ji7)).toNat * 6)).block,(ad299.add (((ji7)).toNat * 6)).off+5,none⟩=some (.slice A301_5 ((rd_T27 l0 (ji7)).f5).length c301_5)∧w'.cell? (ad299.add ((x3_1).toNat * 6))=some (.bool ((rd_T27 l0 x3_1).f0))∧w'.cell? ⟨(ad299.add ((x3_1).toNat * 6)).block,(ad299.add ((x3_1).toNat * 6)).off+1,none⟩=some (.bool ((rd_T27 l0 x3_1).f1))∧w'.cell? ⟨(ad299.add ((x3_1).toNat * 6)).block,(ad299.add ((x3_1).toNat * 6)).off+2,none⟩=some (.int .i64 ((rd_T27 l0 x3_1).f2))∧w'.cell? ⟨(ad299.add ((x3_1).toNat * 6)).block,(ad299.add ((x3_1).toNat * 6)).off+3,none⟩=some (.int .i64 ((rd_T27 l0 x3_1).f3))∧w'.cell? ⟨(ad299.add ((x3_1).toNat * 6)).block,(ad299.add ((x3_1).toNat * 6)).off+4,none⟩=some (.int .i64 ((rd_T27 l0 x3_1).f4))∧w'.cell? ⟨(ad299.add ((x3_1).toNat * 6)).block,(ad299.add ((x3_1).toNat * 6)).off+5,none⟩=some (.slice (some ad304) ((rd_T27 l0 x3_1).f5).length c299_5)∧w'.cell? ad304=some (.int .i64 ((rd_T34 ((rd_T27 l0 x3_1).f5) 0).f0))∧w'.cell? ⟨ad304.block,ad304.off+1,none⟩=some (.int .i64 ((rd_T34 ((rd_T27 l0 x3_1).f5) 0).f1))∧w'.cell? ⟨ad304.block,ad304.off+2,none⟩=some (.bool ((rd_T34 ((rd_T27 l0 x3_1).f5) 0).f2))∧w'.cell? ⟨ad304.block,ad304.off+3,none⟩=some (.slice A304_3 ((rd_T34 ((rd_T27 l0 x3_1).f5) 0).f3).length c304_3)∧w'.cell? ⟨ad304.block,ad304.off+4,none⟩=some (.bool ((rd_T34 ((rd_T27 l0 x3_1).f5) 0).f4))∧w'.cell? ⟨ad304.block,ad304.off+5,none⟩=some (.slice A304_5 ((rd_T34 ((rd_T27 l0 x3_1).f5) 0).f5).length c304_5)) (ds:=[]) (zzB 27 0) (by kernel_rfl) rfl rfl ⟨(zzx HB.out hw299_0),(zzx HB.out hw299_1),(zzx HB.out hw299_2),(zzx HB.out hw299_3),(zzx HB.out hw299_4),(zzx HB.out hw299_5),(zzx HB.out hw301_0),(zzx HB.out hw301_1),(zzx HB.out hw301_2),(zzx HB.out hw301_3),(zzx HB.out hw301_4),(zzx HB.out hw301_5),(zzx HB.out hw303_0),(zzx HB.out hw303_1),(zzx HB.out hw303_2),(zzx HB.out hw303_3),(zzx HB.out hw303_4),(zzx HB.out hw303_5),(zzx HB.out hw304_0),(zzx HB.out hw304_1),(zzx HB.out hw304_2),(zzx HB.out hw304_3),(zzx HB.out hw304_4),(zzx HB.out hw304_5)⟩ (fun hHeld=>?_);refine with_tabW spec_LogValid.tab4 spec_LogValid.bits4 (fun HT_ HW_=>?_);generalize wr.drew=w13 at HB HR299_5 HR301_5 HR303_5 HR304_3 HR304_5 hx299_0 hx299_1 hx299_2 hx299_3 hx299_4 hx299_5 hx301_0 hx301_1 hx301_2 hx301_3 hx301_4 hx301_5 hx303_0 hx303_1 hx303_2 hx303_3 hx303_4 hx303_5 hx304_0 hx304_1 hx304_2 hx304_3 hx304_4 hx304_5 hHeld ⊢;refine pure_ (i:=0) (N:=some 10) (v:=?_) (a':=?_) (zzB 27 1) rfl rfl (zzA2 HT_.out) (fun _ _ _ h=>h) (Or.inl ⟨by rfl,?_⟩) ?_ ?_;rotate_left
           ·
            intro w';go_simp;with_reducible rfl
           rotate_left
           ·
            simp only [Act.put,zzq,zzr,zzs,i64_w,i32_w];rfl
           refine pure_ (i:=1) (N:=some 11) (v:=?_) (a':=?_) (zzB 27 3) rfl rfl (zzA2 HT_.out) (fun _ _ _ h=>h) (Or.inl ⟨by rfl,?_⟩) ?_ ?_;rotate_left
           ·
            intro w';go_simp;with_reducible rfl
           rotate_left
           ·
            simp only [Act.put,zzq,zzr,zzs,i64_w,i32_w];rfl
           refine pure_ (i:=2) (N:=some 12) (v:=?_) (a':=?_) (zzB 27 7) rfl rfl (zzA2 HT_.out) (fun _ _ _ h=>h) (Or.inl ⟨by rfl,?_⟩) ?_ ?_;rotate_left
           ·
            intro w';go_simp;with_reducible rfl
           rotate_left
           ·
            simp only [Act.put,zzq,zzr,zzs,i64_w,i32_w];rfl
           refine take_ (i:=3) (N:=some 13) (v:=?_) (a':=?_) (zzB 27 15) rfl rfl (take_ofW HT_.out HW_.out (by kernel_rfl)) (fun _ _ _ h=>h) (Or.inl ⟨by rfl,?_⟩) hHeld ?_ ?_;rotate_left
           ·
            rintro w' ⟨s0,s1,s2,s3,s4,s5,s6,s7,s8,s9,s10,s11,s12,s13,s14,s15,s16,s17,s18,s19,s20,s21,s22,s23⟩;go_simp;with_reducible rfl
           rotate_left
           ·
            simp only [Act.put,zzq,zzr,zzs,i64_w,i32_w];rfl
           refine one_ (i:=4) (N:=some 14) (zzB 27 31) rfl rfl (one_of HT_.out (by kernel_rfl)) (by decide) (fun K hK=>?_);refine goes_ Try.func55 (by kernel_rfl) rfl #[.agg #[.bool ((rd_T27 l0 x3_1).f0),.bool ((rd_T27 l0 x3_1).f1),.int .i64 ((rd_T27 l0 x3_1).f2),.int .i64 ((rd_T27 l0 x3_1).f3),.int .i64 ((rd_T27 l0 x3_1).f4),.slice (some ad304) ((rd_T27 l0 x3_1).f5).length c299_5]] (by rfl) rfl rfl zzM2 ?_;with_reducible refine (spec_BatchValid.calls k1 ((rd_T27 l0 x3_1).f0) ((rd_T27 l0 x3_1).f1) ((rd_T27 l0 x3_1).f2) ((rd_T27 l0 x3_1).f3) ((rd_T27 l0 x3_1).f4) _ _ ((rd_T27 l0 x3_1).f5) true _ ?side1 ?side2 A4.out).mono ?_;(case side1=>repeat (first|exact (Kd.C_below HR299_5.out HB.out)|(with_reducible refine Kd.C_alloc ?_ _)|(with_reducible refine Kd.C_drewN ?_ _)|(with_reducible refine Kd.C_drew ?_)));(case side2=>exact HC299_5.out);rintro e w14 ⟨rfl,hb⟩;refine ⟨_,rfl,?_⟩;have n0_:=zzm (zzp zzh1 hb);clear HB;have HB:=n0_;clear n0_;(try clear hb);(try clear hb2);(try clear hk);(try clear hi);refine hK.out _ _ ⟨(zzx HB.out hw299_0),(zzx HB.out hw299_1),(zzx HB.out hw299_2),(zzx HB.out hw299_3),(zzx HB.out hw299_4),(zzx HB.out hw299_5),(zzx HB.out hw301_0),(zzx HB.out hw301_1),(zzx HB.out hw301_2),(zzx HB.out hw301_3),(zzx HB.out hw301_4),(zzx HB.out hw301_5),(zzx HB.out hw303_0),(zzx HB.out hw303_1),(zzx HB.out hw303_2),(zzx HB.out hw303_3),(zzx HB.out hw303_4),(zzx HB.out hw303_5),(zzx HB.out hw304_0),(zzx HB.out hw304_1),(zzx HB.out hw304_2),(zzx HB.out hw304_3),(zzx HB.out hw304_4),(zzx HB.out hw304_5)⟩ (fun hHeld=>?_);clear hK K;refine norm_ (a':=?_) ?_ ?_;rotate_left
           ·
            show Act.put _ (some 14) _ = _;simp only [Act.put,zzq,zzr,zzs,i64_w,i32_w];rfl
           refine pure_ (i:=5) (N:=some 15) (v:=?_) (a':=?_) (zzB 27 63) rfl rfl (zzA2 HT_.out) (fun _ _ _ h=>h) (Or.inl ⟨by rfl,?_⟩) ?_ ?_;rotate_left
           ·
            intro w';go_simp;with_reducible rfl
           rotate_left
           ·
            simp only [Act.put,zzq,zzr,zzs,i64_w,i32_w];rfl
           refine pure_ (i:=6) (N:=some 16) (v:=?_) (a':=?_) (zzB 27 127) rfl rfl (zzA2 HT_.out) (fun _ _ _ h=>h) (Or.inl ⟨by rfl,?_⟩) ?_ ?_;rotate_left
           ·
            intro w';go_simp;with_reducible rfl
           rotate_left
           ·
            simp only [Act.put,zzq,zzr,zzs,i64_w,i32_w];rfl
           refine pure_ (i:=7) (N:=some 17) (v:=?_) (a':=?_) (zzB 27 255) rfl rfl (zzA2 HT_.out) (fun _ _ _ h=>h) (Or.inl ⟨by rfl,?_⟩) ?_ ?_;rotate_left
           ·
            intro w';go_simp;with_reducible rfl
           rotate_left
           ·
            simp only [Act.put,zzq,zzr,zzs,i64_w,i32_w];rfl
           refine pure_ (i:=8) (N:=some 18) (v:=?_) (a':=?_) (zzB 27 511) rfl rfl (zzA2 HT_.out) (fun _ _ _ h=>h) (Or.inl ⟨by rfl,?_⟩) ?_ ?_;rotate_left
           ·
            intro w';go_simp;with_reducible rfl
           rotate_left
           ·
            simp only [Act.put,zzq,zzr,zzs,i64_w,i32_w];rfl
           refine pure_ (i:=9) (N:=some 19) (v:=?_) (a':=?_) (zzB 27 1023) rfl rfl (zzA2 HT_.out) (fun _ _ _ h=>h) (Or.inl ⟨by rfl,?_⟩) ?_ ?_;rotate_left
           ·
            intro w';go_simp;with_reducible rfl
           rotate_left
           ·
            simp only [Act.put,zzq,zzr,zzs,i64_w,i32_w];rfl
           refine pure_ (i:=10) (N:=some 20) (v:=?_) (a':=?_) (zzB 27 2047) rfl rfl (zzA2 HT_.out) (fun _ _ _ h=>h) (Or.inl ⟨by rfl,?_⟩) ?_ ?_;rotate_left
           ·
            intro w';go_simp;with_reducible rfl
           rotate_left
           ·
            simp only [Act.put,zzq,zzr,zzs,i64_w,i32_w];rfl
           refine pure_ (i:=11) (N:=some 21) (v:=?_) (a':=?_) (zzB 27 4095) rfl rfl (zzA2 HT_.out) (fun _ _ _ h=>h) (Or.inl ⟨by rfl,?_⟩) ?_ ?_;rotate_left
           ·
            intro w';go_simp;with_reducible rfl
           rotate_left
           ·
            simp only [Act.put,zzq,zzr,zzs,i64_w,i32_w];rfl
           refine pure_ (i:=12) (N:=some 22) (v:=?_) (a':=?_) (zzB 27 8191) rfl rfl (zzA2 HT_.out) (fun _ _ _ h=>h) (Or.inl ⟨by rfl,?_⟩) ?_ ?_;rotate_left
           ·
            intro w';go_simp;with_reducible rfl
           rotate_left
           ·
            simp only [Act.put,zzq,zzr,zzs,i64_w,i32_w];rfl
           refine pure_ (i:=13) (N:=some 23) (v:=?_) (a':=?_) (zzB 27 16383) rfl rfl (zzA2 HT_.out) (fun _ _ _ h=>h) (Or.inl ⟨by rfl,?_⟩) ?_ ?_;rotate_left
           ·
            intro w';go_simp;with_reducible rfl
           rotate_left
           ·
            simp only [Act.put,zzq,zzr,zzs,i64_w,i32_w];rfl
           refine pure_ (i:=16) (N:=some 26) (v:=?_) (a':=?_) (zzB 27 81919) rfl rfl (zzA2 HT_.out) (fun _ _ _ h=>h) (Or.inl ⟨by rfl,?_⟩) ?_ ?_;rotate_left
           ·
            intro w';go_simp;with_reducible rfl
           rotate_left
           ·
            simp only [Act.put,zzq,zzr,zzs,i64_w,i32_w];rfl
           refine pure_ (i:=17) (N:=some 27) (v:=?_) (a':=?_) (zzB 27 212991) rfl rfl (zzA2 HT_.out) (fun _ _ _ h=>h) (Or.inl ⟨by rfl,?_⟩) ?_ ?_;rotate_left
           ·
            intro w';go_simp;with_reducible rfl
           rotate_left
           ·
            simp only [Act.put,zzq,zzr,zzs,i64_w,i32_w];rfl
           refine pure_ (i:=18) (N:=some 28) (v:=?_) (a':=?_) (zzB 27 475135) rfl rfl (zzA2 HT_.out) (fun _ _ _ h=>h) (Or.inl ⟨by rfl,?_⟩) ?_ ?_;rotate_left
           ·
            intro w';go_simp;with_reducible rfl
           rotate_left
           ·
            simp only [Act.put,zzq,zzr,zzs,i64_w,i32_w];rfl
           refine pure_ (i:=19) (N:=some 29) (v:=?_) (a':=?_) (zzB 27 999423) rfl rfl (zzA2 HT_.out) (fun _ _ _ h=>h) (Or.inl ⟨by rfl,?_⟩) ?_ ?_;rotate_left
           ·
            intro w';go_simp;with_reducible rfl
           rotate_left
           ·
            simp only [Act.put,zzq,zzr,zzs,i64_w,i32_w];rfl
           refine take_ (i:=14) (N:=some 24) (v:=?_) (a':=?_) (zzB 27 1015807) rfl rfl (take_ofW HT_.out HW_.out (by kernel_rfl)) (fun _ _ _ h=>h) (Or.inl ⟨by rfl,?_⟩) hHeld ?_ ?_;rotate_left
           ·
            rintro w' ⟨s0,s1,s2,s3,s4,s5,s6,s7,s8,s9,s10,s11,s12,s13,s14,s15,s16,s17,s18,s19,s20,s21,s22,s23⟩;go_simp;with_reducible rfl
           rotate_left
           ·
            simp only [Act.put,zzq,zzr,zzs,i64_w,i32_w];rfl
           refine take_ (i:=20) (N:=some 30) (v:=?_) (a':=?_) (zzB 27 2064383) rfl rfl (take_ofW HT_.out HW_.out (by kernel_rfl)) (fun _ _ _ h=>h) (Or.inl ⟨by rfl,?_⟩) hHeld ?_ ?_;rotate_left
           ·
            rintro w' ⟨s0,s1,s2,s3,s4,s5,s6,s7,s8,s9,s10,s11,s12,s13,s14,s15,s16,s17,s18,s19,s20,s21,s22,s23⟩;go_simp;with_reducible rfl
           rotate_left
           ·
            simp only [Act.put,zzq,zzr,zzs,i64_w,i32_w];rfl
           refine pure_ (i:=21) (N:=some 31) (v:=?_) (a':=?_) (zzB 27 4161535) rfl rfl (zzA2 HT_.out) (fun _ _ _ h=>h) (Or.inl ⟨by rfl,?_⟩) ?_ ?_;rotate_left
           ·
            intro w';go_simp;with_reducible rfl
           rotate_left
           ·
            simp only [Act.put,zzq,zzr,zzs,i64_w,i32_w];rfl
           refine pure_ (i:=22) (N:=some 32) (v:=?_) (a':=?_) (zzB 27 8355839) rfl rfl (zzA2 HT_.out) (fun _ _ _ h=>h) (Or.inl ⟨by rfl,?_⟩) ?_ ?_;rotate_left
           ·
            intro w';go_simp;with_reducible rfl
           rotate_left
           ·
            simp only [Act.put,zzq,zzr,zzs,i64_w,i32_w];rfl
           refine take_ (i:=23) (N:=some 33) (v:=?_) (a':=?_) (zzB 27 16744447) rfl rfl (take_ofW HT_.out HW_.out (by kernel_rfl)) (fun _ _ _ h=>h) (Or.inl ⟨by rfl,?_⟩) hHeld ?_ ?_;rotate_left
           ·
            rintro w' ⟨s0,s1,s2,s3,s4,s5,s6,s7,s8,s9,s10,s11,s12,s13,s14,s15,s16,s17,s18,s19,s20,s21,s22,s23⟩;go_simp;with_reducible rfl
           rotate_left
           ·
            simp only [Act.put,zzq,zzr,zzs,i64_w,i32_w];rfl
           refine one_ (i:=15) (N:=some 25) (zzB 27 16777215) rfl rfl (one_of HT_.out (by kernel_rfl)) (by decide) (fun K hK=>?_);refine goes_ Try.func76 (by kernel_rfl) rfl #[.agg #[.bool ((rd_T27 l0 (ji7)).f0),.bool ((rd_T27 l0 (ji7)).f1),.int .i64 ((rd_T27 l0 (ji7)).f2),.int .i64 ((rd_T27 l0 (ji7)).f3),.int .i64 ((rd_T27 l0 (ji7)).f4),.slice A301_5 ((rd_T27 l0 (ji7)).f5).length c301_5]] (by rfl) rfl rfl (by (try simp only [map_toArray,map_cons,map_nil]);first|done|(simp only [hji7];rfl)|rfl|(simp only [length_drop,length_take];rfl)) ?_;with_reducible refine (spec_l12Last.calls ((rd_T27 l0 (ji7)).f0) ((rd_T27 l0 (ji7)).f1) ((rd_T27 l0 (ji7)).f2) ((rd_T27 l0 (ji7)).f3) ((rd_T27 l0 (ji7)).f4) _ _ ((rd_T27 l0 (ji7)).f5) t302 _ ?side1 ?side2 A10.out).mono ?_;(case side1=>repeat (first|exact (Kd.C_below HR301_5.out HB.out)|(with_reducible refine Kd.C_alloc ?_ _)|(with_reducible refine Kd.C_drewN ?_ _)|(with_reducible refine Kd.C_drew ?_)));(case side2=>exact HC301_5.out);rintro e w15 ⟨rfl,hb⟩;refine ⟨_,rfl,?_⟩;have n0_:=zzm (zzp zzh1 hb);clear HB;have HB:=n0_;clear n0_;(try clear hb);(try clear hb2);(try clear hk);(try clear hi);refine hK.out _ _ ⟨(zzx HB.out hw299_0),(zzx HB.out hw299_1),(zzx HB.out hw299_2),(zzx HB.out hw299_3),(zzx HB.out hw299_4),(zzx HB.out hw299_5),(zzx HB.out hw301_0),(zzx HB.out hw301_1),(zzx HB.out hw301_2),(zzx HB.out hw301_3),(zzx HB.out hw301_4),(zzx HB.out hw301_5),(zzx HB.out hw303_0),(zzx HB.out hw303_1),(zzx HB.out hw303_2),(zzx HB.out hw303_3),(zzx HB.out hw303_4),(zzx HB.out hw303_5),(zzx HB.out hw304_0),(zzx HB.out hw304_1),(zzx HB.out hw304_2),(zzx HB.out hw304_3),(zzx HB.out hw304_4),(zzx HB.out hw304_5)⟩ (fun hHeld=>?_);clear hK K;refine norm_ (a':=?_) ?_ ?_;rotate_left
           ·
            show Act.put _ (some 25) _ = _;simp only [Act.put,zzq,zzr,zzs,i64_w,i32_w];rfl
           refine pure_ (i:=24) (N:=some 34) (v:=?_) (a':=?_) (zzB 27 33554431) rfl rfl (zzA2 HT_.out) (fun _ _ _ h=>h) (Or.inl ⟨by rfl,?_⟩) ?_ ?_;rotate_left
           ·
            intro w';go_simp;with_reducible rfl
           rotate_left
           ·
            simp only [Act.put,zzq,zzr,zzs,i64_w,i32_w];rfl
           refine pure_ (i:=25) (N:=some 35) (v:=?_) (a':=?_) (zzB 27 67108863) rfl rfl (zzA2 HT_.out) (fun _ _ _ h=>h) (Or.inl ⟨by rfl,?_⟩) ?_ ?_;rotate_left
           ·
            intro w';go_simp;with_reducible rfl
           rotate_left
           ·
            simp only [Act.put,zzq,zzr,zzs,i64_w,i32_w];rfl
           refine pure_ (i:=26) (N:=some 36) (v:=?_) (a':=?_) (zzB 27 134217727) rfl rfl (zzA2 HT_.out) (fun _ _ _ h=>h) (Or.inl ⟨by rfl,?_⟩) ?_ ?_;rotate_left
           ·
            intro w';go_simp;with_reducible rfl
           rotate_left
           ·
            simp only [Act.put,zzq,zzr,zzs,i64_w,i32_w];rfl
           refine done_ (done_of HT_.out (by kernel_rfl)) ?_;try go_wp2
           go_ret;exact ⟨by first|rfl|(simp [errW_none,errW_some] <;> rfl)|(simp only [← hji7];first|rfl|(simp [errW_none,errW_some] <;> rfl))|(simp [*,errW_none,errW_some] <;> rfl),zzh1⟩
          ·
           rw [if_neg c12] at H;have c12b0:decide (((rd_T34 ((rd_T27 l0 x3_1).f5) 0).f0)≤t302)=false:=decide_eq_false c12;clear c12;have H':=zzm H;clear H;try go_wp2
           have n0_:=zzm (zzc HB.out);clear HB;have HB:=n0_;clear n0_;have p299 : 0≤(x3_1:Int):=zzt;have q299:x3_1 < (l0.length:Int):=zzt;obtain ⟨ad299,A299_5,c299_5,e299,hx299_0,hx299_1,hx299_2,hx299_3,hx299_4,hx299_5,hl299_5,hi299_5⟩:=at_T27 HR0.out x3_1 p299 q299;have hw299_5:=hx299_5;have hw299_4:=hx299_4;have hw299_3:=hx299_3;have hw299_2:=hx299_2;have hw299_1:=hx299_1;have hw299_0:=hx299_0;cases e299;replace hx299_0:=zzx HB.out hx299_0;replace hx299_1:=zzx HB.out hx299_1;replace hx299_2:=zzx HB.out hx299_2;replace hx299_3:=zzx HB.out hx299_3;replace hx299_4:=zzx HB.out hx299_4;replace hx299_5:=zzx HB.out hx299_5;have HR299_5:=zzm hi299_5;have HC299_5:=zzm hl299_5;clear hi299_5 hl299_5;replace p299:=eq_true p299;replace q299:=eq_true q299;have p301 : 0≤((ji7):Int):=zzt;have q301:(ji7) < (l0.length:Int):=zzt;obtain ⟨ad301,A301_5,c301_5,e301,hx301_0,hx301_1,hx301_2,hx301_3,hx301_4,hx301_5,hl301_5,hi301_5⟩:=at_T27 HR0.out (ji7) p301 q301;have hw301_5:=hx301_5;have hw301_4:=hx301_4;have hw301_3:=hx301_3;have hw301_2:=hx301_2;have hw301_1:=hx301_1;have hw301_0:=hx301_0;obtain rfl:ad299=ad301:=(by injection e301);replace hx301_0:=zzx HB.out hx301_0;replace hx301_1:=zzx HB.out hx301_1;replace hx301_2:=zzx HB.out hx301_2;replace hx301_3:=zzx HB.out hx301_3;replace hx301_4:=zzx HB.out hx301_4;replace hx301_5:=zzx HB.out hx301_5;have HR301_5:=zzm hi301_5;have HC301_5:=zzm hl301_5;clear hi301_5 hl301_5;replace p301:=eq_true p301;replace q301:=eq_true q301;have p303 : 0≤(x3_1:Int):=zzt;have q303:x3_1 < (l0.length:Int):=zzt;obtain ⟨ad303,A303_5,c303_5,e303,hx303_0,hx303_1,hx303_2,hx303_3,hx303_4,hx303_5,hl303_5,hi303_5⟩:=at_T27 HR0.out x3_1 p303 q303;have hw303_5:=hx303_5;have hw303_4:=hx303_4;have hw303_3:=hx303_3;have hw303_2:=hx303_2;have hw303_1:=hx303_1;have hw303_0:=hx303_0;obtain rfl:ad299=ad303:=(by injection e303);replace hx303_0:=zzx HB.out hx303_0;replace hx303_1:=zzx HB.out hx303_1;replace hx303_2:=zzx HB.out hx303_2;replace hx303_3:=zzx HB.out hx303_3;replace hx303_4:=zzx HB.out hx303_4;replace hx303_5:=zzx HB.out hx303_5;have HR303_5:=zzm hi303_5;have HC303_5:=zzm hl303_5;clear hi303_5 hl303_5;replace p303:=eq_true p303;replace q303:=eq_true q303;have p304 : 0≤(0:Int):=(by omega);have q304 : 0 < (((rd_T27 l0 x3_1).f5).length:Int):=zzt;have eA_:A303_5=A299_5:=by have e_:=Option.some.inj (hw299_5.symm.trans hw303_5);injection e_ with e1_ _ e3_;exact e1_.symm
           have eC_:c303_5=c299_5:=by have e_:=Option.some.inj (hw299_5.symm.trans hw303_5);injection e_ with e1_ _ e3_;exact e3_.symm
           subst A303_5;subst c303_5;obtain ⟨ad304,A304_3,c304_3,A304_5,c304_5,e304,hx304_0,hx304_1,hx304_2,hx304_3,hx304_4,hx304_5,hl304_3,hi304_3,hl304_5,hi304_5⟩:=at_T34 HR303_5.out 0 p304 q304;have hw304_5:=hx304_5;(try rw [show ((0:Int)).toNat=0 from rfl] at hw304_5);(try rw [show 0 * 6=0 from rfl] at hw304_5);(try rw [Addr.add_zero'] at hw304_5);have hw304_4:=hx304_4;(try rw [show ((0:Int)).toNat=0 from rfl] at hw304_4);(try rw [show 0 * 6=0 from rfl] at hw304_4);(try rw [Addr.add_zero'] at hw304_4);have hw304_3:=hx304_3;(try rw [show ((0:Int)).toNat=0 from rfl] at hw304_3);(try rw [show 0 * 6=0 from rfl] at hw304_3);(try rw [Addr.add_zero'] at hw304_3);have hw304_2:=hx304_2;(try rw [show ((0:Int)).toNat=0 from rfl] at hw304_2);(try rw [show 0 * 6=0 from rfl] at hw304_2);(try rw [Addr.add_zero'] at hw304_2);have hw304_1:=hx304_1;(try rw [show ((0:Int)).toNat=0 from rfl] at hw304_1);(try rw [show 0 * 6=0 from rfl] at hw304_1);(try rw [Addr.add_zero'] at hw304_1);have hw304_0:=hx304_0;(try rw [show ((0:Int)).toNat=0 from rfl] at hw304_0);(try rw [show 0 * 6=0 from rfl] at hw304_0);(try rw [Addr.add_zero'] at hw304_0);cases e304;have qi304:(0 < ((rd_T27 l0 x3_1).f5).length)=True:=eq_true (by omega);(try rw [show ((0:Int)).toNat=0 from rfl] at hx304_0);(try rw [show 0 * 6=0 from rfl] at hx304_0);(try rw [Addr.add_zero'] at hx304_0);(try rw [show ((0:Int)).toNat=0 from rfl] at hx304_1);(try rw [show 0 * 6=0 from rfl] at hx304_1);(try rw [Addr.add_zero'] at hx304_1);(try rw [show ((0:Int)).toNat=0 from rfl] at hx304_2);(try rw [show 0 * 6=0 from rfl] at hx304_2);(try rw [Addr.add_zero'] at hx304_2);(try rw [show ((0:Int)).toNat=0 from rfl] at hx304_3);(try rw [show 0 * 6=0 from rfl] at hx304_3);(try rw [Addr.add_zero'] at hx304_3);(try rw [show ((0:Int)).toNat=0 from rfl] at hx304_4);(try rw [show 0 * 6=0 from rfl] at hx304_4);(try rw [Addr.add_zero'] at hx304_4);(try rw [show ((0:Int)).toNat=0 from rfl] at hx304_5);(try rw [show 0 * 6=0 from rfl] at hx304_5);(try rw [Addr.add_zero'] at hx304_5);replace hx304_0:=zzx HB.out hx304_0;replace hx304_1:=zzx HB.out hx304_1;replace hx304_2:=zzx HB.out hx304_2;replace hx304_3:=zzx HB.out hx304_3;replace hx304_4:=zzx HB.out hx304_4;replace hx304_5:=zzx HB.out hx304_5;have HR304_3:=zzm hi304_3;have HC304_3:=zzm hl304_3;clear hi304_3 hl304_3;have HR304_5:=zzm hi304_5;have HC304_5:=zzm hl304_5;clear hi304_5 hl304_5;replace p304:=eq_true p304;replace q304:=eq_true q304;refine start_ (n:=27) (S:=fun w'=>w'.cell? (ad299.add ((x3_1).toNat * 6))=some (.bool ((rd_T27 l0 x3_1).f0))∧w'.cell? ⟨(ad299.add ((x3_1).toNat * 6)).block,(ad299.add ((x3_1).toNat * 6)).off+1,none⟩=some (.bool ((rd_T27 l0 x3_1).f1))∧w'.cell? ⟨(ad299.add ((x3_1).toNat * 6)).block,(ad299.add ((x3_1).toNat * 6)).off+2,none⟩=some (.int .i64 ((rd_T27 l0 x3_1).f2))∧w'.cell? ⟨(ad299.add ((x3_1).toNat * 6)).block,(ad299.add ((x3_1).toNat * 6)).off+3,none⟩=some (.int .i64 ((rd_T27 l0 x3_1).f3))∧w'.cell? ⟨(ad299.add ((x3_1).toNat * 6)).block,(ad299.add ((x3_1).toNat * 6)).off+4,none⟩=some (.int .i64 ((rd_T27 l0 x3_1).f4))∧w'.cell? ⟨(ad299.add ((x3_1).toNat * 6)).block,(ad299.add ((x3_1).toNat * 6)).off+5,none⟩=some (.slice (some ad304) ((rd_T27 l0 x3_1).f5).length c299_5)∧w'.cell? (ad299.add (((ji7)).toNat * 6))=some (.bool ((rd_T27 l0 (ji7)).f0))∧w'.cell? ⟨(ad299.add (((ji7)).toNat * 6)).block,(ad299.add (((ji7)).toNat * 6)).off+1,none⟩=some (.bool ((rd_T27 l0 (ji7)).f1))∧w'.cell? ⟨(ad299.add (((ji7)).toNat * 6)).block,(ad299.add (((ji7)).toNat * 6)).off+2,none⟩=some (.int .i64 ((rd_T27 l0 (ji7)).f2))∧w'.cell? ⟨(ad299.add (((ji7)).toNat * 6)).block,(ad299.add (((ji7)).toNat * 6)).off+3,none⟩=some (.int .i64 ((rd_T27 l0 (ji7)).f3))∧w'.cell? ⟨(ad299.add (((ji7)).toNat * 6)).block,(ad299.add (((ji7)).toNat * 6)).off+4,none⟩=some (.int .i64 ((rd_T27 l0 (ji7)).f4))∧w'.cell? ⟨(ad299.add (((ji7)).toNat * 6)).block,(ad299.add (((ji7)).toNat * 6)).off+5,none⟩=some (.slice A301_5 ((rd_T27 l0 (ji7)).f5).length c301_5)∧w'.cell? (ad299.add ((x3_1).toNat * 6))=some (.bool ((rd_T27 l0 x3_1).f0))∧w'.cell? ⟨(ad299.add ((x3_1).toNat * 6)).block,(ad299.add ((x3_1).toNat * 6)).off+1,none⟩=some (.bool ((rd_T27 l0 x3_1).f1))∧w'.cell? ⟨(ad299.add ((x3_1).toNat * 6)).block,(ad299.add ((x3_1).toNat * 6)).off+2,none⟩=some (.int .i64 ((rd_T27 l0 x3_1).f2))∧w'.cell? ⟨(ad299.add ((x3_1).toNat * 6)).block,(ad299.add ((x3_1).toNat * 6)).off+3,none⟩=some (.int .i64 ((rd_T27 l0 x3_1).f3))∧w'.cell? ⟨(ad299.add ((x3_1).toNat * 6)).block,(ad299.add ((x3_1).toNat * 6)).off+4,none⟩=some (.int .i64 ((rd_T27 l0 x3_1).f4))∧w'.cell? ⟨(ad299.add ((x3_1).toNat * 6)).block,(ad299.add ((x3_1).toNat * 6)).off+5,none⟩=some (.slice (some ad304) ((rd_T27 l0 x3_1).f5).length c299_5)∧w'.cell? ad304=some (.int .i64 ((rd_T34 ((rd_T27 l0 x3_1).f5) 0).f0))∧w'.cell? ⟨ad304.block,ad304.off+1,none⟩=some (.int .i64 ((rd_T34 ((rd_T27 l0 x3_1).f5) 0).f1))∧w'.cell? ⟨ad304.block,ad304.off+2,none⟩=some (.bool ((rd_T34 ((rd_T27 l0 x3_1).f5) 0).f2))∧w'.cell? ⟨ad304.block,ad304.off+3,none⟩=some (.slice A304_3 ((rd_T34 ((rd_T27 l0 x3_1).f5) 0).f3).length c304_3)∧w'.cell? ⟨ad304.block,ad304.off+4,none⟩=some (.bool ((rd_T34 ((rd_T27 l0 x3_1).f5) 0).f4))∧w'.cell? ⟨ad304.block,ad304.off+5,none⟩=some (.slice A304_5 ((rd_T34 ((rd_T27 l0 x3_1).f5) 0).f5).length c304_5)) (ds:=[]) (zzB 27 0) (by kernel_rfl) rfl rfl ⟨(zzx HB.out hw299_0),(zzx HB.out hw299_1),(zzx HB.out hw299_2),(zzx HB.out hw299_3),(zzx HB.out hw299_4),(zzx HB.out hw299_5),(zzx HB.out hw301_0),(zzx HB.out hw301_1),(zzx HB.out hw301_2),(zzx HB.out hw301_3),(zzx HB.out hw301_4),(zzx HB.out hw301_5),(zzx HB.out hw303_0),(zzx HB.out hw303_1),(zzx HB.out hw303_2),(zzx HB.out hw303_3),(zzx HB.out hw303_4),(zzx HB.out hw303_5),(zzx HB.out hw304_0),(zzx HB.out hw304_1),(zzx HB.out hw304_2),(zzx HB.out hw304_3),(zzx HB.out hw304_4),(zzx HB.out hw304_5)⟩ (fun hHeld=>?_);refine with_tabW spec_LogValid.tab4 spec_LogValid.bits4 (fun HT_ HW_=>?_);generalize wr.drew=w16 at HB HR299_5 HR301_5 HR303_5 HR304_3 HR304_5 hx299_0 hx299_1 hx299_2 hx299_3 hx299_4 hx299_5 hx301_0 hx301_1 hx301_2 hx301_3 hx301_4 hx301_5 hx303_0 hx303_1 hx303_2 hx303_3 hx303_4 hx303_5 hx304_0 hx304_1 hx304_2 hx304_3 hx304_4 hx304_5 hHeld ⊢;refine pure_ (i:=0) (N:=some 10) (v:=?_) (a':=?_) (zzB 27 1) rfl rfl (zzA2 HT_.out) (fun _ _ _ h=>h) (Or.inl ⟨by rfl,?_⟩) ?_ ?_;rotate_left
           ·
            intro w';go_simp;with_reducible rfl
           rotate_left
           ·
            simp only [Act.put,zzq,zzr,zzs,i64_w,i32_w];rfl
           refine pure_ (i:=1) (N:=some 11) (v:=?_) (a':=?_) (zzB 27 3) rfl rfl (zzA2 HT_.out) (fun _ _ _ h=>h) (Or.inl ⟨by rfl,?_⟩) ?_ ?_;rotate_left
           ·
            intro w';go_simp;with_reducible rfl
           rotate_left
           ·
            simp only [Act.put,zzq,zzr,zzs,i64_w,i32_w];rfl
           refine pure_ (i:=2) (N:=some 12) (v:=?_) (a':=?_) (zzB 27 7) rfl rfl (zzA2 HT_.out) (fun _ _ _ h=>h) (Or.inl ⟨by rfl,?_⟩) ?_ ?_;rotate_left
           ·
            intro w';go_simp;with_reducible rfl
           rotate_left
           ·
            simp only [Act.put,zzq,zzr,zzs,i64_w,i32_w];rfl
           refine take_ (i:=3) (N:=some 13) (v:=?_) (a':=?_) (zzB 27 15) rfl rfl (take_ofW HT_.out HW_.out (by kernel_rfl)) (fun _ _ _ h=>h) (Or.inl ⟨by rfl,?_⟩) hHeld ?_ ?_;rotate_left
           ·
            rintro w' ⟨s0,s1,s2,s3,s4,s5,s6,s7,s8,s9,s10,s11,s12,s13,s14,s15,s16,s17,s18,s19,s20,s21,s22,s23⟩;go_simp;with_reducible rfl
           rotate_left
           ·
            simp only [Act.put,zzq,zzr,zzs,i64_w,i32_w];rfl
           refine one_ (i:=4) (N:=some 14) (zzB 27 31) rfl rfl (one_of HT_.out (by kernel_rfl)) (by decide) (fun K hK=>?_);refine goes_ Try.func55 (by kernel_rfl) rfl #[.agg #[.bool ((rd_T27 l0 x3_1).f0),.bool ((rd_T27 l0 x3_1).f1),.int .i64 ((rd_T27 l0 x3_1).f2),.int .i64 ((rd_T27 l0 x3_1).f3),.int .i64 ((rd_T27 l0 x3_1).f4),.slice (some ad304) ((rd_T27 l0 x3_1).f5).length c299_5]] (by rfl) rfl rfl zzM2 ?_;with_reducible refine (spec_BatchValid.calls k1 ((rd_T27 l0 x3_1).f0) ((rd_T27 l0 x3_1).f1) ((rd_T27 l0 x3_1).f2) ((rd_T27 l0 x3_1).f3) ((rd_T27 l0 x3_1).f4) _ _ ((rd_T27 l0 x3_1).f5) true _ ?side1 ?side2 A4.out).mono ?_;(case side1=>repeat (first|exact (Kd.C_below HR299_5.out HB.out)|(with_reducible refine Kd.C_alloc ?_ _)|(with_reducible refine Kd.C_drewN ?_ _)|(with_reducible refine Kd.C_drew ?_)));(case side2=>exact HC299_5.out);rintro e w17 ⟨rfl,hb⟩;refine ⟨_,rfl,?_⟩;have n0_:=zzm (zzp zzh1 hb);clear HB;have HB:=n0_;clear n0_;(try clear hb);(try clear hb2);(try clear hk);(try clear hi);refine hK.out _ _ ⟨(zzx HB.out hw299_0),(zzx HB.out hw299_1),(zzx HB.out hw299_2),(zzx HB.out hw299_3),(zzx HB.out hw299_4),(zzx HB.out hw299_5),(zzx HB.out hw301_0),(zzx HB.out hw301_1),(zzx HB.out hw301_2),(zzx HB.out hw301_3),(zzx HB.out hw301_4),(zzx HB.out hw301_5),(zzx HB.out hw303_0),(zzx HB.out hw303_1),(zzx HB.out hw303_2),(zzx HB.out hw303_3),(zzx HB.out hw303_4),(zzx HB.out hw303_5),(zzx HB.out hw304_0),(zzx HB.out hw304_1),(zzx HB.out hw304_2),(zzx HB.out hw304_3),(zzx HB.out hw304_4),(zzx HB.out hw304_5)⟩ (fun hHeld=>?_);clear hK K;refine norm_ (a':=?_) ?_ ?_;rotate_left
           ·
            show Act.put _ (some 14) _ = _;simp only [Act.put,zzq,zzr,zzs,i64_w,i32_w];rfl
           refine pure_ (i:=5) (N:=some 15) (v:=?_) (a':=?_) (zzB 27 63) rfl rfl (zzA2 HT_.out) (fun _ _ _ h=>h) (Or.inl ⟨by rfl,?_⟩) ?_ ?_;rotate_left
           ·
            intro w';go_simp;with_reducible rfl
           rotate_left
           ·
            simp only [Act.put,zzq,zzr,zzs,i64_w,i32_w];rfl
           refine pure_ (i:=6) (N:=some 16) (v:=?_) (a':=?_) (zzB 27 127) rfl rfl (zzA2 HT_.out) (fun _ _ _ h=>h) (Or.inl ⟨by rfl,?_⟩) ?_ ?_;rotate_left
           ·
            intro w';go_simp;with_reducible rfl
           rotate_left
           ·
            simp only [Act.put,zzq,zzr,zzs,i64_w,i32_w];rfl
           refine pure_ (i:=7) (N:=some 17) (v:=?_) (a':=?_) (zzB 27 255) rfl rfl (zzA2 HT_.out) (fun _ _ _ h=>h) (Or.inl ⟨by rfl,?_⟩) ?_ ?_;rotate_left
           ·
            intro w';go_simp;with_reducible rfl
           rotate_left
           ·
            simp only [Act.put,zzq,zzr,zzs,i64_w,i32_w];rfl
           refine pure_ (i:=8) (N:=some 18) (v:=?_) (a':=?_) (zzB 27 511) rfl rfl (zzA2 HT_.out) (fun _ _ _ h=>h) (Or.inl ⟨by rfl,?_⟩) ?_ ?_;rotate_left
           ·
            intro w';go_simp;with_reducible rfl
           rotate_left
           ·
            simp only [Act.put,zzq,zzr,zzs,i64_w,i32_w];rfl
           refine pure_ (i:=9) (N:=some 19) (v:=?_) (a':=?_) (zzB 27 1023) rfl rfl (zzA2 HT_.out) (fun _ _ _ h=>h) (Or.inl ⟨by rfl,?_⟩) ?_ ?_;rotate_left
           ·
            intro w';go_simp;with_reducible rfl
           rotate_left
           ·
            simp only [Act.put,zzq,zzr,zzs,i64_w,i32_w];rfl
           refine pure_ (i:=10) (N:=some 20) (v:=?_) (a':=?_) (zzB 27 2047) rfl rfl (zzA2 HT_.out) (fun _ _ _ h=>h) (Or.inl ⟨by rfl,?_⟩) ?_ ?_;rotate_left
           ·
            intro w';go_simp;with_reducible rfl
           rotate_left
           ·
            simp only [Act.put,zzq,zzr,zzs,i64_w,i32_w];rfl
           refine pure_ (i:=11) (N:=some 21) (v:=?_) (a':=?_) (zzB 27 4095) rfl rfl (zzA2 HT_.out) (fun _ _ _ h=>h) (Or.inl ⟨by rfl,?_⟩) ?_ ?_;rotate_left
           ·
            intro w';go_simp;with_reducible rfl
           rotate_left
           ·
            simp only [Act.put,zzq,zzr,zzs,i64_w,i32_w];rfl
           refine pure_ (i:=12) (N:=some 22) (v:=?_) (a':=?_) (zzB 27 8191) rfl rfl (zzA2 HT_.out) (fun _ _ _ h=>h) (Or.inl ⟨by rfl,?_⟩) ?_ ?_;rotate_left
           ·
            intro w';go_simp;with_reducible rfl
           rotate_left
           ·
            simp only [Act.put,zzq,zzr,zzs,i64_w,i32_w];rfl
           refine pure_ (i:=13) (N:=some 23) (v:=?_) (a':=?_) (zzB 27 16383) rfl rfl (zzA2 HT_.out) (fun _ _ _ h=>h) (Or.inl ⟨by rfl,?_⟩) ?_ ?_;rotate_left
           ·
            intro w';go_simp;with_reducible rfl
           rotate_left
           ·
            simp only [Act.put,zzq,zzr,zzs,i64_w,i32_w];rfl
           refine pure_ (i:=16) (N:=some 26) (v:=?_) (a':=?_) (zzB 27 81919) rfl rfl (zzA2 HT_.out) (fun _ _ _ h=>h) (Or.inl ⟨by rfl,?_⟩) ?_ ?_;rotate_left
           ·
            intro w';go_simp;with_reducible rfl
           rotate_left
           ·
            simp only [Act.put,zzq,zzr,zzs,i64_w,i32_w];rfl
           refine pure_ (i:=17) (N:=some 27) (v:=?_) (a':=?_) (zzB 27 212991) rfl rfl (zzA2 HT_.out) (fun _ _ _ h=>h) (Or.inl ⟨by rfl,?_⟩) ?_ ?_;rotate_left
           ·
            intro w';go_simp;with_reducible rfl
           rotate_left
           ·
            simp only [Act.put,zzq,zzr,zzs,i64_w,i32_w];rfl
           refine pure_ (i:=18) (N:=some 28) (v:=?_) (a':=?_) (zzB 27 475135) rfl rfl (zzA2 HT_.out) (fun _ _ _ h=>h) (Or.inl ⟨by rfl,?_⟩) ?_ ?_;rotate_left
           ·
            intro w';go_simp;with_reducible rfl
           rotate_left
           ·
            simp only [Act.put,zzq,zzr,zzs,i64_w,i32_w];rfl
           refine pure_ (i:=19) (N:=some 29) (v:=?_) (a':=?_) (zzB 27 999423) rfl rfl (zzA2 HT_.out) (fun _ _ _ h=>h) (Or.inl ⟨by rfl,?_⟩) ?_ ?_;rotate_left
           ·
            intro w';go_simp;with_reducible rfl
           rotate_left
           ·
            simp only [Act.put,zzq,zzr,zzs,i64_w,i32_w];rfl
           refine take_ (i:=14) (N:=some 24) (v:=?_) (a':=?_) (zzB 27 1015807) rfl rfl (take_ofW HT_.out HW_.out (by kernel_rfl)) (fun _ _ _ h=>h) (Or.inl ⟨by rfl,?_⟩) hHeld ?_ ?_;rotate_left
           ·
            rintro w' ⟨s0,s1,s2,s3,s4,s5,s6,s7,s8,s9,s10,s11,s12,s13,s14,s15,s16,s17,s18,s19,s20,s21,s22,s23⟩;go_simp;with_reducible rfl
           rotate_left
           ·
            simp only [Act.put,zzq,zzr,zzs,i64_w,i32_w];rfl
           refine take_ (i:=20) (N:=some 30) (v:=?_) (a':=?_) (zzB 27 2064383) rfl rfl (take_ofW HT_.out HW_.out (by kernel_rfl)) (fun _ _ _ h=>h) (Or.inl ⟨by rfl,?_⟩) hHeld ?_ ?_;rotate_left
           ·
            rintro w' ⟨s0,s1,s2,s3,s4,s5,s6,s7,s8,s9,s10,s11,s12,s13,s14,s15,s16,s17,s18,s19,s20,s21,s22,s23⟩;go_simp;with_reducible rfl
           rotate_left
           ·
            simp only [Act.put,zzq,zzr,zzs,i64_w,i32_w];rfl
           refine pure_ (i:=21) (N:=some 31) (v:=?_) (a':=?_) (zzB 27 4161535) rfl rfl (zzA2 HT_.out) (fun _ _ _ h=>h) (Or.inl ⟨by rfl,?_⟩) ?_ ?_;rotate_left
           ·
            intro w';go_simp;with_reducible rfl
           rotate_left
           ·
            simp only [Act.put,zzq,zzr,zzs,i64_w,i32_w];rfl
           refine pure_ (i:=22) (N:=some 32) (v:=?_) (a':=?_) (zzB 27 8355839) rfl rfl (zzA2 HT_.out) (fun _ _ _ h=>h) (Or.inl ⟨by rfl,?_⟩) ?_ ?_;rotate_left
           ·
            intro w';go_simp;with_reducible rfl
           rotate_left
           ·
            simp only [Act.put,zzq,zzr,zzs,i64_w,i32_w];rfl
           refine take_ (i:=23) (N:=some 33) (v:=?_) (a':=?_) (zzB 27 16744447) rfl rfl (take_ofW HT_.out HW_.out (by kernel_rfl)) (fun _ _ _ h=>h) (Or.inl ⟨by rfl,?_⟩) hHeld ?_ ?_;rotate_left
           ·
            rintro w' ⟨s0,s1,s2,s3,s4,s5,s6,s7,s8,s9,s10,s11,s12,s13,s14,s15,s16,s17,s18,s19,s20,s21,s22,s23⟩;go_simp;with_reducible rfl
           rotate_left
           ·
            simp only [Act.put,zzq,zzr,zzs,i64_w,i32_w];rfl
           refine one_ (i:=15) (N:=some 25) (zzB 27 16777215) rfl rfl (one_of HT_.out (by kernel_rfl)) (by decide) (fun K hK=>?_);refine goes_ Try.func76 (by kernel_rfl) rfl #[.agg #[.bool ((rd_T27 l0 (ji7)).f0),.bool ((rd_T27 l0 (ji7)).f1),.int .i64 ((rd_T27 l0 (ji7)).f2),.int .i64 ((rd_T27 l0 (ji7)).f3),.int .i64 ((rd_T27 l0 (ji7)).f4),.slice A301_5 ((rd_T27 l0 (ji7)).f5).length c301_5]] (by rfl) rfl rfl (by (try simp only [map_toArray,map_cons,map_nil]);first|done|(simp only [hji7];rfl)|rfl|(simp only [length_drop,length_take];rfl)) ?_;with_reducible refine (spec_l12Last.calls ((rd_T27 l0 (ji7)).f0) ((rd_T27 l0 (ji7)).f1) ((rd_T27 l0 (ji7)).f2) ((rd_T27 l0 (ji7)).f3) ((rd_T27 l0 (ji7)).f4) _ _ ((rd_T27 l0 (ji7)).f5) t302 _ ?side1 ?side2 A10.out).mono ?_;(case side1=>repeat (first|exact (Kd.C_below HR301_5.out HB.out)|(with_reducible refine Kd.C_alloc ?_ _)|(with_reducible refine Kd.C_drewN ?_ _)|(with_reducible refine Kd.C_drew ?_)));(case side2=>exact HC301_5.out);rintro e w18 ⟨rfl,hb⟩;refine ⟨_,rfl,?_⟩;have n0_:=zzm (zzp zzh1 hb);clear HB;have HB:=n0_;clear n0_;(try clear hb);(try clear hb2);(try clear hk);(try clear hi);refine hK.out _ _ ⟨(zzx HB.out hw299_0),(zzx HB.out hw299_1),(zzx HB.out hw299_2),(zzx HB.out hw299_3),(zzx HB.out hw299_4),(zzx HB.out hw299_5),(zzx HB.out hw301_0),(zzx HB.out hw301_1),(zzx HB.out hw301_2),(zzx HB.out hw301_3),(zzx HB.out hw301_4),(zzx HB.out hw301_5),(zzx HB.out hw303_0),(zzx HB.out hw303_1),(zzx HB.out hw303_2),(zzx HB.out hw303_3),(zzx HB.out hw303_4),(zzx HB.out hw303_5),(zzx HB.out hw304_0),(zzx HB.out hw304_1),(zzx HB.out hw304_2),(zzx HB.out hw304_3),(zzx HB.out hw304_4),(zzx HB.out hw304_5)⟩ (fun hHeld=>?_);clear hK K;refine norm_ (a':=?_) ?_ ?_;rotate_left
           ·
            show Act.put _ (some 25) _ = _;simp only [Act.put,zzq,zzr,zzs,i64_w,i32_w];rfl
           refine pure_ (i:=24) (N:=some 34) (v:=?_) (a':=?_) (zzB 27 33554431) rfl rfl (zzA2 HT_.out) (fun _ _ _ h=>h) (Or.inl ⟨by rfl,?_⟩) ?_ ?_;rotate_left
           ·
            intro w';go_simp;with_reducible rfl
           rotate_left
           ·
            simp only [Act.put,zzq,zzr,zzs,i64_w,i32_w];rfl
           refine pure_ (i:=25) (N:=some 35) (v:=?_) (a':=?_) (zzB 27 67108863) rfl rfl (zzA2 HT_.out) (fun _ _ _ h=>h) (Or.inl ⟨by rfl,?_⟩) ?_ ?_;rotate_left
           ·
            intro w';go_simp;with_reducible rfl
           rotate_left
           ·
            simp only [Act.put,zzq,zzr,zzs,i64_w,i32_w];rfl
           refine pure_ (i:=26) (N:=some 36) (v:=?_) (a':=?_) (zzB 27 134217727) rfl rfl (zzA2 HT_.out) (fun _ _ _ h=>h) (Or.inl ⟨by rfl,?_⟩) ?_ ?_;rotate_left
           ·
            intro w';go_simp;with_reducible rfl
           rotate_left
           ·
            simp only [Act.put,zzq,zzr,zzs,i64_w,i32_w];rfl
           refine done_ (done_of HT_.out (by kernel_rfl)) ?_;try go_wp2
           go_roundg k1
           case measure=>have:=HK1.out;omega
           case rel=>exact ⟨(wrap64 (x3_1+1)),(by first|rfl|(simp;done)|(simp [*];done)),H',⟨by have:=HK1.out;omega⟩,⟨zzh1⟩⟩
         ·
          rw [if_neg c11] at H;exact absurd H (by simp)
        ·
         rw [if_neg c9] at H;exact absurd H (by simp)
       ·
        rw [if_neg c8] at H;exact absurd H (by simp)
      ·
       rw [if_neg c6] at H;have c6b0:decide (0 < x3_1)=false:=decide_eq_false c6;clear c6;have H':=zzm H;clear H;try go_wp2
       have n0_:=zzm (zzc HB.out);clear HB;have HB:=n0_;clear n0_;have p299 : 0≤(x3_1:Int):=zzt;have q299:x3_1 < (l0.length:Int):=zzt;obtain ⟨ad299,A299_5,c299_5,e299,hx299_0,hx299_1,hx299_2,hx299_3,hx299_4,hx299_5,hl299_5,hi299_5⟩:=at_T27 HR0.out x3_1 p299 q299;have hw299_5:=hx299_5;have hw299_4:=hx299_4;have hw299_3:=hx299_3;have hw299_2:=hx299_2;have hw299_1:=hx299_1;have hw299_0:=hx299_0;cases e299;replace hx299_0:=zzx HB.out hx299_0;replace hx299_1:=zzx HB.out hx299_1;replace hx299_2:=zzx HB.out hx299_2;replace hx299_3:=zzx HB.out hx299_3;replace hx299_4:=zzx HB.out hx299_4;replace hx299_5:=zzx HB.out hx299_5;have HR299_5:=zzm hi299_5;have HC299_5:=zzm hl299_5;clear hi299_5 hl299_5;replace p299:=eq_true p299;replace q299:=eq_true q299;refine start_ (n:=27) (S:=fun w'=>w'.cell? (ad299.add ((x3_1).toNat * 6))=some (.bool ((rd_T27 l0 x3_1).f0))∧w'.cell? ⟨(ad299.add ((x3_1).toNat * 6)).block,(ad299.add ((x3_1).toNat * 6)).off+1,none⟩=some (.bool ((rd_T27 l0 x3_1).f1))∧w'.cell? ⟨(ad299.add ((x3_1).toNat * 6)).block,(ad299.add ((x3_1).toNat * 6)).off+2,none⟩=some (.int .i64 ((rd_T27 l0 x3_1).f2))∧w'.cell? ⟨(ad299.add ((x3_1).toNat * 6)).block,(ad299.add ((x3_1).toNat * 6)).off+3,none⟩=some (.int .i64 ((rd_T27 l0 x3_1).f3))∧w'.cell? ⟨(ad299.add ((x3_1).toNat * 6)).block,(ad299.add ((x3_1).toNat * 6)).off+4,none⟩=some (.int .i64 ((rd_T27 l0 x3_1).f4))∧w'.cell? ⟨(ad299.add ((x3_1).toNat * 6)).block,(ad299.add ((x3_1).toNat * 6)).off+5,none⟩=some (.slice A299_5 ((rd_T27 l0 x3_1).f5).length c299_5)) (ds:=[]) (zzB 27 0) (by kernel_rfl) rfl rfl ⟨(zzx HB.out hw299_0),(zzx HB.out hw299_1),(zzx HB.out hw299_2),(zzx HB.out hw299_3),(zzx HB.out hw299_4),(zzx HB.out hw299_5)⟩ (fun hHeld=>?_);refine with_tabW spec_LogValid.tab4 spec_LogValid.bits4 (fun HT_ HW_=>?_);generalize wr.drew=w19 at HB HR299_5 hx299_0 hx299_1 hx299_2 hx299_3 hx299_4 hx299_5 hHeld ⊢;refine pure_ (i:=0) (N:=some 10) (v:=?_) (a':=?_) (zzB 27 1) rfl rfl (zzA2 HT_.out) (fun _ _ _ h=>h) (Or.inl ⟨by rfl,?_⟩) ?_ ?_;rotate_left
       ·
        intro w';go_simp;with_reducible rfl
       rotate_left
       ·
        simp only [Act.put,zzq,zzr,zzs,i64_w,i32_w];rfl
       refine pure_ (i:=1) (N:=some 11) (v:=?_) (a':=?_) (zzB 27 3) rfl rfl (zzA2 HT_.out) (fun _ _ _ h=>h) (Or.inl ⟨by rfl,?_⟩) ?_ ?_;rotate_left
       ·
        intro w';go_simp;with_reducible rfl
       rotate_left
       ·
        simp only [Act.put,zzq,zzr,zzs,i64_w,i32_w];rfl
       refine pure_ (i:=2) (N:=some 12) (v:=?_) (a':=?_) (zzB 27 7) rfl rfl (zzA2 HT_.out) (fun _ _ _ h=>h) (Or.inl ⟨by rfl,?_⟩) ?_ ?_;rotate_left
       ·
        intro w';go_simp;with_reducible rfl
       rotate_left
       ·
        simp only [Act.put,zzq,zzr,zzs,i64_w,i32_w];rfl
       refine take_ (i:=3) (N:=some 13) (v:=?_) (a':=?_) (zzB 27 15) rfl rfl (take_ofW HT_.out HW_.out (by kernel_rfl)) (fun _ _ _ h=>h) (Or.inl ⟨by rfl,?_⟩) hHeld ?_ ?_;rotate_left
       ·
        rintro w' ⟨s0,s1,s2,s3,s4,s5⟩;go_simp;with_reducible rfl
       rotate_left
       ·
        simp only [Act.put,zzq,zzr,zzs,i64_w,i32_w];rfl
       refine one_ (i:=4) (N:=some 14) (zzB 27 31) rfl rfl (one_of HT_.out (by kernel_rfl)) (by decide) (fun K hK=>?_);refine goes_ Try.func55 (by kernel_rfl) rfl #[.agg #[.bool ((rd_T27 l0 x3_1).f0),.bool ((rd_T27 l0 x3_1).f1),.int .i64 ((rd_T27 l0 x3_1).f2),.int .i64 ((rd_T27 l0 x3_1).f3),.int .i64 ((rd_T27 l0 x3_1).f4),.slice A299_5 ((rd_T27 l0 x3_1).f5).length c299_5]] (by rfl) rfl rfl zzM2 ?_;with_reducible refine (spec_BatchValid.calls k1 ((rd_T27 l0 x3_1).f0) ((rd_T27 l0 x3_1).f1) ((rd_T27 l0 x3_1).f2) ((rd_T27 l0 x3_1).f3) ((rd_T27 l0 x3_1).f4) _ _ ((rd_T27 l0 x3_1).f5) true _ ?side1 ?side2 A4.out).mono ?_;(case side1=>repeat (first|exact (Kd.C_below HR299_5.out HB.out)|(with_reducible refine Kd.C_alloc ?_ _)|(with_reducible refine Kd.C_drewN ?_ _)|(with_reducible refine Kd.C_drew ?_)));(case side2=>exact HC299_5.out);rintro e w20 ⟨rfl,hb⟩;refine ⟨_,rfl,?_⟩;have n0_:=zzm (zzp zzh1 hb);clear HB;have HB:=n0_;clear n0_;(try clear hb);(try clear hb2);(try clear hk);(try clear hi);refine hK.out _ _ ⟨(zzx HB.out hw299_0),(zzx HB.out hw299_1),(zzx HB.out hw299_2),(zzx HB.out hw299_3),(zzx HB.out hw299_4),(zzx HB.out hw299_5)⟩ (fun hHeld=>?_);clear hK K;refine norm_ (a':=?_) ?_ ?_;rotate_left
       ·
        show Act.put _ (some 14) _ = _;simp only [Act.put,zzq,zzr,zzs,i64_w,i32_w];rfl
       refine pure_ (i:=5) (N:=some 15) (v:=?_) (a':=?_) (zzB 27 63) rfl rfl (zzA2 HT_.out) (fun _ _ _ h=>h) (Or.inl ⟨by rfl,?_⟩) ?_ ?_;rotate_left
       ·
        intro w';go_simp;with_reducible rfl
       rotate_left
       ·
        simp only [Act.put,zzq,zzr,zzs,i64_w,i32_w];rfl
       refine pure_ (i:=6) (N:=some 16) (v:=?_) (a':=?_) (zzB 27 127) rfl rfl (zzA2 HT_.out) (fun _ _ _ h=>h) (Or.inl ⟨by rfl,?_⟩) ?_ ?_;rotate_left
       ·
        intro w';go_simp;with_reducible rfl
       rotate_left
       ·
        simp only [Act.put,zzq,zzr,zzs,i64_w,i32_w];rfl
       refine pure_ (i:=7) (N:=some 17) (v:=?_) (a':=?_) (zzB 27 255) rfl rfl (zzA2 HT_.out) (fun _ _ _ h=>h) (Or.inl ⟨by rfl,?_⟩) ?_ ?_;rotate_left
       ·
        intro w';go_simp;with_reducible rfl
       rotate_left
       ·
        simp only [Act.put,zzq,zzr,zzs,i64_w,i32_w];rfl
       refine pure_ (i:=8) (N:=some 18) (v:=?_) (a':=?_) (zzB 27 511) rfl rfl (zzA2 HT_.out) (fun _ _ _ h=>h) (Or.inl ⟨by rfl,?_⟩) ?_ ?_;rotate_left
       ·
        intro w';go_simp;with_reducible rfl
       rotate_left
       ·
        simp only [Act.put,zzq,zzr,zzs,i64_w,i32_w];rfl
       refine pure_ (i:=9) (N:=some 19) (v:=?_) (a':=?_) (zzB 27 1023) rfl rfl (zzA2 HT_.out) (fun _ _ _ h=>h) (Or.inl ⟨by rfl,?_⟩) ?_ ?_;rotate_left
       ·
        intro w';go_simp;with_reducible rfl
       rotate_left
       ·
        simp only [Act.put,zzq,zzr,zzs,i64_w,i32_w];rfl
       refine pure_ (i:=10) (N:=some 20) (v:=undef) (a':=?_) (zzB 27 2047) rfl rfl (zzA2 HT_.out) (fun _ _ _ h=>h) (Or.inr ⟨by rfl,rfl⟩) ?_ ?_;rotate_left
       ·
        simp only [Act.put,zzq,zzr,zzs,i64_w,i32_w];rfl
       refine pure_ (i:=11) (N:=some 21) (v:=undef) (a':=?_) (zzB 27 4095) rfl rfl (zzA2 HT_.out) (fun _ _ _ h=>h) (Or.inr ⟨by rfl,rfl⟩) ?_ ?_;rotate_left
       ·
        simp only [Act.put,zzq,zzr,zzs,i64_w,i32_w];rfl
       refine pure_ (i:=12) (N:=some 22) (v:=undef) (a':=?_) (zzB 27 8191) rfl rfl (zzA2 HT_.out) (fun _ _ _ h=>h) (Or.inr ⟨by rfl,rfl⟩) ?_ ?_;rotate_left
       ·
        simp only [Act.put,zzq,zzr,zzs,i64_w,i32_w];rfl
       refine pure_ (i:=13) (N:=some 23) (v:=undef) (a':=?_) (zzB 27 16383) rfl rfl (zzA2 HT_.out) (fun _ _ _ h=>h) (Or.inr ⟨by rfl,rfl⟩) ?_ ?_;rotate_left
       ·
        simp only [Act.put,zzq,zzr,zzs,i64_w,i32_w];rfl
       refine pure_ (i:=14) (N:=some 24) (v:=undef) (a':=?_) (zzB 27 32767) rfl rfl (zzA2 HT_.out) (fun _ _ _ h=>h) (Or.inr ⟨by rfl,rfl⟩) ?_ ?_;rotate_left
       ·
        simp only [Act.put,zzq,zzr,zzs,i64_w,i32_w];rfl
       refine pure_ (i:=15) (N:=some 25) (v:=undef) (a':=?_) (zzB 27 65535) rfl rfl (zzA2 HT_.out) (fun _ _ _ h=>h) (Or.inr ⟨by rfl,rfl⟩) ?_ ?_;rotate_left
       ·
        simp only [Act.put,zzq,zzr,zzs,i64_w,i32_w];rfl
       refine pure_ (i:=16) (N:=some 26) (v:=undef) (a':=?_) (zzB 27 131071) rfl rfl (zzA2 HT_.out) (fun _ _ _ h=>h) (Or.inr ⟨by rfl,rfl⟩) ?_ ?_;rotate_left
       ·
        simp only [Act.put,zzq,zzr,zzs,i64_w,i32_w];rfl
       refine pure_ (i:=17) (N:=some 27) (v:=undef) (a':=?_) (zzB 27 262143) rfl rfl (zzA2 HT_.out) (fun _ _ _ h=>h) (Or.inr ⟨by rfl,rfl⟩) ?_ ?_;rotate_left
       ·
        simp only [Act.put,zzq,zzr,zzs,i64_w,i32_w];rfl
       refine pure_ (i:=18) (N:=some 28) (v:=undef) (a':=?_) (zzB 27 524287) rfl rfl (zzA2 HT_.out) (fun _ _ _ h=>h) (Or.inr ⟨by rfl,rfl⟩) ?_ ?_;rotate_left
       ·
        simp only [Act.put,zzq,zzr,zzs,i64_w,i32_w];rfl
       refine pure_ (i:=19) (N:=some 29) (v:=undef) (a':=?_) (zzB 27 1048575) rfl rfl (zzA2 HT_.out) (fun _ _ _ h=>h) (Or.inr ⟨by rfl,rfl⟩) ?_ ?_;rotate_left
       ·
        simp only [Act.put,zzq,zzr,zzs,i64_w,i32_w];rfl
       refine pure_ (i:=20) (N:=some 30) (v:=undef) (a':=?_) (zzB 27 2097151) rfl rfl (zzA2 HT_.out) (fun _ _ _ h=>h) (Or.inr ⟨by rfl,rfl⟩) ?_ ?_;rotate_left
       ·
        simp only [Act.put,zzq,zzr,zzs,i64_w,i32_w];rfl
       refine pure_ (i:=21) (N:=some 31) (v:=undef) (a':=?_) (zzB 27 4194303) rfl rfl (zzA2 HT_.out) (fun _ _ _ h=>h) (Or.inr ⟨by rfl,rfl⟩) ?_ ?_;rotate_left
       ·
        simp only [Act.put,zzq,zzr,zzs,i64_w,i32_w];rfl
       refine pure_ (i:=22) (N:=some 32) (v:=undef) (a':=?_) (zzB 27 8388607) rfl rfl (zzA2 HT_.out) (fun _ _ _ h=>h) (Or.inr ⟨by rfl,rfl⟩) ?_ ?_;rotate_left
       ·
        simp only [Act.put,zzq,zzr,zzs,i64_w,i32_w];rfl
       refine pure_ (i:=23) (N:=some 33) (v:=undef) (a':=?_) (zzB 27 16777215) rfl rfl (zzA2 HT_.out) (fun _ _ _ h=>h) (Or.inr ⟨by rfl,rfl⟩) ?_ ?_;rotate_left
       ·
        simp only [Act.put,zzq,zzr,zzs,i64_w,i32_w];rfl
       refine pure_ (i:=24) (N:=some 34) (v:=undef) (a':=?_) (zzB 27 33554431) rfl rfl (zzA2 HT_.out) (fun _ _ _ h=>h) (Or.inr ⟨by rfl,rfl⟩) ?_ ?_;rotate_left
       ·
        simp only [Act.put,zzq,zzr,zzs,i64_w,i32_w];rfl
       refine pure_ (i:=25) (N:=some 35) (v:=?_) (a':=?_) (zzB 27 67108863) rfl rfl (zzA2 HT_.out) (fun _ _ _ h=>h) (Or.inl ⟨by rfl,?_⟩) ?_ ?_;rotate_left
       ·
        intro w';go_simp;with_reducible rfl
       rotate_left
       ·
        simp only [Act.put,zzq,zzr,zzs,i64_w,i32_w];rfl
       refine pure_ (i:=26) (N:=some 36) (v:=?_) (a':=?_) (zzB 27 134217727) rfl rfl (zzA2 HT_.out) (fun _ _ _ h=>h) (Or.inl ⟨by rfl,?_⟩) ?_ ?_;rotate_left
       ·
        intro w';go_simp;with_reducible rfl
       rotate_left
       ·
        simp only [Act.put,zzq,zzr,zzs,i64_w,i32_w];rfl
       refine done_ (done_of HT_.out (by kernel_rfl)) ?_;try go_wp2
       go_roundg k1
       case measure=>have:=HK1.out;omega
       case rel=>exact ⟨(wrap64 (x3_1+1)),(by first|rfl|(simp;done)|(simp [*];done)),H',⟨by have:=HK1.out;omega⟩,⟨zzh1⟩⟩
     ·
      replace c5:=Bool.eq_false_iff.mpr c5;subst c5;have H1:(some false)=some r:=by rw [if_neg (show ¬ (false=true) by decide)] at H;exact H
      clear H;have H:=H1;clear H1;obtain rfl:=Option.some.inj H;try go_wp2
      have n0_:=zzm (zzc HB.out);clear HB;have HB:=n0_;clear n0_;have p299 : 0≤(x3_1:Int):=zzt;have q299:x3_1 < (l0.length:Int):=zzt;obtain ⟨ad299,A299_5,c299_5,e299,hx299_0,hx299_1,hx299_2,hx299_3,hx299_4,hx299_5,hl299_5,hi299_5⟩:=at_T27 HR0.out x3_1 p299 q299;have hw299_5:=hx299_5;have hw299_4:=hx299_4;have hw299_3:=hx299_3;have hw299_2:=hx299_2;have hw299_1:=hx299_1;have hw299_0:=hx299_0;cases e299;replace hx299_0:=zzx HB.out hx299_0;replace hx299_1:=zzx HB.out hx299_1;replace hx299_2:=zzx HB.out hx299_2;replace hx299_3:=zzx HB.out hx299_3;replace hx299_4:=zzx HB.out hx299_4;replace hx299_5:=zzx HB.out hx299_5;have HR299_5:=zzm hi299_5;have HC299_5:=zzm hl299_5;clear hi299_5 hl299_5;replace p299:=eq_true p299;replace q299:=eq_true q299;refine start_ (n:=27) (S:=fun w'=>w'.cell? (ad299.add ((x3_1).toNat * 6))=some (.bool ((rd_T27 l0 x3_1).f0))∧w'.cell? ⟨(ad299.add ((x3_1).toNat * 6)).block,(ad299.add ((x3_1).toNat * 6)).off+1,none⟩=some (.bool ((rd_T27 l0 x3_1).f1))∧w'.cell? ⟨(ad299.add ((x3_1).toNat * 6)).block,(ad299.add ((x3_1).toNat * 6)).off+2,none⟩=some (.int .i64 ((rd_T27 l0 x3_1).f2))∧w'.cell? ⟨(ad299.add ((x3_1).toNat * 6)).block,(ad299.add ((x3_1).toNat * 6)).off+3,none⟩=some (.int .i64 ((rd_T27 l0 x3_1).f3))∧w'.cell? ⟨(ad299.add ((x3_1).toNat * 6)).block,(ad299.add ((x3_1).toNat * 6)).off+4,none⟩=some (.int .i64 ((rd_T27 l0 x3_1).f4))∧w'.cell? ⟨(ad299.add ((x3_1).toNat * 6)).block,(ad299.add ((x3_1).toNat * 6)).off+5,none⟩=some (.slice A299_5 ((rd_T27 l0 x3_1).f5).length c299_5)) (ds:=[]) (zzB 27 0) (by kernel_rfl) rfl rfl ⟨(zzx HB.out hw299_0),(zzx HB.out hw299_1),(zzx HB.out hw299_2),(zzx HB.out hw299_3),(zzx HB.out hw299_4),(zzx HB.out hw299_5)⟩ (fun hHeld=>?_);refine with_tabW spec_LogValid.tab4 spec_LogValid.bits4 (fun HT_ HW_=>?_);generalize wr.drew=w21 at HB HR299_5 hx299_0 hx299_1 hx299_2 hx299_3 hx299_4 hx299_5 hHeld ⊢;refine pure_ (i:=0) (N:=some 10) (v:=?_) (a':=?_) (zzB 27 1) rfl rfl (zzA2 HT_.out) (fun _ _ _ h=>h) (Or.inl ⟨by rfl,?_⟩) ?_ ?_;rotate_left
      ·
       intro w';go_simp;with_reducible rfl
      rotate_left
      ·
       simp only [Act.put,zzq,zzr,zzs,i64_w,i32_w];rfl
      refine pure_ (i:=1) (N:=some 11) (v:=?_) (a':=?_) (zzB 27 3) rfl rfl (zzA2 HT_.out) (fun _ _ _ h=>h) (Or.inl ⟨by rfl,?_⟩) ?_ ?_;rotate_left
      ·
       intro w';go_simp;with_reducible rfl
      rotate_left
      ·
       simp only [Act.put,zzq,zzr,zzs,i64_w,i32_w];rfl
      refine pure_ (i:=2) (N:=some 12) (v:=?_) (a':=?_) (zzB 27 7) rfl rfl (zzA2 HT_.out) (fun _ _ _ h=>h) (Or.inl ⟨by rfl,?_⟩) ?_ ?_;rotate_left
      ·
       intro w';go_simp;with_reducible rfl
      rotate_left
      ·
       simp only [Act.put,zzq,zzr,zzs,i64_w,i32_w];rfl
      refine take_ (i:=3) (N:=some 13) (v:=?_) (a':=?_) (zzB 27 15) rfl rfl (take_ofW HT_.out HW_.out (by kernel_rfl)) (fun _ _ _ h=>h) (Or.inl ⟨by rfl,?_⟩) hHeld ?_ ?_;rotate_left
      ·
       rintro w' ⟨s0,s1,s2,s3,s4,s5⟩;go_simp;with_reducible rfl
      rotate_left
      ·
       simp only [Act.put,zzq,zzr,zzs,i64_w,i32_w];rfl
      refine one_ (i:=4) (N:=some 14) (zzB 27 31) rfl rfl (one_of HT_.out (by kernel_rfl)) (by decide) (fun K hK=>?_);refine goes_ Try.func55 (by kernel_rfl) rfl #[.agg #[.bool ((rd_T27 l0 x3_1).f0),.bool ((rd_T27 l0 x3_1).f1),.int .i64 ((rd_T27 l0 x3_1).f2),.int .i64 ((rd_T27 l0 x3_1).f3),.int .i64 ((rd_T27 l0 x3_1).f4),.slice A299_5 ((rd_T27 l0 x3_1).f5).length c299_5]] (by rfl) rfl rfl zzM2 ?_;with_reducible refine (spec_BatchValid.calls k1 ((rd_T27 l0 x3_1).f0) ((rd_T27 l0 x3_1).f1) ((rd_T27 l0 x3_1).f2) ((rd_T27 l0 x3_1).f3) ((rd_T27 l0 x3_1).f4) _ _ ((rd_T27 l0 x3_1).f5) false _ ?side1 ?side2 A4.out).mono ?_;(case side1=>repeat (first|exact (Kd.C_below HR299_5.out HB.out)|(with_reducible refine Kd.C_alloc ?_ _)|(with_reducible refine Kd.C_drewN ?_ _)|(with_reducible refine Kd.C_drew ?_)));(case side2=>exact HC299_5.out);rintro e w22 ⟨rfl,hb⟩;refine ⟨_,rfl,?_⟩;have n0_:=zzm (zzp zzh1 hb);clear HB;have HB:=n0_;clear n0_;(try clear hb);(try clear hb2);(try clear hk);(try clear hi);refine hK.out _ _ ⟨(zzx HB.out hw299_0),(zzx HB.out hw299_1),(zzx HB.out hw299_2),(zzx HB.out hw299_3),(zzx HB.out hw299_4),(zzx HB.out hw299_5)⟩ (fun hHeld=>?_);clear hK K;refine norm_ (a':=?_) ?_ ?_;rotate_left
      ·
       show Act.put _ (some 14) _ = _;simp only [Act.put,zzq,zzr,zzs,i64_w,i32_w];rfl
      refine pure_ (i:=5) (N:=some 15) (v:=?_) (a':=?_) (zzB 27 63) rfl rfl (zzA2 HT_.out) (fun _ _ _ h=>h) (Or.inl ⟨by rfl,?_⟩) ?_ ?_;rotate_left
      ·
       intro w';go_simp;with_reducible rfl
      rotate_left
      ·
       simp only [Act.put,zzq,zzr,zzs,i64_w,i32_w];rfl
      refine pure_ (i:=6) (N:=some 16) (v:=?_) (a':=?_) (zzB 27 127) rfl rfl (zzA2 HT_.out) (fun _ _ _ h=>h) (Or.inl ⟨by rfl,?_⟩) ?_ ?_;rotate_left
      ·
       intro w';go_simp;with_reducible rfl
      rotate_left
      ·
       simp only [Act.put,zzq,zzr,zzs,i64_w,i32_w];rfl
      refine pure_ (i:=7) (N:=some 17) (v:=undef) (a':=?_) (zzB 27 255) rfl rfl (zzA2 HT_.out) (fun _ _ _ h=>h) (Or.inr ⟨by rfl,rfl⟩) ?_ ?_;rotate_left
      ·
       simp only [Act.put,zzq,zzr,zzs,i64_w,i32_w];rfl
      refine pure_ (i:=8) (N:=some 18) (v:=undef) (a':=?_) (zzB 27 511) rfl rfl (zzA2 HT_.out) (fun _ _ _ h=>h) (Or.inr ⟨by rfl,rfl⟩) ?_ ?_;rotate_left
      ·
       simp only [Act.put,zzq,zzr,zzs,i64_w,i32_w];rfl
      refine pure_ (i:=9) (N:=some 19) (v:=undef) (a':=?_) (zzB 27 1023) rfl rfl (zzA2 HT_.out) (fun _ _ _ h=>h) (Or.inr ⟨by rfl,rfl⟩) ?_ ?_;rotate_left
      ·
       simp only [Act.put,zzq,zzr,zzs,i64_w,i32_w];rfl
      refine pure_ (i:=10) (N:=some 20) (v:=undef) (a':=?_) (zzB 27 2047) rfl rfl (zzA2 HT_.out) (fun _ _ _ h=>h) (Or.inr ⟨by rfl,rfl⟩) ?_ ?_;rotate_left
      ·
       simp only [Act.put,zzq,zzr,zzs,i64_w,i32_w];rfl
      refine pure_ (i:=11) (N:=some 21) (v:=undef) (a':=?_) (zzB 27 4095) rfl rfl (zzA2 HT_.out) (fun _ _ _ h=>h) (Or.inr ⟨by rfl,rfl⟩) ?_ ?_;rotate_left
      ·
       simp only [Act.put,zzq,zzr,zzs,i64_w,i32_w];rfl
      refine pure_ (i:=12) (N:=some 22) (v:=undef) (a':=?_) (zzB 27 8191) rfl rfl (zzA2 HT_.out) (fun _ _ _ h=>h) (Or.inr ⟨by rfl,rfl⟩) ?_ ?_;rotate_left
      ·
       simp only [Act.put,zzq,zzr,zzs,i64_w,i32_w];rfl
      refine pure_ (i:=13) (N:=some 23) (v:=undef) (a':=?_) (zzB 27 16383) rfl rfl (zzA2 HT_.out) (fun _ _ _ h=>h) (Or.inr ⟨by rfl,rfl⟩) ?_ ?_;rotate_left
      ·
       simp only [Act.put,zzq,zzr,zzs,i64_w,i32_w];rfl
      refine pure_ (i:=14) (N:=some 24) (v:=undef) (a':=?_) (zzB 27 32767) rfl rfl (zzA2 HT_.out) (fun _ _ _ h=>h) (Or.inr ⟨by rfl,rfl⟩) ?_ ?_;rotate_left
      ·
       simp only [Act.put,zzq,zzr,zzs,i64_w,i32_w];rfl
      refine pure_ (i:=15) (N:=some 25) (v:=undef) (a':=?_) (zzB 27 65535) rfl rfl (zzA2 HT_.out) (fun _ _ _ h=>h) (Or.inr ⟨by rfl,rfl⟩) ?_ ?_;rotate_left
      ·
       simp only [Act.put,zzq,zzr,zzs,i64_w,i32_w];rfl
      refine pure_ (i:=16) (N:=some 26) (v:=undef) (a':=?_) (zzB 27 131071) rfl rfl (zzA2 HT_.out) (fun _ _ _ h=>h) (Or.inr ⟨by rfl,rfl⟩) ?_ ?_;rotate_left
      ·
       simp only [Act.put,zzq,zzr,zzs,i64_w,i32_w];rfl
      refine pure_ (i:=17) (N:=some 27) (v:=undef) (a':=?_) (zzB 27 262143) rfl rfl (zzA2 HT_.out) (fun _ _ _ h=>h) (Or.inr ⟨by rfl,rfl⟩) ?_ ?_;rotate_left
      ·
       simp only [Act.put,zzq,zzr,zzs,i64_w,i32_w];rfl
      refine pure_ (i:=18) (N:=some 28) (v:=undef) (a':=?_) (zzB 27 524287) rfl rfl (zzA2 HT_.out) (fun _ _ _ h=>h) (Or.inr ⟨by rfl,rfl⟩) ?_ ?_;rotate_left
      ·
       simp only [Act.put,zzq,zzr,zzs,i64_w,i32_w];rfl
      refine pure_ (i:=19) (N:=some 29) (v:=undef) (a':=?_) (zzB 27 1048575) rfl rfl (zzA2 HT_.out) (fun _ _ _ h=>h) (Or.inr ⟨by rfl,rfl⟩) ?_ ?_;rotate_left
      ·
       simp only [Act.put,zzq,zzr,zzs,i64_w,i32_w];rfl
      refine pure_ (i:=20) (N:=some 30) (v:=undef) (a':=?_) (zzB 27 2097151) rfl rfl (zzA2 HT_.out) (fun _ _ _ h=>h) (Or.inr ⟨by rfl,rfl⟩) ?_ ?_;rotate_left
      ·
       simp only [Act.put,zzq,zzr,zzs,i64_w,i32_w];rfl
      refine pure_ (i:=21) (N:=some 31) (v:=undef) (a':=?_) (zzB 27 4194303) rfl rfl (zzA2 HT_.out) (fun _ _ _ h=>h) (Or.inr ⟨by rfl,rfl⟩) ?_ ?_;rotate_left
      ·
       simp only [Act.put,zzq,zzr,zzs,i64_w,i32_w];rfl
      refine pure_ (i:=22) (N:=some 32) (v:=undef) (a':=?_) (zzB 27 8388607) rfl rfl (zzA2 HT_.out) (fun _ _ _ h=>h) (Or.inr ⟨by rfl,rfl⟩) ?_ ?_;rotate_left
      ·
       simp only [Act.put,zzq,zzr,zzs,i64_w,i32_w];rfl
      refine pure_ (i:=23) (N:=some 33) (v:=undef) (a':=?_) (zzB 27 16777215) rfl rfl (zzA2 HT_.out) (fun _ _ _ h=>h) (Or.inr ⟨by rfl,rfl⟩) ?_ ?_;rotate_left
      ·
       simp only [Act.put,zzq,zzr,zzs,i64_w,i32_w];rfl
      refine pure_ (i:=24) (N:=some 34) (v:=undef) (a':=?_) (zzB 27 33554431) rfl rfl (zzA2 HT_.out) (fun _ _ _ h=>h) (Or.inr ⟨by rfl,rfl⟩) ?_ ?_;rotate_left
      ·
       simp only [Act.put,zzq,zzr,zzs,i64_w,i32_w];rfl
      refine pure_ (i:=25) (N:=some 35) (v:=undef) (a':=?_) (zzB 27 67108863) rfl rfl (zzA2 HT_.out) (fun _ _ _ h=>h) (Or.inr ⟨by rfl,rfl⟩) ?_ ?_;rotate_left
      ·
       simp only [Act.put,zzq,zzr,zzs,i64_w,i32_w];rfl
      refine pure_ (i:=26) (N:=some 36) (v:=?_) (a':=?_) (zzB 27 134217727) rfl rfl (zzA2 HT_.out) (fun _ _ _ h=>h) (Or.inl ⟨by rfl,?_⟩) ?_ ?_;rotate_left
      ·
       intro w';go_simp;with_reducible rfl
      rotate_left
      ·
       simp only [Act.put,zzq,zzr,zzs,i64_w,i32_w];rfl
      refine done_ (done_of HT_.out (by kernel_rfl)) ?_;try go_wp2
      go_ret;exact ⟨by first|rfl|(simp [errW_none,errW_some] <;> rfl)|(simp [*,errW_none,errW_some] <;> rfl),zzh1⟩
    ·
     rw [if_neg c3] at H;exact absurd H (by simp)
   ·
    rw [if_neg c2] at H;have c2b0:decide (x3_1 < (l0.length:Int))=false:=decide_eq_false c2;clear c2;obtain rfl:=Option.some.inj H;go_wp2;go_ret;exact ⟨by first|rfl|(simp [errW_none,errW_some] <;> rfl)|(simp [*,errW_none,errW_some] <;> rfl),zzh1⟩
def spec_l22Ours.f (a0_0:Bool) (a0_1:Bool) (a0_2:Int) (a0_3:Int) (a0_4:Int) (l0_5:List (S34)):Option (Bool):=if a0_2=255 then (some false) else (some (!a0_1))
set_option maxHeartbeats 8000000 in
set_option maxRecDepth 100000 in
theorem spec_l22Ours.calls (a0_0:Bool) (a0_1:Bool) (a0_2:Int) (a0_3:Int) (a0_4:Int) (A0_5:Option Addr) (c0_5:Nat) (l0_5:List (S34)) (r:Bool) (w:World) (hr0_5:Kd.C k34 w A0_5 l0_5.length l0_5) (hc0_5:l0_5.length≤c0_5) (h:spec_l22Ours.f a0_0 a0_1 a0_2 a0_3 a0_4 l0_5=some r) :
  Calls Try.prog 66 #[.agg #[.bool a0_0,.bool a0_1,.int .i64 a0_2,.int .i64 a0_3,.int .i64 a0_4,.slice A0_5 l0_5.length c0_5]] w fun e w'=>e = .returned (.bool r)∧Below w.heap.size w w':=by
 have hu27:=Try.underlying27;have HR0_5:=zzm hr0_5;have HC0_5:=zzm hc0_5;clear hr0_5 hc0_5;have HB:=zzm (Below.refl w.heap.size w);have H:(if a0_2=255 then (some false) else (some (!a0_1)))=some r:=h;clear h;by_cases c2:a0_2=255
 ·
  rw [if_pos c2] at H;have c2b0:(a0_2==255)=true:=beq_iff_eq.mpr c2;have c2b1:(a0_2 != 255)=false:=bne_eq_false_iff_eq.mpr c2;clear c2;obtain rfl:=Option.some.inj H;go_enter Try.func66,Try.ntmps66;go_wp2_with (first|((with_reducible refine gate_dst (N:=1) rfl ?_);refine box_event ?hg (N:=1) ?hd (cs:=#[.bool a0_0,.bool a0_1,.int .i64 a0_2,.int .i64 a0_3,.int .i64 a0_4,.slice A0_5 l0_5.length c0_5]) (t:=27) ?hr ?_;(case hd=>rfl);(case hg=>rfl);(case hr=>first|(go_simp;done)|(go_simp;rfl));intro gb305 hg w3 hbox hb;have n0_:=zzm (zzp zzh1 hb);have n1_:=zzm (hbox);have n2_:=zzm ((by rw [hg];exact (zzo zzh1):w.heap.size≤gb305));have n3_:=zzm ((by rw [hg];exact (zzo zzh1):w.heap.size≤gb305));clear HB;have HB:=n0_;have BK305:=n1_;have GW305:=n2_;have GE305:=n3_;clear n0_ n1_ n2_ n3_ hb hbox hg;obtain ⟨hcz4_0,hcz4_1,hcz4_2,hcz4_3,hcz4_4,hcz4_5,hfz4_0,hfz4_1,hfz4_2,hfz4_3,hfz4_4,hfz4_5⟩:=zzc6 BK305.out));go_ret;exact ⟨by first|rfl|(simp [errW_none,errW_some] <;> rfl)|(simp [*,errW_none,errW_some] <;> rfl),by repeat (first|(with_reducible first|exact HB.out|apply zza|apply zzb|apply zzc|refine zzd ?_ GE305.out)|exact HB.out)⟩
 ·
  rw [if_neg c2] at H;have c2b0:(a0_2==255)=false:=beq_eq_false_iff_ne.mpr c2;have c2b1:(a0_2 != 255)=true:=bne_iff_ne.mpr c2;obtain rfl:=Option.some.inj H;go_enter Try.func66,Try.ntmps66;go_wp2_with (first|((with_reducible refine gate_dst (N:=1) rfl ?_);refine box_event ?hg (N:=1) ?hd (cs:=#[.bool a0_0,.bool a0_1,.int .i64 a0_2,.int .i64 a0_3,.int .i64 a0_4,.slice A0_5 l0_5.length c0_5]) (t:=27) ?hr ?_;(case hd=>rfl);(case hg=>rfl);(case hr=>first|(go_simp;done)|(go_simp;rfl));intro gb305 hg w5 hbox hb;have n0_:=zzm (zzp zzh1 hb);have n1_:=zzm (hbox);have n2_:=zzm ((by rw [hg];exact (zzo zzh1):w.heap.size≤gb305));have n3_:=zzm ((by rw [hg];exact (zzo zzh1):w.heap.size≤gb305));clear HB;have HB:=n0_;have BK305:=n1_;have GW305:=n2_;have GE305:=n3_;clear n0_ n1_ n2_ n3_ hb hbox hg;obtain ⟨hcz6_0,hcz6_1,hcz6_2,hcz6_3,hcz6_4,hcz6_5,hfz6_0,hfz6_1,hfz6_2,hfz6_3,hfz6_4,hfz6_5⟩:=zzc6 BK305.out));go_ret;exact ⟨by first|rfl|(simp [errW_none,errW_some] <;> rfl)|(simp [*,errW_none,errW_some] <;> rfl),by repeat (first|(with_reducible first|exact HB.out|apply zza|apply zzb|apply zzc|refine zzd ?_ GE305.out)|exact HB.out)⟩
def spec_l22Mark.l0:Nat→List (S27)→Int→Int→Option (Int)
 | 0,_,_,_=>none
 | k+1,x0,x1,x5=>if x5 < (x0.length:Int) then (if 0≤x5 then (if (rd_T27 x0 x5).f1=true then (if 0≤x1 then (if x1 < (x0.length:Int) then (if ((rd_T27 x0 x5).f2)=((rd_T27 x0 x1).f2) then (some x5) else (spec_l22Mark.l0 k x0 x1 (wrap64 (x5+1)))) else (none)) else (none)) else (spec_l22Mark.l0 k x0 x1 (wrap64 (x5+1)))) else (none)) else (some (-1))
def spec_l22Mark.f (k:Nat) (l0:List (S27)) (a1:Int):Option (Int):=spec_l22Mark.l0 k l0 a1 (wrap64 (a1+1))
set_option maxHeartbeats 8000000 in
set_option maxRecDepth 100000 in
theorem spec_l22Mark.calls (k:Nat) (A0:Option Addr) (c0:Nat) (l0:List (S27)) (a1:Int) (r:Int) (w:World) (hr0:Kd.C k27 w A0 l0.length l0) (hc0:l0.length≤c0) (h:spec_l22Mark.f k l0 a1=some r) :
  Calls Try.prog 68 #[.slice A0 l0.length c0,.int .i64 a1] w fun e w'=>e = .returned (.int .i64 r)∧Drawn0 w w':=by
 have HR0:=zzm hr0;have HC0:=zzm hc0;clear hr0 hc0;have H:(spec_l22Mark.l0 k l0 a1 (wrap64 (a1+1)))=some r:=h;clear h;have H':=zzm H;clear H;go_enter Try.func68,Try.ntmps68;go_wp2;repeat (go_quiet (fail);try go_wp2)
 go_loopg [5] k (fun kq v5 w'=>∃ (x5_1:Int),v5 = .int .i64 x5_1∧Aside0 (spec_l22Mark.l0 kq l0 a1 x5_1=some r)∧Aside0 (kq≤k)∧Drawn0 w w')
 case atStart=>exact ⟨(wrap64 (a1+1)),(by first|rfl|(simp;done)|(simp [*];done)),H',⟨Nat.le_refl _⟩,by repeat (first|exact Drawn0.refl _|apply Drawn0.step)⟩
 case round=>
  clear H';try clear p2
  obtain ⟨x5_1,rfl,HA,HK1,⟨m1,rfl⟩⟩:=hrel;cases gk with
  | zero=>exact absurd HA.out (by simp [spec_l22Mark.l0])
  | succ k1=>
   have H:=HA.out;clear HA;simp only [spec_l22Mark.l0] at H;by_cases c3:x5_1 < (l0.length:Int)
   ·
    rw [if_pos c3] at H;have c3b0:decide (x5_1 < (l0.length:Int))=true:=decide_eq_true c3;clear c3;by_cases c4 : 0≤x5_1
    ·
     rw [if_pos c4] at H;have c4b0:decide (0≤x5_1)=true:=decide_eq_true c4;clear c4;obtain ⟨bq5,hbq5⟩:∃ b_:Bool,b_=((rd_T27 l0 x5_1).f1):=⟨_,rfl⟩;replace H:(if bq5=true then (if 0≤a1 then (if a1 < (l0.length:Int) then (if ((rd_T27 l0 x5_1).f2)=((rd_T27 l0 a1).f2) then (some x5_1) else (spec_l22Mark.l0 k1 l0 a1 (wrap64 (x5_1+1)))) else (none)) else (none)) else (spec_l22Mark.l0 k1 l0 a1 (wrap64 (x5_1+1))))=some r:=by rw [← hbq5] at H;exact H
     have Nbq5:=zzm hbq5;clear hbq5;by_cases c6:bq5=true
     ·
      subst c6;have H1:(if 0≤a1 then (if a1 < (l0.length:Int) then (if ((rd_T27 l0 x5_1).f2)=((rd_T27 l0 a1).f2) then (some x5_1) else (spec_l22Mark.l0 k1 l0 a1 (wrap64 (x5_1+1)))) else (none)) else (none))=some r:=by rw [if_pos rfl] at H;exact H
      clear H;have H:=H1;clear H1;by_cases c7 : 0≤a1
      ·
       rw [if_pos c7] at H;have c7b0:decide (0≤a1)=true:=decide_eq_true c7;clear c7;by_cases c8:a1 < (l0.length:Int)
       ·
        rw [if_pos c8] at H;have c8b0:decide (a1 < (l0.length:Int))=true:=decide_eq_true c8;clear c8;by_cases c9:((rd_T27 l0 x5_1).f2)=((rd_T27 l0 a1).f2)
        ·
         rw [if_pos c9] at H;have c9b0:(((rd_T27 l0 x5_1).f2)==((rd_T27 l0 a1).f2))=true:=beq_iff_eq.mpr c9;have c9b1:(((rd_T27 l0 x5_1).f2) != ((rd_T27 l0 a1).f2))=false:=bne_eq_false_iff_eq.mpr c9;clear c9;obtain rfl:=Option.some.inj H;have p306 : 0≤(x5_1:Int):=zzt;have q306:x5_1 < (l0.length:Int):=zzt;obtain ⟨ad306,A306_5,c306_5,e306,hx306_0,hx306_1,hx306_2,hx306_3,hx306_4,hx306_5,hl306_5,hi306_5⟩:=at_T27 HR0.out x5_1 p306 q306;(try rw [← Nbq5.out] at hx306_0);(try rw [← Nbq5.out] at hx306_1);cases e306;have HR306_5:=zzm hi306_5;have HC306_5:=zzm hl306_5;clear hi306_5 hl306_5;replace p306:=eq_true p306;replace q306:=eq_true q306;have p307 : 0≤(x5_1:Int):=zzt;have q307:x5_1 < (l0.length:Int):=zzt;obtain ⟨ad307,A307_5,c307_5,e307,hx307_0,hx307_1,hx307_2,hx307_3,hx307_4,hx307_5,hl307_5,hi307_5⟩:=at_T27 HR0.out x5_1 p307 q307;(try rw [← Nbq5.out] at hx307_0);(try rw [← Nbq5.out] at hx307_1);obtain rfl:ad306=ad307:=(by injection e307);have HR307_5:=zzm hi307_5;have HC307_5:=zzm hl307_5;clear hi307_5 hl307_5;replace p307:=eq_true p307;replace q307:=eq_true q307;have ea_:=Option.some.inj (hx306_5.symm.trans hx307_5);injection ea_ with ea_ en_ ec_;subst ea_;subst ec_;clear en_;have p308 : 0≤(a1:Int):=zzt;have q308:a1 < (l0.length:Int):=zzt;obtain ⟨ad308,A308_5,c308_5,e308,hx308_0,hx308_1,hx308_2,hx308_3,hx308_4,hx308_5,hl308_5,hi308_5⟩:=at_T27 HR0.out a1 p308 q308;(try rw [← Nbq5.out] at hx308_0);(try rw [← Nbq5.out] at hx308_1);obtain rfl:ad306=ad308:=(by injection e308);have HR308_5:=zzm hi308_5;have HC308_5:=zzm hl308_5;clear hi308_5 hl308_5;replace p308:=eq_true p308;replace q308:=eq_true q308;go_wp2;repeat (go_quiet (fail);try go_wp2)
         go_ret;exact ⟨by first|rfl|(simp;done)|(simp [*];done),by repeat (first|exact Drawn0.refl _|apply Drawn0.step)⟩
        ·
         rw [if_neg c9] at H;have c9b0:(((rd_T27 l0 x5_1).f2)==((rd_T27 l0 a1).f2))=false:=beq_eq_false_iff_ne.mpr c9;have c9b1:(((rd_T27 l0 x5_1).f2) != ((rd_T27 l0 a1).f2))=true:=bne_iff_ne.mpr c9;have H':=zzm H;clear H;have p306 : 0≤(x5_1:Int):=zzt;have q306:x5_1 < (l0.length:Int):=zzt;obtain ⟨ad306,A306_5,c306_5,e306,hx306_0,hx306_1,hx306_2,hx306_3,hx306_4,hx306_5,hl306_5,hi306_5⟩:=at_T27 HR0.out x5_1 p306 q306;(try rw [← Nbq5.out] at hx306_0);(try rw [← Nbq5.out] at hx306_1);cases e306;have HR306_5:=zzm hi306_5;have HC306_5:=zzm hl306_5;clear hi306_5 hl306_5;replace p306:=eq_true p306;replace q306:=eq_true q306;have p307 : 0≤(x5_1:Int):=zzt;have q307:x5_1 < (l0.length:Int):=zzt;obtain ⟨ad307,A307_5,c307_5,e307,hx307_0,hx307_1,hx307_2,hx307_3,hx307_4,hx307_5,hl307_5,hi307_5⟩:=at_T27 HR0.out x5_1 p307 q307;(try rw [← Nbq5.out] at hx307_0);(try rw [← Nbq5.out] at hx307_1);obtain rfl:ad306=ad307:=(by injection e307);have HR307_5:=zzm hi307_5;have HC307_5:=zzm hl307_5;clear hi307_5 hl307_5;replace p307:=eq_true p307;replace q307:=eq_true q307;have ea_:=Option.some.inj (hx306_5.symm.trans hx307_5);injection ea_ with ea_ en_ ec_;subst ea_;subst ec_;clear en_;have p308 : 0≤(a1:Int):=zzt;have q308:a1 < (l0.length:Int):=zzt;obtain ⟨ad308,A308_5,c308_5,e308,hx308_0,hx308_1,hx308_2,hx308_3,hx308_4,hx308_5,hl308_5,hi308_5⟩:=at_T27 HR0.out a1 p308 q308;(try rw [← Nbq5.out] at hx308_0);(try rw [← Nbq5.out] at hx308_1);obtain rfl:ad306=ad308:=(by injection e308);have HR308_5:=zzm hi308_5;have HC308_5:=zzm hl308_5;clear hi308_5 hl308_5;replace p308:=eq_true p308;replace q308:=eq_true q308;go_wp2;repeat (go_quiet (fail);try go_wp2)
         go_roundg k1
         case measure=>have:=HK1.out;omega
         case rel=>exact ⟨(wrap64 (x5_1+1)),(by first|rfl|(simp;done)|(simp [*];done)),H',⟨by have:=HK1.out;omega⟩,by repeat (first|exact Drawn0.refl _|apply Drawn0.step)⟩
       ·
        rw [if_neg c8] at H;exact absurd H (by simp)
      ·
       rw [if_neg c7] at H;exact absurd H (by simp)
     ·
      replace c6:=Bool.eq_false_iff.mpr c6;subst c6;have H1:(spec_l22Mark.l0 k1 l0 a1 (wrap64 (x5_1+1)))=some r:=by rw [if_neg (show ¬ (false=true) by decide)] at H;exact H
      clear H;have H:=H1;clear H1;have H':=zzm H;clear H;have p306 : 0≤(x5_1:Int):=zzt;have q306:x5_1 < (l0.length:Int):=zzt;obtain ⟨ad306,A306_5,c306_5,e306,hx306_0,hx306_1,hx306_2,hx306_3,hx306_4,hx306_5,hl306_5,hi306_5⟩:=at_T27 HR0.out x5_1 p306 q306;(try rw [← Nbq5.out] at hx306_0);(try rw [← Nbq5.out] at hx306_1);cases e306;have HR306_5:=zzm hi306_5;have HC306_5:=zzm hl306_5;clear hi306_5 hl306_5;replace p306:=eq_true p306;replace q306:=eq_true q306;go_wp2;repeat (go_quiet (fail);try go_wp2)
      go_roundg k1
      case measure=>have:=HK1.out;omega
      case rel=>exact ⟨(wrap64 (x5_1+1)),(by first|rfl|(simp;done)|(simp [*];done)),H',⟨by have:=HK1.out;omega⟩,by repeat (first|exact Drawn0.refl _|apply Drawn0.step)⟩
    ·
     rw [if_neg c4] at H;exact absurd H (by simp)
   ·
    rw [if_neg c3] at H;have c3b0:decide (x5_1 < (l0.length:Int))=false:=decide_eq_false c3;clear c3;obtain rfl:=Option.some.inj H;go_wp2;repeat (go_quiet (fail);try go_wp2)
    go_ret;exact ⟨by first|rfl|(simp;done)|(simp [*];done),by repeat (first|exact Drawn0.refl _|apply Drawn0.step)⟩
def spec_l22End.l0:Nat→List (S27)→Int→Option (Int)
 | 0,_,_=>none
 | k+1,x0,x3=>if x3 < (x0.length:Int) then (if 0≤x3 then ((spec_l22Ours.f ((rd_T27 x0 x3).f0) ((rd_T27 x0 x3).f1) ((rd_T27 x0 x3).f2) ((rd_T27 x0 x3).f3) ((rd_T27 x0 x3).f4) ((rd_T27 x0 x3).f5)).bind fun t312=>(if t312=true then ((spec_l22Mark.f k x0 x3).bind fun t313=>(if t313 < 0 then (if 0 < (((rd_T27 x0 x3).f5).length:Int) then (some ((rd_T34 ((rd_T27 x0 x3).f5) 0).f0)) else (none)) else (spec_l22End.l0 k x0 (wrap64 (x3+1))))) else (spec_l22End.l0 k x0 (wrap64 (x3+1))))) else (none)) else (if (x0.length:Int)=0 then (some 0) else (if 0≤(wrap64 ((x0.length:Int) - 1)) then (if (wrap64 ((x0.length:Int) - 1)) < (x0.length:Int) then ((spec_l12Last.f ((rd_T27 x0 (wrap64 ((x0.length:Int) - 1))).f0) ((rd_T27 x0 (wrap64 ((x0.length:Int) - 1))).f1) ((rd_T27 x0 (wrap64 ((x0.length:Int) - 1))).f2) ((rd_T27 x0 (wrap64 ((x0.length:Int) - 1))).f3) ((rd_T27 x0 (wrap64 ((x0.length:Int) - 1))).f4) ((rd_T27 x0 (wrap64 ((x0.length:Int) - 1))).f5)).bind fun t310=>(some (wrap64 (t310+1)))) else (none)) else (none)))
def spec_l22End.f (k:Nat) (l0:List (S27)):Option (Int):=spec_l22End.l0 k l0 0
set_option maxHeartbeats 8000000 in
set_option maxRecDepth 100000 in
theorem spec_l22End.calls (k:Nat) (A0:Option Addr) (c0:Nat) (l0:List (S27)) (r:Int) (w:World) (hr0:Kd.C k27 w A0 l0.length l0) (hc0:l0.length≤c0) (h:spec_l22End.f k l0=some r) :
  Calls Try.prog 64 #[.slice A0 l0.length c0] w fun e w'=>e = .returned (.int .i64 r)∧Below w.heap.size w w':=by
 have hu27:=Try.underlying27;have HR0:=zzm hr0;have HC0:=zzm hc0;clear hr0 hc0;have HB:=zzm (Below.refl w.heap.size w);have H:(spec_l22End.l0 k l0 0)=some r:=h;clear h;have H':=zzm H;clear H;go_enter Try.func64,Try.ntmps64;go_wp2;go_loopg [3] k (fun kq v3 w'=>∃ (x3_1:Int),v3 = .int .i64 x3_1∧Aside0 (spec_l22End.l0 kq l0 x3_1=some r)∧Aside0 (kq≤k)∧Aside0 (Below w.heap.size w w'))
 case atStart=>exact ⟨(0),(by first|rfl|(simp;done)|(simp [*];done)),H',⟨Nat.le_refl _⟩,⟨zzh1⟩⟩
 case round=>
  clear H';obtain ⟨x3_1,rfl,HA,HK1,HB⟩:=hrel;cases gk with
  | zero=>exact absurd HA.out (by simp [spec_l22End.l0])
  | succ k1=>
   have H:=HA.out;clear HA;simp only [spec_l22End.l0] at H;by_cases c2:x3_1 < (l0.length:Int)
   ·
    rw [if_pos c2] at H;have c2b0:decide (x3_1 < (l0.length:Int))=true:=decide_eq_true c2;clear c2;by_cases c3 : 0≤x3_1
    ·
     rw [if_pos c3] at H;have c3b0:decide (0≤x3_1)=true:=decide_eq_true c3;clear c3;replace H:=Option.bind_eq_some_iff.mp H;obtain ⟨t312,A40,H⟩:=H;replace H:(if t312=true then ((spec_l22Mark.f k1 l0 x3_1).bind fun t313=>(if t313 < 0 then (if 0 < (((rd_T27 l0 x3_1).f5).length:Int) then (some ((rd_T34 ((rd_T27 l0 x3_1).f5) 0).f0)) else (none)) else (spec_l22End.l0 k1 l0 (wrap64 (x3_1+1))))) else (spec_l22End.l0 k1 l0 (wrap64 (x3_1+1))))=some r:=H;have A4:=zzm A40;clear A40;by_cases c5:t312=true
     ·
      subst c5;have H1:((spec_l22Mark.f k1 l0 x3_1).bind fun t313=>(if t313 < 0 then (if 0 < (((rd_T27 l0 x3_1).f5).length:Int) then (some ((rd_T34 ((rd_T27 l0 x3_1).f5) 0).f0)) else (none)) else (spec_l22End.l0 k1 l0 (wrap64 (x3_1+1)))))=some r:=by rw [if_pos rfl] at H;exact H
      clear H;have H:=H1;clear H1;replace H:=Option.bind_eq_some_iff.mp H;obtain ⟨t313,A60,H⟩:=H;replace H:(if t313 < 0 then (if 0 < (((rd_T27 l0 x3_1).f5).length:Int) then (some ((rd_T34 ((rd_T27 l0 x3_1).f5) 0).f0)) else (none)) else (spec_l22End.l0 k1 l0 (wrap64 (x3_1+1))))=some r:=H;have A6:=zzm A60;clear A60;by_cases c7:t313 < 0
      ·
       rw [if_pos c7] at H;have c7b0:decide (t313 < 0)=true:=decide_eq_true c7;clear c7;by_cases c8 : 0 < (((rd_T27 l0 x3_1).f5).length:Int)
       ·
        rw [if_pos c8] at H;have c8b0:decide (0 < (((rd_T27 l0 x3_1).f5).length:Int))=true:=decide_eq_true c8;have c8b1:decide (0 < ((rd_T27 l0 x3_1).f5).length)=true:=decide_eq_true (by omega);clear c8;obtain rfl:=Option.some.inj H;have p311 : 0≤(x3_1:Int):=zzt;have q311:x3_1 < (l0.length:Int):=zzt;obtain ⟨ad311,A311_5,c311_5,e311,hx311_0,hx311_1,hx311_2,hx311_3,hx311_4,hx311_5,hl311_5,hi311_5⟩:=at_T27 HR0.out x3_1 p311 q311;cases e311;replace hx311_0:=zzx HB.out hx311_0;replace hx311_1:=zzx HB.out hx311_1;replace hx311_2:=zzx HB.out hx311_2;replace hx311_3:=zzx HB.out hx311_3;replace hx311_4:=zzx HB.out hx311_4;replace hx311_5:=zzx HB.out hx311_5;have HR311_5:=zzm hi311_5;have HC311_5:=zzm hl311_5;clear hi311_5 hl311_5;replace p311:=eq_true p311;replace q311:=eq_true q311;go_wp2_with (first|((with_reducible refine gate_callee (f:=66) rfl ?_);refine goesL_ (some 14) rfl rfl Try.func66 (by kernel_rfl) rfl #[.agg #[.bool ((rd_T27 l0 x3_1).f0),.bool ((rd_T27 l0 x3_1).f1),.int .i64 ((rd_T27 l0 x3_1).f2),.int .i64 ((rd_T27 l0 x3_1).f3),.int .i64 ((rd_T27 l0 x3_1).f4),.slice A311_5 ((rd_T27 l0 x3_1).f5).length c311_5]] rfl zzM2 ?_;(with_reducible refine (spec_l22Ours.calls ((rd_T27 l0 x3_1).f0) ((rd_T27 l0 x3_1).f1) ((rd_T27 l0 x3_1).f2) ((rd_T27 l0 x3_1).f3) ((rd_T27 l0 x3_1).f4) _ _ ((rd_T27 l0 x3_1).f5) true _ ?side1 ?side2 A4.out).mono ?_);(case side1=>repeat (first|exact (Kd.C_below HR311_5.out HB.out)|(with_reducible refine Kd.C_alloc ?_ _)|(with_reducible refine Kd.C_drewN ?_ _)|(with_reducible refine Kd.C_drew ?_)));(case side2=>exact HC311_5.out);rintro e w9 ⟨rfl,hb⟩;refine ⟨_,rfl,?_⟩;have n0_:=zzm (zzp zzh1 hb);clear HB;have HB:=n0_;clear n0_;(try clear hb);(try clear hb2);(try clear hk);(try clear hi))|(go_at_call 68;(with_reducible refine (spec_l22Mark.calls k1 _ _ l0 x3_1 t313 _ ?side1 ?side2 A6.out).mono ?_);(case side1=>repeat (first|exact (Kd.C_below HR0.out HB.out)|(with_reducible refine Kd.C_alloc ?_ _)|(with_reducible refine Kd.C_drewN ?_ _)|(with_reducible refine Kd.C_drew ?_)));(case side2=>exact HC0.out);rintro e w' ⟨rfl,⟨nd,rfl⟩⟩;have p314 : 0≤(x3_1:Int):=zzt;have q314:x3_1 < (l0.length:Int):=zzt;obtain ⟨ad314,A314_5,c314_5,e314,hx314_0,hx314_1,hx314_2,hx314_3,hx314_4,hx314_5,hl314_5,hi314_5⟩:=at_T27 HR0.out x3_1 p314 q314;obtain rfl:ad311=ad314:=(by injection e314);replace hx314_0:=zzx HB.out hx314_0;replace hx314_1:=zzx HB.out hx314_1;replace hx314_2:=zzx HB.out hx314_2;replace hx314_3:=zzx HB.out hx314_3;replace hx314_4:=zzx HB.out hx314_4;replace hx314_5:=zzx HB.out hx314_5;have HR314_5:=zzm hi314_5;have HC314_5:=zzm hl314_5;clear hi314_5 hl314_5;replace p314:=eq_true p314;replace q314:=eq_true q314;have p315 : 0≤(0:Int):=(by omega);have q315 : 0 < (((rd_T27 l0 x3_1).f5).length:Int):=zzt;obtain ⟨ad315,A315_3,c315_3,A315_5,c315_5,e315,hx315_0,hx315_1,hx315_2,hx315_3,hx315_4,hx315_5,hl315_3,hi315_3,hl315_5,hi315_5⟩:=at_T34 HR314_5.out 0 p315 q315;cases e315;have qi315:(0 < ((rd_T27 l0 x3_1).f5).length)=True:=eq_true (by omega);(try rw [show ((0:Int)).toNat=0 from rfl] at hx315_0);(try rw [show 0 * 6=0 from rfl] at hx315_0);(try rw [Addr.add_zero'] at hx315_0);(try rw [show ((0:Int)).toNat=0 from rfl] at hx315_1);(try rw [show 0 * 6=0 from rfl] at hx315_1);(try rw [Addr.add_zero'] at hx315_1);(try rw [show ((0:Int)).toNat=0 from rfl] at hx315_2);(try rw [show 0 * 6=0 from rfl] at hx315_2);(try rw [Addr.add_zero'] at hx315_2);(try rw [show ((0:Int)).toNat=0 from rfl] at hx315_3);(try rw [show 0 * 6=0 from rfl] at hx315_3);(try rw [Addr.add_zero'] at hx315_3);(try rw [show ((0:Int)).toNat=0 from rfl] at hx315_4);(try rw [show 0 * 6=0 from rfl] at hx315_4);(try rw [Addr.add_zero'] at hx315_4);(try rw [show ((0:Int)).toNat=0 from rfl] at hx315_5);(try rw [show 0 * 6=0 from rfl] at hx315_5);(try rw [Addr.add_zero'] at hx315_5);replace hx315_0:=zzx HB.out hx315_0;replace hx315_1:=zzx HB.out hx315_1;replace hx315_2:=zzx HB.out hx315_2;replace hx315_3:=zzx HB.out hx315_3;replace hx315_4:=zzx HB.out hx315_4;replace hx315_5:=zzx HB.out hx315_5;have HR315_3:=zzm hi315_3;have HC315_3:=zzm hl315_3;clear hi315_3 hl315_3;have HR315_5:=zzm hi315_5;have HC315_5:=zzm hl315_5;clear hi315_5 hl315_5;replace p315:=eq_true p315;replace q315:=eq_true q315));go_ret;exact ⟨by first|rfl|(simp [errW_none,errW_some] <;> rfl)|(simp [*,errW_none,errW_some] <;> rfl),zzh1⟩
       ·
        rw [if_neg c8] at H;exact absurd H (by simp)
      ·
       rw [if_neg c7] at H;have c7b0:decide (t313 < 0)=false:=decide_eq_false c7;clear c7;have H':=zzm H;clear H;have p311 : 0≤(x3_1:Int):=zzt;have q311:x3_1 < (l0.length:Int):=zzt;obtain ⟨ad311,A311_5,c311_5,e311,hx311_0,hx311_1,hx311_2,hx311_3,hx311_4,hx311_5,hl311_5,hi311_5⟩:=at_T27 HR0.out x3_1 p311 q311;cases e311;replace hx311_0:=zzx HB.out hx311_0;replace hx311_1:=zzx HB.out hx311_1;replace hx311_2:=zzx HB.out hx311_2;replace hx311_3:=zzx HB.out hx311_3;replace hx311_4:=zzx HB.out hx311_4;replace hx311_5:=zzx HB.out hx311_5;have HR311_5:=zzm hi311_5;have HC311_5:=zzm hl311_5;clear hi311_5 hl311_5;replace p311:=eq_true p311;replace q311:=eq_true q311;go_wp2_with (first|((with_reducible refine gate_callee (f:=66) rfl ?_);refine goesL_ (some 14) rfl rfl Try.func66 (by kernel_rfl) rfl #[.agg #[.bool ((rd_T27 l0 x3_1).f0),.bool ((rd_T27 l0 x3_1).f1),.int .i64 ((rd_T27 l0 x3_1).f2),.int .i64 ((rd_T27 l0 x3_1).f3),.int .i64 ((rd_T27 l0 x3_1).f4),.slice A311_5 ((rd_T27 l0 x3_1).f5).length c311_5]] rfl zzM2 ?_;(with_reducible refine (spec_l22Ours.calls ((rd_T27 l0 x3_1).f0) ((rd_T27 l0 x3_1).f1) ((rd_T27 l0 x3_1).f2) ((rd_T27 l0 x3_1).f3) ((rd_T27 l0 x3_1).f4) _ _ ((rd_T27 l0 x3_1).f5) true _ ?side1 ?side2 A4.out).mono ?_);(case side1=>repeat (first|exact (Kd.C_below HR311_5.out HB.out)|(with_reducible refine Kd.C_alloc ?_ _)|(with_reducible refine Kd.C_drewN ?_ _)|(with_reducible refine Kd.C_drew ?_)));(case side2=>exact HC311_5.out);rintro e w10 ⟨rfl,hb⟩;refine ⟨_,rfl,?_⟩;have n0_:=zzm (zzp zzh1 hb);clear HB;have HB:=n0_;clear n0_;(try clear hb);(try clear hb2);(try clear hk);(try clear hi))|(go_at_call 68;(with_reducible refine (spec_l22Mark.calls k1 _ _ l0 x3_1 t313 _ ?side1 ?side2 A6.out).mono ?_);(case side1=>repeat (first|exact (Kd.C_below HR0.out HB.out)|(with_reducible refine Kd.C_alloc ?_ _)|(with_reducible refine Kd.C_drewN ?_ _)|(with_reducible refine Kd.C_drew ?_)));(case side2=>exact HC0.out);rintro e w' ⟨rfl,⟨nd,rfl⟩⟩));go_roundg k1
       case measure=>have:=HK1.out;omega
       case rel=>exact ⟨(wrap64 (x3_1+1)),(by first|rfl|(simp;done)|(simp [*];done)),H',⟨by have:=HK1.out;omega⟩,⟨zzh1⟩⟩
     ·
      replace c5:=Bool.eq_false_iff.mpr c5;subst c5;have H1:(spec_l22End.l0 k1 l0 (wrap64 (x3_1+1)))=some r:=by rw [if_neg (show ¬ (false=true) by decide)] at H;exact H
      clear H;have H:=H1;clear H1;have H':=zzm H;clear H;have p311 : 0≤(x3_1:Int):=zzt;have q311:x3_1 < (l0.length:Int):=zzt;obtain ⟨ad311,A311_5,c311_5,e311,hx311_0,hx311_1,hx311_2,hx311_3,hx311_4,hx311_5,hl311_5,hi311_5⟩:=at_T27 HR0.out x3_1 p311 q311;cases e311;replace hx311_0:=zzx HB.out hx311_0;replace hx311_1:=zzx HB.out hx311_1;replace hx311_2:=zzx HB.out hx311_2;replace hx311_3:=zzx HB.out hx311_3;replace hx311_4:=zzx HB.out hx311_4;replace hx311_5:=zzx HB.out hx311_5;have HR311_5:=zzm hi311_5;have HC311_5:=zzm hl311_5;clear hi311_5 hl311_5;replace p311:=eq_true p311;replace q311:=eq_true q311;go_wp2_with (first|((with_reducible refine gate_callee (f:=66) rfl ?_);refine goesL_ (some 14) rfl rfl Try.func66 (by kernel_rfl) rfl #[.agg #[.bool ((rd_T27 l0 x3_1).f0),.bool ((rd_T27 l0 x3_1).f1),.int .i64 ((rd_T27 l0 x3_1).f2),.int .i64 ((rd_T27 l0 x3_1).f3),.int .i64 ((rd_T27 l0 x3_1).f4),.slice A311_5 ((rd_T27 l0 x3_1).f5).length c311_5]] rfl zzM2 ?_;(with_reducible refine (spec_l22Ours.calls ((rd_T27 l0 x3_1).f0) ((rd_T27 l0 x3_1).f1) ((rd_T27 l0 x3_1).f2) ((rd_T27 l0 x3_1).f3) ((rd_T27 l0 x3_1).f4) _ _ ((rd_T27 l0 x3_1).f5) false _ ?side1 ?side2 A4.out).mono ?_);(case side1=>repeat (first|exact (Kd.C_below HR311_5.out HB.out)|(with_reducible refine Kd.C_alloc ?_ _)|(with_reducible refine Kd.C_drewN ?_ _)|(with_reducible refine Kd.C_drew ?_)));(case side2=>exact HC311_5.out);rintro e w11 ⟨rfl,hb⟩;refine ⟨_,rfl,?_⟩;have n0_:=zzm (zzp zzh1 hb);clear HB;have HB:=n0_;clear n0_;(try clear hb);(try clear hb2);(try clear hk);(try clear hi)));go_roundg k1
      case measure=>have:=HK1.out;omega
      case rel=>exact ⟨(wrap64 (x3_1+1)),(by first|rfl|(simp;done)|(simp [*];done)),H',⟨by have:=HK1.out;omega⟩,⟨zzh1⟩⟩
    ·
     rw [if_neg c3] at H;exact absurd H (by simp)
   ·
    rw [if_neg c2] at H;have c2b0:decide (x3_1 < (l0.length:Int))=false:=decide_eq_false c2;clear c2;by_cases c12:(l0.length:Int)=0
    ·
     rw [if_pos c12] at H;have c12b0:((l0.length:Int)==0)=true:=beq_iff_eq.mpr c12;have c12b1:((l0.length:Int) != 0)=false:=bne_eq_false_iff_eq.mpr c12;clear c12;obtain rfl:=Option.some.inj H;go_wp2;go_ret;exact ⟨by first|rfl|(simp [errW_none,errW_some] <;> rfl)|(simp [*,errW_none,errW_some] <;> rfl),zzh1⟩
    ·
     rw [if_neg c12] at H;have c12b0:((l0.length:Int)==0)=false:=beq_eq_false_iff_ne.mpr c12;have c12b1:((l0.length:Int) != 0)=true:=bne_iff_ne.mpr c12;have c12b2:¬ (l0 = []):=fun h_=>c12 (by rw [h_];rfl);obtain ⟨ji13,hji13⟩:∃ j_:Int,(wrap64 ((l0.length:Int) - 1))=j_:=⟨_,rfl⟩;replace H:(if 0≤(ji13) then (if (ji13) < (l0.length:Int) then ((spec_l12Last.f ((rd_T27 l0 (ji13)).f0) ((rd_T27 l0 (ji13)).f1) ((rd_T27 l0 (ji13)).f2) ((rd_T27 l0 (ji13)).f3) ((rd_T27 l0 (ji13)).f4) ((rd_T27 l0 (ji13)).f5)).bind fun t310=>(some (wrap64 (t310+1)))) else (none)) else (none))=some r:=by first|(rw [hji13] at H;exact H)|(simp only [hji13] at H ⊢;exact H)
     have hji13w:(IntKind.i64.wrap ((l0.length:Int) - 1))=ji13:=(i64_w _).trans hji13;by_cases c14 : 0≤(ji13)
     ·
      rw [if_pos c14] at H;have c14b0:decide (0≤(ji13))=true:=decide_eq_true c14;clear c14;by_cases c15:(ji13) < (l0.length:Int)
      ·
       rw [if_pos c15] at H;have c15b0:decide ((ji13) < (l0.length:Int))=true:=decide_eq_true c15;clear c15;replace H:=Option.bind_eq_some_iff.mp H;obtain ⟨t310,A160,H⟩:=H;replace H:(some (wrap64 (t310+1)))=some r:=H;have A16:=zzm A160;clear A160;obtain rfl:=Option.some.inj H;have p309 : 0≤((ji13):Int):=zzt;have q309:(ji13) < (l0.length:Int):=zzt;obtain ⟨ad309,A309_5,c309_5,e309,hx309_0,hx309_1,hx309_2,hx309_3,hx309_4,hx309_5,hl309_5,hi309_5⟩:=at_T27 HR0.out (ji13) p309 q309;cases e309;replace hx309_0:=zzx HB.out hx309_0;replace hx309_1:=zzx HB.out hx309_1;replace hx309_2:=zzx HB.out hx309_2;replace hx309_3:=zzx HB.out hx309_3;replace hx309_4:=zzx HB.out hx309_4;replace hx309_5:=zzx HB.out hx309_5;have HR309_5:=zzm hi309_5;have HC309_5:=zzm hl309_5;clear hi309_5 hl309_5;replace p309:=eq_true p309;replace q309:=eq_true q309;go_wp2_with (first|((with_reducible refine gate_callee (f:=76) rfl ?_);refine goesL_ (some 38) rfl rfl Try.func76 (by kernel_rfl) rfl #[.agg #[.bool ((rd_T27 l0 (ji13)).f0),.bool ((rd_T27 l0 (ji13)).f1),.int .i64 ((rd_T27 l0 (ji13)).f2),.int .i64 ((rd_T27 l0 (ji13)).f3),.int .i64 ((rd_T27 l0 (ji13)).f4),.slice A309_5 ((rd_T27 l0 (ji13)).f5).length c309_5]] rfl (by (try simp only [map_toArray,map_cons,map_nil]);first|done|(simp only [hji13];rfl)|rfl|(simp only [length_drop,length_take];rfl)) ?_;(with_reducible refine (spec_l12Last.calls ((rd_T27 l0 (ji13)).f0) ((rd_T27 l0 (ji13)).f1) ((rd_T27 l0 (ji13)).f2) ((rd_T27 l0 (ji13)).f3) ((rd_T27 l0 (ji13)).f4) _ _ ((rd_T27 l0 (ji13)).f5) t310 _ ?side1 ?side2 A16.out).mono ?_);(case side1=>repeat (first|exact (Kd.C_below HR309_5.out HB.out)|(with_reducible refine Kd.C_alloc ?_ _)|(with_reducible refine Kd.C_drewN ?_ _)|(with_reducible refine Kd.C_drew ?_)));(case side2=>exact HC309_5.out);rintro e w17 ⟨rfl,hb⟩;refine ⟨_,rfl,?_⟩;have n0_:=zzm (zzp zzh1 hb);clear HB;have HB:=n0_;clear n0_;(try clear hb);(try clear hb2);(try clear hk);(try clear hi)));go_ret;exact ⟨by first|rfl|(simp [errW_none,errW_some] <;> rfl)|(simp only [← hji13];first|rfl|(simp [errW_none,errW_some] <;> rfl))|(simp [*,errW_none,errW_some] <;> rfl),zzh1⟩
      ·
       rw [if_neg c15] at H;exact absurd H (by simp)
     ·
      rw [if_neg c14] at H;exact absurd H (by simp)
section
variable {P:Program} {ops:Array Oper} {rest:List Oper} {o:Oper} {a:Act} {W:World} {Q:Exit→Act→World→Prop} {Kc:Act→World→Prop} {α:Type}
theorem run_make0 (t:TypeId) (x y:Operand) (ho:o.op = .makeSlice t x y) (n:Int) (hx:a.eval x = .int .i64 0) (hy:a.eval y = .int .i64 n) {e sz:Nat}
  (ht:P.underlying t=some (.slice e)) (z:Value) (bytes:Nat) (hinfo:(P.info? e).map (fun i=>(i.zero,i.size,i.bytes))=some (some z,sz,bytes)) (hb0 : 0 < bytes) (h0 : 0≤n) (hl:n.toNat * bytes≤281474976710656) :
  (execOp a.eval o).run P W = .ok (.value (.slice (some ⟨W.heap.size,0,none⟩) 0 n.toNat)) (W.alloc (.cells (madeCells z.cells (n.toNat * sz)) e)):=by
 obtain ⟨m,rfl⟩:=Int.eq_ofNat_of_zero_le h0;simp only [Int.toNat_natCast] at hl ⊢;obtain ⟨i0,hi,hzz⟩:=Option.map_eq_some_iff.1 hinfo;simp only [Prod.mk.injEq] at hzz;obtain ⟨hz0,hz1,hz2⟩:=hzz;have hm:m≤281474976710656:=Nat.le_trans (Nat.le_mul_of_pos_right _ hb0) hl;have hr:=run_make (P:=P) W t e i0 z ht hi hz0 .i64 .i64 0 (m:Int) (by omega) (by omega)
  (by
   have h3:((i0.bytes * m:Nat):Int)≤281474976710656:=by rw [hz2,Nat.mul_comm];omega
   rwa [Int.natCast_mul] at h3) (by omega)
 simp only [Int.toNat_natCast,Int.toNat_zero] at hr;rw [hz1] at hr;simp [execOp,ho,hx,hy,hr]
theorem made0_R (d:Kd α) (e base m:Nat) (z:Value) {ok:Nat→Prop} (hfresh:ok W.heap.size) (hbase:base≤W.heap.size) (hm:m≤9223372036854775807) :
  d.R e (W.alloc (.cells (madeCells z.cells (m * d.sz)) e)) base ok (.slice (some ⟨W.heap.size,0,none⟩) 0 m) []:=by
 refine ⟨fun k hk=>?_,[],?_,by simp,fun j p hj=>by simp at hj⟩
 ·
  have:W.heap.size=k:=by simpa [Value.ownBlock] using hk
  subst this;exact hfresh
 ·
  have h2:=own_take (World.ownsRow_lit (base:=base) (e:=e) (size:=d.sz) W (madeCells z.cells (m * d.sz)) m hbase (by simpa [maxLen] using hm) (by simp [size_madeCells])) (Nat.zero_le m);simpa using h2
theorem rmake0_R (d:Kd α) {w0:World} (base e:Nat) (hgd:o.guard=none) {N:Tmp} (_hd:o.dst=some N) (t:TypeId) (x y:Operand) (ho:o.op = .makeSlice t x y) (n:Int) (hx:a.eval x = .int .i64 0) (hy:a.eval y = .int .i64 n)
  (ht:P.underlying t=some (.slice e)) (z:Value) (bytes:Nat) (hinfo:(P.info? e).map (fun i=>(i.zero,i.size,i.bytes))=some (some z,d.sz,bytes)) (hs0 : 0 < d.sz) (hb0 : 0 < bytes)
  {ok:Nat→Prop} (hfresh:ok W.heap.size) (h0 : 0≤n) (hl:n.toNat * bytes≤281474976710656) (HB:Below base w0 W) (hbase:base≤W.heap.size)
  (h:∀ v1 w1,d.R e w1 base ok v1 []→Below base w0 w1→W.grownBy w1 none→(∃ b,v1.ownBlock=some b∧W.heap.size≤b)→wpList P ops Q rest (a.put o.dst v1) w1):wpList P ops Q (o::rest) a W:=
 Kd.event_run hgd (run_make0 t x y ho n hx hy ht z bytes hinfo hb0 h0 hl) (h _ _ (made0_R d e base _ z hfresh hbase (by have:=Nat.le_mul_of_pos_right n.toNat hb0;omega)) (HB.alloc hbase _) (World.grownBy_alloc W _ none) ⟨W.heap.size,by simp [Value.ownBlock],Nat.le_refl _⟩)
theorem rmake0_S (d:Kd α) {w0:World} (base e:Nat) (hgd:o.guard=none) {N:Tmp} (_hd:o.dst=some N) (t:TypeId) (x y:Operand) (ho:o.op = .makeSlice t x y) (n:Int) (hx:a.eval x = .int .i64 0) (hy:a.eval y = .int .i64 n)
  (ht:P.underlying t=some (.slice e)) (z:Value) (bytes:Nat) (hinfo:(P.info? e).map (fun i=>(i.zero,i.size,i.bytes))=some (some z,d.sz,bytes)) (hs0 : 0 < d.sz) (hb0 : 0 < bytes)
  {ok:Nat→Prop} (hfresh:ok W.heap.size) (h0 : 0≤n) (hl:n.toNat * bytes≤281474976710656) (HB:Below base w0 W) (hbase:base≤W.heap.size)
  (h:∀ v1 w1,Kd.S d e w1 base ok v1 []→Below base w0 w1→W.grownBy w1 none→(∃ b,v1.ownBlock=some b∧W.heap.size≤b)→wpList P ops Q rest (a.put o.dst v1) w1):wpList P ops Q (o::rest) a W:=
 rmake0_R (Kd.bare d) base e hgd _hd t x y ho n hx hy ht z bytes hinfo hs0 hb0 hfresh h0 hl HB hbase (fun v1 w1 hr=>h v1 w1 (Kd.S_bare (xs:=[]) hr))
end
def slices_Clone_int_int.f (l0:List Int):Option (List Int):=if l0.length < 8796093022208 then some l0 else none
set_option maxHeartbeats 8000000 in
set_option maxRecDepth 100000 in
theorem slices_Clone_int_int.calls (A0:Option Addr) (c0:Nat) (l0:List (Int)) (r:List (Int)) (w:World) (hr0:Kd.C (Kd.int .i64) w A0 l0.length l0) (hc0:l0.length≤c0) (h:slices_Clone_int_int.f l0=some r) :
  Calls Try.prog 97 #[.slice A0 l0.length c0] w fun e w'=>∃ v0_:Value,e = .returned (v0_)∧Kd.R (Kd.int .i64) 3 w' w.heap.size (fun _=>True) v0_ r∧Below w.heap.size w w':=by
 unfold slices_Clone_int_int.f at h;by_cases hlt:l0.length < 8796093022208
 ·
  rw [if_pos hlt] at h;obtain rfl:=Option.some.inj h;have LM:=zzm hlt;clear hlt h;have HR0:=zzm hr0;have HC0:=zzm hc0;clear hr0 hc0;have HB:=zzm (Below.refl w.heap.size w);have q23:∀ (w:World) (a:Option Addr) (n c n' c' : Nat),(binOp .eql 32 (.slice a n c) (.slice none n' c')).run Try.prog w = .ok (.bool a.isNone) w:=fun w a n c n' c'=>Lib.run_eql_slice_nil w _ _ a n c n' c' Try.underlying32;cases A0 with
  | none=>
   have hl:l0 = []:=by
    cases l0 with
    | nil=>rfl
    | cons a l=>
     obtain ⟨ad,e,_⟩:=HR0.out.2.2 (by simp);cases e
   subst hl;go_enter Try.func97,Try.ntmps97;go_wp2;go_ret;exact ⟨_,rfl,Kd.R_nil _ _ _ _ _,HB.out⟩
  | some ad=>
   obtain ⟨y,hy⟩:∃ y:List Int,y = []:=⟨_,rfl⟩;have Ny:=zzm hy;clear hy;go_enter Try.func97,Try.ntmps97;go_wp2_with (first
    | ((with_reducible refine gate_dst (N:=5) rfl ?_);refine Kd.R_lit (Kd.int .i64) _ 3 ?hg (N:=5) ?hd (xs:=([]:List (Int))) (inner:=[]) (ok:=fun _=>True) (okp:=fun _=>True) ?hr ?hp (fun _ hk=>hk) trivial (Below.refl _ _) (Nat.le_refl _) (by simp) ?_;(case hd=>rfl);(case hg=>rfl);(case hr=>first|(go_simp;done)|(go_simp;rfl));(case hp=>exact (Reps.none _ _));intro v1 w1 ho1 hb hg_ hnew_;clear hg_ hnew_;rw [← Ny.out] at ho1;have n1_:=zzm (zzp HB.out hb);have n2_:=zzm ho1;clear HB;have HB:=n1_;have HO:=n2_;clear n1_ n2_ hb ho1)
    | ((with_reducible refine gate_dst (N:=7) rfl ?_);refine Kd.R_append_rows (Kd.int .i64) (w0:=w) w.heap.size rfl (.tmp 5) (.tmp 6) 32 3 (.int .i64 0) 8 rfl Try.underlying32 info3 rfl (by decide) (by omega) v1 y l0 _ _ _ (fun _=>True) (fun _=>False) rfl rfl ?aO ?aR (fun _ _ h=>h) (fun _ h=>h.elim) ?aF ?aB ?aS ?aL ?_;(case aR=>exact (Kd.C_below HR0.out HB.out));(case aB=>exact HB.out);(case aF=>exact fun _ _=>trivial);(case aO=>exact HO.out);(case aS=>exact HB.out.size);(case aL=>have:=LM.out;rw [Ny.out];simp only [List.length_nil];omega);intro v2 w2 ho2 hb2 hg2 hat2;rw [Ny.out,List.nil_append] at ho2;have HO2:=zzm ho2;have HB2:=zzm hb2;clear ho2 hb2 hg2 hat2))
   go_ret;exact ⟨_,rfl,HO2.out,HB2.out⟩
 ·
  rw [if_neg hlt] at h;cases h
def impl_Record_copyOf.f (a0_0:Int) (a0_1:Int) (a0_2:Bool) (l0_3:List Int) (a0_4:Bool) (l0_5:List Int):Option (Int×Int×Bool×List Int×Bool×List Int):=(slices_Clone_int_int.f l0_3).bind fun t320=>((slices_Clone_int_int.f l0_5).bind fun t323=>(some (a0_0,a0_1,a0_2,t320,a0_4,t323)))
set_option maxHeartbeats 8000000 in
set_option maxRecDepth 100000 in
theorem impl_Record_copyOf.calls (a0_0:Int) (a0_1:Int) (a0_2:Bool) (A0_3:Option Addr) (c0_3:Nat) (l0_3:List Int) (a0_4:Bool) (A0_5:Option Addr) (c0_5:Nat) (l0_5:List Int) (r1:Int) (r2:Int) (r3:Bool) (r4:List Int) (r5:Bool) (r6:List Int) (w:World) (hr0_3:Kd.C (Kd.int .i64) w A0_3 l0_3.length l0_3) (hc0_3:l0_3.length≤c0_3) (hr0_5:Kd.C (Kd.int .i64) w A0_5 l0_5.length l0_5) (hc0_5:l0_5.length≤c0_5) (h:impl_Record_copyOf.f a0_0 a0_1 a0_2 l0_3 a0_4 l0_5=some (r1,r2,r3,r4,r5,r6)) :
  Calls Try.prog 78 #[.agg #[.int .i64 a0_0,.int .i64 a0_1,.bool a0_2,.slice A0_3 l0_3.length c0_3,.bool a0_4,.slice A0_5 l0_5.length c0_5]] w fun e w'=>∃ v3_ v5_:Value,e = .returned (.agg #[.int .i64 r1,.int .i64 r2,.bool r3,v3_,.bool r5,v5_])∧Kd.R (Kd.int .i64) 3 w' w.heap.size (fun k_=>some k_≠(v5_:Value).ownBlock) v3_ r4∧Kd.R (Kd.int .i64) 3 w' w.heap.size (fun k_=>some k_≠(v3_:Value).ownBlock) v5_ r6∧Below w.heap.size w w':=by
 have hu34:=Try.underlying34;have HR0_3:=zzm hr0_3;have HC0_3:=zzm hc0_3;clear hr0_3 hc0_3;have HR0_5:=zzm hr0_5;have HC0_5:=zzm hc0_5;clear hr0_5 hc0_5;have HB:=zzm (Below.refl w.heap.size w);have H:((slices_Clone_int_int.f l0_3).bind fun t320=>((slices_Clone_int_int.f l0_5).bind fun t323=>(some (a0_0,a0_1,a0_2,t320,a0_4,t323))))=some (r1,r2,r3,r4,r5,r6):=h;clear h;replace H:=Option.bind_eq_some_iff.mp H;obtain ⟨t320,A20,H⟩:=H;replace H:((slices_Clone_int_int.f l0_5).bind fun t323=>(some (a0_0,a0_1,a0_2,t320,a0_4,t323)))=some (r1,r2,r3,r4,r5,r6):=H;have A2:=zzm A20;clear A20;replace H:=Option.bind_eq_some_iff.mp H;obtain ⟨t323,A30,H⟩:=H;replace H:(some (a0_0,a0_1,a0_2,t320,a0_4,t323))=some (r1,r2,r3,r4,r5,r6):=H;have A3:=zzm A30;clear A30;simp only [Option.some.injEq,Prod.mk.injEq] at H;obtain ⟨rfl,rfl,rfl,rfl,rfl,rfl⟩:=H;go_enter Try.func78,Try.ntmps78;go_wp2_with (first|((with_reducible refine gate_dst (N:=1) rfl ?_);refine box_event ?hg (N:=1) ?hd (cs:=#[.int .i64 a0_0,.int .i64 a0_1,.bool a0_2,.slice A0_3 l0_3.length c0_3,.bool a0_4,.slice A0_5 l0_5.length c0_5]) (t:=34) ?hr ?_;(case hd=>rfl);(case hg=>rfl);(case hr=>first|(go_simp;done)|(go_simp;rfl));intro gb318 hg w4 hbox hb;have n0_:=zzm (zzp zzh1 hb);have n1_:=zzm (hbox);have n2_:=zzm ((by rw [hg];exact (zzo zzh1):w.heap.size≤gb318));have n3_:=zzm ((by rw [hg];exact (zzo zzh1):w.heap.size≤gb318));clear HB;have HB:=n0_;have BK318:=n1_;have GW318:=n2_;have GE318:=n3_;clear n0_ n1_ n2_ n3_ hb hbox hg)|((with_reducible refine gate_dst (N:=2) rfl ?_);refine box_event ?hg (N:=2) ?hd (cs:=#[.int .i64 0,.int .i64 0,.bool false,.slice none 0 0,.bool false,.slice none 0 0]) (t:=34) ?hr ?_;(case hd=>rfl);(case hg=>rfl);(case hr=>first|(go_simp;done)|(go_simp;rfl));intro gb319 hg w5 hbox hb;have n0_:=zzm (zzh (g:=gb318) (o:=.cells #[.int .i64 a0_0,.int .i64 a0_1,.bool a0_2,.slice A0_3 l0_3.length c0_3,.bool a0_4,.slice A0_5 l0_5.length c0_5] 34 (0,0)) (zzE BK318.out) hb);have n1_:=zzm (zzp zzh2 hb);have n2_:=zzm (hbox);have n3_:=zzm ((by rw [hg];exact (zzo zzh2):w.heap.size≤gb319));have n4_:=zzm ((by rw [hg];exact (zzo zzh2):w.heap.size≤gb319));have n5_:=zzm ((by rw [hg];exact Nat.ne_of_lt (blk_lt (g:=gb318) (o:=.cells #[.int .i64 a0_0,.int .i64 a0_1,.bool a0_2,.slice A0_3 l0_3.length c0_3,.bool a0_4,.slice A0_5 l0_5.length c0_5] 34 (0,0)) (zzE BK318.out)):gb318≠gb319));have n6_:=zzm ((by rw [hg];exact Nat.ne_of_gt (blk_lt (g:=gb318) (o:=.cells #[.int .i64 a0_0,.int .i64 a0_1,.bool a0_2,.slice A0_3 l0_3.length c0_3,.bool a0_4,.slice A0_5 l0_5.length c0_5] 34 (0,0)) (zzE BK318.out)):gb319≠gb318));clear BK318 HB;have BK318:=n0_;have HB:=n1_;have BK319:=n2_;have GW319:=n3_;have GE319:=n4_;have NB318_319:=n5_;have NB319_318:=n6_;clear n0_ n1_ n2_ n3_ n4_ n5_ n6_ hb hbox hg;have hnb6:=NB318_319.out;have hnc6:=NB319_318.out;obtain ⟨hcz7_0,hcz7_1,hcz7_2,hcz7_3,hcz7_4,hcz7_5,hfz7_0,hfz7_1,hfz7_2,hfz7_3,hfz7_4,hfz7_5⟩:=zzc6 BK318.out)|((with_reducible refine gate_callee (f:=97) rfl ?_);refine goesL_ (some 5) rfl rfl Try.func97 (by kernel_rfl) rfl #[.slice A0_3 l0_3.length c0_3] rfl zzM2 ?_;(with_reducible refine (slices_Clone_int_int.calls _ _ l0_3 t320 _ ?side1 ?side2 A2.out).mono ?_);(case side1=>repeat (first|exact (Kd.C_below HR0_3.out HB.out)|(with_reducible refine Kd.C_alloc ?_ _)|(with_reducible refine Kd.C_drewN ?_ _)|(with_reducible refine Kd.C_drew ?_)));(case side2=>exact HC0_3.out);rintro e w8 ⟨v321,rfl,ho0,hb⟩;refine ⟨_,rfl,?_⟩;have n0_:=zzm (Kd.R_lower ho0 (zzo zzh2));have n1_:=zzm (zzh (g:=gb318) (o:=.cells #[.int .i64 a0_0,.int .i64 a0_1,.bool a0_2,.slice A0_3 l0_3.length c0_3,.bool a0_4,.slice A0_5 l0_5.length c0_5] 34 (0,0)) (zzE BK318.out) hb);have n2_:=zzm (zzh (g:=gb319) (o:=.cells #[.int .i64 0,.int .i64 0,.bool false,.slice none 0 0,.bool false,.slice none 0 0] 34 (0,0)) (zzE BK319.out) hb);have n3_:=zzm (zzp zzh2 hb);clear BK318 BK319 HB;have HO322:=n0_;have BK318:=n1_;have BK319:=n2_;have HB:=n3_;clear n0_ n1_ n2_ n3_;(try clear hb);(try clear hb2);(try clear hk);(try clear hi);(try clear ho0);obtain ⟨Ao9,co9,eo9⟩:=Kd.R_slice HO322.out;subst eo9;obtain ⟨hcz10_0,hcz10_1,hcz10_2,hcz10_3,hcz10_4,hcz10_5,hfz10_0,hfz10_1,hfz10_2,hfz10_3,hfz10_4,hfz10_5⟩:=zzc6 BK318.out)|((with_reducible refine gate_callee (f:=97) rfl ?_);refine goesL_ (some 9) rfl rfl Try.func97 (by kernel_rfl) rfl #[.slice A0_5 l0_5.length c0_5] rfl zzM2 ?_;(with_reducible refine (slices_Clone_int_int.calls _ _ l0_5 t323 _ ?side1 ?side2 A3.out).mono ?_);(case side1=>exact Kd.C_below HR0_5.out zzh2);(case side2=>exact HC0_5.out);rintro e w11 ⟨v324,rfl,ho0,hb⟩;refine ⟨_,rfl,?_⟩;have n0_:=zzm (Kd.R_elder' (by (with_reducible repeat (first|apply Kd.R_alloc|apply Kd.R_drewN|apply Kd.R_drew));exact (Kd.R_mono (Kd.R_far (p:=⟨gb318,3,none⟩) (Kd.R_types HO322.out BK318.out (by decide)) (fun _ hk=>hk.2) (.slice Ao9 t320.length co9)) (fun _ h_=>h_.1))) (Kd.R_base ho0) hb);have n1_:=zzm (Kd.R_lower (Kd.R_new' ho0 (Kd.R_lt (by (with_reducible repeat (first|apply Kd.R_alloc|apply Kd.R_drewN|apply Kd.R_drew));exact (Kd.R_mono (Kd.R_far (p:=⟨gb318,3,none⟩) (Kd.R_types HO322.out BK318.out (by decide)) (fun _ hk=>hk.2) (.slice Ao9 t320.length co9)) (fun _ h_=>h_.1))))) (zzo zzh2));have n2_:=zzm (zzh (g:=gb318) (o:=.cells #[.int .i64 a0_0,.int .i64 a0_1,.bool a0_2,.slice Ao9 t320.length co9,.bool a0_4,.slice A0_5 l0_5.length c0_5] 34 (0,0)) (by (with_reducible repeat (first|apply zzf|apply zzg|apply zze));refine zzi (cs:=#[.int .i64 a0_0,.int .i64 a0_1,.bool a0_2,.slice A0_3 l0_3.length c0_3,.bool a0_4,.slice A0_5 l0_5.length c0_5]) ?_ 3 _ rfl;(with_reducible repeat (first|apply zzf|apply zzg|apply zze));exact BK318.out) hb);have n3_:=zzm (zzh (g:=gb319) (o:=.cells #[.int .i64 0,.int .i64 0,.bool false,.slice none 0 0,.bool false,.slice none 0 0] 34 (0,0)) (by (with_reducible repeat (first|apply zzf|apply zzg|apply zze));refine zzj ?_ NB319_318.out _;(with_reducible repeat (first|apply zzf|apply zzg|apply zze));exact BK319.out) hb);have n4_:=zzm (zzp zzh2 hb);clear HO322 BK318 BK319 HB;have HO322:=n0_;have HO325:=n1_;have BK318:=n2_;have BK319:=n3_;have HB:=n4_;clear n0_ n1_ n2_ n3_ n4_;(try clear hb);(try clear hb2);(try clear hk);(try clear hi);(try clear ho0);obtain ⟨Ao12,co12,eo12⟩:=Kd.R_slice HO325.out;subst eo12;obtain ⟨hcz13_0,hcz13_1,hcz13_2,hcz13_3,hcz13_4,hcz13_5,hfz13_0,hfz13_1,hfz13_2,hfz13_3,hfz13_4,hfz13_5⟩:=zzc6 BK318.out;obtain ⟨hcz14_0,hcz14_1,hcz14_2,hcz14_3,hcz14_4,hcz14_5,hfz14_0,hfz14_1,hfz14_2,hfz14_3,hfz14_4,hfz14_5⟩:=zzc6 BK319.out));refine bodyPost_ret (results_cell_row rfl _ _ gb319 34 #[.int .i64 a0_0,.int .i64 a0_1,.bool a0_2,.slice Ao9 t320.length co9,.bool a0_4,.slice Ao12 t323.length co12] (0,0) _ rfl (by (with_reducible repeat (first|apply zzf|apply zzg|apply zze));refine zzi (cs:=#[.int .i64 a0_0,.int .i64 a0_1,.bool a0_2,.slice Ao9 t320.length co9,.bool a0_4,.slice none 0 0]) ?_ 5 _ rfl;(with_reducible repeat (first|apply zzf|apply zzg|apply zze));refine zzi (cs:=#[.int .i64 a0_0,.int .i64 a0_1,.bool a0_2,.slice Ao9 t320.length co9,.bool false,.slice none 0 0]) ?_ 4 _ rfl;(with_reducible repeat (first|apply zzf|apply zzg|apply zze));refine zzi (cs:=#[.int .i64 a0_0,.int .i64 a0_1,.bool a0_2,.slice none 0 0,.bool false,.slice none 0 0]) ?_ 3 _ rfl;(with_reducible repeat (first|apply zzf|apply zzg|apply zze));refine zzi (cs:=#[.int .i64 a0_0,.int .i64 a0_1,.bool false,.slice none 0 0,.bool false,.slice none 0 0]) ?_ 2 _ rfl;(with_reducible repeat (first|apply zzf|apply zzg|apply zze));refine zzi (cs:=#[.int .i64 a0_0,.int .i64 0,.bool false,.slice none 0 0,.bool false,.slice none 0 0]) ?_ 1 _ rfl;(with_reducible repeat (first|apply zzf|apply zzg|apply zze));refine zzi (cs:=#[.int .i64 0,.int .i64 0,.bool false,.slice none 0 0,.bool false,.slice none 0 0]) ?_ 0 _ rfl;(with_reducible repeat (first|apply zzf|apply zzg|apply zze));refine zzj ?_ NB319_318.out _;(with_reducible repeat (first|apply zzf|apply zzg|apply zze));exact BK319.out) Try.underlying34 rfl (by kernel_rfl)) rfl ?_;exact ⟨_,_,by first|rfl|(simp [errW_none,errW_some] <;> rfl)|(simp [*,errW_none,errW_some] <;> rfl),by (with_reducible repeat (first|apply Kd.R_alloc|apply Kd.R_drewN|apply Kd.R_drew));exact Kd.R_mono (Kd.R_far (p:=⟨gb319,5,none⟩) (Kd.R_far (p:=⟨gb319,4,none⟩) (Kd.R_far (p:=⟨gb319,3,none⟩) (Kd.R_far (p:=⟨gb319,2,none⟩) (Kd.R_far (p:=⟨gb319,1,none⟩) (Kd.R_far (p:=⟨gb319,0,none⟩) (Kd.R_far (p:=⟨gb318,5,none⟩) (Kd.R_types (Kd.R_types HO322.out BK318.out (by decide)) BK319.out (by decide)) (fun _ hk=>hk.1.2) (.slice Ao12 t323.length co12)) (fun _ hk=>hk.2) (.int .i64 a0_0)) (fun _ hk=>hk.2) (.int .i64 a0_1)) (fun _ hk=>hk.2) (.bool a0_2)) (fun _ hk=>hk.2) (.slice Ao9 t320.length co9)) (fun _ hk=>hk.2) (.bool a0_4)) (fun _ hk=>hk.2) (.slice Ao12 t323.length co12)) (fun _ hk=>hk.1.1.2),by (with_reducible repeat (first|apply Kd.R_alloc|apply Kd.R_drewN|apply Kd.R_drew));exact Kd.R_mono (Kd.R_far (p:=⟨gb319,5,none⟩) (Kd.R_far (p:=⟨gb319,4,none⟩) (Kd.R_far (p:=⟨gb319,3,none⟩) (Kd.R_far (p:=⟨gb319,2,none⟩) (Kd.R_far (p:=⟨gb319,1,none⟩) (Kd.R_far (p:=⟨gb319,0,none⟩) (Kd.R_far (p:=⟨gb318,5,none⟩) (Kd.R_types (Kd.R_types HO325.out BK318.out (by decide)) BK319.out (by decide)) (fun _ hk=>hk.1.2) (.slice Ao12 t323.length co12)) (fun _ hk=>hk.2) (.int .i64 a0_0)) (fun _ hk=>hk.2) (.int .i64 a0_1)) (fun _ hk=>hk.2) (.bool a0_2)) (fun _ hk=>hk.2) (.slice Ao9 t320.length co9)) (fun _ hk=>hk.2) (.bool a0_4)) (fun _ hk=>hk.2) (.slice Ao12 t323.length co12)) (fun _ hk=>hk.1.1.2),by repeat (first|(with_reducible first|exact HB.out|apply zza|apply zzb|apply zzc|refine zzd ?_ GE318.out|refine zzd ?_ GE319.out)|exact HB.out)⟩
def impl_copyRecords.l0:Nat→List (S34)→List (S34)→Int→Int→Option ((List (S34)))
 | 0,_,_,_,_=>none
 | k+1,x3,x9,x10,x11=>if x11 < x10 then (if 0≤x11 then (if x11 < (x9.length:Int) then ((impl_Record_copyOf.f ((rd_T34 x9 x11).f0) ((rd_T34 x9 x11).f1) ((rd_T34 x9 x11).f2) ((rd_T34 x9 x11).f3) ((rd_T34 x9 x11).f4) ((rd_T34 x9 x11).f5)).bind fun bt331=>(if x3.length < 1759218604441 then (impl_copyRecords.l0 k (x3 ++ [(⟨bt331.1,bt331.2.1,bt331.2.2.1,bt331.2.2.2.1,bt331.2.2.2.2.1,bt331.2.2.2.2.2⟩:S34)]) x9 x10 (wrap64 (x11+1))) else (none))) else (none)) else (none)) else (some x3)
def impl_copyRecords.f (k:Nat) (l0:List (S34)):Option ((List (S34))):=if 0≤(l0.length:Int) then (if ((l0.length:Int):Int).toNat≤3518437208883 then (impl_copyRecords.l0 k (([]:List (S34))) l0 (l0.length:Int) 0) else (none)) else (none)
set_option maxHeartbeats 8000000 in
set_option maxRecDepth 100000 in
theorem impl_copyRecords.calls (k:Nat) (A0:Option Addr) (c0:Nat) (l0:List (S34)) (r:List (S34)) (w:World) (hr0:Kd.C k34 w A0 l0.length l0) (hc0:l0.length≤c0) (h:impl_copyRecords.f k l0=some r) :
  Calls Try.prog 72 #[.slice A0 l0.length c0] w fun e w'=>∃ v0_:Value,e = .returned (v0_)∧Kd.S k34 34 w' w.heap.size (fun _=>True) v0_ r∧Below w.heap.size w w':=by
 have hu34:=Try.underlying34;have HR0:=zzm hr0;have HC0:=zzm hc0;clear hr0 hc0;have HB:=zzm (Below.refl w.heap.size w);have H:(if 0≤(l0.length:Int) then (if ((l0.length:Int):Int).toNat≤3518437208883 then (impl_copyRecords.l0 k (([]:List (S34))) l0 (l0.length:Int) 0) else (none)) else (none))=some r:=h;clear h;by_cases c2 : 0≤(l0.length:Int)
 ·
  rw [if_pos c2] at H;have c2b0:=eq_true c2;have c2b1:decide (0≤(l0.length:Int))=true:=decide_eq_true c2;clear c2;by_cases c3:((l0.length:Int):Int).toNat≤3518437208883
  ·
   rw [if_pos c3] at H;have c3b0:=eq_true c3;have c3b1:decide (((l0.length:Int):Int).toNat≤3518437208883)=true:=decide_eq_true c3;clear c3;obtain ⟨y326,hy326⟩:∃ y_:List (S34),y_=(([]:List (S34))):=⟨_,rfl⟩;replace H:(impl_copyRecords.l0 k y326 l0 (l0.length:Int) 0)=some r:=by first|(rw [hy326];with_reducible exact H)|(have H2_:=(Option.bind_some _ _).symm.trans H;rw [hy326];with_reducible exact H2_)|(have H2_:=(Option.bind_some _ _).symm.trans H;with_reducible exact H2_)|with_reducible exact H|(rw [hy326];exact H)|exact H
   have Ny326:=zzm hy326;clear hy326;have H':=zzm H;clear H;go_enter Try.func72,Try.ntmps72;go_wp2_with (first|((with_reducible refine gate_dst (N:=8) rfl ?_);refine rmake0_S k34 _ 34 rfl (N:=8) rfl 25 _ _ rfl (l0.length:Int) rfl rfl Try.underlying25 (.agg #[(.int .i64 0),(.int .i64 0),(.bool false),(.slice none 0 0),(.bool false),(.slice none 0 0)]) 80 info34 (by decide) (by omega) (ok:=fun _=>True) (trivial) (zzt) (Nat.le_trans (Nat.mul_le_mul_right _ (zzt:(l0.length:Int).toNat≤3518437208883)) (by omega)) (Below.refl _ _) (Nat.le_refl _) ?_;intro v327 w4 ho5 hb hg_ hnew_;clear hg_ hnew_;(first|rw [← Ny326.out] at ho5|(simp only [Int.reduceToNat] at ho5;rw [← Ny326.out] at ho5));have n0_:=zzm (Kd.S_lower ho5 (zzo zzh1));have n1_:=zzm (zzp zzh1 hb);clear HB;have HO328:=n0_;have HB:=n1_;clear n0_ n1_ hb ho5));go_loopg [3,11] k (fun kq v3 v11 w'=>∃ (x3_1:List (S34)) (x11_1:Int),v11 = .int .i64 x11_1∧Aside0 (impl_copyRecords.l0 kq x3_1 l0 (l0.length:Int) x11_1=some r)∧Aside0 (kq≤k)∧Aside0 (Kd.S k34 34 w' w.heap.size (fun _=>True) v3 x3_1)∧Aside0 (Below w.heap.size w w'))
   case atStart=>exact ⟨(y326),(0),(by first|rfl|(simp;done)|(simp [*];done)),H',⟨Nat.le_refl _⟩,⟨by (with_reducible repeat (first|apply Kd.S_alloc|apply Kd.S_drewN|apply Kd.S_drew));exact HO328.out⟩,⟨zzh1⟩⟩
   case round=>
    clear H';try clear c2
    try clear c2b0
    try clear c2b1
    try clear p2
    try clear c3
    try clear c3b0
    try clear c3b1
    obtain ⟨x3_1,x11_1,rfl,HA,HK1,HO_3,HB⟩:=hrel;cases gk with
    | zero=>exact absurd HA.out (by simp [impl_copyRecords.l0])
    | succ k1=>
     have H:=HA.out;clear HA;simp only [impl_copyRecords.l0] at H;by_cases c6:x11_1 < (l0.length:Int)
     ·
      rw [if_pos c6] at H;have c6b0:decide (x11_1 < (l0.length:Int))=true:=decide_eq_true c6;clear c6;by_cases c7 : 0≤x11_1
      ·
       rw [if_pos c7] at H;have c7b0:decide (0≤x11_1)=true:=decide_eq_true c7;clear c7;by_cases c8:x11_1 < (l0.length:Int)
       ·
        rw [if_pos c8] at H;have c8b0:decide (x11_1 < (l0.length:Int))=true:=decide_eq_true c8;clear c8;replace H:=Option.bind_eq_some_iff.mp H;obtain ⟨⟨t331,t332,t333,t334,t337,t338⟩,A90,H⟩:=H;replace H:(if x3_1.length < 1759218604441 then (impl_copyRecords.l0 k1 (x3_1 ++ [(⟨t331,t332,t333,t334,t337,t338⟩:S34)]) l0 (l0.length:Int) (wrap64 (x11_1+1))) else (none))=some r:=H;have A9:=zzm A90;clear A90;by_cases c10:x3_1.length < 1759218604441
        ·
         rw [if_pos c10] at H;have LMc10:=zzm c10;clear c10;obtain ⟨y341,hy341⟩:∃ y_:List (S34),y_=(x3_1 ++ [(⟨t331,t332,t333,t334,t337,t338⟩:S34)]):=⟨_,rfl⟩;replace H:(impl_copyRecords.l0 k1 y341 l0 (l0.length:Int) (wrap64 (x11_1+1)))=some r:=by first|(rw [hy341];with_reducible exact H)|(have H2_:=(Option.bind_some _ _).symm.trans H;rw [hy341];with_reducible exact H2_)|(have H2_:=(Option.bind_some _ _).symm.trans H;with_reducible exact H2_)|with_reducible exact H|(rw [hy341];exact H)|exact H
         have Ny341:=zzm hy341;clear hy341;have H':=zzm H;clear H;have p329 : 0≤(x11_1:Int):=zzt;have q329:x11_1 < (l0.length:Int):=zzt;obtain ⟨ad329,A329_3,c329_3,A329_5,c329_5,e329,hx329_0,hx329_1,hx329_2,hx329_3,hx329_4,hx329_5,hl329_3,hi329_3,hl329_5,hi329_5⟩:=at_T34 HR0.out x11_1 p329 q329;cases e329;replace hx329_0:=zzx HB.out hx329_0;replace hx329_1:=zzx HB.out hx329_1;replace hx329_2:=zzx HB.out hx329_2;replace hx329_3:=zzx HB.out hx329_3;replace hx329_4:=zzx HB.out hx329_4;replace hx329_5:=zzx HB.out hx329_5;have HR329_3:=zzm hi329_3;have HC329_3:=zzm hl329_3;clear hi329_3 hl329_3;have HR329_5:=zzm hi329_5;have HC329_5:=zzm hl329_5;clear hi329_5 hl329_5;replace p329:=eq_true p329;replace q329:=eq_true q329;go_wp2_with (first|((with_reducible refine gate_dst (N:=5) rfl ?_);refine box_event ?hg (N:=5) ?hd (cs:=#[.int .i64 0,.int .i64 0,.bool false,.slice none 0 0,.bool false,.slice none 0 0]) (t:=34) ?hr ?_;(case hd=>rfl);(case hg=>rfl);(case hr=>first|(go_simp;done)|(go_simp;rfl));intro gb330 hg w11 hbox hb;have n0_:=zzm (Kd.S_below (Kd.S_elderB (zzS HO_3.out) gb330 (Nat.le_of_eq hg.symm)) hb);have n1_:=zzm (zzp zzh1 hb);have n2_:=zzm (hbox);have n3_:=zzm ((by rw [hg];exact (zzo zzh1):w.heap.size≤gb330));have n4_:=zzm ((by rw [hg];exact (zzo zzh1):w.heap.size≤gb330));clear HO_3 HB;have HO_3:=n0_;have HB:=n1_;have BK330:=n2_;have GW330:=n3_;have GE330:=n4_;clear n0_ n1_ n2_ n3_ n4_ hb hbox hg;obtain ⟨hcz12_0,hcz12_1,hcz12_2,hcz12_3,hcz12_4,hcz12_5,hfz12_0,hfz12_1,hfz12_2,hfz12_3,hfz12_4,hfz12_5⟩:=zzc6 BK330.out)|((with_reducible refine gate_callee (f:=78) rfl ?_);refine goesL_ (some 17) rfl rfl Try.func78 (by kernel_rfl) rfl #[.agg #[.int .i64 ((rd_T34 l0 x11_1).f0),.int .i64 ((rd_T34 l0 x11_1).f1),.bool ((rd_T34 l0 x11_1).f2),.slice A329_3 ((rd_T34 l0 x11_1).f3).length c329_3,.bool ((rd_T34 l0 x11_1).f4),.slice A329_5 ((rd_T34 l0 x11_1).f5).length c329_5]] rfl zzM2 ?_;(with_reducible refine (impl_Record_copyOf.calls ((rd_T34 l0 x11_1).f0) ((rd_T34 l0 x11_1).f1) ((rd_T34 l0 x11_1).f2) _ _ ((rd_T34 l0 x11_1).f3) ((rd_T34 l0 x11_1).f4) _ _ ((rd_T34 l0 x11_1).f5) t331 t332 t333 t334 t337 t338 _ ?side1 ?side2 ?side3 ?side4 A9.out).mono ?_);(case side1=>exact Kd.C_below HR329_3.out zzh2);(case side2=>exact HC329_3.out);(case side3=>exact Kd.C_below HR329_5.out zzh2);(case side4=>exact HC329_5.out);rintro e w13 ⟨v335,v339,rfl,ho0,ho1,hb⟩;refine ⟨_,rfl,?_⟩;have n0_:=zzm (Kd.S_mono (Kd.S_told (Kd.S_told (Kd.S_old (zzS ((Kd.S_mono (Kd.S_far (p:=⟨gb330,5,none⟩) (Kd.S_far (p:=⟨gb330,4,none⟩) (Kd.S_far (p:=⟨gb330,3,none⟩) (Kd.S_far (p:=⟨gb330,2,none⟩) (Kd.S_far (p:=⟨gb330,1,none⟩) (Kd.S_far (p:=⟨gb330,0,none⟩) (Kd.S_mono HO_3.out (fun k_ hk=>(⟨hk,hk.2⟩:_∧k_≠gb330))) (fun _ hk=>hk.2) (.int .i64 ((rd_T34 l0 x11_1).f0))) (fun _ hk=>hk.2) (.int .i64 ((rd_T34 l0 x11_1).f1))) (fun _ hk=>hk.2) (.bool ((rd_T34 l0 x11_1).f2))) (fun _ hk=>hk.2) (.slice A329_3 ((rd_T34 l0 x11_1).f3).length c329_3)) (fun _ hk=>hk.2) (.bool ((rd_T34 l0 x11_1).f4))) (fun _ hk=>hk.2) (.slice A329_5 ((rd_T34 l0 x11_1).f5).length c329_5)) (fun _ h_=>h_.1)))) hb) (Kd.R_base ho0)) (Kd.R_base ho1)) (fun _ h_=>h_.1));have n1_:=zzm (Kd.R_lower ho0 (zzo zzh2));have n2_:=zzm (Kd.R_lower ho1 (zzo zzh2));have n3_:=zzm (zzh (g:=gb330) (o:=.cells #[.int .i64 ((rd_T34 l0 x11_1).f0),.int .i64 ((rd_T34 l0 x11_1).f1),.bool ((rd_T34 l0 x11_1).f2),.slice A329_3 ((rd_T34 l0 x11_1).f3).length c329_3,.bool ((rd_T34 l0 x11_1).f4),.slice A329_5 ((rd_T34 l0 x11_1).f5).length c329_5] 34 (0,0)) (by (with_reducible repeat (first|apply zzf|apply zzg|apply zze));refine zzi (cs:=#[.int .i64 ((rd_T34 l0 x11_1).f0),.int .i64 ((rd_T34 l0 x11_1).f1),.bool ((rd_T34 l0 x11_1).f2),.slice A329_3 ((rd_T34 l0 x11_1).f3).length c329_3,.bool ((rd_T34 l0 x11_1).f4),.slice none 0 0]) ?_ 5 _ rfl;(with_reducible repeat (first|apply zzf|apply zzg|apply zze));refine zzi (cs:=#[.int .i64 ((rd_T34 l0 x11_1).f0),.int .i64 ((rd_T34 l0 x11_1).f1),.bool ((rd_T34 l0 x11_1).f2),.slice A329_3 ((rd_T34 l0 x11_1).f3).length c329_3,.bool false,.slice none 0 0]) ?_ 4 _ rfl;(with_reducible repeat (first|apply zzf|apply zzg|apply zze));refine zzi (cs:=#[.int .i64 ((rd_T34 l0 x11_1).f0),.int .i64 ((rd_T34 l0 x11_1).f1),.bool ((rd_T34 l0 x11_1).f2),.slice none 0 0,.bool false,.slice none 0 0]) ?_ 3 _ rfl;(with_reducible repeat (first|apply zzf|apply zzg|apply zze));refine zzi (cs:=#[.int .i64 ((rd_T34 l0 x11_1).f0),.int .i64 ((rd_T34 l0 x11_1).f1),.bool false,.slice none 0 0,.bool false,.slice none 0 0]) ?_ 2 _ rfl;(with_reducible repeat (first|apply zzf|apply zzg|apply zze));refine zzi (cs:=#[.int .i64 ((rd_T34 l0 x11_1).f0),.int .i64 0,.bool false,.slice none 0 0,.bool false,.slice none 0 0]) ?_ 1 _ rfl;(with_reducible repeat (first|apply zzf|apply zzg|apply zze));refine zzi (cs:=#[.int .i64 0,.int .i64 0,.bool false,.slice none 0 0,.bool false,.slice none 0 0]) ?_ 0 _ rfl;(with_reducible repeat (first|apply zzf|apply zzg|apply zze));exact BK330.out) hb);have n4_:=zzm (zzp zzh2 hb);clear HO_3 BK330 HB;have HO_3:=n0_;have HO336:=n1_;have HO340:=n2_;have BK330:=n3_;have HB:=n4_;clear n0_ n1_ n2_ n3_ n4_;(try clear hb);(try clear hb2);(try clear hk);(try clear hi);(try clear ho0);(try clear ho1);obtain ⟨Ao15,co15,eo15⟩:=Kd.R_slice HO336.out;subst eo15;obtain ⟨Ao16,co16,eo16⟩:=Kd.R_slice HO340.out;subst eo16)|((with_reducible refine gate_builtin (b:=.append) (xs:=#[.tmp 15,.tmp 18]) rfl ?_);at_builtin;refine Kd.S_append k34 (w0:=w) w.heap.size rfl (.tmp 15) (.tmp 18) 25 34 (.agg #[(.int .i64 0),(.int .i64 0),(.bool false),(.slice none 0 0),(.bool false),(.slice none 0 0)]) 80 rfl Try.underlying25 info34 rfl (by decide) (by omega) u3 x3_1 (⟨t331,t332,t333,t334,t337,t338⟩:S34) [.int .i64 t331,.int .i64 t332,.bool t333,.slice Ao15 t334.length co15,.bool t337,.slice Ao16 t338.length co16] (fun k_=>k_≠gb330) (fun k_=>some k_=(.slice Ao15 t334.length co15:Value).ownBlock∨some k_=(.slice Ao16 t338.length co16:Value).ownBlock) rfl rfl ?aP (fun k_ hk_=>hk_.elim (fun h_=>((Kd.R_mono (ok':=fun k_=>((fun k_=>k_≠gb330)) k_∧some k_≠(u3:Value).ownBlock) (Kd.R_types (Kd.R_apart' (HO336.out) (Kd.S_typed HO_3.out) (by decide)) BK330.out (by decide)) (fun k_ hk=>⟨hk.2,hk.1.2⟩))).1 k_ h_.symm) (fun h_=>((Kd.R_mono (ok':=fun k_=>((fun k_=>k_≠gb330)) k_∧some k_≠(u3:Value).ownBlock) (Kd.R_types (Kd.R_apart' (HO340.out) (Kd.S_typed HO_3.out) (by decide)) BK330.out (by decide)) (fun k_ hk=>⟨hk.2,hk.1.2⟩))).1 k_ h_.symm)) ?aF ?aO ?aB ?aS ?aL ?_;(case aP=>exact k34_mkM _ _ _ (⟨t331,t332,t333,t334,t337,t338⟩:S34) (Kd.R_mono (Kd.R_tight rfl (Kd.R_mono (ok':=fun k_=>((fun k_=>k_≠gb330)) k_∧some k_≠(u3:Value).ownBlock) (Kd.R_types (Kd.R_apart' (HO336.out) (Kd.S_typed HO_3.out) (by decide)) BK330.out (by decide)) (fun k_ hk=>⟨hk.2,hk.1.2⟩))) (fun _ h_=>Or.inl h_)) (Kd.R_mono (Kd.R_tight rfl (Kd.R_mono (ok':=fun k_=>((fun k_=>k_≠gb330)) k_∧some k_≠(u3:Value).ownBlock) (Kd.R_types (Kd.R_apart' (HO340.out) (Kd.S_typed HO_3.out) (by decide)) BK330.out (by decide)) (fun k_ hk=>⟨hk.2,hk.1.2⟩))) (fun _ h_=>Or.inr (h_))));(case aB=>exact zzh2);(case aF=>exact (fun k_ hk=>Kd.freshB (g:=gb330) (o:=.cells #[.int .i64 ((rd_T34 l0 x11_1).f0),.int .i64 ((rd_T34 l0 x11_1).f1),.bool ((rd_T34 l0 x11_1).f2),.slice A329_3 ((rd_T34 l0 x11_1).f3).length c329_3,.bool ((rd_T34 l0 x11_1).f4),.slice A329_5 ((rd_T34 l0 x11_1).f5).length c329_5] 34 (0,0)) (zzE BK330.out) k_ hk));(case aO=>exact (zzS (Kd.S_mono HO_3.out (fun k_ hk=>⟨hk.1.1.2,fun e_=>e_.elim (fun h_=>hk.1.2 h_) (fun h_=>hk.2 h_)⟩))));(case aS=>exact (zzo zzh2));(case aL=>have:=LMc10.out;omega);intro v342 w14 ho hb hg hat;rw [← Ny341.out] at ho;have n0_:=zzm (blk_grown (g:=gb330) (o:=.cells #[.int .i64 ((rd_T34 l0 x11_1).f0),.int .i64 ((rd_T34 l0 x11_1).f1),.bool ((rd_T34 l0 x11_1).f2),.slice A329_3 ((rd_T34 l0 x11_1).f3).length c329_3,.bool ((rd_T34 l0 x11_1).f4),.slice A329_5 ((rd_T34 l0 x11_1).f5).length c329_5] 34 (0,0)) (zzE BK330.out) hg (Kd.S_away HO_3.out (fun _ hk=>hk.1.1.2)));have n1_:=zzm (hb);have n2_:=zzm (ho);clear BK330 HB HO_3 HO336 HO340;have BK330:=n0_;have HB:=n1_;have HO343:=n2_;clear n0_ n1_ n2_ ho hb hg hat));go_roundg k1
         case measure=>have:=HK1.out;omega
         case rel=>exact ⟨(y341),(wrap64 (x11_1+1)),(by first|rfl|(simp;done)|(simp [*];done)),H',⟨by have:=HK1.out;omega⟩,⟨by (with_reducible repeat (first|apply Kd.S_alloc|apply Kd.S_drewN|apply Kd.S_drew));exact Kd.S_mono HO343.out (fun _ hk=>trivial)⟩,⟨by repeat (first|(with_reducible first|exact HB.out|apply zza|apply zzb|apply zzc|refine zzd ?_ GE330.out)|exact HB.out)⟩⟩
        ·
         rw [if_neg c10] at H;exact absurd H (by simp)
       ·
        rw [if_neg c8] at H;exact absurd H (by simp)
      ·
       rw [if_neg c7] at H;exact absurd H (by simp)
     ·
      rw [if_neg c6] at H;have c6b0:decide (x11_1 < (l0.length:Int))=false:=decide_eq_false c6;clear c6;obtain rfl:=Option.some.inj H;go_wp2;go_ret;exact ⟨_,by first|rfl|(simp [errW_none,errW_some] <;> rfl)|(simp [*,errW_none,errW_some] <;> rfl),by (with_reducible repeat (first|apply Kd.S_alloc|apply Kd.S_drewN|apply Kd.S_drew));exact HO_3.out,zzh1⟩
  ·
   rw [if_neg c3] at H;exact absurd H (by simp)
 ·
  rw [if_neg c2] at H;exact absurd H (by simp)
def impl_StableRecords.l0:Nat→List (S27)→List (S34)→List Int→Int→Int→Option ((List (S34)))
 | 0,_,_,_,_,_=>none
 | k+1,x0,x3,x13,x14,x15=>if x15 < x14 then (if 0≤x15 then (if x15 < (x13.length:Int) then (if (rd x13 x15)=0 then (some x3) else (if (rd x13 x15)=1 then (if x15 < (x0.length:Int) then ((impl_copyRecords.f k ((rd_T27 x0 x15).f5)).bind fun t468=>(if x3.length+t468.length < 1759218604441 then (impl_StableRecords.l0 k x0 (x3++t468) x13 x14 (wrap64 (x15+1))) else (none))) else (none)) else (impl_StableRecords.l0 k x0 x3 x13 x14 (wrap64 (x15+1))))) else (none)) else (none)) else (some x3)
def impl_StableRecords.f (k:Nat) (l0:List (S27)):Option ((List (S34))):=(some (([]:List (S34)):List (S34))).bind fun y456=>((impl_LogValid.f k l0).bind fun t459=>(if t459=true then ((impl_fatesOf.f l0).bind fun bt460=>(impl_StableRecords.l0 k l0 y456 bt460.1 (bt460.1.length:Int) 0)) else (some y456)))
set_option maxHeartbeats 8000000 in
set_option maxRecDepth 100000 in
theorem impl_StableRecords.calls (k:Nat) (A0:Option Addr) (c0:Nat) (l0:List (S27)) (r:List (S34)) (w:World) (hr0:Kd.C k27 w A0 l0.length l0) (hc0:l0.length≤c0) (h:impl_StableRecords.f k l0=some r) :
  Calls Try.prog 37 #[.slice A0 l0.length c0] w fun e w'=>∃ v0_:Value,e = .returned (v0_)∧Kd.N k34 34 w' w.heap.size (fun k_=>(w.heap.size≤k_)) v0_ r∧Below w.heap.size w w':=by
 have hfld_:=field_fates;have HR0:=zzm hr0;have HC0:=zzm hc0;clear hr0 hc0;have HB:=zzm (Below.refl w.heap.size w);have H:((some (([]:List (S34)):List (S34))).bind fun y456=>((impl_LogValid.f k l0).bind fun t459=>(if t459=true then ((impl_fatesOf.f l0).bind fun bt460=>(impl_StableRecords.l0 k l0 y456 bt460.1 (bt460.1.length:Int) 0)) else (some y456))))=some r:=h;clear h;obtain ⟨y456,hy456⟩:∃ y_:List (S34),y_=(([]:List (S34))):=⟨_,rfl⟩;replace H:((impl_LogValid.f k l0).bind fun t459=>(if t459=true then ((impl_fatesOf.f l0).bind fun bt460=>(impl_StableRecords.l0 k l0 y456 bt460.1 (bt460.1.length:Int) 0)) else (some y456)))=some r:=by first|(rw [hy456];with_reducible exact H)|(have H2_:=(Option.bind_some _ _).symm.trans H;rw [hy456];with_reducible exact H2_)|(have H2_:=(Option.bind_some _ _).symm.trans H;with_reducible exact H2_)|with_reducible exact H|(rw [hy456];exact H)|exact H
 have Ny456:=zzm hy456;clear hy456;replace H:=Option.bind_eq_some_iff.mp H;obtain ⟨t459,A20,H⟩:=H;replace H:(if t459=true then ((impl_fatesOf.f l0).bind fun bt460=>(impl_StableRecords.l0 k l0 y456 bt460.1 (bt460.1.length:Int) 0)) else (some y456))=some r:=H;have A2:=zzm A20;clear A20;by_cases c3:t459=true
 ·
  subst c3;have H1:((impl_fatesOf.f l0).bind fun bt460=>(impl_StableRecords.l0 k l0 y456 bt460.1 (bt460.1.length:Int) 0))=some r:=by rw [if_pos rfl] at H;exact H
  clear H;have H:=H1;clear H1;replace H:=Option.bind_eq_some_iff.mp H;obtain ⟨⟨t460,t463⟩,A40,H⟩:=H;replace H:(impl_StableRecords.l0 k l0 y456 t460 (t460.length:Int) 0)=some r:=H;have A4:=zzm A40;clear A40;have H':=zzm H;clear H;go_enter Try.func37,Try.ntmps37;go_wp2_with (first|((with_reducible refine gate_dst (N:=6) rfl ?_);refine Kd.N_lit k34 _ 34 ?hg (N':=6) ?hd (xs:=([]:List (S34))) (inner:=[]) (ok:=(fun k_=>(w.heap.size≤k_))) (okp:=(fun k_=>(w.heap.size≤k_))) ?hr ?hp (fun _ hk=>hk) ((show ∀ k_,w.heap.size≤k_→(fun k_=>(w.heap.size≤k_)) k_ from fun k_ hk=>(Nat.le_trans (zzo zzh1) hk)) _ (Nat.le_refl _)) (Below.refl _ _) (Nat.le_refl _) (by simp) ?_;(case hd=>rfl);(case hg=>rfl);(case hr=>first|(go_simp;done)|(go_simp;rfl));(case hp=>exact (Reps.none _ _));intro v457 w5 ho6 hb hg_ hnew_;clear hg_ hnew_;(first|rw [← Ny456.out] at ho6|(simp only [Int.reduceToNat] at ho6;rw [← Ny456.out] at ho6));have n0_:=zzm (Kd.N_lower ho6 (zzo zzh1));have n1_:=zzm (zzp zzh1 hb);clear HB;have HO458:=n0_;have HB:=n1_;clear n0_ n1_ hb ho6)|((with_reducible refine gate_callee (f:=61) rfl ?_);refine goesL_ (some 8) rfl rfl Try.func61 (by kernel_rfl) rfl #[.slice A0 l0.length c0] rfl zzM2 ?_;(with_reducible refine (impl_LogValid.calls k _ _ l0 true _ ?side1 ?side2 A2.out).mono ?_);(case side1=>repeat (first|exact (Kd.C_below HR0.out HB.out)|(with_reducible refine Kd.C_alloc ?_ _)|(with_reducible refine Kd.C_drewN ?_ _)|(with_reducible refine Kd.C_drew ?_)));(case side2=>exact HC0.out);rintro e w7 ⟨rfl,hb⟩;refine ⟨_,rfl,?_⟩;have n0_:=zzm (Kd.N_below (zzN HO458.out) hb);have n1_:=zzm (zzp zzh1 hb);clear HO458 HB;have HO458:=n0_;have HB:=n1_;clear n0_ n1_;(try clear hb);(try clear hb2);(try clear hk);(try clear hi))|((with_reducible refine gate_callee (f:=62) rfl ?_);refine goesL_ (some 12) rfl rfl Try.func62 (by kernel_rfl) rfl #[.slice A0 l0.length c0] rfl zzM2 ?_;(with_reducible refine (impl_fatesOf.calls _ _ l0 t460 t463 _ ?side1 ?side2 A4.out).mono ?_);(case side1=>repeat (first|exact (Kd.C_below HR0.out HB.out)|(with_reducible refine Kd.C_alloc ?_ _)|(with_reducible refine Kd.C_drewN ?_ _)|(with_reducible refine Kd.C_drew ?_)));(case side2=>exact HC0.out);rintro e w8 ⟨v461,v464,rfl,ho0,ho1,hb⟩;refine ⟨_,rfl,?_⟩;have n0_:=zzm (Kd.N_mono (Kd.N_told (Kd.N_told (Kd.N_old (zzN HO458.out) hb) (Kd.R_base ho0)) (Kd.R_base ho1)) (fun _ h_=>h_.1));have n1_:=zzm (Kd.R_lower (Kd.R_newM (M:=fun k_=>(w.heap.size≤k_)) ho0 (zzo zzh1) (fun k_ h_=>h_)) (zzo zzh1));have n2_:=zzm (Kd.R_lower (Kd.R_newM (M:=fun k_=>(w.heap.size≤k_)) ho1 (zzo zzh1) (fun k_ h_=>h_)) (zzo zzh1));have n3_:=zzm (zzp zzh1 hb);clear HO458 HB;have HO458:=n0_;have HO462:=n1_;have HO465:=n2_;have HB:=n3_;clear n0_ n1_ n2_ n3_;(try clear hb);(try clear hb2);(try clear hk);(try clear hi);(try clear ho0);(try clear ho1);obtain ⟨Ao9,co9,eo9⟩:=Kd.R_slice HO462.out;subst eo9));go_loopg [3,15] k (fun kq v3 v15 w'=>∃ (x3_1:List (S34)) (x15_1:Int),v15 = .int .i64 x15_1∧Aside0 (impl_StableRecords.l0 kq l0 x3_1 t460 (t460.length:Int) x15_1=some r)∧Aside0 (kq≤k)∧Aside0 (Kd.N k34 34 w' w.heap.size (fun k_=>(w.heap.size≤k_)∧some k_≠((.slice Ao9 t460.length co9):Value).ownBlock) v3 x3_1)∧Aside0 (Kd.R (Kd.int .i64) 74 w' w.heap.size (fun k_=>(w.heap.size≤k_)) (.slice Ao9 t460.length co9) t460)∧Aside0 (Below w.heap.size w w'))
  case atStart=>exact ⟨(y456),(0),(by first|rfl|(simp;done)|(simp [*];done)),H',⟨Nat.le_refl _⟩,⟨by (with_reducible repeat (first|apply Kd.N_alloc|apply Kd.N_drewN|apply Kd.N_drew));exact Kd.N_mono HO458.out (fun _ hk=>⟨hk.1.1,hk.1.2⟩)⟩,⟨by (with_reducible repeat (first|apply Kd.R_alloc|apply Kd.R_drewN|apply Kd.R_drew));exact Kd.R_mono HO462.out (fun _ hk=>hk.1)⟩,⟨zzh1⟩⟩
  case round=>
   clear H';try clear p2
   try clear c3
   try clear c6
   obtain ⟨x3_1,x15_1,rfl,HA,HK1,HO_3,HO_13,HB⟩:=hrel;cases gk with
   | zero=>exact absurd HA.out (by simp [impl_StableRecords.l0])
   | succ k1=>
    have H:=HA.out;clear HA;simp only [impl_StableRecords.l0] at H;by_cases c10:x15_1 < (t460.length:Int)
    ·
     rw [if_pos c10] at H;have c10b0:decide (x15_1 < (t460.length:Int))=true:=decide_eq_true c10;clear c10;by_cases c11 : 0≤x15_1
     ·
      rw [if_pos c11] at H;have c11b0:decide (0≤x15_1)=true:=decide_eq_true c11;clear c11;by_cases c12:x15_1 < (t460.length:Int)
      ·
       rw [if_pos c12] at H;have c12b0:decide (x15_1 < (t460.length:Int))=true:=decide_eq_true c12;clear c12;by_cases c13:(rd t460 x15_1)=0
       ·
        rw [if_pos c13] at H;have c13b0:((rd t460 x15_1)==0)=true:=beq_iff_eq.mpr c13;have c13b1:((rd t460 x15_1) != 0)=false:=bne_eq_false_iff_eq.mpr c13;clear c13;obtain rfl:=Option.some.inj H;have p466 : 0≤(x15_1:Int):=zzt;have q466:x15_1 < (t460.length:Int):=zzt;obtain ⟨ad466,e466,hx466_0⟩:=Kd.at_int (Kd.R_reads' HO_13.out).2.2 x15_1 p466 q466;cases e466;replace p466:=eq_true p466;replace q466:=eq_true q466;go_wp2;go_ret;exact ⟨_,by first|rfl|(simp [errW_none,errW_some] <;> rfl)|(simp [*,errW_none,errW_some] <;> rfl),by (with_reducible repeat (first|apply Kd.N_alloc|apply Kd.N_drewN|apply Kd.N_drew));exact Kd.N_mono HO_3.out (fun _ hk=>hk.1),zzh1⟩
       ·
        rw [if_neg c13] at H;have c13b0:((rd t460 x15_1)==0)=false:=beq_eq_false_iff_ne.mpr c13;have c13b1:((rd t460 x15_1) != 0)=true:=bne_iff_ne.mpr c13;by_cases c14:(rd t460 x15_1)=1
        ·
         rw [if_pos c14] at H;have c14b0:((rd t460 x15_1)==1)=true:=beq_iff_eq.mpr c14;have c14b1:((rd t460 x15_1) != 1)=false:=bne_eq_false_iff_eq.mpr c14;clear c14;by_cases c15:x15_1 < (l0.length:Int)
         ·
          rw [if_pos c15] at H;have c15b0:decide (x15_1 < (l0.length:Int))=true:=decide_eq_true c15;clear c15;replace H:=Option.bind_eq_some_iff.mp H;obtain ⟨t468,A160,H⟩:=H;replace H:(if x3_1.length+t468.length < 1759218604441 then (impl_StableRecords.l0 k1 l0 (x3_1++t468) t460 (t460.length:Int) (wrap64 (x15_1+1))) else (none))=some r:=H;have A16:=zzm A160;clear A160;by_cases c17:x3_1.length+t468.length < 1759218604441
          ·
           rw [if_pos c17] at H;have LMc17:=zzm c17;clear c17;obtain ⟨y471,hy471⟩:∃ y_:List (S34),y_=(x3_1++t468):=⟨_,rfl⟩;replace H:(impl_StableRecords.l0 k1 l0 y471 t460 (t460.length:Int) (wrap64 (x15_1+1)))=some r:=by first|(rw [hy471];with_reducible exact H)|(have H2_:=(Option.bind_some _ _).symm.trans H;rw [hy471];with_reducible exact H2_)|(have H2_:=(Option.bind_some _ _).symm.trans H;with_reducible exact H2_)|with_reducible exact H|(rw [hy471];exact H)|exact H
           have Ny471:=zzm hy471;clear hy471;have H':=zzm H;clear H;have p466 : 0≤(x15_1:Int):=zzt;have q466:x15_1 < (t460.length:Int):=zzt;obtain ⟨ad466,e466,hx466_0⟩:=Kd.at_int (Kd.R_reads' HO_13.out).2.2 x15_1 p466 q466;cases e466;replace p466:=eq_true p466;replace q466:=eq_true q466;have p467 : 0≤(x15_1:Int):=zzt;have q467:x15_1 < (l0.length:Int):=zzt;obtain ⟨ad467,A467_5,c467_5,e467,hx467_0,hx467_1,hx467_2,hx467_3,hx467_4,hx467_5,hl467_5,hi467_5⟩:=at_T27 HR0.out x15_1 p467 q467;cases e467;replace hx467_0:=zzx HB.out hx467_0;replace hx467_1:=zzx HB.out hx467_1;replace hx467_2:=zzx HB.out hx467_2;replace hx467_3:=zzx HB.out hx467_3;replace hx467_4:=zzx HB.out hx467_4;replace hx467_5:=zzx HB.out hx467_5;have HR467_5:=zzm hi467_5;have HC467_5:=zzm hl467_5;clear hi467_5 hl467_5;replace p467:=eq_true p467;replace q467:=eq_true q467;go_wp2_with (first|((with_reducible refine gate_callee (f:=72) rfl ?_);refine goesL_ (some 30) rfl rfl Try.func72 (by kernel_rfl) rfl #[.slice A467_5 ((rd_T27 l0 x15_1).f5).length c467_5] rfl zzM2 ?_;(with_reducible refine (impl_copyRecords.calls k1 _ _ ((rd_T27 l0 x15_1).f5) t468 _ ?side1 ?side2 A16.out).mono ?_);(case side1=>repeat (first|exact (Kd.C_below HR467_5.out HB.out)|(with_reducible refine Kd.C_alloc ?_ _)|(with_reducible refine Kd.C_drewN ?_ _)|(with_reducible refine Kd.C_drew ?_)));(case side2=>exact HC467_5.out);rintro e w18 ⟨v469,rfl,ho0,hb⟩;refine ⟨_,rfl,?_⟩;have n0_:=zzm (Kd.N_elder' (zzN HO_3.out) (by first|exact Kd.N_base ho0|exact Kd.S_base ho0|exact Kd.R_base ho0) hb);have n1_:=zzm (Kd.R_below (by (with_reducible repeat (first|apply Kd.R_alloc|apply Kd.R_drewN|apply Kd.R_drew));exact HO_13.out) hb);have n2_:=zzm (Kd.N_lower (Kd.N_mono (ok':=fun k_=>(w.heap.size≤k_)∧some k_≠(u3:Value).ownBlock∧some k_≠(.slice (some ad466) t460.length co9:Value).ownBlock) (Kd.S_N (Kd.S_bound ho0)) (fun k_ hk_=>⟨(Nat.le_trans (zzo zzh1) hk_.2.1),(Kd.fresh' (Kd.N_lt (zzN HO_3.out)) k_ hk_.2.1),(Kd.fresh' (Kd.R_lt (by (with_reducible repeat (first|apply Kd.R_alloc|apply Kd.R_drewN|apply Kd.R_drew));exact HO_13.out)) k_ hk_.2.1)⟩)) (zzo zzh1));have n3_:=zzm (zzp zzh1 hb);clear HO_3 HO_13 HB;have HO_3:=n0_;have HO_13:=n1_;have HO470:=n2_;have HB:=n3_;clear n0_ n1_ n2_ n3_;(try clear hb);(try clear hb2);(try clear hk);(try clear hi);(try clear ho0);obtain ⟨Ao20,co20,eo20⟩:=Kd.N_slice HO470.out;subst eo20)|((with_reducible refine gate_builtin (b:=.append) (xs:=#[.tmp 24,.tmp 30]) rfl ?_);at_builtin;refine Kd.N_append_rows k34 (w0:=w) w.heap.size rfl (.tmp 24) (.tmp 30) 25 34 (.agg #[(.int .i64 0),(.int .i64 0),(.bool false),(.slice none 0 0),(.bool false),(.slice none 0 0)]) 80 rfl Try.underlying25 info34 rfl (by decide) (by omega) u3 x3_1 t468 _ _ _ (fun k_=>(w.heap.size≤k_)∧some k_≠(.slice (some ad466) t460.length co9:Value).ownBlock) (fun k_=>((fun k_=>(w.heap.size≤k_)∧some k_≠(.slice (some ad466) t460.length co9:Value).ownBlock)) k_∧some k_≠(u3:Value).ownBlock) rfl rfl ?aO ?aR (fun _ hk=>hk) ?aF ?aB ?aS ?aL ?_;(case aR=>exact (by skip;exact Kd.N_F (Kd.N_mono (ok':=(fun k_=>((fun k_=>(w.heap.size≤k_)∧some k_≠(.slice (some ad466) t460.length co9:Value).ownBlock)) k_∧some k_≠(u3:Value).ownBlock)) (HO470.out) (fun k_ hk=>⟨⟨hk.1,hk.2.2⟩,hk.2.1⟩))));(case aB=>exact zzh1);(case aF=>exact (fun k_ hk=>⟨(Nat.le_trans (zzo zzh1) hk),Kd.fresh' (Kd.R_lt (by (with_reducible repeat (first|apply Kd.R_alloc|apply Kd.R_drewN|apply Kd.R_drew));exact HO_13.out)) k_ hk⟩));(case aO=>exact (zzN (Kd.N_mono HO_3.out (fun _ hk=>⟨hk.1.1,hk.1.2⟩))));(case aS=>exact (zzo zzh1));(case aL=>have:=LMc17.out;omega);intro v472 w19 ho hb hg hat;rw [← Ny471.out] at ho;have n0_:=zzm (Kd.R_over' (by (with_reducible repeat (first|apply Kd.R_alloc|apply Kd.R_drewN|apply Kd.R_drew));exact HO_13.out) (Kd.N_typed (zzN HO_3.out)) (by decide) hg);have n1_:=zzm (Kd.N_afterv (ok:=(fun k_=>(w.heap.size≤k_)∧some k_≠(.slice (some ad466) t460.length co9:Value).ownBlock)) (zzN (Kd.N_mono HO470.out (fun _ hk=>⟨⟨hk.1,hk.2.2⟩,hk.2.1⟩))) hg hat);have n2_:=zzm (hb);have n3_:=zzm (ho);clear HO_13 HO470 HB HO_3;have HO_13:=n0_;have HO470:=n1_;have HB:=n2_;have HO473:=n3_;clear n0_ n1_ n2_ n3_ ho hb hg hat));go_roundg k1
           case measure=>have:=HK1.out;omega
           case rel=>exact ⟨(y471),(wrap64 (x15_1+1)),(by first|rfl|(simp;done)|(simp [*];done)),H',⟨by have:=HK1.out;omega⟩,⟨by (with_reducible repeat (first|apply Kd.N_alloc|apply Kd.N_drewN|apply Kd.N_drew));exact HO473.out⟩,⟨by (with_reducible repeat (first|apply Kd.R_alloc|apply Kd.R_drewN|apply Kd.R_drew));exact HO_13.out⟩,⟨zzh1⟩⟩
          ·
           rw [if_neg c17] at H;exact absurd H (by simp)
         ·
          rw [if_neg c15] at H;exact absurd H (by simp)
        ·
         rw [if_neg c14] at H;have c14b0:((rd t460 x15_1)==1)=false:=beq_eq_false_iff_ne.mpr c14;have c14b1:((rd t460 x15_1) != 1)=true:=bne_iff_ne.mpr c14;have H':=zzm H;clear H;have p466 : 0≤(x15_1:Int):=zzt;have q466:x15_1 < (t460.length:Int):=zzt;obtain ⟨ad466,e466,hx466_0⟩:=Kd.at_int (Kd.R_reads' HO_13.out).2.2 x15_1 p466 q466;cases e466;replace p466:=eq_true p466;replace q466:=eq_true q466;go_wp2;go_roundg k1
         case measure=>have:=HK1.out;omega
         case rel=>exact ⟨(x3_1),(wrap64 (x15_1+1)),(by first|rfl|(simp;done)|(simp [*];done)),H',⟨by have:=HK1.out;omega⟩,⟨by (with_reducible repeat (first|apply Kd.N_alloc|apply Kd.N_drewN|apply Kd.N_drew));exact HO_3.out⟩,⟨by (with_reducible repeat (first|apply Kd.R_alloc|apply Kd.R_drewN|apply Kd.R_drew));exact HO_13.out⟩,⟨zzh1⟩⟩
      ·
       rw [if_neg c12] at H;exact absurd H (by simp)
     ·
      rw [if_neg c11] at H;exact absurd H (by simp)
    ·
     rw [if_neg c10] at H;have c10b0:decide (x15_1 < (t460.length:Int))=false:=decide_eq_false c10;clear c10;obtain rfl:=Option.some.inj H;go_wp2;go_ret;exact ⟨_,by first|rfl|(simp [errW_none,errW_some] <;> rfl)|(simp [*,errW_none,errW_some] <;> rfl),by (with_reducible repeat (first|apply Kd.N_alloc|apply Kd.N_drewN|apply Kd.N_drew));exact Kd.N_mono HO_3.out (fun _ hk=>hk.1),zzh1⟩
 ·
  replace c3:=Bool.eq_false_iff.mpr c3;subst c3;have H1:(some y456)=some r:=by rw [if_neg (show ¬ (false=true) by decide)] at H;exact H
  clear H;have H:=H1;clear H1;obtain rfl:=Option.some.inj H;go_enter Try.func37,Try.ntmps37;go_wp2_with (first|((with_reducible refine gate_dst (N:=6) rfl ?_);refine Kd.N_lit k34 _ 34 ?hg (N':=6) ?hd (xs:=([]:List (S34))) (inner:=[]) (ok:=(fun k_=>(w.heap.size≤k_))) (okp:=(fun k_=>(w.heap.size≤k_))) ?hr ?hp (fun _ hk=>hk) ((show ∀ k_,w.heap.size≤k_→(fun k_=>(w.heap.size≤k_)) k_ from fun k_ hk=>(Nat.le_trans (zzo zzh1) hk)) _ (Nat.le_refl _)) (Below.refl _ _) (Nat.le_refl _) (by simp) ?_;(case hd=>rfl);(case hg=>rfl);(case hr=>first|(go_simp;done)|(go_simp;rfl));(case hp=>exact (Reps.none _ _));intro v457 w21 ho22 hb hg_ hnew_;clear hg_ hnew_;(first|rw [← Ny456.out] at ho22|(simp only [Int.reduceToNat] at ho22;rw [← Ny456.out] at ho22));have n0_:=zzm (Kd.N_lower ho22 (zzo zzh1));have n1_:=zzm (zzp zzh1 hb);clear HB;have HO458:=n0_;have HB:=n1_;clear n0_ n1_ hb ho22)|((with_reducible refine gate_callee (f:=61) rfl ?_);refine goesL_ (some 8) rfl rfl Try.func61 (by kernel_rfl) rfl #[.slice A0 l0.length c0] rfl zzM2 ?_;(with_reducible refine (impl_LogValid.calls k _ _ l0 false _ ?side1 ?side2 A2.out).mono ?_);(case side1=>repeat (first|exact (Kd.C_below HR0.out HB.out)|(with_reducible refine Kd.C_alloc ?_ _)|(with_reducible refine Kd.C_drewN ?_ _)|(with_reducible refine Kd.C_drew ?_)));(case side2=>exact HC0.out);rintro e w23 ⟨rfl,hb⟩;refine ⟨_,rfl,?_⟩;have n0_:=zzm (Kd.N_below (zzN HO458.out) hb);have n1_:=zzm (zzp zzh1 hb);clear HO458 HB;have HO458:=n0_;have HB:=n1_;clear n0_ n1_;(try clear hb);(try clear hb2);(try clear hk);(try clear hi)));go_ret;exact ⟨_,by first|rfl|(simp [errW_none,errW_some] <;> rfl)|(simp [*,errW_none,errW_some] <;> rfl),by (with_reducible repeat (first|apply Kd.N_alloc|apply Kd.N_drewN|apply Kd.N_drew));exact HO458.out,zzh1⟩
end Go.Proofs.Yticpnjhkdfdkkaa.T
