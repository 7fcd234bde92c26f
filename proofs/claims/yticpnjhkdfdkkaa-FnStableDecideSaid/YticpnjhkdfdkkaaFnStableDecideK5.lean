/- The law FnStableDecide holds (part 6 of 7; merged by pack2.py). -/
import Derived.Test.YticpnjhkdfdkkaaFnStableDecideK4
open List (setIfInBounds_toArray set_cons_zero set_cons_succ map_toArray map_cons map_nil length_drop length_take)
namespace Go.Proofs.Yticpnjhkdfdkkaa.T
open Go.RowKit Go.Proofs.YticpnjhkdfdkkaaW.PrintWords Go.Proofs.YticpnjhkdfdkkaaW.PrintLast Go.Proofs.YticpnjhkdfdkkaaW.PrintMore
attribute [local go_sem] max2_int max_two
set_option linter.unusedVariables false
set_option linter.unusedSimpArgs false
mutual
def laws_FnStableDecide.j0:Nat→List Int→List Int→Bool→Option (Bool)
 | 0,_,_,_=>none
 | k+1,x0,x1,x20=>if x20=true then (some true) else ((spec_DrawStableEnd.f k x0).bind fun t422=>((impl_StableEnd.f k t422).bind fun t425=>((spec_StableEnd.f k t422).bind fun t426=>(if t425=t426 then (laws_FnStableDecide.j1 k x1 t422 t425 t426 (decide (t426 < 0))) else (laws_FnStableDecide.j1 k x1 t422 t425 t426 true)))))
def laws_FnStableDecide.j1:Nat→List Int→List (S27)→Int→Int→Bool→Option (Bool)
 | 0,_,_,_,_,_=>none
 | k+1,x1,x5,x6,x7,x33=>if x33=true then (some (x6==x7)) else (laws_FnStableDecide.l0 k x1 x5 x6 0)
def laws_FnStableDecide.l0:Nat→List Int→List (S27)→Int→Int→Option (Bool)
 | 0,_,_,_,_=>none
 | k+1,x1,x5,x6,x8=>if x8 < (x5.length:Int) then (if 0≤x8 then (if 0 < (((rd_T27 x5 x8).f5).length:Int) then (if ((rd_T34 ((rd_T27 x5 x8).f5) 0).f0)=x6 then ((impl_MarkBatch.f k ((rd_T27 x5 x8).f2) ((rd_T27 x5 x8).f3) 0 0 (((x1.length:Int) % 2)==0)).bind fun bt432=>((impl_LogAppend.f k x5 bt432.1 bt432.2.1 bt432.2.2.1 bt432.2.2.2.1 bt432.2.2.2.2.1 bt432.2.2.2.2.2.1).bind fun bt442=>(if bt432.2.2.2.2.2.2=true then (if bt442.2=true then ((impl_StableEnd.f k bt442.1).bind fun t446=>(some (decide (t446 > x6)))) else (some true)) else (some true)))) else (laws_FnStableDecide.l0 k x1 x5 x6 (wrap64 (x8+1)))) else (none)) else (none)) else ((impl_ReadEnd.f k x5).bind fun t427=>(some (x6==t427)))
end
def laws_FnStableDecide.f (k:Nat) (l0:List Int) (l1:List Int):Option (Bool):=if (l0.length:Int) > 1048576 then (laws_FnStableDecide.j0 k l0 l1 true) else (laws_FnStableDecide.j0 k l0 l1 (decide ((l1.length:Int) > 1048576)))
def laws_FnStableDecide.T12:Bool×List (List Nat×List Nat):=(true,[([],[]),([],[]),([0,1],[0,1]),([2],[2]),([3],[3]),([],[]),([],[]),([5,6],[5,6]),([7],[7]),([8],[8]),([],[]),([10],[10]),([11],[11]),([12],[12]),([4,9,13],[4,9,13]),([14],[14]),([15],[15]),([15],[15]),([],[]),([18,16,14,0,1,2,3,4,5,6,7,8,9,10,11,12,13,14,15,16,18],[16,18]),([17,19,0,1,2,3,4,5,6,7,8,9,10,11,12,13,14,15,16,17,18,19],[17])])
def laws_FnStableDecide.B12:List Nat:=[0,0,3,7,15,0,0,96,224,480,0,1024,3072,7168,16383,32767,65535,65535,0,393215,1048575]
theorem laws_FnStableDecide.tab12:rtab .any (opsOf Try.f11 12)=laws_FnStableDecide.T12:=by kernel_rfl
theorem laws_FnStableDecide.bits12:waitsOk laws_FnStableDecide.T12.2 laws_FnStableDecide.B12=true:=by kernel_rfl
set_option maxHeartbeats 8000000 in
set_option maxRecDepth 100000 in
theorem laws_FnStableDecide.calls (k:Nat) (A0:Option Addr) (c0:Nat) (l0:List Int) (A1:Option Addr) (c1:Nat) (l1:List Int) (r:Bool) (w:World) (hr0:Kd.C (Kd.int .u8) w A0 l0.length l0) (hc0:l0.length≤c0) (hr1:Kd.C (Kd.int .u8) w A1 l1.length l1) (hc1:l1.length≤c1) (h:laws_FnStableDecide.f k l0 l1=some r) :
  Calls Try.prog 11 #[.slice A0 l0.length c0,.slice A1 l1.length c1] w fun e w'=>e = .returned (.bool r)∧Below w.heap.size w w':=by
 have hu27:=Try.underlying27;have HR0:=zzm hr0;have HC0:=zzm hc0;clear hr0 hc0;have HR1:=zzm hr1;have HC1:=zzm hc1;clear hr1 hc1;have HB:=zzm (Below.refl w.heap.size w);have H:(if (l0.length:Int) > 1048576 then (laws_FnStableDecide.j0 k l0 l1 true) else (laws_FnStableDecide.j0 k l0 l1 (decide ((l1.length:Int) > 1048576))))=some r:=h;clear h;have HC3:=zzm H;clear H;go_enter Try.func11,Try.ntmps11;go_upto_region 1 with (fail);go_cut [20] (fun v20 wc=>∃ (kq:Nat) (x20_2:Bool),v20 = .bool x20_2∧Aside0 (laws_FnStableDecide.j0 kq l0 l1 x20_2=some r)∧Aside0 (kq≤k)∧Aside0 (Below w.heap.size w wc))
 case first=>
  have H:=HC3.out;clear HC3;by_cases c4:(l0.length:Int) > 1048576
  ·
   rw [if_pos c4] at H;have c4b0:decide (1048576 < (l0.length:Int))=true:=decide_eq_true c4;have c4b1:decide (1048576 < l0.length)=true:=decide_eq_true (by omega);clear c4;(first|rw [c4b0]|(simp only [i64_w,i32_w];rw [c4b0])|skip);have H':=zzm H;clear H;go_wp2;go_meet
   case rel=>exact ⟨_,(true),(by first|rfl|(simp;done)|(simp [*];done)),H',⟨by first|omega|exact Nat.le_refl _⟩,⟨zzh1⟩⟩
  ·
   rw [if_neg c4] at H;have c4b0:decide (1048576 < (l0.length:Int))=false:=decide_eq_false c4;have c4b1:decide (1048576 < l0.length)=false:=decide_eq_false (by omega);clear c4;(first|rw [c4b0]|(simp only [i64_w,i32_w];rw [c4b0])|skip);have H':=zzm H;clear H;go_wp2;go_meet
   case rel=>exact ⟨_,(decide ((l1.length:Int) > 1048576)),(by first|rfl|(simp;done)|(simp [*];done)),H',⟨by first|omega|exact Nat.le_refl _⟩,⟨zzh1⟩⟩
 case rest=>
  clear HC3;try clear c1
  try clear p2
  try clear c4
  try clear c4b0
  try clear c4b1
  obtain ⟨kq,x20_2,rfl,HA,HJ2,HB⟩:=hcut;cases kq with
  | zero=>exact absurd HA.out (by simp [laws_FnStableDecide.j0])
  | succ kj2=>
   have H:=HA.out;clear HA;simp only [laws_FnStableDecide.j0] at H;by_cases c5:x20_2=true
   ·
    subst c5;have H1:(some true)=some r:=by rw [if_pos rfl] at H;exact H
    clear H;have H:=H1;clear H1;obtain rfl:=Option.some.inj H;go_wp2;go_ret;exact ⟨by first|rfl|(simp [errW_none,errW_some] <;> rfl)|(simp [*,errW_none,errW_some] <;> rfl),zzh1⟩
   ·
    replace c5:=Bool.eq_false_iff.mpr c5;subst c5;have H1:((spec_DrawStableEnd.f kj2 l0).bind fun t422=>((impl_StableEnd.f kj2 t422).bind fun t425=>((spec_StableEnd.f kj2 t422).bind fun t426=>(if t425=t426 then (laws_FnStableDecide.j1 kj2 l1 t422 t425 t426 (decide (t426 < 0))) else (laws_FnStableDecide.j1 kj2 l1 t422 t425 t426 true)))))=some r:=by rw [if_neg (show ¬ (false=true) by decide)] at H;exact H
    clear H;have H:=H1;clear H1;replace H:=Option.bind_eq_some_iff.mp H;obtain ⟨t422,A60,H⟩:=H;replace H:((impl_StableEnd.f kj2 t422).bind fun t425=>((spec_StableEnd.f kj2 t422).bind fun t426=>(if t425=t426 then (laws_FnStableDecide.j1 kj2 l1 t422 t425 t426 (decide (t426 < 0))) else (laws_FnStableDecide.j1 kj2 l1 t422 t425 t426 true))))=some r:=H;have A6:=zzm A60;clear A60;replace H:=Option.bind_eq_some_iff.mp H;obtain ⟨t425,A70,H⟩:=H;replace H:((spec_StableEnd.f kj2 t422).bind fun t426=>(if t425=t426 then (laws_FnStableDecide.j1 kj2 l1 t422 t425 t426 (decide (t426 < 0))) else (laws_FnStableDecide.j1 kj2 l1 t422 t425 t426 true)))=some r:=H;have A7:=zzm A70;clear A70;replace H:=Option.bind_eq_some_iff.mp H;obtain ⟨t426,A80,H⟩:=H;replace H:(if t425=t426 then (laws_FnStableDecide.j1 kj2 l1 t422 t425 t426 (decide (t426 < 0))) else (laws_FnStableDecide.j1 kj2 l1 t422 t425 t426 true))=some r:=H;have A8:=zzm A80;clear A80;have HC9:=zzm H;clear H;go_upto_region 6 with (first|((with_reducible refine gate_callee (f:=27) rfl ?_);refine goesL_ (some 22) rfl rfl Try.func27 (by kernel_rfl) rfl #[.slice A0 l0.length c0] rfl zzM2 ?_;(with_reducible refine (spec_DrawStableEnd.calls kj2 _ _ l0 t422 _ ?side1 ?side2 A6.out).mono ?_);(case side1=>repeat (first|exact (Kd.C_below HR0.out HB.out)|(with_reducible refine Kd.C_alloc ?_ _)|(with_reducible refine Kd.C_drewN ?_ _)|(with_reducible refine Kd.C_drew ?_)));(case side2=>exact HC0.out);rintro e w10 ⟨v423,rfl,ho0,hb⟩;refine ⟨_,rfl,?_⟩;have n0_:=zzm (Kd.N_lower (Kd.N_mono (ok':=fun k_=>True) ho0 (fun k_ hk_=>trivial)) (zzo zzh1));have n1_:=zzm (zzp zzh1 hb);clear HB;have HO424:=n0_;have HB:=n1_;clear n0_ n1_;(try clear hb);(try clear hb2);(try clear hk);(try clear hi);(try clear ho0);obtain ⟨Ao11,co11,eo11⟩:=Kd.N_slice HO424.out;subst eo11)|((with_reducible refine gate_callee (f:=28) rfl ?_);refine goesL_ (some 24) rfl rfl Try.func28 (by kernel_rfl) rfl #[.slice Ao11 t422.length co11] rfl zzM2 ?_;(with_reducible refine (impl_StableEnd.calls kj2 _ _ t422 t425 _ ?side1 ?side2 A7.out).mono ?_);(case side1=>repeat (first|exact (Kd.N_reads' HO424.out).2.2|(with_reducible refine Kd.C_alloc ?_ _)|(with_reducible refine Kd.C_drewN ?_ _)|(with_reducible refine Kd.C_drew ?_)));(case side2=>exact (Kd.N_reads' HO424.out).2.1);rintro e w12 ⟨rfl,hb⟩;refine ⟨_,rfl,?_⟩;have n0_:=zzm (Kd.N_below (zzN HO424.out) hb);have n1_:=zzm (zzp zzh1 hb);clear HO424 HB;have HO424:=n0_;have HB:=n1_;clear n0_ n1_;(try clear hb);(try clear hb2);(try clear hk);(try clear hi))|((with_reducible refine gate_callee (f:=29) rfl ?_);refine goesL_ (some 26) rfl rfl Try.func29 (by kernel_rfl) rfl #[.slice Ao11 t422.length co11] rfl zzM2 ?_;(with_reducible refine (spec_StableEnd.calls kj2 _ _ t422 t426 _ ?side1 ?side2 A8.out).mono ?_);(case side1=>repeat (first|exact (Kd.N_reads' HO424.out).2.2|(with_reducible refine Kd.C_alloc ?_ _)|(with_reducible refine Kd.C_drewN ?_ _)|(with_reducible refine Kd.C_drew ?_)));(case side2=>exact (Kd.N_reads' HO424.out).2.1);rintro e w13 ⟨rfl,hb⟩;refine ⟨_,rfl,?_⟩;have n0_:=zzm (Kd.N_below (zzN HO424.out) hb);have n1_:=zzm (zzp zzh1 hb);clear HO424 HB;have HO424:=n0_;have HB:=n1_;clear n0_ n1_;(try clear hb);(try clear hb2);(try clear hk);(try clear hi)));(try simp only [Act.put,zzq,zzr,zzs]);go_cut [33] (fun v33 wc=>∃ (kq:Nat) (x33_8:Bool),v33 = .bool x33_8∧Aside0 (laws_FnStableDecide.j1 kq l1 t422 t425 t426 x33_8=some r)∧Aside0 (kq≤kj2)∧Aside0 (Kd.N k27 27 wc w.heap.size (fun _=>True) (.slice Ao11 t422.length co11) t422)∧Aside0 (Below w.heap.size w wc))
    case first=>
     have H:=HC9.out;clear HC9;by_cases c14:t425=t426
     ·
      rw [if_pos c14] at H;have c14b0:(t425==t426)=true:=beq_iff_eq.mpr c14;have c14b1:(t425 != t426)=false:=bne_eq_false_iff_eq.mpr c14;clear c14;(first|rw [c14b0]|(simp only [i64_w,i32_w];rw [c14b0])|skip);have H':=zzm H;clear H;go_wp2;go_meet
      case rel=>exact ⟨_,(decide (t426 < 0)),(by first|rfl|(simp;done)|(simp [*];done)),H',⟨by have:=HJ2.out;first|omega|exact Nat.le_refl _⟩,⟨by (with_reducible repeat (first|apply Kd.N_alloc|apply Kd.N_drewN|apply Kd.N_drew));exact HO424.out⟩,⟨zzh1⟩⟩
     ·
      rw [if_neg c14] at H;have c14b0:(t425==t426)=false:=beq_eq_false_iff_ne.mpr c14;have c14b1:(t425 != t426)=true:=bne_iff_ne.mpr c14;(first|rw [c14b0]|(simp only [i64_w,i32_w];rw [c14b0])|skip);have H':=zzm H;clear H;go_wp2;go_meet
      case rel=>exact ⟨_,(true),(by first|rfl|(simp;done)|(simp [*];done)),H',⟨by have:=HJ2.out;first|omega|exact Nat.le_refl _⟩,⟨by (with_reducible repeat (first|apply Kd.N_alloc|apply Kd.N_drewN|apply Kd.N_drew));exact HO424.out⟩,⟨zzh1⟩⟩
    case rest=>
     clear HC9;try clear c1
     try clear c2
     try clear p2
     try clear c4
     try clear c4b0
     try clear c4b1
     try clear c5
     try clear c11
     try clear c14
     try clear c14b0
     try clear c14b1
     try clear p2
     obtain ⟨kq,x33_8,rfl,HA,HJ8,HO_5,HB⟩:=hcut;cases kq with
     | zero=>exact absurd HA.out (by simp [laws_FnStableDecide.j1])
     | succ kj8=>
      have H:=HA.out;clear HA;simp only [laws_FnStableDecide.j1] at H;by_cases c15:x33_8=true
      ·
       subst c15;have H1:(some (t425==t426))=some r:=by rw [if_pos rfl] at H;exact H
       clear H;have H:=H1;clear H1;obtain rfl:=Option.some.inj H;go_wp2;go_ret;exact ⟨by first|rfl|(simp [errW_none,errW_some] <;> rfl)|(simp [*,errW_none,errW_some] <;> rfl),zzh1⟩
      ·
       replace c15:=Bool.eq_false_iff.mpr c15;subst c15;have H1:(laws_FnStableDecide.l0 kj8 l1 t422 t425 0)=some r:=by rw [if_neg (show ¬ (false=true) by decide)] at H;exact H
       clear H;have H:=H1;clear H1;have H':=zzm H;clear H;go_wp2;go_loopg [8] kj8 (fun kq v8 w'=>∃ (x8_3:Int),v8 = .int .i64 x8_3∧Aside0 (laws_FnStableDecide.l0 kq l1 t422 t425 x8_3=some r)∧Aside0 (kq≤kj8)∧Aside0 (Kd.N k27 27 w' w.heap.size (fun _=>True) (.slice Ao11 t422.length co11) t422)∧Aside0 (Below w.heap.size w w'))
       case atStart=>exact ⟨(0),(by first|rfl|(simp;done)|(simp [*];done)),H',⟨Nat.le_refl _⟩,⟨by (with_reducible repeat (first|apply Kd.N_alloc|apply Kd.N_drewN|apply Kd.N_drew));exact HO_5.out⟩,⟨zzh1⟩⟩
       case round=>
        clear H';try clear c1
        try clear c2
        try clear p2
        try clear c4
        try clear c4b0
        try clear c4b1
        try clear c5
        try clear c11
        try clear c14
        try clear c14b0
        try clear c14b1
        try clear c15
        try clear p2
        obtain ⟨x8_3,rfl,HA,HK3,HO_5,HB⟩:=hrel;cases gk with
        | zero=>exact absurd HA.out (by simp [laws_FnStableDecide.l0])
        | succ k3=>
         have H:=HA.out;clear HA;simp only [laws_FnStableDecide.l0] at H;by_cases c16:x8_3 < (t422.length:Int)
         ·
          rw [if_pos c16] at H;have c16b0:decide (x8_3 < (t422.length:Int))=true:=decide_eq_true c16;clear c16;by_cases c17 : 0≤x8_3
          ·
           rw [if_pos c17] at H;have c17b0:decide (0≤x8_3)=true:=decide_eq_true c17;clear c17;by_cases c18 : 0 < (((rd_T27 t422 x8_3).f5).length:Int)
           ·
            rw [if_pos c18] at H;have c18b0:decide (0 < (((rd_T27 t422 x8_3).f5).length:Int))=true:=decide_eq_true c18;have c18b1:decide (0 < ((rd_T27 t422 x8_3).f5).length)=true:=decide_eq_true (by omega);clear c18;by_cases c19:((rd_T34 ((rd_T27 t422 x8_3).f5) 0).f0)=t425
            ·
             rw [if_pos c19] at H;have c19b0:(((rd_T34 ((rd_T27 t422 x8_3).f5) 0).f0)==t425)=true:=beq_iff_eq.mpr c19;have c19b1:(((rd_T34 ((rd_T27 t422 x8_3).f5) 0).f0) != t425)=false:=bne_eq_false_iff_eq.mpr c19;clear c19;replace H:=Option.bind_eq_some_iff.mp H;obtain ⟨⟨t432,t433,t434,t435,t436,t437,t440⟩,A200,H⟩:=H;replace H:((impl_LogAppend.f k3 t422 t432 t433 t434 t435 t436 t437).bind fun bt442=>(if t440=true then (if bt442.2=true then ((impl_StableEnd.f k3 bt442.1).bind fun t446=>(some (decide (t446 > t425)))) else (some true)) else (some true)))=some r:=H;have A20:=zzm A200;clear A200;replace H:=Option.bind_eq_some_iff.mp H;obtain ⟨⟨t442,t445⟩,A210,H⟩:=H;replace H:(if t440=true then (if t445=true then ((impl_StableEnd.f k3 t442).bind fun t446=>(some (decide (t446 > t425)))) else (some true)) else (some true))=some r:=H;have A21:=zzm A210;clear A210;by_cases c22:t440=true
             ·
              subst c22;have H1:(if t445=true then ((impl_StableEnd.f k3 t442).bind fun t446=>(some (decide (t446 > t425)))) else (some true))=some r:=by rw [if_pos rfl] at H;exact H
              clear H;have H:=H1;clear H1;by_cases c23:t445=true
              ·
               subst c23;have H1:((impl_StableEnd.f k3 t442).bind fun t446=>(some (decide (t446 > t425))))=some r:=by rw [if_pos rfl] at H;exact H
               clear H;have H:=H1;clear H1;replace H:=Option.bind_eq_some_iff.mp H;obtain ⟨t446,A240,H⟩:=H;replace H:(some (decide (t446 > t425)))=some r:=H;have A24:=zzm A240;clear A240;obtain rfl:=Option.some.inj H;have p428 : 0≤(x8_3:Int):=zzt;have q428:x8_3 < (t422.length:Int):=zzt;obtain ⟨ad428,A428_5,c428_5,e428,hx428_0,hx428_1,hx428_2,hx428_3,hx428_4,hx428_5,hl428_5,hi428_5⟩:=at_T27 (Kd.N_reads' HO_5.out).2.2 x8_3 p428 q428;cases e428;obtain ⟨ce428,hce428,hMe428,hcc428⟩:=Kd.N_get HO_5.out z27 x8_3 p428 (by first|exact q428|exact zzt|(have e_:=(Kd.N_reads' HO_5.out).1;omega));obtain ⟨ua428_5,uc428_5,rfl,ul428_5,ge428_5⟩:=k27_openF hMe428;have hv428_5:=hcc428 5 _ rfl;rw [add_field _ _ 5 (by omega)] at hv428_5;replace hv428_5:=Option.some.inj (hv428_5.symm.trans hx428_5);injection hv428_5 with hva_ hvn_ hvc_;rw [hva_] at ge428_5;rw [hvc_] at ul428_5;have HL428_5:=zzm (show Kd.V k34 34 _ w.heap.size _ _ ((rd_T27 t422 x8_3).f5) from Kd.V_mk ul428_5 ge428_5);clear hva_ hvn_ hvc_ ge428_5 ul428_5;clear hcc428 hce428;have HR428_5:=zzm hi428_5;have HC428_5:=zzm hl428_5;clear hi428_5 hl428_5;replace p428:=eq_true p428;replace q428:=eq_true q428;have p429 : 0≤(0:Int):=(by omega);have q429 : 0 < (((rd_T27 t422 x8_3).f5).length:Int):=zzt;obtain ⟨ad429,A429_3,c429_3,A429_5,c429_5,e429,hx429_0,hx429_1,hx429_2,hx429_3,hx429_4,hx429_5,hl429_3,hi429_3,hl429_5,hi429_5⟩:=at_T34 (zzC HR428_5.out) 0 p429 q429;cases e429;obtain ⟨ce429,hce429,hMe429,hcc429⟩:=Kd.V_get HL428_5.out z34 0 p429 (by first|exact q429|exact zzt|(have e_:=(Kd.V_reads' HL428_5.out).1;omega));obtain ⟨ua429_3,uc429_3,ua429_5,uc429_5,rfl,ul429_3,ge429_3,ul429_5,ge429_5⟩:=k34_openF hMe429;have hv429_3:=hcc429 3 _ rfl;rw [add_field _ _ 3 (by omega)] at hv429_3;replace hv429_3:=Option.some.inj (hv429_3.symm.trans hx429_3);injection hv429_3 with hva_ hvn_ hvc_;rw [hva_] at ge429_3;rw [hvc_] at ul429_3;have HL429_3:=zzm (show Kd.V (Kd.int .i64) 3 _ w.heap.size _ _ ((rd_T34 ((rd_T27 t422 x8_3).f5) 0).f3) from Kd.V_mk ul429_3 ge429_3);clear hva_ hvn_ hvc_ ge429_3 ul429_3;have hv429_5:=hcc429 5 _ rfl;rw [add_field _ _ 5 (by omega)] at hv429_5;replace hv429_5:=Option.some.inj (hv429_5.symm.trans hx429_5);injection hv429_5 with hva_ hvn_ hvc_;rw [hva_] at ge429_5;rw [hvc_] at ul429_5;have HL429_5:=zzm (show Kd.V (Kd.int .i64) 3 _ w.heap.size _ _ ((rd_T34 ((rd_T27 t422 x8_3).f5) 0).f5) from Kd.V_mk ul429_5 ge429_5);clear hva_ hvn_ hvc_ ge429_5 ul429_5;clear hcc429 hce429;have qi429:(0 < ((rd_T27 t422 x8_3).f5).length)=True:=eq_true (by omega);(try rw [show ((0:Int)).toNat=0 from rfl] at hx429_0);(try rw [show 0 * 6=0 from rfl] at hx429_0);(try rw [Addr.add_zero'] at hx429_0);(try rw [show ((0:Int)).toNat=0 from rfl] at hx429_1);(try rw [show 0 * 6=0 from rfl] at hx429_1);(try rw [Addr.add_zero'] at hx429_1);(try rw [show ((0:Int)).toNat=0 from rfl] at hx429_2);(try rw [show 0 * 6=0 from rfl] at hx429_2);(try rw [Addr.add_zero'] at hx429_2);(try rw [show ((0:Int)).toNat=0 from rfl] at hx429_3);(try rw [show 0 * 6=0 from rfl] at hx429_3);(try rw [Addr.add_zero'] at hx429_3);(try rw [show ((0:Int)).toNat=0 from rfl] at hx429_4);(try rw [show 0 * 6=0 from rfl] at hx429_4);(try rw [Addr.add_zero'] at hx429_4);(try rw [show ((0:Int)).toNat=0 from rfl] at hx429_5);(try rw [show 0 * 6=0 from rfl] at hx429_5);(try rw [Addr.add_zero'] at hx429_5);have HR429_3:=zzm hi429_3;have HC429_3:=zzm hl429_3;clear hi429_3 hl429_3;have HR429_5:=zzm hi429_5;have HC429_5:=zzm hl429_5;clear hi429_5 hl429_5;replace p429:=eq_true p429;replace q429:=eq_true q429;try go_wp2
               have n0_:=zzm (Kd.N_drew HO_5.out);have n1_:=zzm (Kd.V_drew HL428_5.out);have n2_:=zzm (Kd.V_drew HL429_3.out);have n3_:=zzm (Kd.V_drew HL429_5.out);have n4_:=zzm (Kd.C_drew HR428_5.out);have n5_:=zzm (Kd.C_drew HR429_3.out);have n6_:=zzm (Kd.C_drew HR429_5.out);have n7_:=zzm (zzc HB.out);clear HO_5 HL428_5 HL429_3 HL429_5 HR428_5 HR429_3 HR429_5 HB;have HO_5:=n0_;have HL428_5:=n1_;have HL429_3:=n2_;have HL429_5:=n3_;have HR428_5:=n4_;have HR429_3:=n5_;have HR429_5:=n6_;have HB:=n7_;clear n0_ n1_ n2_ n3_ n4_ n5_ n6_ n7_;have p430 : 0≤(x8_3:Int):=zzt;have q430:x8_3 < (t422.length:Int):=zzt;obtain ⟨ad430,A430_5,c430_5,e430,hx430_0,hx430_1,hx430_2,hx430_3,hx430_4,hx430_5,hl430_5,hi430_5⟩:=at_T27 (Kd.N_reads' HO_5.out).2.2 x8_3 p430 q430;obtain rfl:ad428=ad430:=(by injection e430);obtain ⟨ce430,hce430,hMe430,hcc430⟩:=Kd.N_get HO_5.out z27 x8_3 p430 (by first|exact q430|exact zzt|(have e_:=(Kd.N_reads' HO_5.out).1;omega));obtain ⟨ua430_5,uc430_5,rfl,ul430_5,ge430_5⟩:=k27_openF hMe430;have hv430_5:=hcc430 5 _ rfl;rw [add_field _ _ 5 (by omega)] at hv430_5;replace hv430_5:=Option.some.inj (hv430_5.symm.trans hx430_5);injection hv430_5 with hva_ hvn_ hvc_;rw [hva_] at ge430_5;rw [hvc_] at ul430_5;have HL430_5:=zzm (show Kd.V k34 34 _ w.heap.size _ _ ((rd_T27 t422 x8_3).f5) from Kd.V_mk ul430_5 ge430_5);clear hva_ hvn_ hvc_ ge430_5 ul430_5;clear hcc430 hce430;have HR430_5:=zzm hi430_5;have HC430_5:=zzm hl430_5;clear hi430_5 hl430_5;replace p430:=eq_true p430;replace q430:=eq_true q430;have p431 : 0≤(x8_3:Int):=zzt;have q431:x8_3 < (t422.length:Int):=zzt;obtain ⟨ad431,A431_5,c431_5,e431,hx431_0,hx431_1,hx431_2,hx431_3,hx431_4,hx431_5,hl431_5,hi431_5⟩:=at_T27 (Kd.N_reads' HO_5.out).2.2 x8_3 p431 q431;obtain rfl:ad428=ad431:=(by injection e431);obtain ⟨ce431,hce431,hMe431,hcc431⟩:=Kd.N_get HO_5.out z27 x8_3 p431 (by first|exact q431|exact zzt|(have e_:=(Kd.N_reads' HO_5.out).1;omega));obtain ⟨ua431_5,uc431_5,rfl,ul431_5,ge431_5⟩:=k27_openF hMe431;have hv431_5:=hcc431 5 _ rfl;rw [add_field _ _ 5 (by omega)] at hv431_5;replace hv431_5:=Option.some.inj (hv431_5.symm.trans hx431_5);injection hv431_5 with hva_ hvn_ hvc_;rw [hva_] at ge431_5;rw [hvc_] at ul431_5;have HL431_5:=zzm (show Kd.V k34 34 _ w.heap.size _ _ ((rd_T27 t422 x8_3).f5) from Kd.V_mk ul431_5 ge431_5);clear hva_ hvn_ hvc_ ge431_5 ul431_5;clear hcc431 hce431;have HR431_5:=zzm hi431_5;have HC431_5:=zzm hl431_5;clear hi431_5 hl431_5;replace p431:=eq_true p431;replace q431:=eq_true q431;have ea_:=Option.some.inj (hx430_5.symm.trans hx431_5);injection ea_ with ea_ en_ ec_;subst ea_;subst ec_;clear en_;refine start_ (n:=21) (S:=fun w'=>w'.cell? (ad428.add ((x8_3).toNat * 6))=some (.bool ((rd_T27 t422 x8_3).f0))∧w'.cell? ⟨(ad428.add ((x8_3).toNat * 6)).block,(ad428.add ((x8_3).toNat * 6)).off+1,none⟩=some (.bool ((rd_T27 t422 x8_3).f1))∧w'.cell? ⟨(ad428.add ((x8_3).toNat * 6)).block,(ad428.add ((x8_3).toNat * 6)).off+2,none⟩=some (.int .i64 ((rd_T27 t422 x8_3).f2))∧w'.cell? ⟨(ad428.add ((x8_3).toNat * 6)).block,(ad428.add ((x8_3).toNat * 6)).off+3,none⟩=some (.int .i64 ((rd_T27 t422 x8_3).f3))∧w'.cell? ⟨(ad428.add ((x8_3).toNat * 6)).block,(ad428.add ((x8_3).toNat * 6)).off+4,none⟩=some (.int .i64 ((rd_T27 t422 x8_3).f4))∧w'.cell? ⟨(ad428.add ((x8_3).toNat * 6)).block,(ad428.add ((x8_3).toNat * 6)).off+5,none⟩=some (.slice A430_5 ((rd_T27 t422 x8_3).f5).length c430_5)∧w'.cell? (ad428.add ((x8_3).toNat * 6))=some (.bool ((rd_T27 t422 x8_3).f0))∧w'.cell? ⟨(ad428.add ((x8_3).toNat * 6)).block,(ad428.add ((x8_3).toNat * 6)).off+1,none⟩=some (.bool ((rd_T27 t422 x8_3).f1))∧w'.cell? ⟨(ad428.add ((x8_3).toNat * 6)).block,(ad428.add ((x8_3).toNat * 6)).off+2,none⟩=some (.int .i64 ((rd_T27 t422 x8_3).f2))∧w'.cell? ⟨(ad428.add ((x8_3).toNat * 6)).block,(ad428.add ((x8_3).toNat * 6)).off+3,none⟩=some (.int .i64 ((rd_T27 t422 x8_3).f3))∧w'.cell? ⟨(ad428.add ((x8_3).toNat * 6)).block,(ad428.add ((x8_3).toNat * 6)).off+4,none⟩=some (.int .i64 ((rd_T27 t422 x8_3).f4))∧w'.cell? ⟨(ad428.add ((x8_3).toNat * 6)).block,(ad428.add ((x8_3).toNat * 6)).off+5,none⟩=some (.slice A430_5 ((rd_T27 t422 x8_3).f5).length c430_5)) (ds:=[]) (zzB 21 0) (by kernel_rfl) rfl rfl ⟨hx430_0,hx430_1,hx430_2,hx430_3,hx430_4,hx430_5,hx431_0,hx431_1,hx431_2,hx431_3,hx431_4,hx431_5⟩ (fun hHeld=>?_);refine with_tabW laws_FnStableDecide.tab12 laws_FnStableDecide.bits12 (fun HT_ HW_=>?_);generalize wr.drew=w25 at HO_5 HL428_5 HL429_3 HL429_5 HR428_5 HR429_3 HR429_5 HB HL430_5 HL431_5 HR430_5 HR431_5 hx430_0 hx430_1 hx430_2 hx430_3 hx430_4 hx430_5 hx431_0 hx431_1 hx431_2 hx431_3 hx431_4 hx431_5 hHeld ⊢;refine pure_ (i:=0) (N:=some 54) (v:=?_) (a':=?_) (zzB 21 1) rfl rfl (zzA2 HT_.out) (fun _ _ _ h=>h) (Or.inl ⟨by rfl,?_⟩) ?_ ?_;rotate_left
               ·
                intro w';go_simp;with_reducible rfl
               rotate_left
               ·
                simp only [Act.put,zzq,zzr,zzs,i64_w,i32_w];rfl
               refine pure_ (i:=1) (N:=some 55) (v:=?_) (a':=?_) (zzB 21 3) rfl rfl (zzA2 HT_.out) (fun _ _ _ h=>h) (Or.inl ⟨by rfl,?_⟩) ?_ ?_;rotate_left
               ·
                intro w';go_simp;with_reducible rfl
               rotate_left
               ·
                simp only [Act.put,zzq,zzr,zzs,i64_w,i32_w];rfl
               refine pure_ (i:=2) (N:=some 56) (v:=?_) (a':=?_) (zzB 21 7) rfl rfl (zzA2 HT_.out) (fun _ _ _ h=>h) (Or.inl ⟨by rfl,?_⟩) ?_ ?_;rotate_left
               ·
                intro w';go_simp;with_reducible rfl
               rotate_left
               ·
                simp only [Act.put,zzq,zzr,zzs,i64_w,i32_w];rfl
               refine pure_ (i:=3) (N:=some 57) (v:=?_) (a':=?_) (zzB 21 15) rfl rfl (zzA2 HT_.out) (fun _ _ _ h=>h) (Or.inl ⟨by rfl,?_⟩) ?_ ?_;rotate_left
               ·
                intro w';go_simp;with_reducible rfl
               rotate_left
               ·
                simp only [Act.put,zzq,zzr,zzs,i64_w,i32_w];rfl
               refine pure_ (i:=5) (N:=some 59) (v:=?_) (a':=?_) (zzB 21 47) rfl rfl (zzA2 HT_.out) (fun _ _ _ h=>h) (Or.inl ⟨by rfl,?_⟩) ?_ ?_;rotate_left
               ·
                intro w';go_simp;with_reducible rfl
               rotate_left
               ·
                simp only [Act.put,zzq,zzr,zzs,i64_w,i32_w];rfl
               refine pure_ (i:=6) (N:=some 60) (v:=?_) (a':=?_) (zzB 21 111) rfl rfl (zzA2 HT_.out) (fun _ _ _ h=>h) (Or.inl ⟨by rfl,?_⟩) ?_ ?_;rotate_left
               ·
                intro w';go_simp;with_reducible rfl
               rotate_left
               ·
                simp only [Act.put,zzq,zzr,zzs,i64_w,i32_w];rfl
               refine pure_ (i:=7) (N:=some 61) (v:=?_) (a':=?_) (zzB 21 239) rfl rfl (zzA2 HT_.out) (fun _ _ _ h=>h) (Or.inl ⟨by rfl,?_⟩) ?_ ?_;rotate_left
               ·
                intro w';go_simp;with_reducible rfl
               rotate_left
               ·
                simp only [Act.put,zzq,zzr,zzs,i64_w,i32_w];rfl
               refine pure_ (i:=8) (N:=some 62) (v:=?_) (a':=?_) (zzB 21 495) rfl rfl (zzA2 HT_.out) (fun _ _ _ h=>h) (Or.inl ⟨by rfl,?_⟩) ?_ ?_;rotate_left
               ·
                intro w';go_simp;with_reducible rfl
               rotate_left
               ·
                simp only [Act.put,zzq,zzr,zzs,i64_w,i32_w];rfl
               refine pure_ (i:=10) (N:=some 64) (v:=?_) (a':=?_) (zzB 21 1519) rfl rfl (zzA2 HT_.out) (fun _ _ _ h=>h) (Or.inl ⟨by rfl,?_⟩) ?_ ?_;rotate_left
               ·
                intro w';go_simp;with_reducible rfl
               rotate_left
               ·
                simp only [Act.put,zzq,zzr,zzs,i64_w,i32_w];rfl
               refine pure_ (i:=11) (N:=some 65) (v:=?_) (a':=?_) (zzB 21 3567) rfl rfl (zzA2 HT_.out) (fun _ _ _ h=>h) (Or.inl ⟨by rfl,?_⟩) ?_ ?_;rotate_left
               ·
                intro w';go_simp;with_reducible rfl
               rotate_left
               ·
                simp only [Act.put,zzq,zzr,zzs,i64_w,i32_w];rfl
               refine pure_ (i:=12) (N:=some 66) (v:=?_) (a':=?_) (zzB 21 7663) rfl rfl (zzA2 HT_.out) (fun _ _ _ h=>h) (Or.inl ⟨by rfl,?_⟩) ?_ ?_;rotate_left
               ·
                intro w';go_simp;with_reducible rfl
               rotate_left
               ·
                simp only [Act.put,zzq,zzr,zzs,i64_w,i32_w];rfl
               refine pure_ (i:=13) (N:=some 67) (v:=?_) (a':=?_) (zzB 21 15855) rfl rfl (zzA2 HT_.out) (fun _ _ _ h=>h) (Or.inl ⟨by rfl,?_⟩) ?_ ?_;rotate_left
               ·
                intro w';go_simp;with_reducible rfl
               rotate_left
               ·
                simp only [Act.put,zzq,zzr,zzs,i64_w,i32_w];rfl
               refine take_ (i:=4) (N:=some 58) (v:=?_) (a':=?_) (zzB 21 15871) rfl rfl (take_ofW HT_.out HW_.out (by kernel_rfl)) (fun _ _ _ h=>h) (Or.inl ⟨by rfl,?_⟩) hHeld ?_ ?_;rotate_left
               ·
                rintro w' ⟨s0,s1,s2,s3,s4,s5,s6,s7,s8,s9,s10,s11⟩;go_simp;with_reducible rfl
               rotate_left
               ·
                simp only [Act.put,zzq,zzr,zzs,i64_w,i32_w];rfl
               refine take_ (i:=9) (N:=some 63) (v:=?_) (a':=?_) (zzB 21 16383) rfl rfl (take_ofW HT_.out HW_.out (by kernel_rfl)) (fun _ _ _ h=>h) (Or.inl ⟨by rfl,?_⟩) hHeld ?_ ?_;rotate_left
               ·
                rintro w' ⟨s0,s1,s2,s3,s4,s5,s6,s7,s8,s9,s10,s11⟩;go_simp;with_reducible rfl
               rotate_left
               ·
                simp only [Act.put,zzq,zzr,zzs,i64_w,i32_w];rfl
               refine join_ (σ:=Value×Nat) 2 (zzB 21 524287) (fun s_=>[(68,.tuple #[.agg #[.bool t432,.bool t433,.int .i64 t434,.int .i64 t435,.int .i64 t436,s_.1],.bool true]),(9,.pointer (some ⟨s_.2,0,none⟩)),(53,.tuple #[.agg #[.bool t432,.bool t433,.int .i64 t434,.int .i64 t435,.int .i64 t436,s_.1],.bool true]),(69,.agg #[.bool t432,.bool t433,.int .i64 t434,.int .i64 t435,.int .i64 t436,s_.1]),(70,.bool true)]) (fun s_ w'=>(w'.cell? (ad428.add ((x8_3).toNat * 6))=some (.bool ((rd_T27 t422 x8_3).f0))∧w'.cell? ⟨(ad428.add ((x8_3).toNat * 6)).block,(ad428.add ((x8_3).toNat * 6)).off+1,none⟩=some (.bool ((rd_T27 t422 x8_3).f1))∧w'.cell? ⟨(ad428.add ((x8_3).toNat * 6)).block,(ad428.add ((x8_3).toNat * 6)).off+2,none⟩=some (.int .i64 ((rd_T27 t422 x8_3).f2))∧w'.cell? ⟨(ad428.add ((x8_3).toNat * 6)).block,(ad428.add ((x8_3).toNat * 6)).off+3,none⟩=some (.int .i64 ((rd_T27 t422 x8_3).f3))∧w'.cell? ⟨(ad428.add ((x8_3).toNat * 6)).block,(ad428.add ((x8_3).toNat * 6)).off+4,none⟩=some (.int .i64 ((rd_T27 t422 x8_3).f4))∧w'.cell? ⟨(ad428.add ((x8_3).toNat * 6)).block,(ad428.add ((x8_3).toNat * 6)).off+5,none⟩=some (.slice A430_5 ((rd_T27 t422 x8_3).f5).length c430_5)∧w'.cell? (ad428.add ((x8_3).toNat * 6))=some (.bool ((rd_T27 t422 x8_3).f0))∧w'.cell? ⟨(ad428.add ((x8_3).toNat * 6)).block,(ad428.add ((x8_3).toNat * 6)).off+1,none⟩=some (.bool ((rd_T27 t422 x8_3).f1))∧w'.cell? ⟨(ad428.add ((x8_3).toNat * 6)).block,(ad428.add ((x8_3).toNat * 6)).off+2,none⟩=some (.int .i64 ((rd_T27 t422 x8_3).f2))∧w'.cell? ⟨(ad428.add ((x8_3).toNat * 6)).block,(ad428.add ((x8_3).toNat * 6)).off+3,none⟩=some (.int .i64 ((rd_T27 t422 x8_3).f3))∧w'.cell? ⟨(ad428.add ((x8_3).toNat * 6)).block,(ad428.add ((x8_3).toNat * 6)).off+4,none⟩=some (.int .i64 ((rd_T27 t422 x8_3).f4))∧w'.cell? ⟨(ad428.add ((x8_3).toNat * 6)).block,(ad428.add ((x8_3).toNat * 6)).off+5,none⟩=some (.slice A430_5 ((rd_T27 t422 x8_3).f5).length c430_5))∧(Kd.V k34 34 w' w.heap.size (fun k_=>some k_≠(s_.1:Value).ownBlock∧some k_≠(.slice (some ad428) t422.length co11:Value).ownBlock∧k_≠s_.2) (.slice (some ad429) ((rd_T27 t422 x8_3).f5).length c428_5) ((rd_T27 t422 x8_3).f5))∧(Kd.V (Kd.int .i64) 3 w' w.heap.size (fun k_=>some k_≠(s_.1:Value).ownBlock∧some k_≠(.slice (some ad428) t422.length co11:Value).ownBlock∧k_≠s_.2) (.slice A429_3 ((rd_T34 ((rd_T27 t422 x8_3).f5) 0).f3).length c429_3) ((rd_T34 ((rd_T27 t422 x8_3).f5) 0).f3))∧(Kd.V (Kd.int .i64) 3 w' w.heap.size (fun k_=>some k_≠(s_.1:Value).ownBlock∧some k_≠(.slice (some ad428) t422.length co11:Value).ownBlock∧k_≠s_.2) (.slice A429_5 ((rd_T34 ((rd_T27 t422 x8_3).f5) 0).f5).length c429_5) ((rd_T34 ((rd_T27 t422 x8_3).f5) 0).f5))∧(Kd.V k34 34 w' w.heap.size (fun k_=>some k_≠(s_.1:Value).ownBlock∧some k_≠(.slice (some ad428) t422.length co11:Value).ownBlock∧k_≠s_.2) (.slice A430_5 ((rd_T27 t422 x8_3).f5).length c430_5) ((rd_T27 t422 x8_3).f5))∧(Kd.V k34 34 w' w.heap.size (fun k_=>some k_≠(s_.1:Value).ownBlock∧some k_≠(.slice (some ad428) t422.length co11:Value).ownBlock∧k_≠s_.2) (.slice A430_5 ((rd_T27 t422 x8_3).f5).length c430_5) ((rd_T27 t422 x8_3).f5))∧(Kd.N k34 34 w' w.heap.size (fun k_=>some k_≠(.slice (some ad428) t422.length co11:Value).ownBlock∧k_≠s_.2) s_.1 t437)∧(Kd.N k27 27 w' w.heap.size (fun k_=>some k_≠(s_.1:Value).ownBlock∧k_≠s_.2) (.slice (some ad428) t422.length co11) t422)∧(w'.heap[s_.2]? = some (.cells #[.bool false,.bool false,.int .i64 0,.int .i64 0,.int .i64 0,.slice none 0 0] 27 (0,0)))∧(w.heap.size≤s_.2)∧(w.heap.size≤s_.2)∧(Below w.heap.size w w')) ?_ ?_;rotate_left
               ·
                intro hCont;refine two_ (i:=14) (j:=18) (Ni:=some 68) (Nj:=some 9) (zzB 21 32767) (zzB 21 278527) rfl rfl rfl rfl (two_of HT_.out (by kernel_rfl)) (by decide) (by decide) (fun K hK=>?_) (fun K hK=>?_)
                ·
                 skip;refine goes_ Try.func19 (by kernel_rfl) rfl #[.int .i64 ((rd_T27 t422 x8_3).f2),.int .i64 ((rd_T27 t422 x8_3).f3),.int .i64 0,.int .i64 0,.bool (((l1.length:Int) % 2)==0)] (by rfl) rfl rfl zzM2 ?_;with_reducible refine (impl_MarkBatch.calls k3 ((rd_T27 t422 x8_3).f2) ((rd_T27 t422 x8_3).f3) 0 0 (((l1.length:Int) % 2)==0) t432 t433 t434 t435 t436 t437 true _ A20.out).mono ?_;rintro e w26 ⟨v438,rfl,ho0,hb⟩;have HS0_:=(hb.cell (zzn _ _ (hHeld.1))).trans (hHeld.1);have HS1_:=(hb.cell (zzn _ _ (hHeld.2.1))).trans (hHeld.2.1);have HS2_:=(hb.cell (zzn _ _ (hHeld.2.2.1))).trans (hHeld.2.2.1);have HS3_:=(hb.cell (zzn _ _ (hHeld.2.2.2.1))).trans (hHeld.2.2.2.1);have HS4_:=(hb.cell (zzn _ _ (hHeld.2.2.2.2.1))).trans (hHeld.2.2.2.2.1);have HS5_:=(hb.cell (zzn _ _ (hHeld.2.2.2.2.2.1))).trans (hHeld.2.2.2.2.2.1);have HS6_:=(hb.cell (zzn _ _ (hHeld.2.2.2.2.2.2.1))).trans (hHeld.2.2.2.2.2.2.1);have HS7_:=(hb.cell (zzn _ _ (hHeld.2.2.2.2.2.2.2.1))).trans (hHeld.2.2.2.2.2.2.2.1);have HS8_:=(hb.cell (zzn _ _ (hHeld.2.2.2.2.2.2.2.2.1))).trans (hHeld.2.2.2.2.2.2.2.2.1);have HS9_:=(hb.cell (zzn _ _ (hHeld.2.2.2.2.2.2.2.2.2.1))).trans (hHeld.2.2.2.2.2.2.2.2.2.1);have HS10_:=(hb.cell (zzn _ _ (hHeld.2.2.2.2.2.2.2.2.2.2.1))).trans (hHeld.2.2.2.2.2.2.2.2.2.2.1);have HS11_:=(hb.cell (zzn _ _ (hHeld.2.2.2.2.2.2.2.2.2.2.2))).trans (hHeld.2.2.2.2.2.2.2.2.2.2.2);refine ⟨_,rfl,?_⟩;have n0_:=zzm (Kd.N_elder' (zzN HO_5.out) (Kd.N_base ho0) hb);have n1_:=zzm (Kd.V_elder' (zzV HL428_5.out) (Kd.N_base ho0) hb);have n2_:=zzm (Kd.V_elder' (zzV HL429_3.out) (Kd.N_base ho0) hb);have n3_:=zzm (Kd.V_elder' (zzV HL429_5.out) (Kd.N_base ho0) hb);have n4_:=zzm (Kd.V_elder' (zzV HL430_5.out) (Kd.N_base ho0) hb);have n5_:=zzm (Kd.V_elder' (zzV HL431_5.out) (Kd.N_base ho0) hb);have n6_:=zzm (Kd.N_lower (Kd.N_mono (ok':=fun k_=>some k_≠(.slice (some ad428) t422.length co11:Value).ownBlock) ho0 (fun k_ hk_=>(Kd.fresh' (Kd.N_lt (zzN HO_5.out)) k_ hk_))) (zzo zzh1));have n7_:=zzm (Kd.C_below (zzC HR428_5.out) hb);have n8_:=zzm (Kd.C_below (zzC HR429_3.out) hb);have n9_:=zzm (Kd.C_below (zzC HR429_5.out) hb);have n10_:=zzm (Kd.C_below (zzC HR430_5.out) hb);have n11_:=zzm (Kd.C_below (zzC HR431_5.out) hb);have n12_:=zzm (zzp zzh1 hb);clear HO_5 HL428_5 HL429_3 HL429_5 HL430_5 HL431_5 HR428_5 HR429_3 HR429_5 HR430_5 HR431_5 HB;have HO_5:=n0_;have HL428_5:=n1_;have HL429_3:=n2_;have HL429_5:=n3_;have HL430_5:=n4_;have HL431_5:=n5_;have HO439:=n6_;have HR428_5:=n7_;have HR429_3:=n8_;have HR429_5:=n9_;have HR430_5:=n10_;have HR431_5:=n11_;have HB:=n12_;clear n0_ n1_ n2_ n3_ n4_ n5_ n6_ n7_ n8_ n9_ n10_ n11_ n12_;(try clear hb);(try clear hb2);(try clear hk);(try clear hi);(try clear ho0);refine hK.out _ _ ⟨HS0_,HS1_,HS2_,HS3_,HS4_,HS5_,HS6_,HS7_,HS8_,HS9_,HS10_,HS11_⟩ (fun hHeld=>?_);clear hK K;refine norm_ (a':=?_) ?_ ?_;rotate_left
                 ·
                  show Act.put _ (some 68) _ = _;simp only [Act.put,zzq,zzr,zzs,i64_w,i32_w];rfl
                 refine pure_ (i:=15) (N:=some 53) (v:=?_) (a':=?_) (zzB 21 65535) rfl rfl (zzA2 HT_.out) (fun _ _ _ h=>h) (Or.inl ⟨by rfl,?_⟩) ?_ ?_;rotate_left
                 ·
                  intro w';go_simp;with_reducible rfl
                 rotate_left
                 ·
                  simp only [Act.put,zzq,zzr,zzs,i64_w,i32_w];rfl
                 refine pure_ (i:=16) (N:=some 69) (v:=?_) (a':=?_) (zzB 21 131071) rfl rfl (zzA2 HT_.out) (fun _ _ _ h=>h) (Or.inl ⟨by rfl,?_⟩) ?_ ?_;rotate_left
                 ·
                  intro w';go_simp;with_reducible rfl
                 rotate_left
                 ·
                  simp only [Act.put,zzq,zzr,zzs,i64_w,i32_w];rfl
                 refine pure_ (i:=17) (N:=some 70) (v:=?_) (a':=?_) (zzB 21 262143) rfl rfl (zzA2 HT_.out) (fun _ _ _ h=>h) (Or.inl ⟨by rfl,?_⟩) ?_ ?_;rotate_left
                 ·
                  intro w';go_simp;with_reducible rfl
                 rotate_left
                 ·
                  simp only [Act.put,zzq,zzr,zzs,i64_w,i32_w];rfl
                 refine one_ (i:=18) (N:=some 9) (zzB 21 524287) rfl rfl (one_of HT_.out (by kernel_rfl)) (by decide) (fun K hK=>?_);refine box_step ?hg (N:=9) ?hd (cs:=#[.bool false,.bool false,.int .i64 0,.int .i64 0,.int .i64 0,.slice none 0 0]) (t:=27) ?hr ?_;(case hd=>rfl);(case hg=>rfl);(case hr=>first|(go_simp;done)|(go_simp;rfl));intro gb441 hg w27 hbox hb;have HS0_:=(hb.cell (zzn _ _ (hHeld.1))).trans (hHeld.1);have HS1_:=(hb.cell (zzn _ _ (hHeld.2.1))).trans (hHeld.2.1);have HS2_:=(hb.cell (zzn _ _ (hHeld.2.2.1))).trans (hHeld.2.2.1);have HS3_:=(hb.cell (zzn _ _ (hHeld.2.2.2.1))).trans (hHeld.2.2.2.1);have HS4_:=(hb.cell (zzn _ _ (hHeld.2.2.2.2.1))).trans (hHeld.2.2.2.2.1);have HS5_:=(hb.cell (zzn _ _ (hHeld.2.2.2.2.2.1))).trans (hHeld.2.2.2.2.2.1);have HS6_:=(hb.cell (zzn _ _ (hHeld.2.2.2.2.2.2.1))).trans (hHeld.2.2.2.2.2.2.1);have HS7_:=(hb.cell (zzn _ _ (hHeld.2.2.2.2.2.2.2.1))).trans (hHeld.2.2.2.2.2.2.2.1);have HS8_:=(hb.cell (zzn _ _ (hHeld.2.2.2.2.2.2.2.2.1))).trans (hHeld.2.2.2.2.2.2.2.2.1);have HS9_:=(hb.cell (zzn _ _ (hHeld.2.2.2.2.2.2.2.2.2.1))).trans (hHeld.2.2.2.2.2.2.2.2.2.1);have HS10_:=(hb.cell (zzn _ _ (hHeld.2.2.2.2.2.2.2.2.2.2.1))).trans (hHeld.2.2.2.2.2.2.2.2.2.2.1);have HS11_:=(hb.cell (zzn _ _ (hHeld.2.2.2.2.2.2.2.2.2.2.2))).trans (hHeld.2.2.2.2.2.2.2.2.2.2.2);have n0_:=zzm (Kd.N_below (Kd.N_elderB (zzN HO_5.out) gb441 (Nat.le_of_eq hg.symm)) hb);have n1_:=zzm (Kd.V_below (Kd.V_elderB (zzV HL428_5.out) gb441 (Nat.le_of_eq hg.symm)) hb);have n2_:=zzm (Kd.V_below (Kd.V_elderB (zzV HL429_3.out) gb441 (Nat.le_of_eq hg.symm)) hb);have n3_:=zzm (Kd.V_below (Kd.V_elderB (zzV HL429_5.out) gb441 (Nat.le_of_eq hg.symm)) hb);have n4_:=zzm (Kd.V_below (Kd.V_elderB (zzV HL430_5.out) gb441 (Nat.le_of_eq hg.symm)) hb);have n5_:=zzm (Kd.V_below (Kd.V_elderB (zzV HL431_5.out) gb441 (Nat.le_of_eq hg.symm)) hb);have n6_:=zzm (Kd.N_below (Kd.N_elderB (zzN HO439.out) gb441 (Nat.le_of_eq hg.symm)) hb);have n7_:=zzm (Kd.C_below (zzC HR428_5.out) hb);have n8_:=zzm (Kd.C_below (zzC HR429_3.out) hb);have n9_:=zzm (Kd.C_below (zzC HR429_5.out) hb);have n10_:=zzm (Kd.C_below (zzC HR430_5.out) hb);have n11_:=zzm (Kd.C_below (zzC HR431_5.out) hb);have n12_:=zzm (zzp zzh1 hb);have n13_:=zzm (hbox);have n14_:=zzm ((by rw [hg];exact (zzo zzh1):w.heap.size≤gb441));have n15_:=zzm ((by rw [hg];exact (zzo zzh1):w.heap.size≤gb441));clear HO_5 HL428_5 HL429_3 HL429_5 HL430_5 HL431_5 HO439 HR428_5 HR429_3 HR429_5 HR430_5 HR431_5 HB;have HO_5:=n0_;have HL428_5:=n1_;have HL429_3:=n2_;have HL429_5:=n3_;have HL430_5:=n4_;have HL431_5:=n5_;have HO439:=n6_;have HR428_5:=n7_;have HR429_3:=n8_;have HR429_5:=n9_;have HR430_5:=n10_;have HR431_5:=n11_;have HB:=n12_;have BK441:=n13_;have GW441:=n14_;have GE441:=n15_;clear n0_ n1_ n2_ n3_ n4_ n5_ n6_ n7_ n8_ n9_ n10_ n11_ n12_ n13_ n14_ n15_;clear hb hbox hg;refine hK.out _ _ ⟨HS0_,HS1_,HS2_,HS3_,HS4_,HS5_,HS6_,HS7_,HS8_,HS9_,HS10_,HS11_⟩ (fun hHeld=>?_);clear hK K;refine norm_ (a':=?_) ?_ ?_;rotate_left
                 ·
                  show Act.put _ (some 9) _ = _;simp only [Act.put,zzq,zzr,zzs,i64_w,i32_w];rfl
                 exact norm_ (by simp only [putAll,Act.put,zzq,zzr,zzs]) (hCont (v438,gb441) _ ⟨hHeld,(zzV (Kd.V_mono HL428_5.out (fun _ hk=>⟨hk.1.2,⟨hk.1.1.2,hk.2⟩⟩))),(zzV (Kd.V_mono HL429_3.out (fun _ hk=>⟨hk.1.2,⟨hk.1.1.2,hk.2⟩⟩))),(zzV (Kd.V_mono HL429_5.out (fun _ hk=>⟨hk.1.2,⟨hk.1.1.2,hk.2⟩⟩))),(zzV (Kd.V_mono HL430_5.out (fun _ hk=>⟨hk.1.2,⟨hk.1.1.2,hk.2⟩⟩))),(zzV (Kd.V_mono HL431_5.out (fun _ hk=>⟨hk.1.2,⟨hk.1.1.2,hk.2⟩⟩))),(zzN HO439.out),(zzN (Kd.N_mono HO_5.out (fun _ hk=>⟨hk.1.2,hk.2⟩))),(zzE BK441.out),GW441.out,GE441.out,zzh2⟩)
                ·
                 skip;refine box_step ?hg (N:=9) ?hd (cs:=#[.bool false,.bool false,.int .i64 0,.int .i64 0,.int .i64 0,.slice none 0 0]) (t:=27) ?hr ?_;(case hd=>rfl);(case hg=>rfl);(case hr=>first|(go_simp;done)|(go_simp;rfl));intro gb441 hg w26 hbox hb;have HS0_:=(hb.cell (zzn _ _ (hHeld.1))).trans (hHeld.1);have HS1_:=(hb.cell (zzn _ _ (hHeld.2.1))).trans (hHeld.2.1);have HS2_:=(hb.cell (zzn _ _ (hHeld.2.2.1))).trans (hHeld.2.2.1);have HS3_:=(hb.cell (zzn _ _ (hHeld.2.2.2.1))).trans (hHeld.2.2.2.1);have HS4_:=(hb.cell (zzn _ _ (hHeld.2.2.2.2.1))).trans (hHeld.2.2.2.2.1);have HS5_:=(hb.cell (zzn _ _ (hHeld.2.2.2.2.2.1))).trans (hHeld.2.2.2.2.2.1);have HS6_:=(hb.cell (zzn _ _ (hHeld.2.2.2.2.2.2.1))).trans (hHeld.2.2.2.2.2.2.1);have HS7_:=(hb.cell (zzn _ _ (hHeld.2.2.2.2.2.2.2.1))).trans (hHeld.2.2.2.2.2.2.2.1);have HS8_:=(hb.cell (zzn _ _ (hHeld.2.2.2.2.2.2.2.2.1))).trans (hHeld.2.2.2.2.2.2.2.2.1);have HS9_:=(hb.cell (zzn _ _ (hHeld.2.2.2.2.2.2.2.2.2.1))).trans (hHeld.2.2.2.2.2.2.2.2.2.1);have HS10_:=(hb.cell (zzn _ _ (hHeld.2.2.2.2.2.2.2.2.2.2.1))).trans (hHeld.2.2.2.2.2.2.2.2.2.2.1);have HS11_:=(hb.cell (zzn _ _ (hHeld.2.2.2.2.2.2.2.2.2.2.2))).trans (hHeld.2.2.2.2.2.2.2.2.2.2.2);have n0_:=zzm (Kd.N_below (Kd.N_elderB (zzN HO_5.out) gb441 (Nat.le_of_eq hg.symm)) hb);have n1_:=zzm (Kd.V_below (Kd.V_elderB (zzV HL428_5.out) gb441 (Nat.le_of_eq hg.symm)) hb);have n2_:=zzm (Kd.V_below (Kd.V_elderB (zzV HL429_3.out) gb441 (Nat.le_of_eq hg.symm)) hb);have n3_:=zzm (Kd.V_below (Kd.V_elderB (zzV HL429_5.out) gb441 (Nat.le_of_eq hg.symm)) hb);have n4_:=zzm (Kd.V_below (Kd.V_elderB (zzV HL430_5.out) gb441 (Nat.le_of_eq hg.symm)) hb);have n5_:=zzm (Kd.V_below (Kd.V_elderB (zzV HL431_5.out) gb441 (Nat.le_of_eq hg.symm)) hb);have n6_:=zzm (Kd.C_below (zzC HR428_5.out) hb);have n7_:=zzm (Kd.C_below (zzC HR429_3.out) hb);have n8_:=zzm (Kd.C_below (zzC HR429_5.out) hb);have n9_:=zzm (Kd.C_below (zzC HR430_5.out) hb);have n10_:=zzm (Kd.C_below (zzC HR431_5.out) hb);have n11_:=zzm (zzp zzh1 hb);have n12_:=zzm (hbox);have n13_:=zzm ((by rw [hg];exact (zzo zzh1):w.heap.size≤gb441));have n14_:=zzm ((by rw [hg];exact (zzo zzh1):w.heap.size≤gb441));clear HO_5 HL428_5 HL429_3 HL429_5 HL430_5 HL431_5 HR428_5 HR429_3 HR429_5 HR430_5 HR431_5 HB;have HO_5:=n0_;have HL428_5:=n1_;have HL429_3:=n2_;have HL429_5:=n3_;have HL430_5:=n4_;have HL431_5:=n5_;have HR428_5:=n6_;have HR429_3:=n7_;have HR429_5:=n8_;have HR430_5:=n9_;have HR431_5:=n10_;have HB:=n11_;have BK441:=n12_;have GW441:=n13_;have GE441:=n14_;clear n0_ n1_ n2_ n3_ n4_ n5_ n6_ n7_ n8_ n9_ n10_ n11_ n12_ n13_ n14_;clear hb hbox hg;refine hK.out _ _ ⟨HS0_,HS1_,HS2_,HS3_,HS4_,HS5_,HS6_,HS7_,HS8_,HS9_,HS10_,HS11_⟩ (fun hHeld=>?_);clear hK K;refine norm_ (a':=?_) ?_ ?_;rotate_left
                 ·
                  show Act.put _ (some 9) _ = _;simp only [Act.put,zzq,zzr,zzs,i64_w,i32_w];rfl
                 refine one_ (i:=14) (N:=some 68) (zzB 21 294911) rfl rfl (one_of HT_.out (by kernel_rfl)) (by decide) (fun K hK=>?_);refine goes_ Try.func19 (by kernel_rfl) rfl #[.int .i64 ((rd_T27 t422 x8_3).f2),.int .i64 ((rd_T27 t422 x8_3).f3),.int .i64 0,.int .i64 0,.bool (((l1.length:Int) % 2)==0)] (by rfl) rfl rfl zzM2 ?_;with_reducible refine (impl_MarkBatch.calls k3 ((rd_T27 t422 x8_3).f2) ((rd_T27 t422 x8_3).f3) 0 0 (((l1.length:Int) % 2)==0) t432 t433 t434 t435 t436 t437 true _ A20.out).mono ?_;rintro e w27 ⟨v438,rfl,ho0,hb⟩;have HS0_:=(hb.cell (zzn _ _ (hHeld.1))).trans (hHeld.1);have HS1_:=(hb.cell (zzn _ _ (hHeld.2.1))).trans (hHeld.2.1);have HS2_:=(hb.cell (zzn _ _ (hHeld.2.2.1))).trans (hHeld.2.2.1);have HS3_:=(hb.cell (zzn _ _ (hHeld.2.2.2.1))).trans (hHeld.2.2.2.1);have HS4_:=(hb.cell (zzn _ _ (hHeld.2.2.2.2.1))).trans (hHeld.2.2.2.2.1);have HS5_:=(hb.cell (zzn _ _ (hHeld.2.2.2.2.2.1))).trans (hHeld.2.2.2.2.2.1);have HS6_:=(hb.cell (zzn _ _ (hHeld.2.2.2.2.2.2.1))).trans (hHeld.2.2.2.2.2.2.1);have HS7_:=(hb.cell (zzn _ _ (hHeld.2.2.2.2.2.2.2.1))).trans (hHeld.2.2.2.2.2.2.2.1);have HS8_:=(hb.cell (zzn _ _ (hHeld.2.2.2.2.2.2.2.2.1))).trans (hHeld.2.2.2.2.2.2.2.2.1);have HS9_:=(hb.cell (zzn _ _ (hHeld.2.2.2.2.2.2.2.2.2.1))).trans (hHeld.2.2.2.2.2.2.2.2.2.1);have HS10_:=(hb.cell (zzn _ _ (hHeld.2.2.2.2.2.2.2.2.2.2.1))).trans (hHeld.2.2.2.2.2.2.2.2.2.2.1);have HS11_:=(hb.cell (zzn _ _ (hHeld.2.2.2.2.2.2.2.2.2.2.2))).trans (hHeld.2.2.2.2.2.2.2.2.2.2.2);refine ⟨_,rfl,?_⟩;have n0_:=zzm (Kd.N_elder' (zzN HO_5.out) (Kd.N_base ho0) hb);have n1_:=zzm (Kd.V_elder' (zzV HL428_5.out) (Kd.N_base ho0) hb);have n2_:=zzm (Kd.V_elder' (zzV HL429_3.out) (Kd.N_base ho0) hb);have n3_:=zzm (Kd.V_elder' (zzV HL429_5.out) (Kd.N_base ho0) hb);have n4_:=zzm (Kd.V_elder' (zzV HL430_5.out) (Kd.N_base ho0) hb);have n5_:=zzm (Kd.V_elder' (zzV HL431_5.out) (Kd.N_base ho0) hb);have n6_:=zzm (Kd.N_lower (Kd.N_mono (ok':=fun k_=>some k_≠(.slice (some ad428) t422.length co11:Value).ownBlock∧k_≠gb441) ho0 (fun k_ hk_=>⟨(Kd.fresh' (Kd.N_lt (zzN HO_5.out)) k_ hk_),(Kd.freshB (g:=gb441) (o:=.cells #[.bool false,.bool false,.int .i64 0,.int .i64 0,.int .i64 0,.slice none 0 0] 27 (0,0)) (zzE BK441.out) k_ hk_)⟩)) (zzo zzh2));have n7_:=zzm (Kd.C_below (zzC HR428_5.out) hb);have n8_:=zzm (Kd.C_below (zzC HR429_3.out) hb);have n9_:=zzm (Kd.C_below (zzC HR429_5.out) hb);have n10_:=zzm (Kd.C_below (zzC HR430_5.out) hb);have n11_:=zzm (Kd.C_below (zzC HR431_5.out) hb);have n12_:=zzm (zzh (g:=gb441) (o:=.cells #[.bool false,.bool false,.int .i64 0,.int .i64 0,.int .i64 0,.slice none 0 0] 27 (0,0)) (zzE BK441.out) hb);have n13_:=zzm (zzp zzh2 hb);clear HO_5 HL428_5 HL429_3 HL429_5 HL430_5 HL431_5 HR428_5 HR429_3 HR429_5 HR430_5 HR431_5 BK441 HB;have HO_5:=n0_;have HL428_5:=n1_;have HL429_3:=n2_;have HL429_5:=n3_;have HL430_5:=n4_;have HL431_5:=n5_;have HO439:=n6_;have HR428_5:=n7_;have HR429_3:=n8_;have HR429_5:=n9_;have HR430_5:=n10_;have HR431_5:=n11_;have BK441:=n12_;have HB:=n13_;clear n0_ n1_ n2_ n3_ n4_ n5_ n6_ n7_ n8_ n9_ n10_ n11_ n12_ n13_;(try clear hb);(try clear hb2);(try clear hk);(try clear hi);(try clear ho0);refine hK.out _ _ ⟨HS0_,HS1_,HS2_,HS3_,HS4_,HS5_,HS6_,HS7_,HS8_,HS9_,HS10_,HS11_⟩ (fun hHeld=>?_);clear hK K;refine norm_ (a':=?_) ?_ ?_;rotate_left
                 ·
                  show Act.put _ (some 68) _ = _;simp only [Act.put,zzq,zzr,zzs,i64_w,i32_w];rfl
                 refine pure_ (i:=15) (N:=some 53) (v:=?_) (a':=?_) (zzB 21 327679) rfl rfl (zzA2 HT_.out) (fun _ _ _ h=>h) (Or.inl ⟨by rfl,?_⟩) ?_ ?_;rotate_left
                 ·
                  intro w';go_simp;with_reducible rfl
                 rotate_left
                 ·
                  simp only [Act.put,zzq,zzr,zzs,i64_w,i32_w];rfl
                 refine pure_ (i:=16) (N:=some 69) (v:=?_) (a':=?_) (zzB 21 393215) rfl rfl (zzA2 HT_.out) (fun _ _ _ h=>h) (Or.inl ⟨by rfl,?_⟩) ?_ ?_;rotate_left
                 ·
                  intro w';go_simp;with_reducible rfl
                 rotate_left
                 ·
                  simp only [Act.put,zzq,zzr,zzs,i64_w,i32_w];rfl
                 refine pure_ (i:=17) (N:=some 70) (v:=?_) (a':=?_) (zzB 21 524287) rfl rfl (zzA2 HT_.out) (fun _ _ _ h=>h) (Or.inl ⟨by rfl,?_⟩) ?_ ?_;rotate_left
                 ·
                  intro w';go_simp;with_reducible rfl
                 rotate_left
                 ·
                  simp only [Act.put,zzq,zzr,zzs,i64_w,i32_w];rfl
                 exact norm_ (by simp only [putAll,Act.put,zzq,zzr,zzs]) (hCont (v438,gb441) _ ⟨hHeld,(zzV (Kd.V_mono HL428_5.out (fun _ hk=>⟨hk.2,⟨hk.1.1.2,hk.1.2⟩⟩))),(zzV (Kd.V_mono HL429_3.out (fun _ hk=>⟨hk.2,⟨hk.1.1.2,hk.1.2⟩⟩))),(zzV (Kd.V_mono HL429_5.out (fun _ hk=>⟨hk.2,⟨hk.1.1.2,hk.1.2⟩⟩))),(zzV (Kd.V_mono HL430_5.out (fun _ hk=>⟨hk.2,⟨hk.1.1.2,hk.1.2⟩⟩))),(zzV (Kd.V_mono HL431_5.out (fun _ hk=>⟨hk.2,⟨hk.1.1.2,hk.1.2⟩⟩))),(zzN HO439.out),(zzN (Kd.N_mono HO_5.out (fun _ hk=>⟨hk.2,hk.1.2⟩))),(zzE BK441.out),GW441.out,GE441.out,zzh2⟩)
               rintro ⟨v438,gb441⟩ w28 ⟨hS_,h0_,h1_,h2_,h3_,h4_,h5_,h6_,h7_,h8_,h9_,h10_⟩;have n0_:Aside0 (Kd.V k34 34 w28 w.heap.size (fun k_=>some k_≠(v438:Value).ownBlock∧some k_≠(.slice (some ad428) t422.length co11:Value).ownBlock∧k_≠gb441) (.slice (some ad429) ((rd_T27 t422 x8_3).f5).length c428_5) ((rd_T27 t422 x8_3).f5)):=⟨h0_⟩;have n1_:Aside0 (Kd.V (Kd.int .i64) 3 w28 w.heap.size (fun k_=>some k_≠(v438:Value).ownBlock∧some k_≠(.slice (some ad428) t422.length co11:Value).ownBlock∧k_≠gb441) (.slice A429_3 ((rd_T34 ((rd_T27 t422 x8_3).f5) 0).f3).length c429_3) ((rd_T34 ((rd_T27 t422 x8_3).f5) 0).f3)):=⟨h1_⟩;have n2_:Aside0 (Kd.V (Kd.int .i64) 3 w28 w.heap.size (fun k_=>some k_≠(v438:Value).ownBlock∧some k_≠(.slice (some ad428) t422.length co11:Value).ownBlock∧k_≠gb441) (.slice A429_5 ((rd_T34 ((rd_T27 t422 x8_3).f5) 0).f5).length c429_5) ((rd_T34 ((rd_T27 t422 x8_3).f5) 0).f5)):=⟨h2_⟩;have n3_:Aside0 (Kd.V k34 34 w28 w.heap.size (fun k_=>some k_≠(v438:Value).ownBlock∧some k_≠(.slice (some ad428) t422.length co11:Value).ownBlock∧k_≠gb441) (.slice A430_5 ((rd_T27 t422 x8_3).f5).length c430_5) ((rd_T27 t422 x8_3).f5)):=⟨h3_⟩;have n4_:Aside0 (Kd.V k34 34 w28 w.heap.size (fun k_=>some k_≠(v438:Value).ownBlock∧some k_≠(.slice (some ad428) t422.length co11:Value).ownBlock∧k_≠gb441) (.slice A430_5 ((rd_T27 t422 x8_3).f5).length c430_5) ((rd_T27 t422 x8_3).f5)):=⟨h4_⟩;have n5_:Aside0 (Kd.N k34 34 w28 w.heap.size (fun k_=>some k_≠(.slice (some ad428) t422.length co11:Value).ownBlock∧k_≠gb441) v438 t437):=⟨h5_⟩;have n6_:Aside0 (Kd.N k27 27 w28 w.heap.size (fun k_=>some k_≠(v438:Value).ownBlock∧k_≠gb441) (.slice (some ad428) t422.length co11) t422):=⟨h6_⟩;have n7_:Aside0 (w28.heap[gb441]? = some (.cells #[.bool false,.bool false,.int .i64 0,.int .i64 0,.int .i64 0,.slice none 0 0] 27 (0,0))):=⟨h7_⟩;have n8_:Aside0 (w.heap.size≤gb441):=⟨h8_⟩;have n9_:Aside0 (w.heap.size≤gb441):=⟨h9_⟩;have n10_:Aside0 (Below w.heap.size w w28):=⟨h10_⟩;clear HO_5 HL428_5 HL429_3 HL429_5 HR428_5 HR429_3 HR429_5 HB;clear h0_ h1_ h2_ h3_ h4_ h5_ h6_ h7_ h8_ h9_ h10_;have HL428_5:=n0_;have HL429_3:=n1_;have HL429_5:=n2_;have HL430_5:=n3_;have HL431_5:=n4_;have HO439:=n5_;have HO_5:=n6_;have BK441:=n7_;have GW441:=n8_;have GE441:=n9_;have HB:=n10_;clear n0_ n1_ n2_ n3_ n4_ n5_ n6_ n7_ n8_ n9_ n10_;have hHeld:w28.cell? (ad428.add ((x8_3).toNat * 6))=some (.bool ((rd_T27 t422 x8_3).f0))∧w28.cell? ⟨(ad428.add ((x8_3).toNat * 6)).block,(ad428.add ((x8_3).toNat * 6)).off+1,none⟩=some (.bool ((rd_T27 t422 x8_3).f1))∧w28.cell? ⟨(ad428.add ((x8_3).toNat * 6)).block,(ad428.add ((x8_3).toNat * 6)).off+2,none⟩=some (.int .i64 ((rd_T27 t422 x8_3).f2))∧w28.cell? ⟨(ad428.add ((x8_3).toNat * 6)).block,(ad428.add ((x8_3).toNat * 6)).off+3,none⟩=some (.int .i64 ((rd_T27 t422 x8_3).f3))∧w28.cell? ⟨(ad428.add ((x8_3).toNat * 6)).block,(ad428.add ((x8_3).toNat * 6)).off+4,none⟩=some (.int .i64 ((rd_T27 t422 x8_3).f4))∧w28.cell? ⟨(ad428.add ((x8_3).toNat * 6)).block,(ad428.add ((x8_3).toNat * 6)).off+5,none⟩=some (.slice A430_5 ((rd_T27 t422 x8_3).f5).length c430_5)∧w28.cell? (ad428.add ((x8_3).toNat * 6))=some (.bool ((rd_T27 t422 x8_3).f0))∧w28.cell? ⟨(ad428.add ((x8_3).toNat * 6)).block,(ad428.add ((x8_3).toNat * 6)).off+1,none⟩=some (.bool ((rd_T27 t422 x8_3).f1))∧w28.cell? ⟨(ad428.add ((x8_3).toNat * 6)).block,(ad428.add ((x8_3).toNat * 6)).off+2,none⟩=some (.int .i64 ((rd_T27 t422 x8_3).f2))∧w28.cell? ⟨(ad428.add ((x8_3).toNat * 6)).block,(ad428.add ((x8_3).toNat * 6)).off+3,none⟩=some (.int .i64 ((rd_T27 t422 x8_3).f3))∧w28.cell? ⟨(ad428.add ((x8_3).toNat * 6)).block,(ad428.add ((x8_3).toNat * 6)).off+4,none⟩=some (.int .i64 ((rd_T27 t422 x8_3).f4))∧w28.cell? ⟨(ad428.add ((x8_3).toNat * 6)).block,(ad428.add ((x8_3).toNat * 6)).off+5,none⟩=some (.slice A430_5 ((rd_T27 t422 x8_3).f5).length c430_5):=hS_;obtain ⟨Ao34,co34,eo34⟩:=Kd.N_slice HO439.out;(first|subst eo34|(injection eo34 with f1_ f2_ f3_;have f4_:=f1_.symm;have f5_:=f3_.symm;clear f1_ f2_ f3_;subst f4_;subst f5_));refine norm_ (a':=?_) ?_ ?_;rotate_left
               ·
                simp only [putAll,Act.put,zzq,zzr,zzs];rfl
               refine one_ (i:=19) (N:=none) (zzB 21 1048575) rfl rfl (one_of HT_.out (by kernel_rfl)) (by decide) (fun K hK=>?_);have hs29:w28.cell? ⟨gb441,0,none⟩=some (.bool false):=(zzk BK441.out 0).trans rfl;have hfs29:=zzl BK441.out 0;have hs30:w28.cell? ⟨gb441,1,none⟩=some (.bool false):=(zzk BK441.out 1).trans rfl;have hfs30:=zzl BK441.out 1;have hs31:w28.cell? ⟨gb441,2,none⟩=some (.int .i64 0):=(zzk BK441.out 2).trans rfl;have hfs31:=zzl BK441.out 2;have hs32:w28.cell? ⟨gb441,3,none⟩=some (.int .i64 0):=(zzk BK441.out 3).trans rfl;have hfs32:=zzl BK441.out 3;have hs33:w28.cell? ⟨gb441,4,none⟩=some (.int .i64 0):=(zzk BK441.out 4).trans rfl;have hfs33:=zzl BK441.out 4;have hs35:w28.cell? ⟨gb441,5,none⟩=some (.slice none 0 0):=(zzk BK441.out 5).trans rfl;have hfs35:=zzl BK441.out 5;refine skip_ (w1:=?_) (by rfl) rfl ?_ ?_;rotate_left
               ·
                go_simp;rfl
               have FB0_:=Kd.own_blk (Kd.N_away HO_5.out (fun _ hk=>hk.2));refine hK.out _ _ ⟨((cell_far (p:=⟨gb441,_,none⟩) (by first|exact FB0_|exact zzF3 FB0_) _).trans (((cell_far (p:=⟨gb441,_,none⟩) (by first|exact FB0_|exact zzF3 FB0_) _).trans (((cell_far (p:=⟨gb441,_,none⟩) (by first|exact FB0_|exact zzF3 FB0_) _).trans (((cell_far (p:=⟨gb441,_,none⟩) (by first|exact FB0_|exact zzF3 FB0_) _).trans (((cell_far (p:=⟨gb441,_,none⟩) (by first|exact FB0_|exact zzF3 FB0_) _).trans (((cell_far (p:=⟨gb441,_,none⟩) (by first|exact FB0_|exact zzF3 FB0_) _).trans (hHeld.1)))))))))))),((cell_far (p:=⟨gb441,_,none⟩) (by first|exact FB0_|exact zzF3 FB0_) _).trans (((cell_far (p:=⟨gb441,_,none⟩) (by first|exact FB0_|exact zzF3 FB0_) _).trans (((cell_far (p:=⟨gb441,_,none⟩) (by first|exact FB0_|exact zzF3 FB0_) _).trans (((cell_far (p:=⟨gb441,_,none⟩) (by first|exact FB0_|exact zzF3 FB0_) _).trans (((cell_far (p:=⟨gb441,_,none⟩) (by first|exact FB0_|exact zzF3 FB0_) _).trans (((cell_far (p:=⟨gb441,_,none⟩) (by first|exact FB0_|exact zzF3 FB0_) _).trans (hHeld.2.1)))))))))))),((cell_far (p:=⟨gb441,_,none⟩) (by first|exact FB0_|exact zzF3 FB0_) _).trans (((cell_far (p:=⟨gb441,_,none⟩) (by first|exact FB0_|exact zzF3 FB0_) _).trans (((cell_far (p:=⟨gb441,_,none⟩) (by first|exact FB0_|exact zzF3 FB0_) _).trans (((cell_far (p:=⟨gb441,_,none⟩) (by first|exact FB0_|exact zzF3 FB0_) _).trans (((cell_far (p:=⟨gb441,_,none⟩) (by first|exact FB0_|exact zzF3 FB0_) _).trans (((cell_far (p:=⟨gb441,_,none⟩) (by first|exact FB0_|exact zzF3 FB0_) _).trans (hHeld.2.2.1)))))))))))),((cell_far (p:=⟨gb441,_,none⟩) (by first|exact FB0_|exact zzF3 FB0_) _).trans (((cell_far (p:=⟨gb441,_,none⟩) (by first|exact FB0_|exact zzF3 FB0_) _).trans (((cell_far (p:=⟨gb441,_,none⟩) (by first|exact FB0_|exact zzF3 FB0_) _).trans (((cell_far (p:=⟨gb441,_,none⟩) (by first|exact FB0_|exact zzF3 FB0_) _).trans (((cell_far (p:=⟨gb441,_,none⟩) (by first|exact FB0_|exact zzF3 FB0_) _).trans (((cell_far (p:=⟨gb441,_,none⟩) (by first|exact FB0_|exact zzF3 FB0_) _).trans (hHeld.2.2.2.1)))))))))))),((cell_far (p:=⟨gb441,_,none⟩) (by first|exact FB0_|exact zzF3 FB0_) _).trans (((cell_far (p:=⟨gb441,_,none⟩) (by first|exact FB0_|exact zzF3 FB0_) _).trans (((cell_far (p:=⟨gb441,_,none⟩) (by first|exact FB0_|exact zzF3 FB0_) _).trans (((cell_far (p:=⟨gb441,_,none⟩) (by first|exact FB0_|exact zzF3 FB0_) _).trans (((cell_far (p:=⟨gb441,_,none⟩) (by first|exact FB0_|exact zzF3 FB0_) _).trans (((cell_far (p:=⟨gb441,_,none⟩) (by first|exact FB0_|exact zzF3 FB0_) _).trans (hHeld.2.2.2.2.1)))))))))))),((cell_far (p:=⟨gb441,_,none⟩) (by first|exact FB0_|exact zzF3 FB0_) _).trans (((cell_far (p:=⟨gb441,_,none⟩) (by first|exact FB0_|exact zzF3 FB0_) _).trans (((cell_far (p:=⟨gb441,_,none⟩) (by first|exact FB0_|exact zzF3 FB0_) _).trans (((cell_far (p:=⟨gb441,_,none⟩) (by first|exact FB0_|exact zzF3 FB0_) _).trans (((cell_far (p:=⟨gb441,_,none⟩) (by first|exact FB0_|exact zzF3 FB0_) _).trans (((cell_far (p:=⟨gb441,_,none⟩) (by first|exact FB0_|exact zzF3 FB0_) _).trans (hHeld.2.2.2.2.2.1)))))))))))),((cell_far (p:=⟨gb441,_,none⟩) (by first|exact FB0_|exact zzF3 FB0_) _).trans (((cell_far (p:=⟨gb441,_,none⟩) (by first|exact FB0_|exact zzF3 FB0_) _).trans (((cell_far (p:=⟨gb441,_,none⟩) (by first|exact FB0_|exact zzF3 FB0_) _).trans (((cell_far (p:=⟨gb441,_,none⟩) (by first|exact FB0_|exact zzF3 FB0_) _).trans (((cell_far (p:=⟨gb441,_,none⟩) (by first|exact FB0_|exact zzF3 FB0_) _).trans (((cell_far (p:=⟨gb441,_,none⟩) (by first|exact FB0_|exact zzF3 FB0_) _).trans (hHeld.2.2.2.2.2.2.1)))))))))))),((cell_far (p:=⟨gb441,_,none⟩) (by first|exact FB0_|exact zzF3 FB0_) _).trans (((cell_far (p:=⟨gb441,_,none⟩) (by first|exact FB0_|exact zzF3 FB0_) _).trans (((cell_far (p:=⟨gb441,_,none⟩) (by first|exact FB0_|exact zzF3 FB0_) _).trans (((cell_far (p:=⟨gb441,_,none⟩) (by first|exact FB0_|exact zzF3 FB0_) _).trans (((cell_far (p:=⟨gb441,_,none⟩) (by first|exact FB0_|exact zzF3 FB0_) _).trans (((cell_far (p:=⟨gb441,_,none⟩) (by first|exact FB0_|exact zzF3 FB0_) _).trans (hHeld.2.2.2.2.2.2.2.1)))))))))))),((cell_far (p:=⟨gb441,_,none⟩) (by first|exact FB0_|exact zzF3 FB0_) _).trans (((cell_far (p:=⟨gb441,_,none⟩) (by first|exact FB0_|exact zzF3 FB0_) _).trans (((cell_far (p:=⟨gb441,_,none⟩) (by first|exact FB0_|exact zzF3 FB0_) _).trans (((cell_far (p:=⟨gb441,_,none⟩) (by first|exact FB0_|exact zzF3 FB0_) _).trans (((cell_far (p:=⟨gb441,_,none⟩) (by first|exact FB0_|exact zzF3 FB0_) _).trans (((cell_far (p:=⟨gb441,_,none⟩) (by first|exact FB0_|exact zzF3 FB0_) _).trans (hHeld.2.2.2.2.2.2.2.2.1)))))))))))),((cell_far (p:=⟨gb441,_,none⟩) (by first|exact FB0_|exact zzF3 FB0_) _).trans (((cell_far (p:=⟨gb441,_,none⟩) (by first|exact FB0_|exact zzF3 FB0_) _).trans (((cell_far (p:=⟨gb441,_,none⟩) (by first|exact FB0_|exact zzF3 FB0_) _).trans (((cell_far (p:=⟨gb441,_,none⟩) (by first|exact FB0_|exact zzF3 FB0_) _).trans (((cell_far (p:=⟨gb441,_,none⟩) (by first|exact FB0_|exact zzF3 FB0_) _).trans (((cell_far (p:=⟨gb441,_,none⟩) (by first|exact FB0_|exact zzF3 FB0_) _).trans (hHeld.2.2.2.2.2.2.2.2.2.1)))))))))))),((cell_far (p:=⟨gb441,_,none⟩) (by first|exact FB0_|exact zzF3 FB0_) _).trans (((cell_far (p:=⟨gb441,_,none⟩) (by first|exact FB0_|exact zzF3 FB0_) _).trans (((cell_far (p:=⟨gb441,_,none⟩) (by first|exact FB0_|exact zzF3 FB0_) _).trans (((cell_far (p:=⟨gb441,_,none⟩) (by first|exact FB0_|exact zzF3 FB0_) _).trans (((cell_far (p:=⟨gb441,_,none⟩) (by first|exact FB0_|exact zzF3 FB0_) _).trans (((cell_far (p:=⟨gb441,_,none⟩) (by first|exact FB0_|exact zzF3 FB0_) _).trans (hHeld.2.2.2.2.2.2.2.2.2.2.1)))))))))))),((cell_far (p:=⟨gb441,_,none⟩) (by first|exact FB0_|exact zzF3 FB0_) _).trans (((cell_far (p:=⟨gb441,_,none⟩) (by first|exact FB0_|exact zzF3 FB0_) _).trans (((cell_far (p:=⟨gb441,_,none⟩) (by first|exact FB0_|exact zzF3 FB0_) _).trans (((cell_far (p:=⟨gb441,_,none⟩) (by first|exact FB0_|exact zzF3 FB0_) _).trans (((cell_far (p:=⟨gb441,_,none⟩) (by first|exact FB0_|exact zzF3 FB0_) _).trans (((cell_far (p:=⟨gb441,_,none⟩) (by first|exact FB0_|exact zzF3 FB0_) _).trans (hHeld.2.2.2.2.2.2.2.2.2.2.2))))))))))))⟩ (fun hHeld=>?_);clear hK K;refine pure_ (i:=20) (N:=some 10) (v:=?_) (a':=?_) (zzB 21 2097151) rfl rfl (zzA2 HT_.out) (fun _ _ _ h=>h) (Or.inl ⟨by rfl,?_⟩) ?_ ?_;rotate_left
               ·
                intro w';go_simp;with_reducible rfl
               rotate_left
               ·
                simp only [Act.put,zzq,zzr,zzs,i64_w,i32_w];rfl
               refine done_ (done_of HT_.out (by kernel_rfl)) ?_;obtain ⟨hcz36_0,hcz36_1,hcz36_2,hcz36_3,hcz36_4,hcz36_5,hfz36_0,hfz36_1,hfz36_2,hfz36_3,hfz36_4,hfz36_5⟩:=zzc6 BK441.out;try go_wp2_with (first|((with_reducible refine gate_callee (f:=35) rfl ?_);refine goesL_ (some 74) rfl rfl Try.func35 (by kernel_rfl) rfl #[.slice (some ad428) t422.length co11,.agg #[.bool t432,.bool t433,.int .i64 t434,.int .i64 t435,.int .i64 t436,.slice Ao34 t437.length co34]] rfl zzM2 ?_;(with_reducible refine (impl_LogAppend.calls k3 _ _ t422 t432 t433 t434 t435 t436 _ _ t437 t442 true _ ?side1 ?side2 ?side3 ?side4 A21.out).mono ?_);(case side1=>refine (Kd.N_reads' (e:=27) (base:=w.heap.size) (ok:=fun k_=>(some k_≠(.slice Ao34 t437.length co34:Value).ownBlock∧k_≠gb441)) (n:=t422.length) (c:=co11) ?_).2.2;exact (zzN ((Kd.N_mono (Kd.N_far (p:=⟨gb441,5,none⟩) (Kd.N_far (p:=⟨gb441,4,none⟩) (Kd.N_far (p:=⟨gb441,3,none⟩) (Kd.N_far (p:=⟨gb441,2,none⟩) (Kd.N_far (p:=⟨gb441,1,none⟩) (Kd.N_far (p:=⟨gb441,0,none⟩) (Kd.N_mono HO_5.out (fun k_ hk=>(⟨hk,hk.2⟩:_∧k_≠gb441))) (fun _ hk=>hk.2) (.bool t432)) (fun _ hk=>hk.2) (.bool t433)) (fun _ hk=>hk.2) (.int .i64 t434)) (fun _ hk=>hk.2) (.int .i64 t435)) (fun _ hk=>hk.2) (.int .i64 t436)) (fun _ hk=>hk.2) (.slice Ao34 t437.length co34)) (fun _ h_=>h_.1)))));(case side2=>exact (Kd.N_reads' HO_5.out).2.1);(case side3=>refine (Kd.N_reads' (e:=34) (base:=w.heap.size) (ok:=fun k_=>(some k_≠(.slice (some ad428) t422.length co11:Value).ownBlock∧k_≠gb441)) (n:=t437.length) (c:=co34) ?_).2.2;exact (zzN ((Kd.N_mono (Kd.N_far (p:=⟨gb441,5,none⟩) (Kd.N_far (p:=⟨gb441,4,none⟩) (Kd.N_far (p:=⟨gb441,3,none⟩) (Kd.N_far (p:=⟨gb441,2,none⟩) (Kd.N_far (p:=⟨gb441,1,none⟩) (Kd.N_far (p:=⟨gb441,0,none⟩) (Kd.N_mono HO439.out (fun k_ hk=>(⟨hk,hk.2⟩:_∧k_≠gb441))) (fun _ hk=>hk.2) (.bool t432)) (fun _ hk=>hk.2) (.bool t433)) (fun _ hk=>hk.2) (.int .i64 t434)) (fun _ hk=>hk.2) (.int .i64 t435)) (fun _ hk=>hk.2) (.int .i64 t436)) (fun _ hk=>hk.2) (.slice Ao34 t437.length co34)) (fun _ h_=>h_.1)))));(case side4=>exact (Kd.N_reads' HO439.out).2.1);rintro e w37 ⟨v443,rfl,ho0,hb⟩;refine ⟨_,rfl,?_⟩;have n0_:=zzm (Kd.N_elder' (zzN ((Kd.N_mono (Kd.N_far (p:=⟨gb441,5,none⟩) (Kd.N_far (p:=⟨gb441,4,none⟩) (Kd.N_far (p:=⟨gb441,3,none⟩) (Kd.N_far (p:=⟨gb441,2,none⟩) (Kd.N_far (p:=⟨gb441,1,none⟩) (Kd.N_far (p:=⟨gb441,0,none⟩) (Kd.N_mono HO_5.out (fun k_ hk=>(⟨hk,hk.2⟩:_∧k_≠gb441))) (fun _ hk=>hk.2) (.bool t432)) (fun _ hk=>hk.2) (.bool t433)) (fun _ hk=>hk.2) (.int .i64 t434)) (fun _ hk=>hk.2) (.int .i64 t435)) (fun _ hk=>hk.2) (.int .i64 t436)) (fun _ hk=>hk.2) (.slice Ao34 t437.length co34)) (fun _ h_=>h_.1)))) (Kd.N_base ho0) hb);have n1_:=zzm (Kd.V_elder' (zzV ((Kd.V_mono (Kd.V_far (p:=⟨gb441,5,none⟩) (Kd.V_far (p:=⟨gb441,4,none⟩) (Kd.V_far (p:=⟨gb441,3,none⟩) (Kd.V_far (p:=⟨gb441,2,none⟩) (Kd.V_far (p:=⟨gb441,1,none⟩) (Kd.V_far (p:=⟨gb441,0,none⟩) (Kd.V_mono HL428_5.out (fun k_ hk=>(⟨hk,hk.2.2⟩:_∧k_≠gb441))) (fun _ hk=>hk.2) (.bool t432)) (fun _ hk=>hk.2) (.bool t433)) (fun _ hk=>hk.2) (.int .i64 t434)) (fun _ hk=>hk.2) (.int .i64 t435)) (fun _ hk=>hk.2) (.int .i64 t436)) (fun _ hk=>hk.2) (.slice Ao34 t437.length co34)) (fun _ h_=>h_.1)))) (Kd.N_base ho0) hb);have n2_:=zzm (Kd.V_elder' (zzV ((Kd.V_mono (Kd.V_far (p:=⟨gb441,5,none⟩) (Kd.V_far (p:=⟨gb441,4,none⟩) (Kd.V_far (p:=⟨gb441,3,none⟩) (Kd.V_far (p:=⟨gb441,2,none⟩) (Kd.V_far (p:=⟨gb441,1,none⟩) (Kd.V_far (p:=⟨gb441,0,none⟩) (Kd.V_mono HL429_3.out (fun k_ hk=>(⟨hk,hk.2.2⟩:_∧k_≠gb441))) (fun _ hk=>hk.2) (.bool t432)) (fun _ hk=>hk.2) (.bool t433)) (fun _ hk=>hk.2) (.int .i64 t434)) (fun _ hk=>hk.2) (.int .i64 t435)) (fun _ hk=>hk.2) (.int .i64 t436)) (fun _ hk=>hk.2) (.slice Ao34 t437.length co34)) (fun _ h_=>h_.1)))) (Kd.N_base ho0) hb);have n3_:=zzm (Kd.V_elder' (zzV ((Kd.V_mono (Kd.V_far (p:=⟨gb441,5,none⟩) (Kd.V_far (p:=⟨gb441,4,none⟩) (Kd.V_far (p:=⟨gb441,3,none⟩) (Kd.V_far (p:=⟨gb441,2,none⟩) (Kd.V_far (p:=⟨gb441,1,none⟩) (Kd.V_far (p:=⟨gb441,0,none⟩) (Kd.V_mono HL429_5.out (fun k_ hk=>(⟨hk,hk.2.2⟩:_∧k_≠gb441))) (fun _ hk=>hk.2) (.bool t432)) (fun _ hk=>hk.2) (.bool t433)) (fun _ hk=>hk.2) (.int .i64 t434)) (fun _ hk=>hk.2) (.int .i64 t435)) (fun _ hk=>hk.2) (.int .i64 t436)) (fun _ hk=>hk.2) (.slice Ao34 t437.length co34)) (fun _ h_=>h_.1)))) (Kd.N_base ho0) hb);have n4_:=zzm (Kd.V_elder' (zzV ((Kd.V_mono (Kd.V_far (p:=⟨gb441,5,none⟩) (Kd.V_far (p:=⟨gb441,4,none⟩) (Kd.V_far (p:=⟨gb441,3,none⟩) (Kd.V_far (p:=⟨gb441,2,none⟩) (Kd.V_far (p:=⟨gb441,1,none⟩) (Kd.V_far (p:=⟨gb441,0,none⟩) (Kd.V_mono HL430_5.out (fun k_ hk=>(⟨hk,hk.2.2⟩:_∧k_≠gb441))) (fun _ hk=>hk.2) (.bool t432)) (fun _ hk=>hk.2) (.bool t433)) (fun _ hk=>hk.2) (.int .i64 t434)) (fun _ hk=>hk.2) (.int .i64 t435)) (fun _ hk=>hk.2) (.int .i64 t436)) (fun _ hk=>hk.2) (.slice Ao34 t437.length co34)) (fun _ h_=>h_.1)))) (Kd.N_base ho0) hb);have n5_:=zzm (Kd.V_elder' (zzV ((Kd.V_mono (Kd.V_far (p:=⟨gb441,5,none⟩) (Kd.V_far (p:=⟨gb441,4,none⟩) (Kd.V_far (p:=⟨gb441,3,none⟩) (Kd.V_far (p:=⟨gb441,2,none⟩) (Kd.V_far (p:=⟨gb441,1,none⟩) (Kd.V_far (p:=⟨gb441,0,none⟩) (Kd.V_mono HL431_5.out (fun k_ hk=>(⟨hk,hk.2.2⟩:_∧k_≠gb441))) (fun _ hk=>hk.2) (.bool t432)) (fun _ hk=>hk.2) (.bool t433)) (fun _ hk=>hk.2) (.int .i64 t434)) (fun _ hk=>hk.2) (.int .i64 t435)) (fun _ hk=>hk.2) (.int .i64 t436)) (fun _ hk=>hk.2) (.slice Ao34 t437.length co34)) (fun _ h_=>h_.1)))) (Kd.N_base ho0) hb);have n6_:=zzm (Kd.N_elder' (zzN ((Kd.N_mono (Kd.N_far (p:=⟨gb441,5,none⟩) (Kd.N_far (p:=⟨gb441,4,none⟩) (Kd.N_far (p:=⟨gb441,3,none⟩) (Kd.N_far (p:=⟨gb441,2,none⟩) (Kd.N_far (p:=⟨gb441,1,none⟩) (Kd.N_far (p:=⟨gb441,0,none⟩) (Kd.N_mono HO439.out (fun k_ hk=>(⟨hk,hk.2⟩:_∧k_≠gb441))) (fun _ hk=>hk.2) (.bool t432)) (fun _ hk=>hk.2) (.bool t433)) (fun _ hk=>hk.2) (.int .i64 t434)) (fun _ hk=>hk.2) (.int .i64 t435)) (fun _ hk=>hk.2) (.int .i64 t436)) (fun _ hk=>hk.2) (.slice Ao34 t437.length co34)) (fun _ h_=>h_.1)))) (Kd.N_base ho0) hb);have n7_:=zzm (Kd.N_lower (Kd.N_mono (ok':=fun k_=>some k_≠(.slice (some ad428) t422.length co11:Value).ownBlock∧some k_≠(.slice Ao34 t437.length co34:Value).ownBlock∧k_≠gb441) ho0 (fun k_ hk_=>⟨(Kd.fresh' (Kd.N_lt (zzN ((Kd.N_mono (Kd.N_far (p:=⟨gb441,5,none⟩) (Kd.N_far (p:=⟨gb441,4,none⟩) (Kd.N_far (p:=⟨gb441,3,none⟩) (Kd.N_far (p:=⟨gb441,2,none⟩) (Kd.N_far (p:=⟨gb441,1,none⟩) (Kd.N_far (p:=⟨gb441,0,none⟩) (Kd.N_mono HO_5.out (fun k_ hk=>(⟨hk,hk.2⟩:_∧k_≠gb441))) (fun _ hk=>hk.2) (.bool t432)) (fun _ hk=>hk.2) (.bool t433)) (fun _ hk=>hk.2) (.int .i64 t434)) (fun _ hk=>hk.2) (.int .i64 t435)) (fun _ hk=>hk.2) (.int .i64 t436)) (fun _ hk=>hk.2) (.slice Ao34 t437.length co34)) (fun _ h_=>h_.1))))) k_ hk_),(Kd.fresh' (Kd.N_lt (zzN ((Kd.N_mono (Kd.N_far (p:=⟨gb441,5,none⟩) (Kd.N_far (p:=⟨gb441,4,none⟩) (Kd.N_far (p:=⟨gb441,3,none⟩) (Kd.N_far (p:=⟨gb441,2,none⟩) (Kd.N_far (p:=⟨gb441,1,none⟩) (Kd.N_far (p:=⟨gb441,0,none⟩) (Kd.N_mono HO439.out (fun k_ hk=>(⟨hk,hk.2⟩:_∧k_≠gb441))) (fun _ hk=>hk.2) (.bool t432)) (fun _ hk=>hk.2) (.bool t433)) (fun _ hk=>hk.2) (.int .i64 t434)) (fun _ hk=>hk.2) (.int .i64 t435)) (fun _ hk=>hk.2) (.int .i64 t436)) (fun _ hk=>hk.2) (.slice Ao34 t437.length co34)) (fun _ h_=>h_.1))))) k_ hk_),(Kd.freshB (g:=gb441) (o:=.cells #[.bool t432,.bool t433,.int .i64 t434,.int .i64 t435,.int .i64 t436,.slice Ao34 t437.length co34] 27 (0,0)) (by (with_reducible repeat (first|apply zzf|apply zzg|apply zze));refine zzi (cs:=#[.bool t432,.bool t433,.int .i64 t434,.int .i64 t435,.int .i64 t436,.slice none 0 0]) ?_ 5 _ rfl;(with_reducible repeat (first|apply zzf|apply zzg|apply zze));refine zzi (cs:=#[.bool t432,.bool t433,.int .i64 t434,.int .i64 t435,.int .i64 0,.slice none 0 0]) ?_ 4 _ rfl;(with_reducible repeat (first|apply zzf|apply zzg|apply zze));refine zzi (cs:=#[.bool t432,.bool t433,.int .i64 t434,.int .i64 0,.int .i64 0,.slice none 0 0]) ?_ 3 _ rfl;(with_reducible repeat (first|apply zzf|apply zzg|apply zze));refine zzi (cs:=#[.bool t432,.bool t433,.int .i64 0,.int .i64 0,.int .i64 0,.slice none 0 0]) ?_ 2 _ rfl;(with_reducible repeat (first|apply zzf|apply zzg|apply zze));refine zzi (cs:=#[.bool t432,.bool false,.int .i64 0,.int .i64 0,.int .i64 0,.slice none 0 0]) ?_ 1 _ rfl;(with_reducible repeat (first|apply zzf|apply zzg|apply zze));refine zzi (cs:=#[.bool false,.bool false,.int .i64 0,.int .i64 0,.int .i64 0,.slice none 0 0]) ?_ 0 _ rfl;(with_reducible repeat (first|apply zzf|apply zzg|apply zze));exact BK441.out) k_ hk_)⟩)) (zzo zzh2));have n8_:=zzm (zzh (g:=gb441) (o:=.cells #[.bool t432,.bool t433,.int .i64 t434,.int .i64 t435,.int .i64 t436,.slice Ao34 t437.length co34] 27 (0,0)) (by (with_reducible repeat (first|apply zzf|apply zzg|apply zze));refine zzi (cs:=#[.bool t432,.bool t433,.int .i64 t434,.int .i64 t435,.int .i64 t436,.slice none 0 0]) ?_ 5 _ rfl;(with_reducible repeat (first|apply zzf|apply zzg|apply zze));refine zzi (cs:=#[.bool t432,.bool t433,.int .i64 t434,.int .i64 t435,.int .i64 0,.slice none 0 0]) ?_ 4 _ rfl;(with_reducible repeat (first|apply zzf|apply zzg|apply zze));refine zzi (cs:=#[.bool t432,.bool t433,.int .i64 t434,.int .i64 0,.int .i64 0,.slice none 0 0]) ?_ 3 _ rfl;(with_reducible repeat (first|apply zzf|apply zzg|apply zze));refine zzi (cs:=#[.bool t432,.bool t433,.int .i64 0,.int .i64 0,.int .i64 0,.slice none 0 0]) ?_ 2 _ rfl;(with_reducible repeat (first|apply zzf|apply zzg|apply zze));refine zzi (cs:=#[.bool t432,.bool false,.int .i64 0,.int .i64 0,.int .i64 0,.slice none 0 0]) ?_ 1 _ rfl;(with_reducible repeat (first|apply zzf|apply zzg|apply zze));refine zzi (cs:=#[.bool false,.bool false,.int .i64 0,.int .i64 0,.int .i64 0,.slice none 0 0]) ?_ 0 _ rfl;(with_reducible repeat (first|apply zzf|apply zzg|apply zze));exact BK441.out) hb);have n9_:=zzm (zzp zzh2 hb);clear HO_5 HL428_5 HL429_3 HL429_5 HL430_5 HL431_5 HO439 BK441 HB;have HO_5:=n0_;have HL428_5:=n1_;have HL429_3:=n2_;have HL429_5:=n3_;have HL430_5:=n4_;have HL431_5:=n5_;have HO439:=n6_;have HO444:=n7_;have BK441:=n8_;have HB:=n9_;clear n0_ n1_ n2_ n3_ n4_ n5_ n6_ n7_ n8_ n9_;(try clear hb);(try clear hb2);(try clear hk);(try clear hi);(try clear ho0);obtain ⟨Ao38,co38,eo38⟩:=Kd.N_slice HO444.out;subst eo38)|(go_at_call 28;(with_reducible refine (impl_StableEnd.calls k3 _ _ t442 t446 _ ?side1 ?side2 A24.out).mono ?_);(case side1=>repeat (first|exact (Kd.N_reads' HO444.out).2.2|(with_reducible refine Kd.C_alloc ?_ _)|(with_reducible refine Kd.C_drewN ?_ _)|(with_reducible refine Kd.C_drew ?_)));(case side2=>exact (Kd.N_reads' HO444.out).2.1);rintro e w39 ⟨rfl,hb⟩;have n0_:=zzm (Kd.N_below (zzN HO_5.out) hb);have n1_:=zzm (Kd.V_below (zzV HL428_5.out) hb);have n2_:=zzm (Kd.V_below (zzV HL429_3.out) hb);have n3_:=zzm (Kd.V_below (zzV HL429_5.out) hb);have n4_:=zzm (Kd.V_below (zzV HL430_5.out) hb);have n5_:=zzm (Kd.V_below (zzV HL431_5.out) hb);have n6_:=zzm (Kd.N_below (zzN HO439.out) hb);have n7_:=zzm (Kd.N_below (zzN HO444.out) hb);have n8_:=zzm (zzh (g:=gb441) (o:=.cells #[.bool t432,.bool t433,.int .i64 t434,.int .i64 t435,.int .i64 t436,.slice Ao34 t437.length co34] 27 (0,0)) (zzE BK441.out) hb);have n9_:=zzm (zzp zzh2 hb);clear HO_5 HL428_5 HL429_3 HL429_5 HL430_5 HL431_5 HO439 HO444 BK441 HB;have HO_5:=n0_;have HL428_5:=n1_;have HL429_3:=n2_;have HL429_5:=n3_;have HL430_5:=n4_;have HL431_5:=n5_;have HO439:=n6_;have HO444:=n7_;have BK441:=n8_;have HB:=n9_;clear n0_ n1_ n2_ n3_ n4_ n5_ n6_ n7_ n8_ n9_;(try clear hb);(try clear hb2);(try clear hk);(try clear hi)))
               go_ret;exact ⟨by first|rfl|(simp [errW_none,errW_some] <;> rfl)|(simp [*,errW_none,errW_some] <;> rfl),by repeat (first|(with_reducible first|exact HB.out|apply zza|apply zzb|apply zzc|refine zzd ?_ GE441.out)|exact HB.out)⟩
              ·
               replace c23:=Bool.eq_false_iff.mpr c23;subst c23;have H1:(some true)=some r:=by rw [if_neg (show ¬ (false=true) by decide)] at H;exact H
               clear H;have H:=H1;clear H1;obtain rfl:=Option.some.inj H;have p428 : 0≤(x8_3:Int):=zzt;have q428:x8_3 < (t422.length:Int):=zzt;obtain ⟨ad428,A428_5,c428_5,e428,hx428_0,hx428_1,hx428_2,hx428_3,hx428_4,hx428_5,hl428_5,hi428_5⟩:=at_T27 (Kd.N_reads' HO_5.out).2.2 x8_3 p428 q428;cases e428;obtain ⟨ce428,hce428,hMe428,hcc428⟩:=Kd.N_get HO_5.out z27 x8_3 p428 (by first|exact q428|exact zzt|(have e_:=(Kd.N_reads' HO_5.out).1;omega));obtain ⟨ua428_5,uc428_5,rfl,ul428_5,ge428_5⟩:=k27_openF hMe428;have hv428_5:=hcc428 5 _ rfl;rw [add_field _ _ 5 (by omega)] at hv428_5;replace hv428_5:=Option.some.inj (hv428_5.symm.trans hx428_5);injection hv428_5 with hva_ hvn_ hvc_;rw [hva_] at ge428_5;rw [hvc_] at ul428_5;have HL428_5:=zzm (show Kd.V k34 34 _ w.heap.size _ _ ((rd_T27 t422 x8_3).f5) from Kd.V_mk ul428_5 ge428_5);clear hva_ hvn_ hvc_ ge428_5 ul428_5;clear hcc428 hce428;have HR428_5:=zzm hi428_5;have HC428_5:=zzm hl428_5;clear hi428_5 hl428_5;replace p428:=eq_true p428;replace q428:=eq_true q428;have p429 : 0≤(0:Int):=(by omega);have q429 : 0 < (((rd_T27 t422 x8_3).f5).length:Int):=zzt;obtain ⟨ad429,A429_3,c429_3,A429_5,c429_5,e429,hx429_0,hx429_1,hx429_2,hx429_3,hx429_4,hx429_5,hl429_3,hi429_3,hl429_5,hi429_5⟩:=at_T34 (zzC HR428_5.out) 0 p429 q429;cases e429;obtain ⟨ce429,hce429,hMe429,hcc429⟩:=Kd.V_get HL428_5.out z34 0 p429 (by first|exact q429|exact zzt|(have e_:=(Kd.V_reads' HL428_5.out).1;omega));obtain ⟨ua429_3,uc429_3,ua429_5,uc429_5,rfl,ul429_3,ge429_3,ul429_5,ge429_5⟩:=k34_openF hMe429;have hv429_3:=hcc429 3 _ rfl;rw [add_field _ _ 3 (by omega)] at hv429_3;replace hv429_3:=Option.some.inj (hv429_3.symm.trans hx429_3);injection hv429_3 with hva_ hvn_ hvc_;rw [hva_] at ge429_3;rw [hvc_] at ul429_3;have HL429_3:=zzm (show Kd.V (Kd.int .i64) 3 _ w.heap.size _ _ ((rd_T34 ((rd_T27 t422 x8_3).f5) 0).f3) from Kd.V_mk ul429_3 ge429_3);clear hva_ hvn_ hvc_ ge429_3 ul429_3;have hv429_5:=hcc429 5 _ rfl;rw [add_field _ _ 5 (by omega)] at hv429_5;replace hv429_5:=Option.some.inj (hv429_5.symm.trans hx429_5);injection hv429_5 with hva_ hvn_ hvc_;rw [hva_] at ge429_5;rw [hvc_] at ul429_5;have HL429_5:=zzm (show Kd.V (Kd.int .i64) 3 _ w.heap.size _ _ ((rd_T34 ((rd_T27 t422 x8_3).f5) 0).f5) from Kd.V_mk ul429_5 ge429_5);clear hva_ hvn_ hvc_ ge429_5 ul429_5;clear hcc429 hce429;have qi429:(0 < ((rd_T27 t422 x8_3).f5).length)=True:=eq_true (by omega);(try rw [show ((0:Int)).toNat=0 from rfl] at hx429_0);(try rw [show 0 * 6=0 from rfl] at hx429_0);(try rw [Addr.add_zero'] at hx429_0);(try rw [show ((0:Int)).toNat=0 from rfl] at hx429_1);(try rw [show 0 * 6=0 from rfl] at hx429_1);(try rw [Addr.add_zero'] at hx429_1);(try rw [show ((0:Int)).toNat=0 from rfl] at hx429_2);(try rw [show 0 * 6=0 from rfl] at hx429_2);(try rw [Addr.add_zero'] at hx429_2);(try rw [show ((0:Int)).toNat=0 from rfl] at hx429_3);(try rw [show 0 * 6=0 from rfl] at hx429_3);(try rw [Addr.add_zero'] at hx429_3);(try rw [show ((0:Int)).toNat=0 from rfl] at hx429_4);(try rw [show 0 * 6=0 from rfl] at hx429_4);(try rw [Addr.add_zero'] at hx429_4);(try rw [show ((0:Int)).toNat=0 from rfl] at hx429_5);(try rw [show 0 * 6=0 from rfl] at hx429_5);(try rw [Addr.add_zero'] at hx429_5);have HR429_3:=zzm hi429_3;have HC429_3:=zzm hl429_3;clear hi429_3 hl429_3;have HR429_5:=zzm hi429_5;have HC429_5:=zzm hl429_5;clear hi429_5 hl429_5;replace p429:=eq_true p429;replace q429:=eq_true q429;try go_wp2
               have n0_:=zzm (Kd.N_drew HO_5.out);have n1_:=zzm (Kd.V_drew HL428_5.out);have n2_:=zzm (Kd.V_drew HL429_3.out);have n3_:=zzm (Kd.V_drew HL429_5.out);have n4_:=zzm (Kd.C_drew HR428_5.out);have n5_:=zzm (Kd.C_drew HR429_3.out);have n6_:=zzm (Kd.C_drew HR429_5.out);have n7_:=zzm (zzc HB.out);clear HO_5 HL428_5 HL429_3 HL429_5 HR428_5 HR429_3 HR429_5 HB;have HO_5:=n0_;have HL428_5:=n1_;have HL429_3:=n2_;have HL429_5:=n3_;have HR428_5:=n4_;have HR429_3:=n5_;have HR429_5:=n6_;have HB:=n7_;clear n0_ n1_ n2_ n3_ n4_ n5_ n6_ n7_;have p430 : 0≤(x8_3:Int):=zzt;have q430:x8_3 < (t422.length:Int):=zzt;obtain ⟨ad430,A430_5,c430_5,e430,hx430_0,hx430_1,hx430_2,hx430_3,hx430_4,hx430_5,hl430_5,hi430_5⟩:=at_T27 (Kd.N_reads' HO_5.out).2.2 x8_3 p430 q430;obtain rfl:ad428=ad430:=(by injection e430);obtain ⟨ce430,hce430,hMe430,hcc430⟩:=Kd.N_get HO_5.out z27 x8_3 p430 (by first|exact q430|exact zzt|(have e_:=(Kd.N_reads' HO_5.out).1;omega));obtain ⟨ua430_5,uc430_5,rfl,ul430_5,ge430_5⟩:=k27_openF hMe430;have hv430_5:=hcc430 5 _ rfl;rw [add_field _ _ 5 (by omega)] at hv430_5;replace hv430_5:=Option.some.inj (hv430_5.symm.trans hx430_5);injection hv430_5 with hva_ hvn_ hvc_;rw [hva_] at ge430_5;rw [hvc_] at ul430_5;have HL430_5:=zzm (show Kd.V k34 34 _ w.heap.size _ _ ((rd_T27 t422 x8_3).f5) from Kd.V_mk ul430_5 ge430_5);clear hva_ hvn_ hvc_ ge430_5 ul430_5;clear hcc430 hce430;have HR430_5:=zzm hi430_5;have HC430_5:=zzm hl430_5;clear hi430_5 hl430_5;replace p430:=eq_true p430;replace q430:=eq_true q430;have p431 : 0≤(x8_3:Int):=zzt;have q431:x8_3 < (t422.length:Int):=zzt;obtain ⟨ad431,A431_5,c431_5,e431,hx431_0,hx431_1,hx431_2,hx431_3,hx431_4,hx431_5,hl431_5,hi431_5⟩:=at_T27 (Kd.N_reads' HO_5.out).2.2 x8_3 p431 q431;obtain rfl:ad428=ad431:=(by injection e431);obtain ⟨ce431,hce431,hMe431,hcc431⟩:=Kd.N_get HO_5.out z27 x8_3 p431 (by first|exact q431|exact zzt|(have e_:=(Kd.N_reads' HO_5.out).1;omega));obtain ⟨ua431_5,uc431_5,rfl,ul431_5,ge431_5⟩:=k27_openF hMe431;have hv431_5:=hcc431 5 _ rfl;rw [add_field _ _ 5 (by omega)] at hv431_5;replace hv431_5:=Option.some.inj (hv431_5.symm.trans hx431_5);injection hv431_5 with hva_ hvn_ hvc_;rw [hva_] at ge431_5;rw [hvc_] at ul431_5;have HL431_5:=zzm (show Kd.V k34 34 _ w.heap.size _ _ ((rd_T27 t422 x8_3).f5) from Kd.V_mk ul431_5 ge431_5);clear hva_ hvn_ hvc_ ge431_5 ul431_5;clear hcc431 hce431;have HR431_5:=zzm hi431_5;have HC431_5:=zzm hl431_5;clear hi431_5 hl431_5;replace p431:=eq_true p431;replace q431:=eq_true q431;have ea_:=Option.some.inj (hx430_5.symm.trans hx431_5);injection ea_ with ea_ en_ ec_;subst ea_;subst ec_;clear en_;refine start_ (n:=21) (S:=fun w'=>w'.cell? (ad428.add ((x8_3).toNat * 6))=some (.bool ((rd_T27 t422 x8_3).f0))∧w'.cell? ⟨(ad428.add ((x8_3).toNat * 6)).block,(ad428.add ((x8_3).toNat * 6)).off+1,none⟩=some (.bool ((rd_T27 t422 x8_3).f1))∧w'.cell? ⟨(ad428.add ((x8_3).toNat * 6)).block,(ad428.add ((x8_3).toNat * 6)).off+2,none⟩=some (.int .i64 ((rd_T27 t422 x8_3).f2))∧w'.cell? ⟨(ad428.add ((x8_3).toNat * 6)).block,(ad428.add ((x8_3).toNat * 6)).off+3,none⟩=some (.int .i64 ((rd_T27 t422 x8_3).f3))∧w'.cell? ⟨(ad428.add ((x8_3).toNat * 6)).block,(ad428.add ((x8_3).toNat * 6)).off+4,none⟩=some (.int .i64 ((rd_T27 t422 x8_3).f4))∧w'.cell? ⟨(ad428.add ((x8_3).toNat * 6)).block,(ad428.add ((x8_3).toNat * 6)).off+5,none⟩=some (.slice A430_5 ((rd_T27 t422 x8_3).f5).length c430_5)∧w'.cell? (ad428.add ((x8_3).toNat * 6))=some (.bool ((rd_T27 t422 x8_3).f0))∧w'.cell? ⟨(ad428.add ((x8_3).toNat * 6)).block,(ad428.add ((x8_3).toNat * 6)).off+1,none⟩=some (.bool ((rd_T27 t422 x8_3).f1))∧w'.cell? ⟨(ad428.add ((x8_3).toNat * 6)).block,(ad428.add ((x8_3).toNat * 6)).off+2,none⟩=some (.int .i64 ((rd_T27 t422 x8_3).f2))∧w'.cell? ⟨(ad428.add ((x8_3).toNat * 6)).block,(ad428.add ((x8_3).toNat * 6)).off+3,none⟩=some (.int .i64 ((rd_T27 t422 x8_3).f3))∧w'.cell? ⟨(ad428.add ((x8_3).toNat * 6)).block,(ad428.add ((x8_3).toNat * 6)).off+4,none⟩=some (.int .i64 ((rd_T27 t422 x8_3).f4))∧w'.cell? ⟨(ad428.add ((x8_3).toNat * 6)).block,(ad428.add ((x8_3).toNat * 6)).off+5,none⟩=some (.slice A430_5 ((rd_T27 t422 x8_3).f5).length c430_5)) (ds:=[]) (zzB 21 0) (by kernel_rfl) rfl rfl ⟨hx430_0,hx430_1,hx430_2,hx430_3,hx430_4,hx430_5,hx431_0,hx431_1,hx431_2,hx431_3,hx431_4,hx431_5⟩ (fun hHeld=>?_);refine with_tabW laws_FnStableDecide.tab12 laws_FnStableDecide.bits12 (fun HT_ HW_=>?_);generalize wr.drew=w40 at HO_5 HL428_5 HL429_3 HL429_5 HR428_5 HR429_3 HR429_5 HB HL430_5 HL431_5 HR430_5 HR431_5 hx430_0 hx430_1 hx430_2 hx430_3 hx430_4 hx430_5 hx431_0 hx431_1 hx431_2 hx431_3 hx431_4 hx431_5 hHeld ⊢;refine pure_ (i:=0) (N:=some 54) (v:=?_) (a':=?_) (zzB 21 1) rfl rfl (zzA2 HT_.out) (fun _ _ _ h=>h) (Or.inl ⟨by rfl,?_⟩) ?_ ?_;rotate_left
               ·
                intro w';go_simp;with_reducible rfl
               rotate_left
               ·
                simp only [Act.put,zzq,zzr,zzs,i64_w,i32_w];rfl
               refine pure_ (i:=1) (N:=some 55) (v:=?_) (a':=?_) (zzB 21 3) rfl rfl (zzA2 HT_.out) (fun _ _ _ h=>h) (Or.inl ⟨by rfl,?_⟩) ?_ ?_;rotate_left
               ·
                intro w';go_simp;with_reducible rfl
               rotate_left
               ·
                simp only [Act.put,zzq,zzr,zzs,i64_w,i32_w];rfl
               refine pure_ (i:=2) (N:=some 56) (v:=?_) (a':=?_) (zzB 21 7) rfl rfl (zzA2 HT_.out) (fun _ _ _ h=>h) (Or.inl ⟨by rfl,?_⟩) ?_ ?_;rotate_left
               ·
                intro w';go_simp;with_reducible rfl
               rotate_left
               ·
                simp only [Act.put,zzq,zzr,zzs,i64_w,i32_w];rfl
               refine pure_ (i:=3) (N:=some 57) (v:=?_) (a':=?_) (zzB 21 15) rfl rfl (zzA2 HT_.out) (fun _ _ _ h=>h) (Or.inl ⟨by rfl,?_⟩) ?_ ?_;rotate_left
               ·
                intro w';go_simp;with_reducible rfl
               rotate_left
               ·
                simp only [Act.put,zzq,zzr,zzs,i64_w,i32_w];rfl
               refine pure_ (i:=5) (N:=some 59) (v:=?_) (a':=?_) (zzB 21 47) rfl rfl (zzA2 HT_.out) (fun _ _ _ h=>h) (Or.inl ⟨by rfl,?_⟩) ?_ ?_;rotate_left
               ·
                intro w';go_simp;with_reducible rfl
               rotate_left
               ·
                simp only [Act.put,zzq,zzr,zzs,i64_w,i32_w];rfl
               refine pure_ (i:=6) (N:=some 60) (v:=?_) (a':=?_) (zzB 21 111) rfl rfl (zzA2 HT_.out) (fun _ _ _ h=>h) (Or.inl ⟨by rfl,?_⟩) ?_ ?_;rotate_left
               ·
                intro w';go_simp;with_reducible rfl
               rotate_left
               ·
                simp only [Act.put,zzq,zzr,zzs,i64_w,i32_w];rfl
               refine pure_ (i:=7) (N:=some 61) (v:=?_) (a':=?_) (zzB 21 239) rfl rfl (zzA2 HT_.out) (fun _ _ _ h=>h) (Or.inl ⟨by rfl,?_⟩) ?_ ?_;rotate_left
               ·
                intro w';go_simp;with_reducible rfl
               rotate_left
               ·
                simp only [Act.put,zzq,zzr,zzs,i64_w,i32_w];rfl
               refine pure_ (i:=8) (N:=some 62) (v:=?_) (a':=?_) (zzB 21 495) rfl rfl (zzA2 HT_.out) (fun _ _ _ h=>h) (Or.inl ⟨by rfl,?_⟩) ?_ ?_;rotate_left
               ·
                intro w';go_simp;with_reducible rfl
               rotate_left
               ·
                simp only [Act.put,zzq,zzr,zzs,i64_w,i32_w];rfl
               refine pure_ (i:=10) (N:=some 64) (v:=?_) (a':=?_) (zzB 21 1519) rfl rfl (zzA2 HT_.out) (fun _ _ _ h=>h) (Or.inl ⟨by rfl,?_⟩) ?_ ?_;rotate_left
               ·
                intro w';go_simp;with_reducible rfl
               rotate_left
               ·
                simp only [Act.put,zzq,zzr,zzs,i64_w,i32_w];rfl
               refine pure_ (i:=11) (N:=some 65) (v:=?_) (a':=?_) (zzB 21 3567) rfl rfl (zzA2 HT_.out) (fun _ _ _ h=>h) (Or.inl ⟨by rfl,?_⟩) ?_ ?_;rotate_left
               ·
                intro w';go_simp;with_reducible rfl
               rotate_left
               ·
                simp only [Act.put,zzq,zzr,zzs,i64_w,i32_w];rfl
               refine pure_ (i:=12) (N:=some 66) (v:=?_) (a':=?_) (zzB 21 7663) rfl rfl (zzA2 HT_.out) (fun _ _ _ h=>h) (Or.inl ⟨by rfl,?_⟩) ?_ ?_;rotate_left
               ·
                intro w';go_simp;with_reducible rfl
               rotate_left
               ·
                simp only [Act.put,zzq,zzr,zzs,i64_w,i32_w];rfl
               refine pure_ (i:=13) (N:=some 67) (v:=?_) (a':=?_) (zzB 21 15855) rfl rfl (zzA2 HT_.out) (fun _ _ _ h=>h) (Or.inl ⟨by rfl,?_⟩) ?_ ?_;rotate_left
               ·
                intro w';go_simp;with_reducible rfl
               rotate_left
               ·
                simp only [Act.put,zzq,zzr,zzs,i64_w,i32_w];rfl
               refine take_ (i:=4) (N:=some 58) (v:=?_) (a':=?_) (zzB 21 15871) rfl rfl (take_ofW HT_.out HW_.out (by kernel_rfl)) (fun _ _ _ h=>h) (Or.inl ⟨by rfl,?_⟩) hHeld ?_ ?_;rotate_left
               ·
                rintro w' ⟨s0,s1,s2,s3,s4,s5,s6,s7,s8,s9,s10,s11⟩;go_simp;with_reducible rfl
               rotate_left
               ·
                simp only [Act.put,zzq,zzr,zzs,i64_w,i32_w];rfl
               refine take_ (i:=9) (N:=some 63) (v:=?_) (a':=?_) (zzB 21 16383) rfl rfl (take_ofW HT_.out HW_.out (by kernel_rfl)) (fun _ _ _ h=>h) (Or.inl ⟨by rfl,?_⟩) hHeld ?_ ?_;rotate_left
               ·
                rintro w' ⟨s0,s1,s2,s3,s4,s5,s6,s7,s8,s9,s10,s11⟩;go_simp;with_reducible rfl
               rotate_left
               ·
                simp only [Act.put,zzq,zzr,zzs,i64_w,i32_w];rfl
               refine join_ (σ:=Value×Nat) 2 (zzB 21 524287) (fun s_=>[(68,.tuple #[.agg #[.bool t432,.bool t433,.int .i64 t434,.int .i64 t435,.int .i64 t436,s_.1],.bool true]),(9,.pointer (some ⟨s_.2,0,none⟩)),(53,.tuple #[.agg #[.bool t432,.bool t433,.int .i64 t434,.int .i64 t435,.int .i64 t436,s_.1],.bool true]),(69,.agg #[.bool t432,.bool t433,.int .i64 t434,.int .i64 t435,.int .i64 t436,s_.1]),(70,.bool true)]) (fun s_ w'=>(w'.cell? (ad428.add ((x8_3).toNat * 6))=some (.bool ((rd_T27 t422 x8_3).f0))∧w'.cell? ⟨(ad428.add ((x8_3).toNat * 6)).block,(ad428.add ((x8_3).toNat * 6)).off+1,none⟩=some (.bool ((rd_T27 t422 x8_3).f1))∧w'.cell? ⟨(ad428.add ((x8_3).toNat * 6)).block,(ad428.add ((x8_3).toNat * 6)).off+2,none⟩=some (.int .i64 ((rd_T27 t422 x8_3).f2))∧w'.cell? ⟨(ad428.add ((x8_3).toNat * 6)).block,(ad428.add ((x8_3).toNat * 6)).off+3,none⟩=some (.int .i64 ((rd_T27 t422 x8_3).f3))∧w'.cell? ⟨(ad428.add ((x8_3).toNat * 6)).block,(ad428.add ((x8_3).toNat * 6)).off+4,none⟩=some (.int .i64 ((rd_T27 t422 x8_3).f4))∧w'.cell? ⟨(ad428.add ((x8_3).toNat * 6)).block,(ad428.add ((x8_3).toNat * 6)).off+5,none⟩=some (.slice A430_5 ((rd_T27 t422 x8_3).f5).length c430_5)∧w'.cell? (ad428.add ((x8_3).toNat * 6))=some (.bool ((rd_T27 t422 x8_3).f0))∧w'.cell? ⟨(ad428.add ((x8_3).toNat * 6)).block,(ad428.add ((x8_3).toNat * 6)).off+1,none⟩=some (.bool ((rd_T27 t422 x8_3).f1))∧w'.cell? ⟨(ad428.add ((x8_3).toNat * 6)).block,(ad428.add ((x8_3).toNat * 6)).off+2,none⟩=some (.int .i64 ((rd_T27 t422 x8_3).f2))∧w'.cell? ⟨(ad428.add ((x8_3).toNat * 6)).block,(ad428.add ((x8_3).toNat * 6)).off+3,none⟩=some (.int .i64 ((rd_T27 t422 x8_3).f3))∧w'.cell? ⟨(ad428.add ((x8_3).toNat * 6)).block,(ad428.add ((x8_3).toNat * 6)).off+4,none⟩=some (.int .i64 ((rd_T27 t422 x8_3).f4))∧w'.cell? ⟨(ad428.add ((x8_3).toNat * 6)).block,(ad428.add ((x8_3).toNat * 6)).off+5,none⟩=some (.slice A430_5 ((rd_T27 t422 x8_3).f5).length c430_5))∧(Kd.V k34 34 w' w.heap.size (fun k_=>some k_≠(s_.1:Value).ownBlock∧some k_≠(.slice (some ad428) t422.length co11:Value).ownBlock∧k_≠s_.2) (.slice (some ad429) ((rd_T27 t422 x8_3).f5).length c428_5) ((rd_T27 t422 x8_3).f5))∧(Kd.V (Kd.int .i64) 3 w' w.heap.size (fun k_=>some k_≠(s_.1:Value).ownBlock∧some k_≠(.slice (some ad428) t422.length co11:Value).ownBlock∧k_≠s_.2) (.slice A429_3 ((rd_T34 ((rd_T27 t422 x8_3).f5) 0).f3).length c429_3) ((rd_T34 ((rd_T27 t422 x8_3).f5) 0).f3))∧(Kd.V (Kd.int .i64) 3 w' w.heap.size (fun k_=>some k_≠(s_.1:Value).ownBlock∧some k_≠(.slice (some ad428) t422.length co11:Value).ownBlock∧k_≠s_.2) (.slice A429_5 ((rd_T34 ((rd_T27 t422 x8_3).f5) 0).f5).length c429_5) ((rd_T34 ((rd_T27 t422 x8_3).f5) 0).f5))∧(Kd.V k34 34 w' w.heap.size (fun k_=>some k_≠(s_.1:Value).ownBlock∧some k_≠(.slice (some ad428) t422.length co11:Value).ownBlock∧k_≠s_.2) (.slice A430_5 ((rd_T27 t422 x8_3).f5).length c430_5) ((rd_T27 t422 x8_3).f5))∧(Kd.V k34 34 w' w.heap.size (fun k_=>some k_≠(s_.1:Value).ownBlock∧some k_≠(.slice (some ad428) t422.length co11:Value).ownBlock∧k_≠s_.2) (.slice A430_5 ((rd_T27 t422 x8_3).f5).length c430_5) ((rd_T27 t422 x8_3).f5))∧(Kd.N k34 34 w' w.heap.size (fun k_=>some k_≠(.slice (some ad428) t422.length co11:Value).ownBlock∧k_≠s_.2) s_.1 t437)∧(Kd.N k27 27 w' w.heap.size (fun k_=>some k_≠(s_.1:Value).ownBlock∧k_≠s_.2) (.slice (some ad428) t422.length co11) t422)∧(w'.heap[s_.2]? = some (.cells #[.bool false,.bool false,.int .i64 0,.int .i64 0,.int .i64 0,.slice none 0 0] 27 (0,0)))∧(w.heap.size≤s_.2)∧(w.heap.size≤s_.2)∧(Below w.heap.size w w')) ?_ ?_;rotate_left
               ·
                intro hCont;refine two_ (i:=14) (j:=18) (Ni:=some 68) (Nj:=some 9) (zzB 21 32767) (zzB 21 278527) rfl rfl rfl rfl (two_of HT_.out (by kernel_rfl)) (by decide) (by decide) (fun K hK=>?_) (fun K hK=>?_)
                ·
                 skip;refine goes_ Try.func19 (by kernel_rfl) rfl #[.int .i64 ((rd_T27 t422 x8_3).f2),.int .i64 ((rd_T27 t422 x8_3).f3),.int .i64 0,.int .i64 0,.bool (((l1.length:Int) % 2)==0)] (by rfl) rfl rfl zzM2 ?_;with_reducible refine (impl_MarkBatch.calls k3 ((rd_T27 t422 x8_3).f2) ((rd_T27 t422 x8_3).f3) 0 0 (((l1.length:Int) % 2)==0) t432 t433 t434 t435 t436 t437 true _ A20.out).mono ?_;rintro e w41 ⟨v438,rfl,ho0,hb⟩;have HS0_:=(hb.cell (zzn _ _ (hHeld.1))).trans (hHeld.1);have HS1_:=(hb.cell (zzn _ _ (hHeld.2.1))).trans (hHeld.2.1);have HS2_:=(hb.cell (zzn _ _ (hHeld.2.2.1))).trans (hHeld.2.2.1);have HS3_:=(hb.cell (zzn _ _ (hHeld.2.2.2.1))).trans (hHeld.2.2.2.1);have HS4_:=(hb.cell (zzn _ _ (hHeld.2.2.2.2.1))).trans (hHeld.2.2.2.2.1);have HS5_:=(hb.cell (zzn _ _ (hHeld.2.2.2.2.2.1))).trans (hHeld.2.2.2.2.2.1);have HS6_:=(hb.cell (zzn _ _ (hHeld.2.2.2.2.2.2.1))).trans (hHeld.2.2.2.2.2.2.1);have HS7_:=(hb.cell (zzn _ _ (hHeld.2.2.2.2.2.2.2.1))).trans (hHeld.2.2.2.2.2.2.2.1);have HS8_:=(hb.cell (zzn _ _ (hHeld.2.2.2.2.2.2.2.2.1))).trans (hHeld.2.2.2.2.2.2.2.2.1);have HS9_:=(hb.cell (zzn _ _ (hHeld.2.2.2.2.2.2.2.2.2.1))).trans (hHeld.2.2.2.2.2.2.2.2.2.1);have HS10_:=(hb.cell (zzn _ _ (hHeld.2.2.2.2.2.2.2.2.2.2.1))).trans (hHeld.2.2.2.2.2.2.2.2.2.2.1);have HS11_:=(hb.cell (zzn _ _ (hHeld.2.2.2.2.2.2.2.2.2.2.2))).trans (hHeld.2.2.2.2.2.2.2.2.2.2.2);refine ⟨_,rfl,?_⟩;have n0_:=zzm (Kd.N_elder' (zzN HO_5.out) (Kd.N_base ho0) hb);have n1_:=zzm (Kd.V_elder' (zzV HL428_5.out) (Kd.N_base ho0) hb);have n2_:=zzm (Kd.V_elder' (zzV HL429_3.out) (Kd.N_base ho0) hb);have n3_:=zzm (Kd.V_elder' (zzV HL429_5.out) (Kd.N_base ho0) hb);have n4_:=zzm (Kd.V_elder' (zzV HL430_5.out) (Kd.N_base ho0) hb);have n5_:=zzm (Kd.V_elder' (zzV HL431_5.out) (Kd.N_base ho0) hb);have n6_:=zzm (Kd.N_lower (Kd.N_mono (ok':=fun k_=>some k_≠(.slice (some ad428) t422.length co11:Value).ownBlock) ho0 (fun k_ hk_=>(Kd.fresh' (Kd.N_lt (zzN HO_5.out)) k_ hk_))) (zzo zzh1));have n7_:=zzm (Kd.C_below (zzC HR428_5.out) hb);have n8_:=zzm (Kd.C_below (zzC HR429_3.out) hb);have n9_:=zzm (Kd.C_below (zzC HR429_5.out) hb);have n10_:=zzm (Kd.C_below (zzC HR430_5.out) hb);have n11_:=zzm (Kd.C_below (zzC HR431_5.out) hb);have n12_:=zzm (zzp zzh1 hb);clear HO_5 HL428_5 HL429_3 HL429_5 HL430_5 HL431_5 HR428_5 HR429_3 HR429_5 HR430_5 HR431_5 HB;have HO_5:=n0_;have HL428_5:=n1_;have HL429_3:=n2_;have HL429_5:=n3_;have HL430_5:=n4_;have HL431_5:=n5_;have HO439:=n6_;have HR428_5:=n7_;have HR429_3:=n8_;have HR429_5:=n9_;have HR430_5:=n10_;have HR431_5:=n11_;have HB:=n12_;clear n0_ n1_ n2_ n3_ n4_ n5_ n6_ n7_ n8_ n9_ n10_ n11_ n12_;(try clear hb);(try clear hb2);(try clear hk);(try clear hi);(try clear ho0);refine hK.out _ _ ⟨HS0_,HS1_,HS2_,HS3_,HS4_,HS5_,HS6_,HS7_,HS8_,HS9_,HS10_,HS11_⟩ (fun hHeld=>?_);clear hK K;refine norm_ (a':=?_) ?_ ?_;rotate_left
                 ·
                  show Act.put _ (some 68) _ = _;simp only [Act.put,zzq,zzr,zzs,i64_w,i32_w];rfl
                 refine pure_ (i:=15) (N:=some 53) (v:=?_) (a':=?_) (zzB 21 65535) rfl rfl (zzA2 HT_.out) (fun _ _ _ h=>h) (Or.inl ⟨by rfl,?_⟩) ?_ ?_;rotate_left
                 ·
                  intro w';go_simp;with_reducible rfl
                 rotate_left
                 ·
                  simp only [Act.put,zzq,zzr,zzs,i64_w,i32_w];rfl
                 refine pure_ (i:=16) (N:=some 69) (v:=?_) (a':=?_) (zzB 21 131071) rfl rfl (zzA2 HT_.out) (fun _ _ _ h=>h) (Or.inl ⟨by rfl,?_⟩) ?_ ?_;rotate_left
                 ·
                  intro w';go_simp;with_reducible rfl
                 rotate_left
                 ·
                  simp only [Act.put,zzq,zzr,zzs,i64_w,i32_w];rfl
                 refine pure_ (i:=17) (N:=some 70) (v:=?_) (a':=?_) (zzB 21 262143) rfl rfl (zzA2 HT_.out) (fun _ _ _ h=>h) (Or.inl ⟨by rfl,?_⟩) ?_ ?_;rotate_left
                 ·
                  intro w';go_simp;with_reducible rfl
                 rotate_left
                 ·
                  simp only [Act.put,zzq,zzr,zzs,i64_w,i32_w];rfl
                 refine one_ (i:=18) (N:=some 9) (zzB 21 524287) rfl rfl (one_of HT_.out (by kernel_rfl)) (by decide) (fun K hK=>?_);refine box_step ?hg (N:=9) ?hd (cs:=#[.bool false,.bool false,.int .i64 0,.int .i64 0,.int .i64 0,.slice none 0 0]) (t:=27) ?hr ?_;(case hd=>rfl);(case hg=>rfl);(case hr=>first|(go_simp;done)|(go_simp;rfl));intro gb441 hg w42 hbox hb;have HS0_:=(hb.cell (zzn _ _ (hHeld.1))).trans (hHeld.1);have HS1_:=(hb.cell (zzn _ _ (hHeld.2.1))).trans (hHeld.2.1);have HS2_:=(hb.cell (zzn _ _ (hHeld.2.2.1))).trans (hHeld.2.2.1);have HS3_:=(hb.cell (zzn _ _ (hHeld.2.2.2.1))).trans (hHeld.2.2.2.1);have HS4_:=(hb.cell (zzn _ _ (hHeld.2.2.2.2.1))).trans (hHeld.2.2.2.2.1);have HS5_:=(hb.cell (zzn _ _ (hHeld.2.2.2.2.2.1))).trans (hHeld.2.2.2.2.2.1);have HS6_:=(hb.cell (zzn _ _ (hHeld.2.2.2.2.2.2.1))).trans (hHeld.2.2.2.2.2.2.1);have HS7_:=(hb.cell (zzn _ _ (hHeld.2.2.2.2.2.2.2.1))).trans (hHeld.2.2.2.2.2.2.2.1);have HS8_:=(hb.cell (zzn _ _ (hHeld.2.2.2.2.2.2.2.2.1))).trans (hHeld.2.2.2.2.2.2.2.2.1);have HS9_:=(hb.cell (zzn _ _ (hHeld.2.2.2.2.2.2.2.2.2.1))).trans (hHeld.2.2.2.2.2.2.2.2.2.1);have HS10_:=(hb.cell (zzn _ _ (hHeld.2.2.2.2.2.2.2.2.2.2.1))).trans (hHeld.2.2.2.2.2.2.2.2.2.2.1);have HS11_:=(hb.cell (zzn _ _ (hHeld.2.2.2.2.2.2.2.2.2.2.2))).trans (hHeld.2.2.2.2.2.2.2.2.2.2.2);have n0_:=zzm (Kd.N_below (Kd.N_elderB (zzN HO_5.out) gb441 (Nat.le_of_eq hg.symm)) hb);have n1_:=zzm (Kd.V_below (Kd.V_elderB (zzV HL428_5.out) gb441 (Nat.le_of_eq hg.symm)) hb);have n2_:=zzm (Kd.V_below (Kd.V_elderB (zzV HL429_3.out) gb441 (Nat.le_of_eq hg.symm)) hb);have n3_:=zzm (Kd.V_below (Kd.V_elderB (zzV HL429_5.out) gb441 (Nat.le_of_eq hg.symm)) hb);have n4_:=zzm (Kd.V_below (Kd.V_elderB (zzV HL430_5.out) gb441 (Nat.le_of_eq hg.symm)) hb);have n5_:=zzm (Kd.V_below (Kd.V_elderB (zzV HL431_5.out) gb441 (Nat.le_of_eq hg.symm)) hb);have n6_:=zzm (Kd.N_below (Kd.N_elderB (zzN HO439.out) gb441 (Nat.le_of_eq hg.symm)) hb);have n7_:=zzm (Kd.C_below (zzC HR428_5.out) hb);have n8_:=zzm (Kd.C_below (zzC HR429_3.out) hb);have n9_:=zzm (Kd.C_below (zzC HR429_5.out) hb);have n10_:=zzm (Kd.C_below (zzC HR430_5.out) hb);have n11_:=zzm (Kd.C_below (zzC HR431_5.out) hb);have n12_:=zzm (zzp zzh1 hb);have n13_:=zzm (hbox);have n14_:=zzm ((by rw [hg];exact (zzo zzh1):w.heap.size≤gb441));have n15_:=zzm ((by rw [hg];exact (zzo zzh1):w.heap.size≤gb441));clear HO_5 HL428_5 HL429_3 HL429_5 HL430_5 HL431_5 HO439 HR428_5 HR429_3 HR429_5 HR430_5 HR431_5 HB;have HO_5:=n0_;have HL428_5:=n1_;have HL429_3:=n2_;have HL429_5:=n3_;have HL430_5:=n4_;have HL431_5:=n5_;have HO439:=n6_;have HR428_5:=n7_;have HR429_3:=n8_;have HR429_5:=n9_;have HR430_5:=n10_;have HR431_5:=n11_;have HB:=n12_;have BK441:=n13_;have GW441:=n14_;have GE441:=n15_;clear n0_ n1_ n2_ n3_ n4_ n5_ n6_ n7_ n8_ n9_ n10_ n11_ n12_ n13_ n14_ n15_;clear hb hbox hg;refine hK.out _ _ ⟨HS0_,HS1_,HS2_,HS3_,HS4_,HS5_,HS6_,HS7_,HS8_,HS9_,HS10_,HS11_⟩ (fun hHeld=>?_);clear hK K;refine norm_ (a':=?_) ?_ ?_;rotate_left
                 ·
                  show Act.put _ (some 9) _ = _;simp only [Act.put,zzq,zzr,zzs,i64_w,i32_w];rfl
                 exact norm_ (by simp only [putAll,Act.put,zzq,zzr,zzs]) (hCont (v438,gb441) _ ⟨hHeld,(zzV (Kd.V_mono HL428_5.out (fun _ hk=>⟨hk.1.2,⟨hk.1.1.2,hk.2⟩⟩))),(zzV (Kd.V_mono HL429_3.out (fun _ hk=>⟨hk.1.2,⟨hk.1.1.2,hk.2⟩⟩))),(zzV (Kd.V_mono HL429_5.out (fun _ hk=>⟨hk.1.2,⟨hk.1.1.2,hk.2⟩⟩))),(zzV (Kd.V_mono HL430_5.out (fun _ hk=>⟨hk.1.2,⟨hk.1.1.2,hk.2⟩⟩))),(zzV (Kd.V_mono HL431_5.out (fun _ hk=>⟨hk.1.2,⟨hk.1.1.2,hk.2⟩⟩))),(zzN HO439.out),(zzN (Kd.N_mono HO_5.out (fun _ hk=>⟨hk.1.2,hk.2⟩))),(zzE BK441.out),GW441.out,GE441.out,zzh2⟩)
                ·
                 skip;refine box_step ?hg (N:=9) ?hd (cs:=#[.bool false,.bool false,.int .i64 0,.int .i64 0,.int .i64 0,.slice none 0 0]) (t:=27) ?hr ?_;(case hd=>rfl);(case hg=>rfl);(case hr=>first|(go_simp;done)|(go_simp;rfl));intro gb441 hg w41 hbox hb;have HS0_:=(hb.cell (zzn _ _ (hHeld.1))).trans (hHeld.1);have HS1_:=(hb.cell (zzn _ _ (hHeld.2.1))).trans (hHeld.2.1);have HS2_:=(hb.cell (zzn _ _ (hHeld.2.2.1))).trans (hHeld.2.2.1);have HS3_:=(hb.cell (zzn _ _ (hHeld.2.2.2.1))).trans (hHeld.2.2.2.1);have HS4_:=(hb.cell (zzn _ _ (hHeld.2.2.2.2.1))).trans (hHeld.2.2.2.2.1);have HS5_:=(hb.cell (zzn _ _ (hHeld.2.2.2.2.2.1))).trans (hHeld.2.2.2.2.2.1);have HS6_:=(hb.cell (zzn _ _ (hHeld.2.2.2.2.2.2.1))).trans (hHeld.2.2.2.2.2.2.1);have HS7_:=(hb.cell (zzn _ _ (hHeld.2.2.2.2.2.2.2.1))).trans (hHeld.2.2.2.2.2.2.2.1);have HS8_:=(hb.cell (zzn _ _ (hHeld.2.2.2.2.2.2.2.2.1))).trans (hHeld.2.2.2.2.2.2.2.2.1);have HS9_:=(hb.cell (zzn _ _ (hHeld.2.2.2.2.2.2.2.2.2.1))).trans (hHeld.2.2.2.2.2.2.2.2.2.1);have HS10_:=(hb.cell (zzn _ _ (hHeld.2.2.2.2.2.2.2.2.2.2.1))).trans (hHeld.2.2.2.2.2.2.2.2.2.2.1);have HS11_:=(hb.cell (zzn _ _ (hHeld.2.2.2.2.2.2.2.2.2.2.2))).trans (hHeld.2.2.2.2.2.2.2.2.2.2.2);have n0_:=zzm (Kd.N_below (Kd.N_elderB (zzN HO_5.out) gb441 (Nat.le_of_eq hg.symm)) hb);have n1_:=zzm (Kd.V_below (Kd.V_elderB (zzV HL428_5.out) gb441 (Nat.le_of_eq hg.symm)) hb);have n2_:=zzm (Kd.V_below (Kd.V_elderB (zzV HL429_3.out) gb441 (Nat.le_of_eq hg.symm)) hb);have n3_:=zzm (Kd.V_below (Kd.V_elderB (zzV HL429_5.out) gb441 (Nat.le_of_eq hg.symm)) hb);have n4_:=zzm (Kd.V_below (Kd.V_elderB (zzV HL430_5.out) gb441 (Nat.le_of_eq hg.symm)) hb);have n5_:=zzm (Kd.V_below (Kd.V_elderB (zzV HL431_5.out) gb441 (Nat.le_of_eq hg.symm)) hb);have n6_:=zzm (Kd.C_below (zzC HR428_5.out) hb);have n7_:=zzm (Kd.C_below (zzC HR429_3.out) hb);have n8_:=zzm (Kd.C_below (zzC HR429_5.out) hb);have n9_:=zzm (Kd.C_below (zzC HR430_5.out) hb);have n10_:=zzm (Kd.C_below (zzC HR431_5.out) hb);have n11_:=zzm (zzp zzh1 hb);have n12_:=zzm (hbox);have n13_:=zzm ((by rw [hg];exact (zzo zzh1):w.heap.size≤gb441));have n14_:=zzm ((by rw [hg];exact (zzo zzh1):w.heap.size≤gb441));clear HO_5 HL428_5 HL429_3 HL429_5 HL430_5 HL431_5 HR428_5 HR429_3 HR429_5 HR430_5 HR431_5 HB;have HO_5:=n0_;have HL428_5:=n1_;have HL429_3:=n2_;have HL429_5:=n3_;have HL430_5:=n4_;have HL431_5:=n5_;have HR428_5:=n6_;have HR429_3:=n7_;have HR429_5:=n8_;have HR430_5:=n9_;have HR431_5:=n10_;have HB:=n11_;have BK441:=n12_;have GW441:=n13_;have GE441:=n14_;clear n0_ n1_ n2_ n3_ n4_ n5_ n6_ n7_ n8_ n9_ n10_ n11_ n12_ n13_ n14_;clear hb hbox hg;refine hK.out _ _ ⟨HS0_,HS1_,HS2_,HS3_,HS4_,HS5_,HS6_,HS7_,HS8_,HS9_,HS10_,HS11_⟩ (fun hHeld=>?_);clear hK K;refine norm_ (a':=?_) ?_ ?_;rotate_left
                 ·
                  show Act.put _ (some 9) _ = _;simp only [Act.put,zzq,zzr,zzs,i64_w,i32_w];rfl
                 refine one_ (i:=14) (N:=some 68) (zzB 21 294911) rfl rfl (one_of HT_.out (by kernel_rfl)) (by decide) (fun K hK=>?_);refine goes_ Try.func19 (by kernel_rfl) rfl #[.int .i64 ((rd_T27 t422 x8_3).f2),.int .i64 ((rd_T27 t422 x8_3).f3),.int .i64 0,.int .i64 0,.bool (((l1.length:Int) % 2)==0)] (by rfl) rfl rfl zzM2 ?_;with_reducible refine (impl_MarkBatch.calls k3 ((rd_T27 t422 x8_3).f2) ((rd_T27 t422 x8_3).f3) 0 0 (((l1.length:Int) % 2)==0) t432 t433 t434 t435 t436 t437 true _ A20.out).mono ?_;rintro e w42 ⟨v438,rfl,ho0,hb⟩;have HS0_:=(hb.cell (zzn _ _ (hHeld.1))).trans (hHeld.1);have HS1_:=(hb.cell (zzn _ _ (hHeld.2.1))).trans (hHeld.2.1);have HS2_:=(hb.cell (zzn _ _ (hHeld.2.2.1))).trans (hHeld.2.2.1);have HS3_:=(hb.cell (zzn _ _ (hHeld.2.2.2.1))).trans (hHeld.2.2.2.1);have HS4_:=(hb.cell (zzn _ _ (hHeld.2.2.2.2.1))).trans (hHeld.2.2.2.2.1);have HS5_:=(hb.cell (zzn _ _ (hHeld.2.2.2.2.2.1))).trans (hHeld.2.2.2.2.2.1);have HS6_:=(hb.cell (zzn _ _ (hHeld.2.2.2.2.2.2.1))).trans (hHeld.2.2.2.2.2.2.1);have HS7_:=(hb.cell (zzn _ _ (hHeld.2.2.2.2.2.2.2.1))).trans (hHeld.2.2.2.2.2.2.2.1);have HS8_:=(hb.cell (zzn _ _ (hHeld.2.2.2.2.2.2.2.2.1))).trans (hHeld.2.2.2.2.2.2.2.2.1);have HS9_:=(hb.cell (zzn _ _ (hHeld.2.2.2.2.2.2.2.2.2.1))).trans (hHeld.2.2.2.2.2.2.2.2.2.1);have HS10_:=(hb.cell (zzn _ _ (hHeld.2.2.2.2.2.2.2.2.2.2.1))).trans (hHeld.2.2.2.2.2.2.2.2.2.2.1);have HS11_:=(hb.cell (zzn _ _ (hHeld.2.2.2.2.2.2.2.2.2.2.2))).trans (hHeld.2.2.2.2.2.2.2.2.2.2.2);refine ⟨_,rfl,?_⟩;have n0_:=zzm (Kd.N_elder' (zzN HO_5.out) (Kd.N_base ho0) hb);have n1_:=zzm (Kd.V_elder' (zzV HL428_5.out) (Kd.N_base ho0) hb);have n2_:=zzm (Kd.V_elder' (zzV HL429_3.out) (Kd.N_base ho0) hb);have n3_:=zzm (Kd.V_elder' (zzV HL429_5.out) (Kd.N_base ho0) hb);have n4_:=zzm (Kd.V_elder' (zzV HL430_5.out) (Kd.N_base ho0) hb);have n5_:=zzm (Kd.V_elder' (zzV HL431_5.out) (Kd.N_base ho0) hb);have n6_:=zzm (Kd.N_lower (Kd.N_mono (ok':=fun k_=>some k_≠(.slice (some ad428) t422.length co11:Value).ownBlock∧k_≠gb441) ho0 (fun k_ hk_=>⟨(Kd.fresh' (Kd.N_lt (zzN HO_5.out)) k_ hk_),(Kd.freshB (g:=gb441) (o:=.cells #[.bool false,.bool false,.int .i64 0,.int .i64 0,.int .i64 0,.slice none 0 0] 27 (0,0)) (zzE BK441.out) k_ hk_)⟩)) (zzo zzh2));have n7_:=zzm (Kd.C_below (zzC HR428_5.out) hb);have n8_:=zzm (Kd.C_below (zzC HR429_3.out) hb);have n9_:=zzm (Kd.C_below (zzC HR429_5.out) hb);have n10_:=zzm (Kd.C_below (zzC HR430_5.out) hb);have n11_:=zzm (Kd.C_below (zzC HR431_5.out) hb);have n12_:=zzm (zzh (g:=gb441) (o:=.cells #[.bool false,.bool false,.int .i64 0,.int .i64 0,.int .i64 0,.slice none 0 0] 27 (0,0)) (zzE BK441.out) hb);have n13_:=zzm (zzp zzh2 hb);clear HO_5 HL428_5 HL429_3 HL429_5 HL430_5 HL431_5 HR428_5 HR429_3 HR429_5 HR430_5 HR431_5 BK441 HB;have HO_5:=n0_;have HL428_5:=n1_;have HL429_3:=n2_;have HL429_5:=n3_;have HL430_5:=n4_;have HL431_5:=n5_;have HO439:=n6_;have HR428_5:=n7_;have HR429_3:=n8_;have HR429_5:=n9_;have HR430_5:=n10_;have HR431_5:=n11_;have BK441:=n12_;have HB:=n13_;clear n0_ n1_ n2_ n3_ n4_ n5_ n6_ n7_ n8_ n9_ n10_ n11_ n12_ n13_;(try clear hb);(try clear hb2);(try clear hk);(try clear hi);(try clear ho0);refine hK.out _ _ ⟨HS0_,HS1_,HS2_,HS3_,HS4_,HS5_,HS6_,HS7_,HS8_,HS9_,HS10_,HS11_⟩ (fun hHeld=>?_);clear hK K;refine norm_ (a':=?_) ?_ ?_;rotate_left
                 ·
                  show Act.put _ (some 68) _ = _;simp only [Act.put,zzq,zzr,zzs,i64_w,i32_w];rfl
                 refine pure_ (i:=15) (N:=some 53) (v:=?_) (a':=?_) (zzB 21 327679) rfl rfl (zzA2 HT_.out) (fun _ _ _ h=>h) (Or.inl ⟨by rfl,?_⟩) ?_ ?_;rotate_left
                 ·
                  intro w';go_simp;with_reducible rfl
                 rotate_left
                 ·
                  simp only [Act.put,zzq,zzr,zzs,i64_w,i32_w];rfl
                 refine pure_ (i:=16) (N:=some 69) (v:=?_) (a':=?_) (zzB 21 393215) rfl rfl (zzA2 HT_.out) (fun _ _ _ h=>h) (Or.inl ⟨by rfl,?_⟩) ?_ ?_;rotate_left
                 ·
                  intro w';go_simp;with_reducible rfl
                 rotate_left
                 ·
                  simp only [Act.put,zzq,zzr,zzs,i64_w,i32_w];rfl
                 refine pure_ (i:=17) (N:=some 70) (v:=?_) (a':=?_) (zzB 21 524287) rfl rfl (zzA2 HT_.out) (fun _ _ _ h=>h) (Or.inl ⟨by rfl,?_⟩) ?_ ?_;rotate_left
                 ·
                  intro w';go_simp;with_reducible rfl
                 rotate_left
                 ·
                  simp only [Act.put,zzq,zzr,zzs,i64_w,i32_w];rfl
                 exact norm_ (by simp only [putAll,Act.put,zzq,zzr,zzs]) (hCont (v438,gb441) _ ⟨hHeld,(zzV (Kd.V_mono HL428_5.out (fun _ hk=>⟨hk.2,⟨hk.1.1.2,hk.1.2⟩⟩))),(zzV (Kd.V_mono HL429_3.out (fun _ hk=>⟨hk.2,⟨hk.1.1.2,hk.1.2⟩⟩))),(zzV (Kd.V_mono HL429_5.out (fun _ hk=>⟨hk.2,⟨hk.1.1.2,hk.1.2⟩⟩))),(zzV (Kd.V_mono HL430_5.out (fun _ hk=>⟨hk.2,⟨hk.1.1.2,hk.1.2⟩⟩))),(zzV (Kd.V_mono HL431_5.out (fun _ hk=>⟨hk.2,⟨hk.1.1.2,hk.1.2⟩⟩))),(zzN HO439.out),(zzN (Kd.N_mono HO_5.out (fun _ hk=>⟨hk.2,hk.1.2⟩))),(zzE BK441.out),GW441.out,GE441.out,zzh2⟩)
               rintro ⟨v438,gb441⟩ w43 ⟨hS_,h0_,h1_,h2_,h3_,h4_,h5_,h6_,h7_,h8_,h9_,h10_⟩;have n0_:Aside0 (Kd.V k34 34 w43 w.heap.size (fun k_=>some k_≠(v438:Value).ownBlock∧some k_≠(.slice (some ad428) t422.length co11:Value).ownBlock∧k_≠gb441) (.slice (some ad429) ((rd_T27 t422 x8_3).f5).length c428_5) ((rd_T27 t422 x8_3).f5)):=⟨h0_⟩;have n1_:Aside0 (Kd.V (Kd.int .i64) 3 w43 w.heap.size (fun k_=>some k_≠(v438:Value).ownBlock∧some k_≠(.slice (some ad428) t422.length co11:Value).ownBlock∧k_≠gb441) (.slice A429_3 ((rd_T34 ((rd_T27 t422 x8_3).f5) 0).f3).length c429_3) ((rd_T34 ((rd_T27 t422 x8_3).f5) 0).f3)):=⟨h1_⟩;have n2_:Aside0 (Kd.V (Kd.int .i64) 3 w43 w.heap.size (fun k_=>some k_≠(v438:Value).ownBlock∧some k_≠(.slice (some ad428) t422.length co11:Value).ownBlock∧k_≠gb441) (.slice A429_5 ((rd_T34 ((rd_T27 t422 x8_3).f5) 0).f5).length c429_5) ((rd_T34 ((rd_T27 t422 x8_3).f5) 0).f5)):=⟨h2_⟩;have n3_:Aside0 (Kd.V k34 34 w43 w.heap.size (fun k_=>some k_≠(v438:Value).ownBlock∧some k_≠(.slice (some ad428) t422.length co11:Value).ownBlock∧k_≠gb441) (.slice A430_5 ((rd_T27 t422 x8_3).f5).length c430_5) ((rd_T27 t422 x8_3).f5)):=⟨h3_⟩;have n4_:Aside0 (Kd.V k34 34 w43 w.heap.size (fun k_=>some k_≠(v438:Value).ownBlock∧some k_≠(.slice (some ad428) t422.length co11:Value).ownBlock∧k_≠gb441) (.slice A430_5 ((rd_T27 t422 x8_3).f5).length c430_5) ((rd_T27 t422 x8_3).f5)):=⟨h4_⟩;have n5_:Aside0 (Kd.N k34 34 w43 w.heap.size (fun k_=>some k_≠(.slice (some ad428) t422.length co11:Value).ownBlock∧k_≠gb441) v438 t437):=⟨h5_⟩;have n6_:Aside0 (Kd.N k27 27 w43 w.heap.size (fun k_=>some k_≠(v438:Value).ownBlock∧k_≠gb441) (.slice (some ad428) t422.length co11) t422):=⟨h6_⟩;have n7_:Aside0 (w43.heap[gb441]? = some (.cells #[.bool false,.bool false,.int .i64 0,.int .i64 0,.int .i64 0,.slice none 0 0] 27 (0,0))):=⟨h7_⟩;have n8_:Aside0 (w.heap.size≤gb441):=⟨h8_⟩;have n9_:Aside0 (w.heap.size≤gb441):=⟨h9_⟩;have n10_:Aside0 (Below w.heap.size w w43):=⟨h10_⟩;clear HO_5 HL428_5 HL429_3 HL429_5 HR428_5 HR429_3 HR429_5 HB;clear h0_ h1_ h2_ h3_ h4_ h5_ h6_ h7_ h8_ h9_ h10_;have HL428_5:=n0_;have HL429_3:=n1_;have HL429_5:=n2_;have HL430_5:=n3_;have HL431_5:=n4_;have HO439:=n5_;have HO_5:=n6_;have BK441:=n7_;have GW441:=n8_;have GE441:=n9_;have HB:=n10_;clear n0_ n1_ n2_ n3_ n4_ n5_ n6_ n7_ n8_ n9_ n10_;have hHeld:w43.cell? (ad428.add ((x8_3).toNat * 6))=some (.bool ((rd_T27 t422 x8_3).f0))∧w43.cell? ⟨(ad428.add ((x8_3).toNat * 6)).block,(ad428.add ((x8_3).toNat * 6)).off+1,none⟩=some (.bool ((rd_T27 t422 x8_3).f1))∧w43.cell? ⟨(ad428.add ((x8_3).toNat * 6)).block,(ad428.add ((x8_3).toNat * 6)).off+2,none⟩=some (.int .i64 ((rd_T27 t422 x8_3).f2))∧w43.cell? ⟨(ad428.add ((x8_3).toNat * 6)).block,(ad428.add ((x8_3).toNat * 6)).off+3,none⟩=some (.int .i64 ((rd_T27 t422 x8_3).f3))∧w43.cell? ⟨(ad428.add ((x8_3).toNat * 6)).block,(ad428.add ((x8_3).toNat * 6)).off+4,none⟩=some (.int .i64 ((rd_T27 t422 x8_3).f4))∧w43.cell? ⟨(ad428.add ((x8_3).toNat * 6)).block,(ad428.add ((x8_3).toNat * 6)).off+5,none⟩=some (.slice A430_5 ((rd_T27 t422 x8_3).f5).length c430_5)∧w43.cell? (ad428.add ((x8_3).toNat * 6))=some (.bool ((rd_T27 t422 x8_3).f0))∧w43.cell? ⟨(ad428.add ((x8_3).toNat * 6)).block,(ad428.add ((x8_3).toNat * 6)).off+1,none⟩=some (.bool ((rd_T27 t422 x8_3).f1))∧w43.cell? ⟨(ad428.add ((x8_3).toNat * 6)).block,(ad428.add ((x8_3).toNat * 6)).off+2,none⟩=some (.int .i64 ((rd_T27 t422 x8_3).f2))∧w43.cell? ⟨(ad428.add ((x8_3).toNat * 6)).block,(ad428.add ((x8_3).toNat * 6)).off+3,none⟩=some (.int .i64 ((rd_T27 t422 x8_3).f3))∧w43.cell? ⟨(ad428.add ((x8_3).toNat * 6)).block,(ad428.add ((x8_3).toNat * 6)).off+4,none⟩=some (.int .i64 ((rd_T27 t422 x8_3).f4))∧w43.cell? ⟨(ad428.add ((x8_3).toNat * 6)).block,(ad428.add ((x8_3).toNat * 6)).off+5,none⟩=some (.slice A430_5 ((rd_T27 t422 x8_3).f5).length c430_5):=hS_;obtain ⟨Ao49,co49,eo49⟩:=Kd.N_slice HO439.out;(first|subst eo49|(injection eo49 with f1_ f2_ f3_;have f4_:=f1_.symm;have f5_:=f3_.symm;clear f1_ f2_ f3_;subst f4_;subst f5_));refine norm_ (a':=?_) ?_ ?_;rotate_left
               ·
                simp only [putAll,Act.put,zzq,zzr,zzs];rfl
               refine one_ (i:=19) (N:=none) (zzB 21 1048575) rfl rfl (one_of HT_.out (by kernel_rfl)) (by decide) (fun K hK=>?_);have hs44:w43.cell? ⟨gb441,0,none⟩=some (.bool false):=(zzk BK441.out 0).trans rfl;have hfs44:=zzl BK441.out 0;have hs45:w43.cell? ⟨gb441,1,none⟩=some (.bool false):=(zzk BK441.out 1).trans rfl;have hfs45:=zzl BK441.out 1;have hs46:w43.cell? ⟨gb441,2,none⟩=some (.int .i64 0):=(zzk BK441.out 2).trans rfl;have hfs46:=zzl BK441.out 2;have hs47:w43.cell? ⟨gb441,3,none⟩=some (.int .i64 0):=(zzk BK441.out 3).trans rfl;have hfs47:=zzl BK441.out 3;have hs48:w43.cell? ⟨gb441,4,none⟩=some (.int .i64 0):=(zzk BK441.out 4).trans rfl;have hfs48:=zzl BK441.out 4;have hs50:w43.cell? ⟨gb441,5,none⟩=some (.slice none 0 0):=(zzk BK441.out 5).trans rfl;have hfs50:=zzl BK441.out 5;refine skip_ (w1:=?_) (by rfl) rfl ?_ ?_;rotate_left
               ·
                go_simp;rfl
               have FB0_:=Kd.own_blk (Kd.N_away HO_5.out (fun _ hk=>hk.2));refine hK.out _ _ ⟨((cell_far (p:=⟨gb441,_,none⟩) (by first|exact FB0_|exact zzF3 FB0_) _).trans (((cell_far (p:=⟨gb441,_,none⟩) (by first|exact FB0_|exact zzF3 FB0_) _).trans (((cell_far (p:=⟨gb441,_,none⟩) (by first|exact FB0_|exact zzF3 FB0_) _).trans (((cell_far (p:=⟨gb441,_,none⟩) (by first|exact FB0_|exact zzF3 FB0_) _).trans (((cell_far (p:=⟨gb441,_,none⟩) (by first|exact FB0_|exact zzF3 FB0_) _).trans (((cell_far (p:=⟨gb441,_,none⟩) (by first|exact FB0_|exact zzF3 FB0_) _).trans (hHeld.1)))))))))))),((cell_far (p:=⟨gb441,_,none⟩) (by first|exact FB0_|exact zzF3 FB0_) _).trans (((cell_far (p:=⟨gb441,_,none⟩) (by first|exact FB0_|exact zzF3 FB0_) _).trans (((cell_far (p:=⟨gb441,_,none⟩) (by first|exact FB0_|exact zzF3 FB0_) _).trans (((cell_far (p:=⟨gb441,_,none⟩) (by first|exact FB0_|exact zzF3 FB0_) _).trans (((cell_far (p:=⟨gb441,_,none⟩) (by first|exact FB0_|exact zzF3 FB0_) _).trans (((cell_far (p:=⟨gb441,_,none⟩) (by first|exact FB0_|exact zzF3 FB0_) _).trans (hHeld.2.1)))))))))))),((cell_far (p:=⟨gb441,_,none⟩) (by first|exact FB0_|exact zzF3 FB0_) _).trans (((cell_far (p:=⟨gb441,_,none⟩) (by first|exact FB0_|exact zzF3 FB0_) _).trans (((cell_far (p:=⟨gb441,_,none⟩) (by first|exact FB0_|exact zzF3 FB0_) _).trans (((cell_far (p:=⟨gb441,_,none⟩) (by first|exact FB0_|exact zzF3 FB0_) _).trans (((cell_far (p:=⟨gb441,_,none⟩) (by first|exact FB0_|exact zzF3 FB0_) _).trans (((cell_far (p:=⟨gb441,_,none⟩) (by first|exact FB0_|exact zzF3 FB0_) _).trans (hHeld.2.2.1)))))))))))),((cell_far (p:=⟨gb441,_,none⟩) (by first|exact FB0_|exact zzF3 FB0_) _).trans (((cell_far (p:=⟨gb441,_,none⟩) (by first|exact FB0_|exact zzF3 FB0_) _).trans (((cell_far (p:=⟨gb441,_,none⟩) (by first|exact FB0_|exact zzF3 FB0_) _).trans (((cell_far (p:=⟨gb441,_,none⟩) (by first|exact FB0_|exact zzF3 FB0_) _).trans (((cell_far (p:=⟨gb441,_,none⟩) (by first|exact FB0_|exact zzF3 FB0_) _).trans (((cell_far (p:=⟨gb441,_,none⟩) (by first|exact FB0_|exact zzF3 FB0_) _).trans (hHeld.2.2.2.1)))))))))))),((cell_far (p:=⟨gb441,_,none⟩) (by first|exact FB0_|exact zzF3 FB0_) _).trans (((cell_far (p:=⟨gb441,_,none⟩) (by first|exact FB0_|exact zzF3 FB0_) _).trans (((cell_far (p:=⟨gb441,_,none⟩) (by first|exact FB0_|exact zzF3 FB0_) _).trans (((cell_far (p:=⟨gb441,_,none⟩) (by first|exact FB0_|exact zzF3 FB0_) _).trans (((cell_far (p:=⟨gb441,_,none⟩) (by first|exact FB0_|exact zzF3 FB0_) _).trans (((cell_far (p:=⟨gb441,_,none⟩) (by first|exact FB0_|exact zzF3 FB0_) _).trans (hHeld.2.2.2.2.1)))))))))))),((cell_far (p:=⟨gb441,_,none⟩) (by first|exact FB0_|exact zzF3 FB0_) _).trans (((cell_far (p:=⟨gb441,_,none⟩) (by first|exact FB0_|exact zzF3 FB0_) _).trans (((cell_far (p:=⟨gb441,_,none⟩) (by first|exact FB0_|exact zzF3 FB0_) _).trans (((cell_far (p:=⟨gb441,_,none⟩) (by first|exact FB0_|exact zzF3 FB0_) _).trans (((cell_far (p:=⟨gb441,_,none⟩) (by first|exact FB0_|exact zzF3 FB0_) _).trans (((cell_far (p:=⟨gb441,_,none⟩) (by first|exact FB0_|exact zzF3 FB0_) _).trans (hHeld.2.2.2.2.2.1)))))))))))),((cell_far (p:=⟨gb441,_,none⟩) (by first|exact FB0_|exact zzF3 FB0_) _).trans (((cell_far (p:=⟨gb441,_,none⟩) (by first|exact FB0_|exact zzF3 FB0_) _).trans (((cell_far (p:=⟨gb441,_,none⟩) (by first|exact FB0_|exact zzF3 FB0_) _).trans (((cell_far (p:=⟨gb441,_,none⟩) (by first|exact FB0_|exact zzF3 FB0_) _).trans (((cell_far (p:=⟨gb441,_,none⟩) (by first|exact FB0_|exact zzF3 FB0_) _).trans (((cell_far (p:=⟨gb441,_,none⟩) (by first|exact FB0_|exact zzF3 FB0_) _).trans (hHeld.2.2.2.2.2.2.1)))))))))))),((cell_far (p:=⟨gb441,_,none⟩) (by first|exact FB0_|exact zzF3 FB0_) _).trans (((cell_far (p:=⟨gb441,_,none⟩) (by first|exact FB0_|exact zzF3 FB0_) _).trans (((cell_far (p:=⟨gb441,_,none⟩) (by first|exact FB0_|exact zzF3 FB0_) _).trans (((cell_far (p:=⟨gb441,_,none⟩) (by first|exact FB0_|exact zzF3 FB0_) _).trans (((cell_far (p:=⟨gb441,_,none⟩) (by first|exact FB0_|exact zzF3 FB0_) _).trans (((cell_far (p:=⟨gb441,_,none⟩) (by first|exact FB0_|exact zzF3 FB0_) _).trans (hHeld.2.2.2.2.2.2.2.1)))))))))))),((cell_far (p:=⟨gb441,_,none⟩) (by first|exact FB0_|exact zzF3 FB0_) _).trans (((cell_far (p:=⟨gb441,_,none⟩) (by first|exact FB0_|exact zzF3 FB0_) _).trans (((cell_far (p:=⟨gb441,_,none⟩) (by first|exact FB0_|exact zzF3 FB0_) _).trans (((cell_far (p:=⟨gb441,_,none⟩) (by first|exact FB0_|exact zzF3 FB0_) _).trans (((cell_far (p:=⟨gb441,_,none⟩) (by first|exact FB0_|exact zzF3 FB0_) _).trans (((cell_far (p:=⟨gb441,_,none⟩) (by first|exact FB0_|exact zzF3 FB0_) _).trans (hHeld.2.2.2.2.2.2.2.2.1)))))))))))),((cell_far (p:=⟨gb441,_,none⟩) (by first|exact FB0_|exact zzF3 FB0_) _).trans (((cell_far (p:=⟨gb441,_,none⟩) (by first|exact FB0_|exact zzF3 FB0_) _).trans (((cell_far (p:=⟨gb441,_,none⟩) (by first|exact FB0_|exact zzF3 FB0_) _).trans (((cell_far (p:=⟨gb441,_,none⟩) (by first|exact FB0_|exact zzF3 FB0_) _).trans (((cell_far (p:=⟨gb441,_,none⟩) (by first|exact FB0_|exact zzF3 FB0_) _).trans (((cell_far (p:=⟨gb441,_,none⟩) (by first|exact FB0_|exact zzF3 FB0_) _).trans (hHeld.2.2.2.2.2.2.2.2.2.1)))))))))))),((cell_far (p:=⟨gb441,_,none⟩) (by first|exact FB0_|exact zzF3 FB0_) _).trans (((cell_far (p:=⟨gb441,_,none⟩) (by first|exact FB0_|exact zzF3 FB0_) _).trans (((cell_far (p:=⟨gb441,_,none⟩) (by first|exact FB0_|exact zzF3 FB0_) _).trans (((cell_far (p:=⟨gb441,_,none⟩) (by first|exact FB0_|exact zzF3 FB0_) _).trans (((cell_far (p:=⟨gb441,_,none⟩) (by first|exact FB0_|exact zzF3 FB0_) _).trans (((cell_far (p:=⟨gb441,_,none⟩) (by first|exact FB0_|exact zzF3 FB0_) _).trans (hHeld.2.2.2.2.2.2.2.2.2.2.1)))))))))))),((cell_far (p:=⟨gb441,_,none⟩) (by first|exact FB0_|exact zzF3 FB0_) _).trans (((cell_far (p:=⟨gb441,_,none⟩) (by first|exact FB0_|exact zzF3 FB0_) _).trans (((cell_far (p:=⟨gb441,_,none⟩) (by first|exact FB0_|exact zzF3 FB0_) _).trans (((cell_far (p:=⟨gb441,_,none⟩) (by first|exact FB0_|exact zzF3 FB0_) _).trans (((cell_far (p:=⟨gb441,_,none⟩) (by first|exact FB0_|exact zzF3 FB0_) _).trans (((cell_far (p:=⟨gb441,_,none⟩) (by first|exact FB0_|exact zzF3 FB0_) _).trans (hHeld.2.2.2.2.2.2.2.2.2.2.2))))))))))))⟩ (fun hHeld=>?_);clear hK K;refine pure_ (i:=20) (N:=some 10) (v:=?_) (a':=?_) (zzB 21 2097151) rfl rfl (zzA2 HT_.out) (fun _ _ _ h=>h) (Or.inl ⟨by rfl,?_⟩) ?_ ?_;rotate_left
               ·
                intro w';go_simp;with_reducible rfl
               rotate_left
               ·
                simp only [Act.put,zzq,zzr,zzs,i64_w,i32_w];rfl
               refine done_ (done_of HT_.out (by kernel_rfl)) ?_;obtain ⟨hcz51_0,hcz51_1,hcz51_2,hcz51_3,hcz51_4,hcz51_5,hfz51_0,hfz51_1,hfz51_2,hfz51_3,hfz51_4,hfz51_5⟩:=zzc6 BK441.out;try go_wp2_with (first|((with_reducible refine gate_callee (f:=35) rfl ?_);refine goesL_ (some 74) rfl rfl Try.func35 (by kernel_rfl) rfl #[.slice (some ad428) t422.length co11,.agg #[.bool t432,.bool t433,.int .i64 t434,.int .i64 t435,.int .i64 t436,.slice Ao49 t437.length co49]] rfl zzM2 ?_;(with_reducible refine (impl_LogAppend.calls k3 _ _ t422 t432 t433 t434 t435 t436 _ _ t437 t442 false _ ?side1 ?side2 ?side3 ?side4 A21.out).mono ?_);(case side1=>refine (Kd.N_reads' (e:=27) (base:=w.heap.size) (ok:=fun k_=>(some k_≠(.slice Ao49 t437.length co49:Value).ownBlock∧k_≠gb441)) (n:=t422.length) (c:=co11) ?_).2.2;exact (zzN ((Kd.N_mono (Kd.N_far (p:=⟨gb441,5,none⟩) (Kd.N_far (p:=⟨gb441,4,none⟩) (Kd.N_far (p:=⟨gb441,3,none⟩) (Kd.N_far (p:=⟨gb441,2,none⟩) (Kd.N_far (p:=⟨gb441,1,none⟩) (Kd.N_far (p:=⟨gb441,0,none⟩) (Kd.N_mono HO_5.out (fun k_ hk=>(⟨hk,hk.2⟩:_∧k_≠gb441))) (fun _ hk=>hk.2) (.bool t432)) (fun _ hk=>hk.2) (.bool t433)) (fun _ hk=>hk.2) (.int .i64 t434)) (fun _ hk=>hk.2) (.int .i64 t435)) (fun _ hk=>hk.2) (.int .i64 t436)) (fun _ hk=>hk.2) (.slice Ao49 t437.length co49)) (fun _ h_=>h_.1)))));(case side2=>exact (Kd.N_reads' HO_5.out).2.1);(case side3=>refine (Kd.N_reads' (e:=34) (base:=w.heap.size) (ok:=fun k_=>(some k_≠(.slice (some ad428) t422.length co11:Value).ownBlock∧k_≠gb441)) (n:=t437.length) (c:=co49) ?_).2.2;exact (zzN ((Kd.N_mono (Kd.N_far (p:=⟨gb441,5,none⟩) (Kd.N_far (p:=⟨gb441,4,none⟩) (Kd.N_far (p:=⟨gb441,3,none⟩) (Kd.N_far (p:=⟨gb441,2,none⟩) (Kd.N_far (p:=⟨gb441,1,none⟩) (Kd.N_far (p:=⟨gb441,0,none⟩) (Kd.N_mono HO439.out (fun k_ hk=>(⟨hk,hk.2⟩:_∧k_≠gb441))) (fun _ hk=>hk.2) (.bool t432)) (fun _ hk=>hk.2) (.bool t433)) (fun _ hk=>hk.2) (.int .i64 t434)) (fun _ hk=>hk.2) (.int .i64 t435)) (fun _ hk=>hk.2) (.int .i64 t436)) (fun _ hk=>hk.2) (.slice Ao49 t437.length co49)) (fun _ h_=>h_.1)))));(case side4=>exact (Kd.N_reads' HO439.out).2.1);rintro e w52 ⟨v443,rfl,ho0,hb⟩;refine ⟨_,rfl,?_⟩;have n0_:=zzm (Kd.N_elder' (zzN ((Kd.N_mono (Kd.N_far (p:=⟨gb441,5,none⟩) (Kd.N_far (p:=⟨gb441,4,none⟩) (Kd.N_far (p:=⟨gb441,3,none⟩) (Kd.N_far (p:=⟨gb441,2,none⟩) (Kd.N_far (p:=⟨gb441,1,none⟩) (Kd.N_far (p:=⟨gb441,0,none⟩) (Kd.N_mono HO_5.out (fun k_ hk=>(⟨hk,hk.2⟩:_∧k_≠gb441))) (fun _ hk=>hk.2) (.bool t432)) (fun _ hk=>hk.2) (.bool t433)) (fun _ hk=>hk.2) (.int .i64 t434)) (fun _ hk=>hk.2) (.int .i64 t435)) (fun _ hk=>hk.2) (.int .i64 t436)) (fun _ hk=>hk.2) (.slice Ao49 t437.length co49)) (fun _ h_=>h_.1)))) (Kd.N_base ho0) hb);have n1_:=zzm (Kd.V_elder' (zzV ((Kd.V_mono (Kd.V_far (p:=⟨gb441,5,none⟩) (Kd.V_far (p:=⟨gb441,4,none⟩) (Kd.V_far (p:=⟨gb441,3,none⟩) (Kd.V_far (p:=⟨gb441,2,none⟩) (Kd.V_far (p:=⟨gb441,1,none⟩) (Kd.V_far (p:=⟨gb441,0,none⟩) (Kd.V_mono HL428_5.out (fun k_ hk=>(⟨hk,hk.2.2⟩:_∧k_≠gb441))) (fun _ hk=>hk.2) (.bool t432)) (fun _ hk=>hk.2) (.bool t433)) (fun _ hk=>hk.2) (.int .i64 t434)) (fun _ hk=>hk.2) (.int .i64 t435)) (fun _ hk=>hk.2) (.int .i64 t436)) (fun _ hk=>hk.2) (.slice Ao49 t437.length co49)) (fun _ h_=>h_.1)))) (Kd.N_base ho0) hb);have n2_:=zzm (Kd.V_elder' (zzV ((Kd.V_mono (Kd.V_far (p:=⟨gb441,5,none⟩) (Kd.V_far (p:=⟨gb441,4,none⟩) (Kd.V_far (p:=⟨gb441,3,none⟩) (Kd.V_far (p:=⟨gb441,2,none⟩) (Kd.V_far (p:=⟨gb441,1,none⟩) (Kd.V_far (p:=⟨gb441,0,none⟩) (Kd.V_mono HL429_3.out (fun k_ hk=>(⟨hk,hk.2.2⟩:_∧k_≠gb441))) (fun _ hk=>hk.2) (.bool t432)) (fun _ hk=>hk.2) (.bool t433)) (fun _ hk=>hk.2) (.int .i64 t434)) (fun _ hk=>hk.2) (.int .i64 t435)) (fun _ hk=>hk.2) (.int .i64 t436)) (fun _ hk=>hk.2) (.slice Ao49 t437.length co49)) (fun _ h_=>h_.1)))) (Kd.N_base ho0) hb);have n3_:=zzm (Kd.V_elder' (zzV ((Kd.V_mono (Kd.V_far (p:=⟨gb441,5,none⟩) (Kd.V_far (p:=⟨gb441,4,none⟩) (Kd.V_far (p:=⟨gb441,3,none⟩) (Kd.V_far (p:=⟨gb441,2,none⟩) (Kd.V_far (p:=⟨gb441,1,none⟩) (Kd.V_far (p:=⟨gb441,0,none⟩) (Kd.V_mono HL429_5.out (fun k_ hk=>(⟨hk,hk.2.2⟩:_∧k_≠gb441))) (fun _ hk=>hk.2) (.bool t432)) (fun _ hk=>hk.2) (.bool t433)) (fun _ hk=>hk.2) (.int .i64 t434)) (fun _ hk=>hk.2) (.int .i64 t435)) (fun _ hk=>hk.2) (.int .i64 t436)) (fun _ hk=>hk.2) (.slice Ao49 t437.length co49)) (fun _ h_=>h_.1)))) (Kd.N_base ho0) hb);have n4_:=zzm (Kd.V_elder' (zzV ((Kd.V_mono (Kd.V_far (p:=⟨gb441,5,none⟩) (Kd.V_far (p:=⟨gb441,4,none⟩) (Kd.V_far (p:=⟨gb441,3,none⟩) (Kd.V_far (p:=⟨gb441,2,none⟩) (Kd.V_far (p:=⟨gb441,1,none⟩) (Kd.V_far (p:=⟨gb441,0,none⟩) (Kd.V_mono HL430_5.out (fun k_ hk=>(⟨hk,hk.2.2⟩:_∧k_≠gb441))) (fun _ hk=>hk.2) (.bool t432)) (fun _ hk=>hk.2) (.bool t433)) (fun _ hk=>hk.2) (.int .i64 t434)) (fun _ hk=>hk.2) (.int .i64 t435)) (fun _ hk=>hk.2) (.int .i64 t436)) (fun _ hk=>hk.2) (.slice Ao49 t437.length co49)) (fun _ h_=>h_.1)))) (Kd.N_base ho0) hb);have n5_:=zzm (Kd.V_elder' (zzV ((Kd.V_mono (Kd.V_far (p:=⟨gb441,5,none⟩) (Kd.V_far (p:=⟨gb441,4,none⟩) (Kd.V_far (p:=⟨gb441,3,none⟩) (Kd.V_far (p:=⟨gb441,2,none⟩) (Kd.V_far (p:=⟨gb441,1,none⟩) (Kd.V_far (p:=⟨gb441,0,none⟩) (Kd.V_mono HL431_5.out (fun k_ hk=>(⟨hk,hk.2.2⟩:_∧k_≠gb441))) (fun _ hk=>hk.2) (.bool t432)) (fun _ hk=>hk.2) (.bool t433)) (fun _ hk=>hk.2) (.int .i64 t434)) (fun _ hk=>hk.2) (.int .i64 t435)) (fun _ hk=>hk.2) (.int .i64 t436)) (fun _ hk=>hk.2) (.slice Ao49 t437.length co49)) (fun _ h_=>h_.1)))) (Kd.N_base ho0) hb);have n6_:=zzm (Kd.N_elder' (zzN ((Kd.N_mono (Kd.N_far (p:=⟨gb441,5,none⟩) (Kd.N_far (p:=⟨gb441,4,none⟩) (Kd.N_far (p:=⟨gb441,3,none⟩) (Kd.N_far (p:=⟨gb441,2,none⟩) (Kd.N_far (p:=⟨gb441,1,none⟩) (Kd.N_far (p:=⟨gb441,0,none⟩) (Kd.N_mono HO439.out (fun k_ hk=>(⟨hk,hk.2⟩:_∧k_≠gb441))) (fun _ hk=>hk.2) (.bool t432)) (fun _ hk=>hk.2) (.bool t433)) (fun _ hk=>hk.2) (.int .i64 t434)) (fun _ hk=>hk.2) (.int .i64 t435)) (fun _ hk=>hk.2) (.int .i64 t436)) (fun _ hk=>hk.2) (.slice Ao49 t437.length co49)) (fun _ h_=>h_.1)))) (Kd.N_base ho0) hb);have n7_:=zzm (Kd.N_lower (Kd.N_mono (ok':=fun k_=>some k_≠(.slice (some ad428) t422.length co11:Value).ownBlock∧some k_≠(.slice Ao49 t437.length co49:Value).ownBlock∧k_≠gb441) ho0 (fun k_ hk_=>⟨(Kd.fresh' (Kd.N_lt (zzN ((Kd.N_mono (Kd.N_far (p:=⟨gb441,5,none⟩) (Kd.N_far (p:=⟨gb441,4,none⟩) (Kd.N_far (p:=⟨gb441,3,none⟩) (Kd.N_far (p:=⟨gb441,2,none⟩) (Kd.N_far (p:=⟨gb441,1,none⟩) (Kd.N_far (p:=⟨gb441,0,none⟩) (Kd.N_mono HO_5.out (fun k_ hk=>(⟨hk,hk.2⟩:_∧k_≠gb441))) (fun _ hk=>hk.2) (.bool t432)) (fun _ hk=>hk.2) (.bool t433)) (fun _ hk=>hk.2) (.int .i64 t434)) (fun _ hk=>hk.2) (.int .i64 t435)) (fun _ hk=>hk.2) (.int .i64 t436)) (fun _ hk=>hk.2) (.slice Ao49 t437.length co49)) (fun _ h_=>h_.1))))) k_ hk_),(Kd.fresh' (Kd.N_lt (zzN ((Kd.N_mono (Kd.N_far (p:=⟨gb441,5,none⟩) (Kd.N_far (p:=⟨gb441,4,none⟩) (Kd.N_far (p:=⟨gb441,3,none⟩) (Kd.N_far (p:=⟨gb441,2,none⟩) (Kd.N_far (p:=⟨gb441,1,none⟩) (Kd.N_far (p:=⟨gb441,0,none⟩) (Kd.N_mono HO439.out (fun k_ hk=>(⟨hk,hk.2⟩:_∧k_≠gb441))) (fun _ hk=>hk.2) (.bool t432)) (fun _ hk=>hk.2) (.bool t433)) (fun _ hk=>hk.2) (.int .i64 t434)) (fun _ hk=>hk.2) (.int .i64 t435)) (fun _ hk=>hk.2) (.int .i64 t436)) (fun _ hk=>hk.2) (.slice Ao49 t437.length co49)) (fun _ h_=>h_.1))))) k_ hk_),(Kd.freshB (g:=gb441) (o:=.cells #[.bool t432,.bool t433,.int .i64 t434,.int .i64 t435,.int .i64 t436,.slice Ao49 t437.length co49] 27 (0,0)) (by (with_reducible repeat (first|apply zzf|apply zzg|apply zze));refine zzi (cs:=#[.bool t432,.bool t433,.int .i64 t434,.int .i64 t435,.int .i64 t436,.slice none 0 0]) ?_ 5 _ rfl;(with_reducible repeat (first|apply zzf|apply zzg|apply zze));refine zzi (cs:=#[.bool t432,.bool t433,.int .i64 t434,.int .i64 t435,.int .i64 0,.slice none 0 0]) ?_ 4 _ rfl;(with_reducible repeat (first|apply zzf|apply zzg|apply zze));refine zzi (cs:=#[.bool t432,.bool t433,.int .i64 t434,.int .i64 0,.int .i64 0,.slice none 0 0]) ?_ 3 _ rfl;(with_reducible repeat (first|apply zzf|apply zzg|apply zze));refine zzi (cs:=#[.bool t432,.bool t433,.int .i64 0,.int .i64 0,.int .i64 0,.slice none 0 0]) ?_ 2 _ rfl;(with_reducible repeat (first|apply zzf|apply zzg|apply zze));refine zzi (cs:=#[.bool t432,.bool false,.int .i64 0,.int .i64 0,.int .i64 0,.slice none 0 0]) ?_ 1 _ rfl;(with_reducible repeat (first|apply zzf|apply zzg|apply zze));refine zzi (cs:=#[.bool false,.bool false,.int .i64 0,.int .i64 0,.int .i64 0,.slice none 0 0]) ?_ 0 _ rfl;(with_reducible repeat (first|apply zzf|apply zzg|apply zze));exact BK441.out) k_ hk_)⟩)) (zzo zzh2));have n8_:=zzm (zzh (g:=gb441) (o:=.cells #[.bool t432,.bool t433,.int .i64 t434,.int .i64 t435,.int .i64 t436,.slice Ao49 t437.length co49] 27 (0,0)) (by (with_reducible repeat (first|apply zzf|apply zzg|apply zze));refine zzi (cs:=#[.bool t432,.bool t433,.int .i64 t434,.int .i64 t435,.int .i64 t436,.slice none 0 0]) ?_ 5 _ rfl;(with_reducible repeat (first|apply zzf|apply zzg|apply zze));refine zzi (cs:=#[.bool t432,.bool t433,.int .i64 t434,.int .i64 t435,.int .i64 0,.slice none 0 0]) ?_ 4 _ rfl;(with_reducible repeat (first|apply zzf|apply zzg|apply zze));refine zzi (cs:=#[.bool t432,.bool t433,.int .i64 t434,.int .i64 0,.int .i64 0,.slice none 0 0]) ?_ 3 _ rfl;(with_reducible repeat (first|apply zzf|apply zzg|apply zze));refine zzi (cs:=#[.bool t432,.bool t433,.int .i64 0,.int .i64 0,.int .i64 0,.slice none 0 0]) ?_ 2 _ rfl;(with_reducible repeat (first|apply zzf|apply zzg|apply zze));refine zzi (cs:=#[.bool t432,.bool false,.int .i64 0,.int .i64 0,.int .i64 0,.slice none 0 0]) ?_ 1 _ rfl;(with_reducible repeat (first|apply zzf|apply zzg|apply zze));refine zzi (cs:=#[.bool false,.bool false,.int .i64 0,.int .i64 0,.int .i64 0,.slice none 0 0]) ?_ 0 _ rfl;(with_reducible repeat (first|apply zzf|apply zzg|apply zze));exact BK441.out) hb);have n9_:=zzm (zzp zzh2 hb);clear HO_5 HL428_5 HL429_3 HL429_5 HL430_5 HL431_5 HO439 BK441 HB;have HO_5:=n0_;have HL428_5:=n1_;have HL429_3:=n2_;have HL429_5:=n3_;have HL430_5:=n4_;have HL431_5:=n5_;have HO439:=n6_;have HO444:=n7_;have BK441:=n8_;have HB:=n9_;clear n0_ n1_ n2_ n3_ n4_ n5_ n6_ n7_ n8_ n9_;(try clear hb);(try clear hb2);(try clear hk);(try clear hi);(try clear ho0)))
               go_ret;exact ⟨by first|rfl|(simp [errW_none,errW_some] <;> rfl)|(simp [*,errW_none,errW_some] <;> rfl),by repeat (first|(with_reducible first|exact HB.out|apply zza|apply zzb|apply zzc|refine zzd ?_ GE441.out)|exact HB.out)⟩
             ·
              replace c22:=Bool.eq_false_iff.mpr c22;subst c22;have H1:(some true)=some r:=by rw [if_neg (show ¬ (false=true) by decide)] at H;exact H
              clear H;have H:=H1;clear H1;obtain rfl:=Option.some.inj H;have p428 : 0≤(x8_3:Int):=zzt;have q428:x8_3 < (t422.length:Int):=zzt;obtain ⟨ad428,A428_5,c428_5,e428,hx428_0,hx428_1,hx428_2,hx428_3,hx428_4,hx428_5,hl428_5,hi428_5⟩:=at_T27 (Kd.N_reads' HO_5.out).2.2 x8_3 p428 q428;cases e428;obtain ⟨ce428,hce428,hMe428,hcc428⟩:=Kd.N_get HO_5.out z27 x8_3 p428 (by first|exact q428|exact zzt|(have e_:=(Kd.N_reads' HO_5.out).1;omega));obtain ⟨ua428_5,uc428_5,rfl,ul428_5,ge428_5⟩:=k27_openF hMe428;have hv428_5:=hcc428 5 _ rfl;rw [add_field _ _ 5 (by omega)] at hv428_5;replace hv428_5:=Option.some.inj (hv428_5.symm.trans hx428_5);injection hv428_5 with hva_ hvn_ hvc_;rw [hva_] at ge428_5;rw [hvc_] at ul428_5;have HL428_5:=zzm (show Kd.V k34 34 _ w.heap.size _ _ ((rd_T27 t422 x8_3).f5) from Kd.V_mk ul428_5 ge428_5);clear hva_ hvn_ hvc_ ge428_5 ul428_5;clear hcc428 hce428;have HR428_5:=zzm hi428_5;have HC428_5:=zzm hl428_5;clear hi428_5 hl428_5;replace p428:=eq_true p428;replace q428:=eq_true q428;have p429 : 0≤(0:Int):=(by omega);have q429 : 0 < (((rd_T27 t422 x8_3).f5).length:Int):=zzt;obtain ⟨ad429,A429_3,c429_3,A429_5,c429_5,e429,hx429_0,hx429_1,hx429_2,hx429_3,hx429_4,hx429_5,hl429_3,hi429_3,hl429_5,hi429_5⟩:=at_T34 (zzC HR428_5.out) 0 p429 q429;cases e429;obtain ⟨ce429,hce429,hMe429,hcc429⟩:=Kd.V_get HL428_5.out z34 0 p429 (by first|exact q429|exact zzt|(have e_:=(Kd.V_reads' HL428_5.out).1;omega));obtain ⟨ua429_3,uc429_3,ua429_5,uc429_5,rfl,ul429_3,ge429_3,ul429_5,ge429_5⟩:=k34_openF hMe429;have hv429_3:=hcc429 3 _ rfl;rw [add_field _ _ 3 (by omega)] at hv429_3;replace hv429_3:=Option.some.inj (hv429_3.symm.trans hx429_3);injection hv429_3 with hva_ hvn_ hvc_;rw [hva_] at ge429_3;rw [hvc_] at ul429_3;have HL429_3:=zzm (show Kd.V (Kd.int .i64) 3 _ w.heap.size _ _ ((rd_T34 ((rd_T27 t422 x8_3).f5) 0).f3) from Kd.V_mk ul429_3 ge429_3);clear hva_ hvn_ hvc_ ge429_3 ul429_3;have hv429_5:=hcc429 5 _ rfl;rw [add_field _ _ 5 (by omega)] at hv429_5;replace hv429_5:=Option.some.inj (hv429_5.symm.trans hx429_5);injection hv429_5 with hva_ hvn_ hvc_;rw [hva_] at ge429_5;rw [hvc_] at ul429_5;have HL429_5:=zzm (show Kd.V (Kd.int .i64) 3 _ w.heap.size _ _ ((rd_T34 ((rd_T27 t422 x8_3).f5) 0).f5) from Kd.V_mk ul429_5 ge429_5);clear hva_ hvn_ hvc_ ge429_5 ul429_5;clear hcc429 hce429;have qi429:(0 < ((rd_T27 t422 x8_3).f5).length)=True:=eq_true (by omega);(try rw [show ((0:Int)).toNat=0 from rfl] at hx429_0);(try rw [show 0 * 6=0 from rfl] at hx429_0);(try rw [Addr.add_zero'] at hx429_0);(try rw [show ((0:Int)).toNat=0 from rfl] at hx429_1);(try rw [show 0 * 6=0 from rfl] at hx429_1);(try rw [Addr.add_zero'] at hx429_1);(try rw [show ((0:Int)).toNat=0 from rfl] at hx429_2);(try rw [show 0 * 6=0 from rfl] at hx429_2);(try rw [Addr.add_zero'] at hx429_2);(try rw [show ((0:Int)).toNat=0 from rfl] at hx429_3);(try rw [show 0 * 6=0 from rfl] at hx429_3);(try rw [Addr.add_zero'] at hx429_3);(try rw [show ((0:Int)).toNat=0 from rfl] at hx429_4);(try rw [show 0 * 6=0 from rfl] at hx429_4);(try rw [Addr.add_zero'] at hx429_4);(try rw [show ((0:Int)).toNat=0 from rfl] at hx429_5);(try rw [show 0 * 6=0 from rfl] at hx429_5);(try rw [Addr.add_zero'] at hx429_5);have HR429_3:=zzm hi429_3;have HC429_3:=zzm hl429_3;clear hi429_3 hl429_3;have HR429_5:=zzm hi429_5;have HC429_5:=zzm hl429_5;clear hi429_5 hl429_5;replace p429:=eq_true p429;replace q429:=eq_true q429;try go_wp2
              have n0_:=zzm (Kd.N_drew HO_5.out);have n1_:=zzm (Kd.V_drew HL428_5.out);have n2_:=zzm (Kd.V_drew HL429_3.out);have n3_:=zzm (Kd.V_drew HL429_5.out);have n4_:=zzm (Kd.C_drew HR428_5.out);have n5_:=zzm (Kd.C_drew HR429_3.out);have n6_:=zzm (Kd.C_drew HR429_5.out);have n7_:=zzm (zzc HB.out);clear HO_5 HL428_5 HL429_3 HL429_5 HR428_5 HR429_3 HR429_5 HB;have HO_5:=n0_;have HL428_5:=n1_;have HL429_3:=n2_;have HL429_5:=n3_;have HR428_5:=n4_;have HR429_3:=n5_;have HR429_5:=n6_;have HB:=n7_;clear n0_ n1_ n2_ n3_ n4_ n5_ n6_ n7_;have p430 : 0≤(x8_3:Int):=zzt;have q430:x8_3 < (t422.length:Int):=zzt;obtain ⟨ad430,A430_5,c430_5,e430,hx430_0,hx430_1,hx430_2,hx430_3,hx430_4,hx430_5,hl430_5,hi430_5⟩:=at_T27 (Kd.N_reads' HO_5.out).2.2 x8_3 p430 q430;obtain rfl:ad428=ad430:=(by injection e430);obtain ⟨ce430,hce430,hMe430,hcc430⟩:=Kd.N_get HO_5.out z27 x8_3 p430 (by first|exact q430|exact zzt|(have e_:=(Kd.N_reads' HO_5.out).1;omega));obtain ⟨ua430_5,uc430_5,rfl,ul430_5,ge430_5⟩:=k27_openF hMe430;have hv430_5:=hcc430 5 _ rfl;rw [add_field _ _ 5 (by omega)] at hv430_5;replace hv430_5:=Option.some.inj (hv430_5.symm.trans hx430_5);injection hv430_5 with hva_ hvn_ hvc_;rw [hva_] at ge430_5;rw [hvc_] at ul430_5;have HL430_5:=zzm (show Kd.V k34 34 _ w.heap.size _ _ ((rd_T27 t422 x8_3).f5) from Kd.V_mk ul430_5 ge430_5);clear hva_ hvn_ hvc_ ge430_5 ul430_5;clear hcc430 hce430;have HR430_5:=zzm hi430_5;have HC430_5:=zzm hl430_5;clear hi430_5 hl430_5;replace p430:=eq_true p430;replace q430:=eq_true q430;have p431 : 0≤(x8_3:Int):=zzt;have q431:x8_3 < (t422.length:Int):=zzt;obtain ⟨ad431,A431_5,c431_5,e431,hx431_0,hx431_1,hx431_2,hx431_3,hx431_4,hx431_5,hl431_5,hi431_5⟩:=at_T27 (Kd.N_reads' HO_5.out).2.2 x8_3 p431 q431;obtain rfl:ad428=ad431:=(by injection e431);obtain ⟨ce431,hce431,hMe431,hcc431⟩:=Kd.N_get HO_5.out z27 x8_3 p431 (by first|exact q431|exact zzt|(have e_:=(Kd.N_reads' HO_5.out).1;omega));obtain ⟨ua431_5,uc431_5,rfl,ul431_5,ge431_5⟩:=k27_openF hMe431;have hv431_5:=hcc431 5 _ rfl;rw [add_field _ _ 5 (by omega)] at hv431_5;replace hv431_5:=Option.some.inj (hv431_5.symm.trans hx431_5);injection hv431_5 with hva_ hvn_ hvc_;rw [hva_] at ge431_5;rw [hvc_] at ul431_5;have HL431_5:=zzm (show Kd.V k34 34 _ w.heap.size _ _ ((rd_T27 t422 x8_3).f5) from Kd.V_mk ul431_5 ge431_5);clear hva_ hvn_ hvc_ ge431_5 ul431_5;clear hcc431 hce431;have HR431_5:=zzm hi431_5;have HC431_5:=zzm hl431_5;clear hi431_5 hl431_5;replace p431:=eq_true p431;replace q431:=eq_true q431;have ea_:=Option.some.inj (hx430_5.symm.trans hx431_5);injection ea_ with ea_ en_ ec_;subst ea_;subst ec_;clear en_;refine start_ (n:=21) (S:=fun w'=>w'.cell? (ad428.add ((x8_3).toNat * 6))=some (.bool ((rd_T27 t422 x8_3).f0))∧w'.cell? ⟨(ad428.add ((x8_3).toNat * 6)).block,(ad428.add ((x8_3).toNat * 6)).off+1,none⟩=some (.bool ((rd_T27 t422 x8_3).f1))∧w'.cell? ⟨(ad428.add ((x8_3).toNat * 6)).block,(ad428.add ((x8_3).toNat * 6)).off+2,none⟩=some (.int .i64 ((rd_T27 t422 x8_3).f2))∧w'.cell? ⟨(ad428.add ((x8_3).toNat * 6)).block,(ad428.add ((x8_3).toNat * 6)).off+3,none⟩=some (.int .i64 ((rd_T27 t422 x8_3).f3))∧w'.cell? ⟨(ad428.add ((x8_3).toNat * 6)).block,(ad428.add ((x8_3).toNat * 6)).off+4,none⟩=some (.int .i64 ((rd_T27 t422 x8_3).f4))∧w'.cell? ⟨(ad428.add ((x8_3).toNat * 6)).block,(ad428.add ((x8_3).toNat * 6)).off+5,none⟩=some (.slice A430_5 ((rd_T27 t422 x8_3).f5).length c430_5)∧w'.cell? (ad428.add ((x8_3).toNat * 6))=some (.bool ((rd_T27 t422 x8_3).f0))∧w'.cell? ⟨(ad428.add ((x8_3).toNat * 6)).block,(ad428.add ((x8_3).toNat * 6)).off+1,none⟩=some (.bool ((rd_T27 t422 x8_3).f1))∧w'.cell? ⟨(ad428.add ((x8_3).toNat * 6)).block,(ad428.add ((x8_3).toNat * 6)).off+2,none⟩=some (.int .i64 ((rd_T27 t422 x8_3).f2))∧w'.cell? ⟨(ad428.add ((x8_3).toNat * 6)).block,(ad428.add ((x8_3).toNat * 6)).off+3,none⟩=some (.int .i64 ((rd_T27 t422 x8_3).f3))∧w'.cell? ⟨(ad428.add ((x8_3).toNat * 6)).block,(ad428.add ((x8_3).toNat * 6)).off+4,none⟩=some (.int .i64 ((rd_T27 t422 x8_3).f4))∧w'.cell? ⟨(ad428.add ((x8_3).toNat * 6)).block,(ad428.add ((x8_3).toNat * 6)).off+5,none⟩=some (.slice A430_5 ((rd_T27 t422 x8_3).f5).length c430_5)) (ds:=[]) (zzB 21 0) (by kernel_rfl) rfl rfl ⟨hx430_0,hx430_1,hx430_2,hx430_3,hx430_4,hx430_5,hx431_0,hx431_1,hx431_2,hx431_3,hx431_4,hx431_5⟩ (fun hHeld=>?_);refine with_tabW laws_FnStableDecide.tab12 laws_FnStableDecide.bits12 (fun HT_ HW_=>?_);generalize wr.drew=w53 at HO_5 HL428_5 HL429_3 HL429_5 HR428_5 HR429_3 HR429_5 HB HL430_5 HL431_5 HR430_5 HR431_5 hx430_0 hx430_1 hx430_2 hx430_3 hx430_4 hx430_5 hx431_0 hx431_1 hx431_2 hx431_3 hx431_4 hx431_5 hHeld ⊢;refine pure_ (i:=0) (N:=some 54) (v:=?_) (a':=?_) (zzB 21 1) rfl rfl (zzA2 HT_.out) (fun _ _ _ h=>h) (Or.inl ⟨by rfl,?_⟩) ?_ ?_;rotate_left
              ·
               intro w';go_simp;with_reducible rfl
              rotate_left
              ·
               simp only [Act.put,zzq,zzr,zzs,i64_w,i32_w];rfl
              refine pure_ (i:=1) (N:=some 55) (v:=?_) (a':=?_) (zzB 21 3) rfl rfl (zzA2 HT_.out) (fun _ _ _ h=>h) (Or.inl ⟨by rfl,?_⟩) ?_ ?_;rotate_left
              ·
               intro w';go_simp;with_reducible rfl
              rotate_left
              ·
               simp only [Act.put,zzq,zzr,zzs,i64_w,i32_w];rfl
              refine pure_ (i:=2) (N:=some 56) (v:=?_) (a':=?_) (zzB 21 7) rfl rfl (zzA2 HT_.out) (fun _ _ _ h=>h) (Or.inl ⟨by rfl,?_⟩) ?_ ?_;rotate_left
              ·
               intro w';go_simp;with_reducible rfl
              rotate_left
              ·
               simp only [Act.put,zzq,zzr,zzs,i64_w,i32_w];rfl
              refine pure_ (i:=3) (N:=some 57) (v:=?_) (a':=?_) (zzB 21 15) rfl rfl (zzA2 HT_.out) (fun _ _ _ h=>h) (Or.inl ⟨by rfl,?_⟩) ?_ ?_;rotate_left
              ·
               intro w';go_simp;with_reducible rfl
              rotate_left
              ·
               simp only [Act.put,zzq,zzr,zzs,i64_w,i32_w];rfl
              refine pure_ (i:=5) (N:=some 59) (v:=?_) (a':=?_) (zzB 21 47) rfl rfl (zzA2 HT_.out) (fun _ _ _ h=>h) (Or.inl ⟨by rfl,?_⟩) ?_ ?_;rotate_left
              ·
               intro w';go_simp;with_reducible rfl
              rotate_left
              ·
               simp only [Act.put,zzq,zzr,zzs,i64_w,i32_w];rfl
              refine pure_ (i:=6) (N:=some 60) (v:=?_) (a':=?_) (zzB 21 111) rfl rfl (zzA2 HT_.out) (fun _ _ _ h=>h) (Or.inl ⟨by rfl,?_⟩) ?_ ?_;rotate_left
              ·
               intro w';go_simp;with_reducible rfl
              rotate_left
              ·
               simp only [Act.put,zzq,zzr,zzs,i64_w,i32_w];rfl
              refine pure_ (i:=7) (N:=some 61) (v:=?_) (a':=?_) (zzB 21 239) rfl rfl (zzA2 HT_.out) (fun _ _ _ h=>h) (Or.inl ⟨by rfl,?_⟩) ?_ ?_;rotate_left
              ·
               intro w';go_simp;with_reducible rfl
              rotate_left
              ·
               simp only [Act.put,zzq,zzr,zzs,i64_w,i32_w];rfl
              refine pure_ (i:=8) (N:=some 62) (v:=?_) (a':=?_) (zzB 21 495) rfl rfl (zzA2 HT_.out) (fun _ _ _ h=>h) (Or.inl ⟨by rfl,?_⟩) ?_ ?_;rotate_left
              ·
               intro w';go_simp;with_reducible rfl
              rotate_left
              ·
               simp only [Act.put,zzq,zzr,zzs,i64_w,i32_w];rfl
              refine pure_ (i:=10) (N:=some 64) (v:=?_) (a':=?_) (zzB 21 1519) rfl rfl (zzA2 HT_.out) (fun _ _ _ h=>h) (Or.inl ⟨by rfl,?_⟩) ?_ ?_;rotate_left
              ·
               intro w';go_simp;with_reducible rfl
              rotate_left
              ·
               simp only [Act.put,zzq,zzr,zzs,i64_w,i32_w];rfl
              refine pure_ (i:=11) (N:=some 65) (v:=?_) (a':=?_) (zzB 21 3567) rfl rfl (zzA2 HT_.out) (fun _ _ _ h=>h) (Or.inl ⟨by rfl,?_⟩) ?_ ?_;rotate_left
              ·
               intro w';go_simp;with_reducible rfl
              rotate_left
              ·
               simp only [Act.put,zzq,zzr,zzs,i64_w,i32_w];rfl
              refine pure_ (i:=12) (N:=some 66) (v:=?_) (a':=?_) (zzB 21 7663) rfl rfl (zzA2 HT_.out) (fun _ _ _ h=>h) (Or.inl ⟨by rfl,?_⟩) ?_ ?_;rotate_left
              ·
               intro w';go_simp;with_reducible rfl
              rotate_left
              ·
               simp only [Act.put,zzq,zzr,zzs,i64_w,i32_w];rfl
              refine pure_ (i:=13) (N:=some 67) (v:=?_) (a':=?_) (zzB 21 15855) rfl rfl (zzA2 HT_.out) (fun _ _ _ h=>h) (Or.inl ⟨by rfl,?_⟩) ?_ ?_;rotate_left
              ·
               intro w';go_simp;with_reducible rfl
              rotate_left
              ·
               simp only [Act.put,zzq,zzr,zzs,i64_w,i32_w];rfl
              refine take_ (i:=4) (N:=some 58) (v:=?_) (a':=?_) (zzB 21 15871) rfl rfl (take_ofW HT_.out HW_.out (by kernel_rfl)) (fun _ _ _ h=>h) (Or.inl ⟨by rfl,?_⟩) hHeld ?_ ?_;rotate_left
              ·
               rintro w' ⟨s0,s1,s2,s3,s4,s5,s6,s7,s8,s9,s10,s11⟩;go_simp;with_reducible rfl
              rotate_left
              ·
               simp only [Act.put,zzq,zzr,zzs,i64_w,i32_w];rfl
              refine take_ (i:=9) (N:=some 63) (v:=?_) (a':=?_) (zzB 21 16383) rfl rfl (take_ofW HT_.out HW_.out (by kernel_rfl)) (fun _ _ _ h=>h) (Or.inl ⟨by rfl,?_⟩) hHeld ?_ ?_;rotate_left
              ·
               rintro w' ⟨s0,s1,s2,s3,s4,s5,s6,s7,s8,s9,s10,s11⟩;go_simp;with_reducible rfl
              rotate_left
              ·
               simp only [Act.put,zzq,zzr,zzs,i64_w,i32_w];rfl
              refine join_ (σ:=Value×Nat) 2 (zzB 21 524287) (fun s_=>[(68,.tuple #[.agg #[.bool t432,.bool t433,.int .i64 t434,.int .i64 t435,.int .i64 t436,s_.1],.bool false]),(9,.pointer (some ⟨s_.2,0,none⟩)),(53,.tuple #[.agg #[.bool t432,.bool t433,.int .i64 t434,.int .i64 t435,.int .i64 t436,s_.1],.bool false]),(69,.agg #[.bool t432,.bool t433,.int .i64 t434,.int .i64 t435,.int .i64 t436,s_.1]),(70,.bool false)]) (fun s_ w'=>(w'.cell? (ad428.add ((x8_3).toNat * 6))=some (.bool ((rd_T27 t422 x8_3).f0))∧w'.cell? ⟨(ad428.add ((x8_3).toNat * 6)).block,(ad428.add ((x8_3).toNat * 6)).off+1,none⟩=some (.bool ((rd_T27 t422 x8_3).f1))∧w'.cell? ⟨(ad428.add ((x8_3).toNat * 6)).block,(ad428.add ((x8_3).toNat * 6)).off+2,none⟩=some (.int .i64 ((rd_T27 t422 x8_3).f2))∧w'.cell? ⟨(ad428.add ((x8_3).toNat * 6)).block,(ad428.add ((x8_3).toNat * 6)).off+3,none⟩=some (.int .i64 ((rd_T27 t422 x8_3).f3))∧w'.cell? ⟨(ad428.add ((x8_3).toNat * 6)).block,(ad428.add ((x8_3).toNat * 6)).off+4,none⟩=some (.int .i64 ((rd_T27 t422 x8_3).f4))∧w'.cell? ⟨(ad428.add ((x8_3).toNat * 6)).block,(ad428.add ((x8_3).toNat * 6)).off+5,none⟩=some (.slice A430_5 ((rd_T27 t422 x8_3).f5).length c430_5)∧w'.cell? (ad428.add ((x8_3).toNat * 6))=some (.bool ((rd_T27 t422 x8_3).f0))∧w'.cell? ⟨(ad428.add ((x8_3).toNat * 6)).block,(ad428.add ((x8_3).toNat * 6)).off+1,none⟩=some (.bool ((rd_T27 t422 x8_3).f1))∧w'.cell? ⟨(ad428.add ((x8_3).toNat * 6)).block,(ad428.add ((x8_3).toNat * 6)).off+2,none⟩=some (.int .i64 ((rd_T27 t422 x8_3).f2))∧w'.cell? ⟨(ad428.add ((x8_3).toNat * 6)).block,(ad428.add ((x8_3).toNat * 6)).off+3,none⟩=some (.int .i64 ((rd_T27 t422 x8_3).f3))∧w'.cell? ⟨(ad428.add ((x8_3).toNat * 6)).block,(ad428.add ((x8_3).toNat * 6)).off+4,none⟩=some (.int .i64 ((rd_T27 t422 x8_3).f4))∧w'.cell? ⟨(ad428.add ((x8_3).toNat * 6)).block,(ad428.add ((x8_3).toNat * 6)).off+5,none⟩=some (.slice A430_5 ((rd_T27 t422 x8_3).f5).length c430_5))∧(Kd.V k34 34 w' w.heap.size (fun k_=>some k_≠(s_.1:Value).ownBlock∧some k_≠(.slice (some ad428) t422.length co11:Value).ownBlock∧k_≠s_.2) (.slice (some ad429) ((rd_T27 t422 x8_3).f5).length c428_5) ((rd_T27 t422 x8_3).f5))∧(Kd.V (Kd.int .i64) 3 w' w.heap.size (fun k_=>some k_≠(s_.1:Value).ownBlock∧some k_≠(.slice (some ad428) t422.length co11:Value).ownBlock∧k_≠s_.2) (.slice A429_3 ((rd_T34 ((rd_T27 t422 x8_3).f5) 0).f3).length c429_3) ((rd_T34 ((rd_T27 t422 x8_3).f5) 0).f3))∧(Kd.V (Kd.int .i64) 3 w' w.heap.size (fun k_=>some k_≠(s_.1:Value).ownBlock∧some k_≠(.slice (some ad428) t422.length co11:Value).ownBlock∧k_≠s_.2) (.slice A429_5 ((rd_T34 ((rd_T27 t422 x8_3).f5) 0).f5).length c429_5) ((rd_T34 ((rd_T27 t422 x8_3).f5) 0).f5))∧(Kd.V k34 34 w' w.heap.size (fun k_=>some k_≠(s_.1:Value).ownBlock∧some k_≠(.slice (some ad428) t422.length co11:Value).ownBlock∧k_≠s_.2) (.slice A430_5 ((rd_T27 t422 x8_3).f5).length c430_5) ((rd_T27 t422 x8_3).f5))∧(Kd.V k34 34 w' w.heap.size (fun k_=>some k_≠(s_.1:Value).ownBlock∧some k_≠(.slice (some ad428) t422.length co11:Value).ownBlock∧k_≠s_.2) (.slice A430_5 ((rd_T27 t422 x8_3).f5).length c430_5) ((rd_T27 t422 x8_3).f5))∧(Kd.N k34 34 w' w.heap.size (fun k_=>some k_≠(.slice (some ad428) t422.length co11:Value).ownBlock∧k_≠s_.2) s_.1 t437)∧(Kd.N k27 27 w' w.heap.size (fun k_=>some k_≠(s_.1:Value).ownBlock∧k_≠s_.2) (.slice (some ad428) t422.length co11) t422)∧(w'.heap[s_.2]? = some (.cells #[.bool false,.bool false,.int .i64 0,.int .i64 0,.int .i64 0,.slice none 0 0] 27 (0,0)))∧(w.heap.size≤s_.2)∧(w.heap.size≤s_.2)∧(Below w.heap.size w w')) ?_ ?_;rotate_left
              ·
               intro hCont;refine two_ (i:=14) (j:=18) (Ni:=some 68) (Nj:=some 9) (zzB 21 32767) (zzB 21 278527) rfl rfl rfl rfl (two_of HT_.out (by kernel_rfl)) (by decide) (by decide) (fun K hK=>?_) (fun K hK=>?_)
               ·
                skip;refine goes_ Try.func19 (by kernel_rfl) rfl #[.int .i64 ((rd_T27 t422 x8_3).f2),.int .i64 ((rd_T27 t422 x8_3).f3),.int .i64 0,.int .i64 0,.bool (((l1.length:Int) % 2)==0)] (by rfl) rfl rfl zzM2 ?_;with_reducible refine (impl_MarkBatch.calls k3 ((rd_T27 t422 x8_3).f2) ((rd_T27 t422 x8_3).f3) 0 0 (((l1.length:Int) % 2)==0) t432 t433 t434 t435 t436 t437 false _ A20.out).mono ?_;rintro e w54 ⟨v438,rfl,ho0,hb⟩;have HS0_:=(hb.cell (zzn _ _ (hHeld.1))).trans (hHeld.1);have HS1_:=(hb.cell (zzn _ _ (hHeld.2.1))).trans (hHeld.2.1);have HS2_:=(hb.cell (zzn _ _ (hHeld.2.2.1))).trans (hHeld.2.2.1);have HS3_:=(hb.cell (zzn _ _ (hHeld.2.2.2.1))).trans (hHeld.2.2.2.1);have HS4_:=(hb.cell (zzn _ _ (hHeld.2.2.2.2.1))).trans (hHeld.2.2.2.2.1);have HS5_:=(hb.cell (zzn _ _ (hHeld.2.2.2.2.2.1))).trans (hHeld.2.2.2.2.2.1);have HS6_:=(hb.cell (zzn _ _ (hHeld.2.2.2.2.2.2.1))).trans (hHeld.2.2.2.2.2.2.1);have HS7_:=(hb.cell (zzn _ _ (hHeld.2.2.2.2.2.2.2.1))).trans (hHeld.2.2.2.2.2.2.2.1);have HS8_:=(hb.cell (zzn _ _ (hHeld.2.2.2.2.2.2.2.2.1))).trans (hHeld.2.2.2.2.2.2.2.2.1);have HS9_:=(hb.cell (zzn _ _ (hHeld.2.2.2.2.2.2.2.2.2.1))).trans (hHeld.2.2.2.2.2.2.2.2.2.1);have HS10_:=(hb.cell (zzn _ _ (hHeld.2.2.2.2.2.2.2.2.2.2.1))).trans (hHeld.2.2.2.2.2.2.2.2.2.2.1);have HS11_:=(hb.cell (zzn _ _ (hHeld.2.2.2.2.2.2.2.2.2.2.2))).trans (hHeld.2.2.2.2.2.2.2.2.2.2.2);refine ⟨_,rfl,?_⟩;have n0_:=zzm (Kd.N_elder' (zzN HO_5.out) (Kd.N_base ho0) hb);have n1_:=zzm (Kd.V_elder' (zzV HL428_5.out) (Kd.N_base ho0) hb);have n2_:=zzm (Kd.V_elder' (zzV HL429_3.out) (Kd.N_base ho0) hb);have n3_:=zzm (Kd.V_elder' (zzV HL429_5.out) (Kd.N_base ho0) hb);have n4_:=zzm (Kd.V_elder' (zzV HL430_5.out) (Kd.N_base ho0) hb);have n5_:=zzm (Kd.V_elder' (zzV HL431_5.out) (Kd.N_base ho0) hb);have n6_:=zzm (Kd.N_lower (Kd.N_mono (ok':=fun k_=>some k_≠(.slice (some ad428) t422.length co11:Value).ownBlock) ho0 (fun k_ hk_=>(Kd.fresh' (Kd.N_lt (zzN HO_5.out)) k_ hk_))) (zzo zzh1));have n7_:=zzm (Kd.C_below (zzC HR428_5.out) hb);have n8_:=zzm (Kd.C_below (zzC HR429_3.out) hb);have n9_:=zzm (Kd.C_below (zzC HR429_5.out) hb);have n10_:=zzm (Kd.C_below (zzC HR430_5.out) hb);have n11_:=zzm (Kd.C_below (zzC HR431_5.out) hb);have n12_:=zzm (zzp zzh1 hb);clear HO_5 HL428_5 HL429_3 HL429_5 HL430_5 HL431_5 HR428_5 HR429_3 HR429_5 HR430_5 HR431_5 HB;have HO_5:=n0_;have HL428_5:=n1_;have HL429_3:=n2_;have HL429_5:=n3_;have HL430_5:=n4_;have HL431_5:=n5_;have HO439:=n6_;have HR428_5:=n7_;have HR429_3:=n8_;have HR429_5:=n9_;have HR430_5:=n10_;have HR431_5:=n11_;have HB:=n12_;clear n0_ n1_ n2_ n3_ n4_ n5_ n6_ n7_ n8_ n9_ n10_ n11_ n12_;(try clear hb);(try clear hb2);(try clear hk);(try clear hi);(try clear ho0);refine hK.out _ _ ⟨HS0_,HS1_,HS2_,HS3_,HS4_,HS5_,HS6_,HS7_,HS8_,HS9_,HS10_,HS11_⟩ (fun hHeld=>?_);clear hK K;refine norm_ (a':=?_) ?_ ?_;rotate_left
                ·
                 show Act.put _ (some 68) _ = _;simp only [Act.put,zzq,zzr,zzs,i64_w,i32_w];rfl
                refine pure_ (i:=15) (N:=some 53) (v:=?_) (a':=?_) (zzB 21 65535) rfl rfl (zzA2 HT_.out) (fun _ _ _ h=>h) (Or.inl ⟨by rfl,?_⟩) ?_ ?_;rotate_left
                ·
                 intro w';go_simp;with_reducible rfl
                rotate_left
                ·
                 simp only [Act.put,zzq,zzr,zzs,i64_w,i32_w];rfl
                refine pure_ (i:=16) (N:=some 69) (v:=?_) (a':=?_) (zzB 21 131071) rfl rfl (zzA2 HT_.out) (fun _ _ _ h=>h) (Or.inl ⟨by rfl,?_⟩) ?_ ?_;rotate_left
                ·
                 intro w';go_simp;with_reducible rfl
                rotate_left
                ·
                 simp only [Act.put,zzq,zzr,zzs,i64_w,i32_w];rfl
                refine pure_ (i:=17) (N:=some 70) (v:=?_) (a':=?_) (zzB 21 262143) rfl rfl (zzA2 HT_.out) (fun _ _ _ h=>h) (Or.inl ⟨by rfl,?_⟩) ?_ ?_;rotate_left
                ·
                 intro w';go_simp;with_reducible rfl
                rotate_left
                ·
                 simp only [Act.put,zzq,zzr,zzs,i64_w,i32_w];rfl
                refine one_ (i:=18) (N:=some 9) (zzB 21 524287) rfl rfl (one_of HT_.out (by kernel_rfl)) (by decide) (fun K hK=>?_);refine box_step ?hg (N:=9) ?hd (cs:=#[.bool false,.bool false,.int .i64 0,.int .i64 0,.int .i64 0,.slice none 0 0]) (t:=27) ?hr ?_;(case hd=>rfl);(case hg=>rfl);(case hr=>first|(go_simp;done)|(go_simp;rfl));intro gb441 hg w55 hbox hb;have HS0_:=(hb.cell (zzn _ _ (hHeld.1))).trans (hHeld.1);have HS1_:=(hb.cell (zzn _ _ (hHeld.2.1))).trans (hHeld.2.1);have HS2_:=(hb.cell (zzn _ _ (hHeld.2.2.1))).trans (hHeld.2.2.1);have HS3_:=(hb.cell (zzn _ _ (hHeld.2.2.2.1))).trans (hHeld.2.2.2.1);have HS4_:=(hb.cell (zzn _ _ (hHeld.2.2.2.2.1))).trans (hHeld.2.2.2.2.1);have HS5_:=(hb.cell (zzn _ _ (hHeld.2.2.2.2.2.1))).trans (hHeld.2.2.2.2.2.1);have HS6_:=(hb.cell (zzn _ _ (hHeld.2.2.2.2.2.2.1))).trans (hHeld.2.2.2.2.2.2.1);have HS7_:=(hb.cell (zzn _ _ (hHeld.2.2.2.2.2.2.2.1))).trans (hHeld.2.2.2.2.2.2.2.1);have HS8_:=(hb.cell (zzn _ _ (hHeld.2.2.2.2.2.2.2.2.1))).trans (hHeld.2.2.2.2.2.2.2.2.1);have HS9_:=(hb.cell (zzn _ _ (hHeld.2.2.2.2.2.2.2.2.2.1))).trans (hHeld.2.2.2.2.2.2.2.2.2.1);have HS10_:=(hb.cell (zzn _ _ (hHeld.2.2.2.2.2.2.2.2.2.2.1))).trans (hHeld.2.2.2.2.2.2.2.2.2.2.1);have HS11_:=(hb.cell (zzn _ _ (hHeld.2.2.2.2.2.2.2.2.2.2.2))).trans (hHeld.2.2.2.2.2.2.2.2.2.2.2);have n0_:=zzm (Kd.N_below (Kd.N_elderB (zzN HO_5.out) gb441 (Nat.le_of_eq hg.symm)) hb);have n1_:=zzm (Kd.V_below (Kd.V_elderB (zzV HL428_5.out) gb441 (Nat.le_of_eq hg.symm)) hb);have n2_:=zzm (Kd.V_below (Kd.V_elderB (zzV HL429_3.out) gb441 (Nat.le_of_eq hg.symm)) hb);have n3_:=zzm (Kd.V_below (Kd.V_elderB (zzV HL429_5.out) gb441 (Nat.le_of_eq hg.symm)) hb);have n4_:=zzm (Kd.V_below (Kd.V_elderB (zzV HL430_5.out) gb441 (Nat.le_of_eq hg.symm)) hb);have n5_:=zzm (Kd.V_below (Kd.V_elderB (zzV HL431_5.out) gb441 (Nat.le_of_eq hg.symm)) hb);have n6_:=zzm (Kd.N_below (Kd.N_elderB (zzN HO439.out) gb441 (Nat.le_of_eq hg.symm)) hb);have n7_:=zzm (Kd.C_below (zzC HR428_5.out) hb);have n8_:=zzm (Kd.C_below (zzC HR429_3.out) hb);have n9_:=zzm (Kd.C_below (zzC HR429_5.out) hb);have n10_:=zzm (Kd.C_below (zzC HR430_5.out) hb);have n11_:=zzm (Kd.C_below (zzC HR431_5.out) hb);have n12_:=zzm (zzp zzh1 hb);have n13_:=zzm (hbox);have n14_:=zzm ((by rw [hg];exact (zzo zzh1):w.heap.size≤gb441));have n15_:=zzm ((by rw [hg];exact (zzo zzh1):w.heap.size≤gb441));clear HO_5 HL428_5 HL429_3 HL429_5 HL430_5 HL431_5 HO439 HR428_5 HR429_3 HR429_5 HR430_5 HR431_5 HB;have HO_5:=n0_;have HL428_5:=n1_;have HL429_3:=n2_;have HL429_5:=n3_;have HL430_5:=n4_;have HL431_5:=n5_;have HO439:=n6_;have HR428_5:=n7_;have HR429_3:=n8_;have HR429_5:=n9_;have HR430_5:=n10_;have HR431_5:=n11_;have HB:=n12_;have BK441:=n13_;have GW441:=n14_;have GE441:=n15_;clear n0_ n1_ n2_ n3_ n4_ n5_ n6_ n7_ n8_ n9_ n10_ n11_ n12_ n13_ n14_ n15_;clear hb hbox hg;refine hK.out _ _ ⟨HS0_,HS1_,HS2_,HS3_,HS4_,HS5_,HS6_,HS7_,HS8_,HS9_,HS10_,HS11_⟩ (fun hHeld=>?_);clear hK K;refine norm_ (a':=?_) ?_ ?_;rotate_left
                ·
                 show Act.put _ (some 9) _ = _;simp only [Act.put,zzq,zzr,zzs,i64_w,i32_w];rfl
                exact norm_ (by simp only [putAll,Act.put,zzq,zzr,zzs]) (hCont (v438,gb441) _ ⟨hHeld,(zzV (Kd.V_mono HL428_5.out (fun _ hk=>⟨hk.1.2,⟨hk.1.1.2,hk.2⟩⟩))),(zzV (Kd.V_mono HL429_3.out (fun _ hk=>⟨hk.1.2,⟨hk.1.1.2,hk.2⟩⟩))),(zzV (Kd.V_mono HL429_5.out (fun _ hk=>⟨hk.1.2,⟨hk.1.1.2,hk.2⟩⟩))),(zzV (Kd.V_mono HL430_5.out (fun _ hk=>⟨hk.1.2,⟨hk.1.1.2,hk.2⟩⟩))),(zzV (Kd.V_mono HL431_5.out (fun _ hk=>⟨hk.1.2,⟨hk.1.1.2,hk.2⟩⟩))),(zzN HO439.out),(zzN (Kd.N_mono HO_5.out (fun _ hk=>⟨hk.1.2,hk.2⟩))),(zzE BK441.out),GW441.out,GE441.out,zzh2⟩)
               ·
                skip;refine box_step ?hg (N:=9) ?hd (cs:=#[.bool false,.bool false,.int .i64 0,.int .i64 0,.int .i64 0,.slice none 0 0]) (t:=27) ?hr ?_;(case hd=>rfl);(case hg=>rfl);(case hr=>first|(go_simp;done)|(go_simp;rfl));intro gb441 hg w54 hbox hb;have HS0_:=(hb.cell (zzn _ _ (hHeld.1))).trans (hHeld.1);have HS1_:=(hb.cell (zzn _ _ (hHeld.2.1))).trans (hHeld.2.1);have HS2_:=(hb.cell (zzn _ _ (hHeld.2.2.1))).trans (hHeld.2.2.1);have HS3_:=(hb.cell (zzn _ _ (hHeld.2.2.2.1))).trans (hHeld.2.2.2.1);have HS4_:=(hb.cell (zzn _ _ (hHeld.2.2.2.2.1))).trans (hHeld.2.2.2.2.1);have HS5_:=(hb.cell (zzn _ _ (hHeld.2.2.2.2.2.1))).trans (hHeld.2.2.2.2.2.1);have HS6_:=(hb.cell (zzn _ _ (hHeld.2.2.2.2.2.2.1))).trans (hHeld.2.2.2.2.2.2.1);have HS7_:=(hb.cell (zzn _ _ (hHeld.2.2.2.2.2.2.2.1))).trans (hHeld.2.2.2.2.2.2.2.1);have HS8_:=(hb.cell (zzn _ _ (hHeld.2.2.2.2.2.2.2.2.1))).trans (hHeld.2.2.2.2.2.2.2.2.1);have HS9_:=(hb.cell (zzn _ _ (hHeld.2.2.2.2.2.2.2.2.2.1))).trans (hHeld.2.2.2.2.2.2.2.2.2.1);have HS10_:=(hb.cell (zzn _ _ (hHeld.2.2.2.2.2.2.2.2.2.2.1))).trans (hHeld.2.2.2.2.2.2.2.2.2.2.1);have HS11_:=(hb.cell (zzn _ _ (hHeld.2.2.2.2.2.2.2.2.2.2.2))).trans (hHeld.2.2.2.2.2.2.2.2.2.2.2);have n0_:=zzm (Kd.N_below (Kd.N_elderB (zzN HO_5.out) gb441 (Nat.le_of_eq hg.symm)) hb);have n1_:=zzm (Kd.V_below (Kd.V_elderB (zzV HL428_5.out) gb441 (Nat.le_of_eq hg.symm)) hb);have n2_:=zzm (Kd.V_below (Kd.V_elderB (zzV HL429_3.out) gb441 (Nat.le_of_eq hg.symm)) hb);have n3_:=zzm (Kd.V_below (Kd.V_elderB (zzV HL429_5.out) gb441 (Nat.le_of_eq hg.symm)) hb);have n4_:=zzm (Kd.V_below (Kd.V_elderB (zzV HL430_5.out) gb441 (Nat.le_of_eq hg.symm)) hb);have n5_:=zzm (Kd.V_below (Kd.V_elderB (zzV HL431_5.out) gb441 (Nat.le_of_eq hg.symm)) hb);have n6_:=zzm (Kd.C_below (zzC HR428_5.out) hb);have n7_:=zzm (Kd.C_below (zzC HR429_3.out) hb);have n8_:=zzm (Kd.C_below (zzC HR429_5.out) hb);have n9_:=zzm (Kd.C_below (zzC HR430_5.out) hb);have n10_:=zzm (Kd.C_below (zzC HR431_5.out) hb);have n11_:=zzm (zzp zzh1 hb);have n12_:=zzm (hbox);have n13_:=zzm ((by rw [hg];exact (zzo zzh1):w.heap.size≤gb441));have n14_:=zzm ((by rw [hg];exact (zzo zzh1):w.heap.size≤gb441));clear HO_5 HL428_5 HL429_3 HL429_5 HL430_5 HL431_5 HR428_5 HR429_3 HR429_5 HR430_5 HR431_5 HB;have HO_5:=n0_;have HL428_5:=n1_;have HL429_3:=n2_;have HL429_5:=n3_;have HL430_5:=n4_;have HL431_5:=n5_;have HR428_5:=n6_;have HR429_3:=n7_;have HR429_5:=n8_;have HR430_5:=n9_;have HR431_5:=n10_;have HB:=n11_;have BK441:=n12_;have GW441:=n13_;have GE441:=n14_;clear n0_ n1_ n2_ n3_ n4_ n5_ n6_ n7_ n8_ n9_ n10_ n11_ n12_ n13_ n14_;clear hb hbox hg;refine hK.out _ _ ⟨HS0_,HS1_,HS2_,HS3_,HS4_,HS5_,HS6_,HS7_,HS8_,HS9_,HS10_,HS11_⟩ (fun hHeld=>?_);clear hK K;refine norm_ (a':=?_) ?_ ?_;rotate_left
                ·
                 show Act.put _ (some 9) _ = _;simp only [Act.put,zzq,zzr,zzs,i64_w,i32_w];rfl
                refine one_ (i:=14) (N:=some 68) (zzB 21 294911) rfl rfl (one_of HT_.out (by kernel_rfl)) (by decide) (fun K hK=>?_);refine goes_ Try.func19 (by kernel_rfl) rfl #[.int .i64 ((rd_T27 t422 x8_3).f2),.int .i64 ((rd_T27 t422 x8_3).f3),.int .i64 0,.int .i64 0,.bool (((l1.length:Int) % 2)==0)] (by rfl) rfl rfl zzM2 ?_;with_reducible refine (impl_MarkBatch.calls k3 ((rd_T27 t422 x8_3).f2) ((rd_T27 t422 x8_3).f3) 0 0 (((l1.length:Int) % 2)==0) t432 t433 t434 t435 t436 t437 false _ A20.out).mono ?_;rintro e w55 ⟨v438,rfl,ho0,hb⟩;have HS0_:=(hb.cell (zzn _ _ (hHeld.1))).trans (hHeld.1);have HS1_:=(hb.cell (zzn _ _ (hHeld.2.1))).trans (hHeld.2.1);have HS2_:=(hb.cell (zzn _ _ (hHeld.2.2.1))).trans (hHeld.2.2.1);have HS3_:=(hb.cell (zzn _ _ (hHeld.2.2.2.1))).trans (hHeld.2.2.2.1);have HS4_:=(hb.cell (zzn _ _ (hHeld.2.2.2.2.1))).trans (hHeld.2.2.2.2.1);have HS5_:=(hb.cell (zzn _ _ (hHeld.2.2.2.2.2.1))).trans (hHeld.2.2.2.2.2.1);have HS6_:=(hb.cell (zzn _ _ (hHeld.2.2.2.2.2.2.1))).trans (hHeld.2.2.2.2.2.2.1);have HS7_:=(hb.cell (zzn _ _ (hHeld.2.2.2.2.2.2.2.1))).trans (hHeld.2.2.2.2.2.2.2.1);have HS8_:=(hb.cell (zzn _ _ (hHeld.2.2.2.2.2.2.2.2.1))).trans (hHeld.2.2.2.2.2.2.2.2.1);have HS9_:=(hb.cell (zzn _ _ (hHeld.2.2.2.2.2.2.2.2.2.1))).trans (hHeld.2.2.2.2.2.2.2.2.2.1);have HS10_:=(hb.cell (zzn _ _ (hHeld.2.2.2.2.2.2.2.2.2.2.1))).trans (hHeld.2.2.2.2.2.2.2.2.2.2.1);have HS11_:=(hb.cell (zzn _ _ (hHeld.2.2.2.2.2.2.2.2.2.2.2))).trans (hHeld.2.2.2.2.2.2.2.2.2.2.2);refine ⟨_,rfl,?_⟩;have n0_:=zzm (Kd.N_elder' (zzN HO_5.out) (Kd.N_base ho0) hb);have n1_:=zzm (Kd.V_elder' (zzV HL428_5.out) (Kd.N_base ho0) hb);have n2_:=zzm (Kd.V_elder' (zzV HL429_3.out) (Kd.N_base ho0) hb);have n3_:=zzm (Kd.V_elder' (zzV HL429_5.out) (Kd.N_base ho0) hb);have n4_:=zzm (Kd.V_elder' (zzV HL430_5.out) (Kd.N_base ho0) hb);have n5_:=zzm (Kd.V_elder' (zzV HL431_5.out) (Kd.N_base ho0) hb);have n6_:=zzm (Kd.N_lower (Kd.N_mono (ok':=fun k_=>some k_≠(.slice (some ad428) t422.length co11:Value).ownBlock∧k_≠gb441) ho0 (fun k_ hk_=>⟨(Kd.fresh' (Kd.N_lt (zzN HO_5.out)) k_ hk_),(Kd.freshB (g:=gb441) (o:=.cells #[.bool false,.bool false,.int .i64 0,.int .i64 0,.int .i64 0,.slice none 0 0] 27 (0,0)) (zzE BK441.out) k_ hk_)⟩)) (zzo zzh2));have n7_:=zzm (Kd.C_below (zzC HR428_5.out) hb);have n8_:=zzm (Kd.C_below (zzC HR429_3.out) hb);have n9_:=zzm (Kd.C_below (zzC HR429_5.out) hb);have n10_:=zzm (Kd.C_below (zzC HR430_5.out) hb);have n11_:=zzm (Kd.C_below (zzC HR431_5.out) hb);have n12_:=zzm (zzh (g:=gb441) (o:=.cells #[.bool false,.bool false,.int .i64 0,.int .i64 0,.int .i64 0,.slice none 0 0] 27 (0,0)) (zzE BK441.out) hb);have n13_:=zzm (zzp zzh2 hb);clear HO_5 HL428_5 HL429_3 HL429_5 HL430_5 HL431_5 HR428_5 HR429_3 HR429_5 HR430_5 HR431_5 BK441 HB;have HO_5:=n0_;have HL428_5:=n1_;have HL429_3:=n2_;have HL429_5:=n3_;have HL430_5:=n4_;have HL431_5:=n5_;have HO439:=n6_;have HR428_5:=n7_;have HR429_3:=n8_;have HR429_5:=n9_;have HR430_5:=n10_;have HR431_5:=n11_;have BK441:=n12_;have HB:=n13_;clear n0_ n1_ n2_ n3_ n4_ n5_ n6_ n7_ n8_ n9_ n10_ n11_ n12_ n13_;(try clear hb);(try clear hb2);(try clear hk);(try clear hi);(try clear ho0);refine hK.out _ _ ⟨HS0_,HS1_,HS2_,HS3_,HS4_,HS5_,HS6_,HS7_,HS8_,HS9_,HS10_,HS11_⟩ (fun hHeld=>?_);clear hK K;refine norm_ (a':=?_) ?_ ?_;rotate_left
                ·
                 show Act.put _ (some 68) _ = _;simp only [Act.put,zzq,zzr,zzs,i64_w,i32_w];rfl
                refine pure_ (i:=15) (N:=some 53) (v:=?_) (a':=?_) (zzB 21 327679) rfl rfl (zzA2 HT_.out) (fun _ _ _ h=>h) (Or.inl ⟨by rfl,?_⟩) ?_ ?_;rotate_left
                ·
                 intro w';go_simp;with_reducible rfl
                rotate_left
                ·
                 simp only [Act.put,zzq,zzr,zzs,i64_w,i32_w];rfl
                refine pure_ (i:=16) (N:=some 69) (v:=?_) (a':=?_) (zzB 21 393215) rfl rfl (zzA2 HT_.out) (fun _ _ _ h=>h) (Or.inl ⟨by rfl,?_⟩) ?_ ?_;rotate_left
                ·
                 intro w';go_simp;with_reducible rfl
                rotate_left
                ·
                 simp only [Act.put,zzq,zzr,zzs,i64_w,i32_w];rfl
                refine pure_ (i:=17) (N:=some 70) (v:=?_) (a':=?_) (zzB 21 524287) rfl rfl (zzA2 HT_.out) (fun _ _ _ h=>h) (Or.inl ⟨by rfl,?_⟩) ?_ ?_;rotate_left
                ·
                 intro w';go_simp;with_reducible rfl
                rotate_left
                ·
                 simp only [Act.put,zzq,zzr,zzs,i64_w,i32_w];rfl
                exact norm_ (by simp only [putAll,Act.put,zzq,zzr,zzs]) (hCont (v438,gb441) _ ⟨hHeld,(zzV (Kd.V_mono HL428_5.out (fun _ hk=>⟨hk.2,⟨hk.1.1.2,hk.1.2⟩⟩))),(zzV (Kd.V_mono HL429_3.out (fun _ hk=>⟨hk.2,⟨hk.1.1.2,hk.1.2⟩⟩))),(zzV (Kd.V_mono HL429_5.out (fun _ hk=>⟨hk.2,⟨hk.1.1.2,hk.1.2⟩⟩))),(zzV (Kd.V_mono HL430_5.out (fun _ hk=>⟨hk.2,⟨hk.1.1.2,hk.1.2⟩⟩))),(zzV (Kd.V_mono HL431_5.out (fun _ hk=>⟨hk.2,⟨hk.1.1.2,hk.1.2⟩⟩))),(zzN HO439.out),(zzN (Kd.N_mono HO_5.out (fun _ hk=>⟨hk.2,hk.1.2⟩))),(zzE BK441.out),GW441.out,GE441.out,zzh2⟩)
              rintro ⟨v438,gb441⟩ w56 ⟨hS_,h0_,h1_,h2_,h3_,h4_,h5_,h6_,h7_,h8_,h9_,h10_⟩;have n0_:Aside0 (Kd.V k34 34 w56 w.heap.size (fun k_=>some k_≠(v438:Value).ownBlock∧some k_≠(.slice (some ad428) t422.length co11:Value).ownBlock∧k_≠gb441) (.slice (some ad429) ((rd_T27 t422 x8_3).f5).length c428_5) ((rd_T27 t422 x8_3).f5)):=⟨h0_⟩;have n1_:Aside0 (Kd.V (Kd.int .i64) 3 w56 w.heap.size (fun k_=>some k_≠(v438:Value).ownBlock∧some k_≠(.slice (some ad428) t422.length co11:Value).ownBlock∧k_≠gb441) (.slice A429_3 ((rd_T34 ((rd_T27 t422 x8_3).f5) 0).f3).length c429_3) ((rd_T34 ((rd_T27 t422 x8_3).f5) 0).f3)):=⟨h1_⟩;have n2_:Aside0 (Kd.V (Kd.int .i64) 3 w56 w.heap.size (fun k_=>some k_≠(v438:Value).ownBlock∧some k_≠(.slice (some ad428) t422.length co11:Value).ownBlock∧k_≠gb441) (.slice A429_5 ((rd_T34 ((rd_T27 t422 x8_3).f5) 0).f5).length c429_5) ((rd_T34 ((rd_T27 t422 x8_3).f5) 0).f5)):=⟨h2_⟩;have n3_:Aside0 (Kd.V k34 34 w56 w.heap.size (fun k_=>some k_≠(v438:Value).ownBlock∧some k_≠(.slice (some ad428) t422.length co11:Value).ownBlock∧k_≠gb441) (.slice A430_5 ((rd_T27 t422 x8_3).f5).length c430_5) ((rd_T27 t422 x8_3).f5)):=⟨h3_⟩;have n4_:Aside0 (Kd.V k34 34 w56 w.heap.size (fun k_=>some k_≠(v438:Value).ownBlock∧some k_≠(.slice (some ad428) t422.length co11:Value).ownBlock∧k_≠gb441) (.slice A430_5 ((rd_T27 t422 x8_3).f5).length c430_5) ((rd_T27 t422 x8_3).f5)):=⟨h4_⟩;have n5_:Aside0 (Kd.N k34 34 w56 w.heap.size (fun k_=>some k_≠(.slice (some ad428) t422.length co11:Value).ownBlock∧k_≠gb441) v438 t437):=⟨h5_⟩;have n6_:Aside0 (Kd.N k27 27 w56 w.heap.size (fun k_=>some k_≠(v438:Value).ownBlock∧k_≠gb441) (.slice (some ad428) t422.length co11) t422):=⟨h6_⟩;have n7_:Aside0 (w56.heap[gb441]? = some (.cells #[.bool false,.bool false,.int .i64 0,.int .i64 0,.int .i64 0,.slice none 0 0] 27 (0,0))):=⟨h7_⟩;have n8_:Aside0 (w.heap.size≤gb441):=⟨h8_⟩;have n9_:Aside0 (w.heap.size≤gb441):=⟨h9_⟩;have n10_:Aside0 (Below w.heap.size w w56):=⟨h10_⟩;clear HO_5 HL428_5 HL429_3 HL429_5 HR428_5 HR429_3 HR429_5 HB;clear h0_ h1_ h2_ h3_ h4_ h5_ h6_ h7_ h8_ h9_ h10_;have HL428_5:=n0_;have HL429_3:=n1_;have HL429_5:=n2_;have HL430_5:=n3_;have HL431_5:=n4_;have HO439:=n5_;have HO_5:=n6_;have BK441:=n7_;have GW441:=n8_;have GE441:=n9_;have HB:=n10_;clear n0_ n1_ n2_ n3_ n4_ n5_ n6_ n7_ n8_ n9_ n10_;have hHeld:w56.cell? (ad428.add ((x8_3).toNat * 6))=some (.bool ((rd_T27 t422 x8_3).f0))∧w56.cell? ⟨(ad428.add ((x8_3).toNat * 6)).block,(ad428.add ((x8_3).toNat * 6)).off+1,none⟩=some (.bool ((rd_T27 t422 x8_3).f1))∧w56.cell? ⟨(ad428.add ((x8_3).toNat * 6)).block,(ad428.add ((x8_3).toNat * 6)).off+2,none⟩=some (.int .i64 ((rd_T27 t422 x8_3).f2))∧w56.cell? ⟨(ad428.add ((x8_3).toNat * 6)).block,(ad428.add ((x8_3).toNat * 6)).off+3,none⟩=some (.int .i64 ((rd_T27 t422 x8_3).f3))∧w56.cell? ⟨(ad428.add ((x8_3).toNat * 6)).block,(ad428.add ((x8_3).toNat * 6)).off+4,none⟩=some (.int .i64 ((rd_T27 t422 x8_3).f4))∧w56.cell? ⟨(ad428.add ((x8_3).toNat * 6)).block,(ad428.add ((x8_3).toNat * 6)).off+5,none⟩=some (.slice A430_5 ((rd_T27 t422 x8_3).f5).length c430_5)∧w56.cell? (ad428.add ((x8_3).toNat * 6))=some (.bool ((rd_T27 t422 x8_3).f0))∧w56.cell? ⟨(ad428.add ((x8_3).toNat * 6)).block,(ad428.add ((x8_3).toNat * 6)).off+1,none⟩=some (.bool ((rd_T27 t422 x8_3).f1))∧w56.cell? ⟨(ad428.add ((x8_3).toNat * 6)).block,(ad428.add ((x8_3).toNat * 6)).off+2,none⟩=some (.int .i64 ((rd_T27 t422 x8_3).f2))∧w56.cell? ⟨(ad428.add ((x8_3).toNat * 6)).block,(ad428.add ((x8_3).toNat * 6)).off+3,none⟩=some (.int .i64 ((rd_T27 t422 x8_3).f3))∧w56.cell? ⟨(ad428.add ((x8_3).toNat * 6)).block,(ad428.add ((x8_3).toNat * 6)).off+4,none⟩=some (.int .i64 ((rd_T27 t422 x8_3).f4))∧w56.cell? ⟨(ad428.add ((x8_3).toNat * 6)).block,(ad428.add ((x8_3).toNat * 6)).off+5,none⟩=some (.slice A430_5 ((rd_T27 t422 x8_3).f5).length c430_5):=hS_;obtain ⟨Ao62,co62,eo62⟩:=Kd.N_slice HO439.out;(first|subst eo62|(injection eo62 with f1_ f2_ f3_;have f4_:=f1_.symm;have f5_:=f3_.symm;clear f1_ f2_ f3_;subst f4_;subst f5_));refine norm_ (a':=?_) ?_ ?_;rotate_left
              ·
               simp only [putAll,Act.put,zzq,zzr,zzs];rfl
              refine one_ (i:=19) (N:=none) (zzB 21 1048575) rfl rfl (one_of HT_.out (by kernel_rfl)) (by decide) (fun K hK=>?_);have hs57:w56.cell? ⟨gb441,0,none⟩=some (.bool false):=(zzk BK441.out 0).trans rfl;have hfs57:=zzl BK441.out 0;have hs58:w56.cell? ⟨gb441,1,none⟩=some (.bool false):=(zzk BK441.out 1).trans rfl;have hfs58:=zzl BK441.out 1;have hs59:w56.cell? ⟨gb441,2,none⟩=some (.int .i64 0):=(zzk BK441.out 2).trans rfl;have hfs59:=zzl BK441.out 2;have hs60:w56.cell? ⟨gb441,3,none⟩=some (.int .i64 0):=(zzk BK441.out 3).trans rfl;have hfs60:=zzl BK441.out 3;have hs61:w56.cell? ⟨gb441,4,none⟩=some (.int .i64 0):=(zzk BK441.out 4).trans rfl;have hfs61:=zzl BK441.out 4;have hs63:w56.cell? ⟨gb441,5,none⟩=some (.slice none 0 0):=(zzk BK441.out 5).trans rfl;have hfs63:=zzl BK441.out 5;refine skip_ (w1:=?_) (by rfl) rfl ?_ ?_;rotate_left
              ·
               go_simp;rfl
              have FB0_:=Kd.own_blk (Kd.N_away HO_5.out (fun _ hk=>hk.2));refine hK.out _ _ ⟨((cell_far (p:=⟨gb441,_,none⟩) (by first|exact FB0_|exact zzF3 FB0_) _).trans (((cell_far (p:=⟨gb441,_,none⟩) (by first|exact FB0_|exact zzF3 FB0_) _).trans (((cell_far (p:=⟨gb441,_,none⟩) (by first|exact FB0_|exact zzF3 FB0_) _).trans (((cell_far (p:=⟨gb441,_,none⟩) (by first|exact FB0_|exact zzF3 FB0_) _).trans (((cell_far (p:=⟨gb441,_,none⟩) (by first|exact FB0_|exact zzF3 FB0_) _).trans (((cell_far (p:=⟨gb441,_,none⟩) (by first|exact FB0_|exact zzF3 FB0_) _).trans (hHeld.1)))))))))))),((cell_far (p:=⟨gb441,_,none⟩) (by first|exact FB0_|exact zzF3 FB0_) _).trans (((cell_far (p:=⟨gb441,_,none⟩) (by first|exact FB0_|exact zzF3 FB0_) _).trans (((cell_far (p:=⟨gb441,_,none⟩) (by first|exact FB0_|exact zzF3 FB0_) _).trans (((cell_far (p:=⟨gb441,_,none⟩) (by first|exact FB0_|exact zzF3 FB0_) _).trans (((cell_far (p:=⟨gb441,_,none⟩) (by first|exact FB0_|exact zzF3 FB0_) _).trans (((cell_far (p:=⟨gb441,_,none⟩) (by first|exact FB0_|exact zzF3 FB0_) _).trans (hHeld.2.1)))))))))))),((cell_far (p:=⟨gb441,_,none⟩) (by first|exact FB0_|exact zzF3 FB0_) _).trans (((cell_far (p:=⟨gb441,_,none⟩) (by first|exact FB0_|exact zzF3 FB0_) _).trans (((cell_far (p:=⟨gb441,_,none⟩) (by first|exact FB0_|exact zzF3 FB0_) _).trans (((cell_far (p:=⟨gb441,_,none⟩) (by first|exact FB0_|exact zzF3 FB0_) _).trans (((cell_far (p:=⟨gb441,_,none⟩) (by first|exact FB0_|exact zzF3 FB0_) _).trans (((cell_far (p:=⟨gb441,_,none⟩) (by first|exact FB0_|exact zzF3 FB0_) _).trans (hHeld.2.2.1)))))))))))),((cell_far (p:=⟨gb441,_,none⟩) (by first|exact FB0_|exact zzF3 FB0_) _).trans (((cell_far (p:=⟨gb441,_,none⟩) (by first|exact FB0_|exact zzF3 FB0_) _).trans (((cell_far (p:=⟨gb441,_,none⟩) (by first|exact FB0_|exact zzF3 FB0_) _).trans (((cell_far (p:=⟨gb441,_,none⟩) (by first|exact FB0_|exact zzF3 FB0_) _).trans (((cell_far (p:=⟨gb441,_,none⟩) (by first|exact FB0_|exact zzF3 FB0_) _).trans (((cell_far (p:=⟨gb441,_,none⟩) (by first|exact FB0_|exact zzF3 FB0_) _).trans (hHeld.2.2.2.1)))))))))))),((cell_far (p:=⟨gb441,_,none⟩) (by first|exact FB0_|exact zzF3 FB0_) _).trans (((cell_far (p:=⟨gb441,_,none⟩) (by first|exact FB0_|exact zzF3 FB0_) _).trans (((cell_far (p:=⟨gb441,_,none⟩) (by first|exact FB0_|exact zzF3 FB0_) _).trans (((cell_far (p:=⟨gb441,_,none⟩) (by first|exact FB0_|exact zzF3 FB0_) _).trans (((cell_far (p:=⟨gb441,_,none⟩) (by first|exact FB0_|exact zzF3 FB0_) _).trans (((cell_far (p:=⟨gb441,_,none⟩) (by first|exact FB0_|exact zzF3 FB0_) _).trans (hHeld.2.2.2.2.1)))))))))))),((cell_far (p:=⟨gb441,_,none⟩) (by first|exact FB0_|exact zzF3 FB0_) _).trans (((cell_far (p:=⟨gb441,_,none⟩) (by first|exact FB0_|exact zzF3 FB0_) _).trans (((cell_far (p:=⟨gb441,_,none⟩) (by first|exact FB0_|exact zzF3 FB0_) _).trans (((cell_far (p:=⟨gb441,_,none⟩) (by first|exact FB0_|exact zzF3 FB0_) _).trans (((cell_far (p:=⟨gb441,_,none⟩) (by first|exact FB0_|exact zzF3 FB0_) _).trans (((cell_far (p:=⟨gb441,_,none⟩) (by first|exact FB0_|exact zzF3 FB0_) _).trans (hHeld.2.2.2.2.2.1)))))))))))),((cell_far (p:=⟨gb441,_,none⟩) (by first|exact FB0_|exact zzF3 FB0_) _).trans (((cell_far (p:=⟨gb441,_,none⟩) (by first|exact FB0_|exact zzF3 FB0_) _).trans (((cell_far (p:=⟨gb441,_,none⟩) (by first|exact FB0_|exact zzF3 FB0_) _).trans (((cell_far (p:=⟨gb441,_,none⟩) (by first|exact FB0_|exact zzF3 FB0_) _).trans (((cell_far (p:=⟨gb441,_,none⟩) (by first|exact FB0_|exact zzF3 FB0_) _).trans (((cell_far (p:=⟨gb441,_,none⟩) (by first|exact FB0_|exact zzF3 FB0_) _).trans (hHeld.2.2.2.2.2.2.1)))))))))))),((cell_far (p:=⟨gb441,_,none⟩) (by first|exact FB0_|exact zzF3 FB0_) _).trans (((cell_far (p:=⟨gb441,_,none⟩) (by first|exact FB0_|exact zzF3 FB0_) _).trans (((cell_far (p:=⟨gb441,_,none⟩) (by first|exact FB0_|exact zzF3 FB0_) _).trans (((cell_far (p:=⟨gb441,_,none⟩) (by first|exact FB0_|exact zzF3 FB0_) _).trans (((cell_far (p:=⟨gb441,_,none⟩) (by first|exact FB0_|exact zzF3 FB0_) _).trans (((cell_far (p:=⟨gb441,_,none⟩) (by first|exact FB0_|exact zzF3 FB0_) _).trans (hHeld.2.2.2.2.2.2.2.1)))))))))))),((cell_far (p:=⟨gb441,_,none⟩) (by first|exact FB0_|exact zzF3 FB0_) _).trans (((cell_far (p:=⟨gb441,_,none⟩) (by first|exact FB0_|exact zzF3 FB0_) _).trans (((cell_far (p:=⟨gb441,_,none⟩) (by first|exact FB0_|exact zzF3 FB0_) _).trans (((cell_far (p:=⟨gb441,_,none⟩) (by first|exact FB0_|exact zzF3 FB0_) _).trans (((cell_far (p:=⟨gb441,_,none⟩) (by first|exact FB0_|exact zzF3 FB0_) _).trans (((cell_far (p:=⟨gb441,_,none⟩) (by first|exact FB0_|exact zzF3 FB0_) _).trans (hHeld.2.2.2.2.2.2.2.2.1)))))))))))),((cell_far (p:=⟨gb441,_,none⟩) (by first|exact FB0_|exact zzF3 FB0_) _).trans (((cell_far (p:=⟨gb441,_,none⟩) (by first|exact FB0_|exact zzF3 FB0_) _).trans (((cell_far (p:=⟨gb441,_,none⟩) (by first|exact FB0_|exact zzF3 FB0_) _).trans (((cell_far (p:=⟨gb441,_,none⟩) (by first|exact FB0_|exact zzF3 FB0_) _).trans (((cell_far (p:=⟨gb441,_,none⟩) (by first|exact FB0_|exact zzF3 FB0_) _).trans (((cell_far (p:=⟨gb441,_,none⟩) (by first|exact FB0_|exact zzF3 FB0_) _).trans (hHeld.2.2.2.2.2.2.2.2.2.1)))))))))))),((cell_far (p:=⟨gb441,_,none⟩) (by first|exact FB0_|exact zzF3 FB0_) _).trans (((cell_far (p:=⟨gb441,_,none⟩) (by first|exact FB0_|exact zzF3 FB0_) _).trans (((cell_far (p:=⟨gb441,_,none⟩) (by first|exact FB0_|exact zzF3 FB0_) _).trans (((cell_far (p:=⟨gb441,_,none⟩) (by first|exact FB0_|exact zzF3 FB0_) _).trans (((cell_far (p:=⟨gb441,_,none⟩) (by first|exact FB0_|exact zzF3 FB0_) _).trans (((cell_far (p:=⟨gb441,_,none⟩) (by first|exact FB0_|exact zzF3 FB0_) _).trans (hHeld.2.2.2.2.2.2.2.2.2.2.1)))))))))))),((cell_far (p:=⟨gb441,_,none⟩) (by first|exact FB0_|exact zzF3 FB0_) _).trans (((cell_far (p:=⟨gb441,_,none⟩) (by first|exact FB0_|exact zzF3 FB0_) _).trans (((cell_far (p:=⟨gb441,_,none⟩) (by first|exact FB0_|exact zzF3 FB0_) _).trans (((cell_far (p:=⟨gb441,_,none⟩) (by first|exact FB0_|exact zzF3 FB0_) _).trans (((cell_far (p:=⟨gb441,_,none⟩) (by first|exact FB0_|exact zzF3 FB0_) _).trans (((cell_far (p:=⟨gb441,_,none⟩) (by first|exact FB0_|exact zzF3 FB0_) _).trans (hHeld.2.2.2.2.2.2.2.2.2.2.2))))))))))))⟩ (fun hHeld=>?_);clear hK K;refine pure_ (i:=20) (N:=some 10) (v:=?_) (a':=?_) (zzB 21 2097151) rfl rfl (zzA2 HT_.out) (fun _ _ _ h=>h) (Or.inl ⟨by rfl,?_⟩) ?_ ?_;rotate_left
              ·
               intro w';go_simp;with_reducible rfl
              rotate_left
              ·
               simp only [Act.put,zzq,zzr,zzs,i64_w,i32_w];rfl
              refine done_ (done_of HT_.out (by kernel_rfl)) ?_;obtain ⟨hcz64_0,hcz64_1,hcz64_2,hcz64_3,hcz64_4,hcz64_5,hfz64_0,hfz64_1,hfz64_2,hfz64_3,hfz64_4,hfz64_5⟩:=zzc6 BK441.out;try go_wp2_with (first|((with_reducible refine gate_callee (f:=35) rfl ?_);refine goesL_ (some 74) rfl rfl Try.func35 (by kernel_rfl) rfl #[.slice (some ad428) t422.length co11,.agg #[.bool t432,.bool t433,.int .i64 t434,.int .i64 t435,.int .i64 t436,.slice Ao62 t437.length co62]] rfl zzM2 ?_;(with_reducible refine (impl_LogAppend.calls k3 _ _ t422 t432 t433 t434 t435 t436 _ _ t437 t442 t445 _ ?side1 ?side2 ?side3 ?side4 A21.out).mono ?_);(case side1=>refine (Kd.N_reads' (e:=27) (base:=w.heap.size) (ok:=fun k_=>(some k_≠(.slice Ao62 t437.length co62:Value).ownBlock∧k_≠gb441)) (n:=t422.length) (c:=co11) ?_).2.2;exact (zzN ((Kd.N_mono (Kd.N_far (p:=⟨gb441,5,none⟩) (Kd.N_far (p:=⟨gb441,4,none⟩) (Kd.N_far (p:=⟨gb441,3,none⟩) (Kd.N_far (p:=⟨gb441,2,none⟩) (Kd.N_far (p:=⟨gb441,1,none⟩) (Kd.N_far (p:=⟨gb441,0,none⟩) (Kd.N_mono HO_5.out (fun k_ hk=>(⟨hk,hk.2⟩:_∧k_≠gb441))) (fun _ hk=>hk.2) (.bool t432)) (fun _ hk=>hk.2) (.bool t433)) (fun _ hk=>hk.2) (.int .i64 t434)) (fun _ hk=>hk.2) (.int .i64 t435)) (fun _ hk=>hk.2) (.int .i64 t436)) (fun _ hk=>hk.2) (.slice Ao62 t437.length co62)) (fun _ h_=>h_.1)))));(case side2=>exact (Kd.N_reads' HO_5.out).2.1);(case side3=>refine (Kd.N_reads' (e:=34) (base:=w.heap.size) (ok:=fun k_=>(some k_≠(.slice (some ad428) t422.length co11:Value).ownBlock∧k_≠gb441)) (n:=t437.length) (c:=co62) ?_).2.2;exact (zzN ((Kd.N_mono (Kd.N_far (p:=⟨gb441,5,none⟩) (Kd.N_far (p:=⟨gb441,4,none⟩) (Kd.N_far (p:=⟨gb441,3,none⟩) (Kd.N_far (p:=⟨gb441,2,none⟩) (Kd.N_far (p:=⟨gb441,1,none⟩) (Kd.N_far (p:=⟨gb441,0,none⟩) (Kd.N_mono HO439.out (fun k_ hk=>(⟨hk,hk.2⟩:_∧k_≠gb441))) (fun _ hk=>hk.2) (.bool t432)) (fun _ hk=>hk.2) (.bool t433)) (fun _ hk=>hk.2) (.int .i64 t434)) (fun _ hk=>hk.2) (.int .i64 t435)) (fun _ hk=>hk.2) (.int .i64 t436)) (fun _ hk=>hk.2) (.slice Ao62 t437.length co62)) (fun _ h_=>h_.1)))));(case side4=>exact (Kd.N_reads' HO439.out).2.1);rintro e w65 ⟨v443,rfl,ho0,hb⟩;refine ⟨_,rfl,?_⟩;have n0_:=zzm (Kd.N_elder' (zzN ((Kd.N_mono (Kd.N_far (p:=⟨gb441,5,none⟩) (Kd.N_far (p:=⟨gb441,4,none⟩) (Kd.N_far (p:=⟨gb441,3,none⟩) (Kd.N_far (p:=⟨gb441,2,none⟩) (Kd.N_far (p:=⟨gb441,1,none⟩) (Kd.N_far (p:=⟨gb441,0,none⟩) (Kd.N_mono HO_5.out (fun k_ hk=>(⟨hk,hk.2⟩:_∧k_≠gb441))) (fun _ hk=>hk.2) (.bool t432)) (fun _ hk=>hk.2) (.bool t433)) (fun _ hk=>hk.2) (.int .i64 t434)) (fun _ hk=>hk.2) (.int .i64 t435)) (fun _ hk=>hk.2) (.int .i64 t436)) (fun _ hk=>hk.2) (.slice Ao62 t437.length co62)) (fun _ h_=>h_.1)))) (Kd.N_base ho0) hb);have n1_:=zzm (Kd.V_elder' (zzV ((Kd.V_mono (Kd.V_far (p:=⟨gb441,5,none⟩) (Kd.V_far (p:=⟨gb441,4,none⟩) (Kd.V_far (p:=⟨gb441,3,none⟩) (Kd.V_far (p:=⟨gb441,2,none⟩) (Kd.V_far (p:=⟨gb441,1,none⟩) (Kd.V_far (p:=⟨gb441,0,none⟩) (Kd.V_mono HL428_5.out (fun k_ hk=>(⟨hk,hk.2.2⟩:_∧k_≠gb441))) (fun _ hk=>hk.2) (.bool t432)) (fun _ hk=>hk.2) (.bool t433)) (fun _ hk=>hk.2) (.int .i64 t434)) (fun _ hk=>hk.2) (.int .i64 t435)) (fun _ hk=>hk.2) (.int .i64 t436)) (fun _ hk=>hk.2) (.slice Ao62 t437.length co62)) (fun _ h_=>h_.1)))) (Kd.N_base ho0) hb);have n2_:=zzm (Kd.V_elder' (zzV ((Kd.V_mono (Kd.V_far (p:=⟨gb441,5,none⟩) (Kd.V_far (p:=⟨gb441,4,none⟩) (Kd.V_far (p:=⟨gb441,3,none⟩) (Kd.V_far (p:=⟨gb441,2,none⟩) (Kd.V_far (p:=⟨gb441,1,none⟩) (Kd.V_far (p:=⟨gb441,0,none⟩) (Kd.V_mono HL429_3.out (fun k_ hk=>(⟨hk,hk.2.2⟩:_∧k_≠gb441))) (fun _ hk=>hk.2) (.bool t432)) (fun _ hk=>hk.2) (.bool t433)) (fun _ hk=>hk.2) (.int .i64 t434)) (fun _ hk=>hk.2) (.int .i64 t435)) (fun _ hk=>hk.2) (.int .i64 t436)) (fun _ hk=>hk.2) (.slice Ao62 t437.length co62)) (fun _ h_=>h_.1)))) (Kd.N_base ho0) hb);have n3_:=zzm (Kd.V_elder' (zzV ((Kd.V_mono (Kd.V_far (p:=⟨gb441,5,none⟩) (Kd.V_far (p:=⟨gb441,4,none⟩) (Kd.V_far (p:=⟨gb441,3,none⟩) (Kd.V_far (p:=⟨gb441,2,none⟩) (Kd.V_far (p:=⟨gb441,1,none⟩) (Kd.V_far (p:=⟨gb441,0,none⟩) (Kd.V_mono HL429_5.out (fun k_ hk=>(⟨hk,hk.2.2⟩:_∧k_≠gb441))) (fun _ hk=>hk.2) (.bool t432)) (fun _ hk=>hk.2) (.bool t433)) (fun _ hk=>hk.2) (.int .i64 t434)) (fun _ hk=>hk.2) (.int .i64 t435)) (fun _ hk=>hk.2) (.int .i64 t436)) (fun _ hk=>hk.2) (.slice Ao62 t437.length co62)) (fun _ h_=>h_.1)))) (Kd.N_base ho0) hb);have n4_:=zzm (Kd.V_elder' (zzV ((Kd.V_mono (Kd.V_far (p:=⟨gb441,5,none⟩) (Kd.V_far (p:=⟨gb441,4,none⟩) (Kd.V_far (p:=⟨gb441,3,none⟩) (Kd.V_far (p:=⟨gb441,2,none⟩) (Kd.V_far (p:=⟨gb441,1,none⟩) (Kd.V_far (p:=⟨gb441,0,none⟩) (Kd.V_mono HL430_5.out (fun k_ hk=>(⟨hk,hk.2.2⟩:_∧k_≠gb441))) (fun _ hk=>hk.2) (.bool t432)) (fun _ hk=>hk.2) (.bool t433)) (fun _ hk=>hk.2) (.int .i64 t434)) (fun _ hk=>hk.2) (.int .i64 t435)) (fun _ hk=>hk.2) (.int .i64 t436)) (fun _ hk=>hk.2) (.slice Ao62 t437.length co62)) (fun _ h_=>h_.1)))) (Kd.N_base ho0) hb);have n5_:=zzm (Kd.V_elder' (zzV ((Kd.V_mono (Kd.V_far (p:=⟨gb441,5,none⟩) (Kd.V_far (p:=⟨gb441,4,none⟩) (Kd.V_far (p:=⟨gb441,3,none⟩) (Kd.V_far (p:=⟨gb441,2,none⟩) (Kd.V_far (p:=⟨gb441,1,none⟩) (Kd.V_far (p:=⟨gb441,0,none⟩) (Kd.V_mono HL431_5.out (fun k_ hk=>(⟨hk,hk.2.2⟩:_∧k_≠gb441))) (fun _ hk=>hk.2) (.bool t432)) (fun _ hk=>hk.2) (.bool t433)) (fun _ hk=>hk.2) (.int .i64 t434)) (fun _ hk=>hk.2) (.int .i64 t435)) (fun _ hk=>hk.2) (.int .i64 t436)) (fun _ hk=>hk.2) (.slice Ao62 t437.length co62)) (fun _ h_=>h_.1)))) (Kd.N_base ho0) hb);have n6_:=zzm (Kd.N_elder' (zzN ((Kd.N_mono (Kd.N_far (p:=⟨gb441,5,none⟩) (Kd.N_far (p:=⟨gb441,4,none⟩) (Kd.N_far (p:=⟨gb441,3,none⟩) (Kd.N_far (p:=⟨gb441,2,none⟩) (Kd.N_far (p:=⟨gb441,1,none⟩) (Kd.N_far (p:=⟨gb441,0,none⟩) (Kd.N_mono HO439.out (fun k_ hk=>(⟨hk,hk.2⟩:_∧k_≠gb441))) (fun _ hk=>hk.2) (.bool t432)) (fun _ hk=>hk.2) (.bool t433)) (fun _ hk=>hk.2) (.int .i64 t434)) (fun _ hk=>hk.2) (.int .i64 t435)) (fun _ hk=>hk.2) (.int .i64 t436)) (fun _ hk=>hk.2) (.slice Ao62 t437.length co62)) (fun _ h_=>h_.1)))) (Kd.N_base ho0) hb);have n7_:=zzm (Kd.N_lower (Kd.N_mono (ok':=fun k_=>some k_≠(.slice (some ad428) t422.length co11:Value).ownBlock∧some k_≠(.slice Ao62 t437.length co62:Value).ownBlock∧k_≠gb441) ho0 (fun k_ hk_=>⟨(Kd.fresh' (Kd.N_lt (zzN ((Kd.N_mono (Kd.N_far (p:=⟨gb441,5,none⟩) (Kd.N_far (p:=⟨gb441,4,none⟩) (Kd.N_far (p:=⟨gb441,3,none⟩) (Kd.N_far (p:=⟨gb441,2,none⟩) (Kd.N_far (p:=⟨gb441,1,none⟩) (Kd.N_far (p:=⟨gb441,0,none⟩) (Kd.N_mono HO_5.out (fun k_ hk=>(⟨hk,hk.2⟩:_∧k_≠gb441))) (fun _ hk=>hk.2) (.bool t432)) (fun _ hk=>hk.2) (.bool t433)) (fun _ hk=>hk.2) (.int .i64 t434)) (fun _ hk=>hk.2) (.int .i64 t435)) (fun _ hk=>hk.2) (.int .i64 t436)) (fun _ hk=>hk.2) (.slice Ao62 t437.length co62)) (fun _ h_=>h_.1))))) k_ hk_),(Kd.fresh' (Kd.N_lt (zzN ((Kd.N_mono (Kd.N_far (p:=⟨gb441,5,none⟩) (Kd.N_far (p:=⟨gb441,4,none⟩) (Kd.N_far (p:=⟨gb441,3,none⟩) (Kd.N_far (p:=⟨gb441,2,none⟩) (Kd.N_far (p:=⟨gb441,1,none⟩) (Kd.N_far (p:=⟨gb441,0,none⟩) (Kd.N_mono HO439.out (fun k_ hk=>(⟨hk,hk.2⟩:_∧k_≠gb441))) (fun _ hk=>hk.2) (.bool t432)) (fun _ hk=>hk.2) (.bool t433)) (fun _ hk=>hk.2) (.int .i64 t434)) (fun _ hk=>hk.2) (.int .i64 t435)) (fun _ hk=>hk.2) (.int .i64 t436)) (fun _ hk=>hk.2) (.slice Ao62 t437.length co62)) (fun _ h_=>h_.1))))) k_ hk_),(Kd.freshB (g:=gb441) (o:=.cells #[.bool t432,.bool t433,.int .i64 t434,.int .i64 t435,.int .i64 t436,.slice Ao62 t437.length co62] 27 (0,0)) (by (with_reducible repeat (first|apply zzf|apply zzg|apply zze));refine zzi (cs:=#[.bool t432,.bool t433,.int .i64 t434,.int .i64 t435,.int .i64 t436,.slice none 0 0]) ?_ 5 _ rfl;(with_reducible repeat (first|apply zzf|apply zzg|apply zze));refine zzi (cs:=#[.bool t432,.bool t433,.int .i64 t434,.int .i64 t435,.int .i64 0,.slice none 0 0]) ?_ 4 _ rfl;(with_reducible repeat (first|apply zzf|apply zzg|apply zze));refine zzi (cs:=#[.bool t432,.bool t433,.int .i64 t434,.int .i64 0,.int .i64 0,.slice none 0 0]) ?_ 3 _ rfl;(with_reducible repeat (first|apply zzf|apply zzg|apply zze));refine zzi (cs:=#[.bool t432,.bool t433,.int .i64 0,.int .i64 0,.int .i64 0,.slice none 0 0]) ?_ 2 _ rfl;(with_reducible repeat (first|apply zzf|apply zzg|apply zze));refine zzi (cs:=#[.bool t432,.bool false,.int .i64 0,.int .i64 0,.int .i64 0,.slice none 0 0]) ?_ 1 _ rfl;(with_reducible repeat (first|apply zzf|apply zzg|apply zze));refine zzi (cs:=#[.bool false,.bool false,.int .i64 0,.int .i64 0,.int .i64 0,.slice none 0 0]) ?_ 0 _ rfl;(with_reducible repeat (first|apply zzf|apply zzg|apply zze));exact BK441.out) k_ hk_)⟩)) (zzo zzh2));have n8_:=zzm (zzh (g:=gb441) (o:=.cells #[.bool t432,.bool t433,.int .i64 t434,.int .i64 t435,.int .i64 t436,.slice Ao62 t437.length co62] 27 (0,0)) (by (with_reducible repeat (first|apply zzf|apply zzg|apply zze));refine zzi (cs:=#[.bool t432,.bool t433,.int .i64 t434,.int .i64 t435,.int .i64 t436,.slice none 0 0]) ?_ 5 _ rfl;(with_reducible repeat (first|apply zzf|apply zzg|apply zze));refine zzi (cs:=#[.bool t432,.bool t433,.int .i64 t434,.int .i64 t435,.int .i64 0,.slice none 0 0]) ?_ 4 _ rfl;(with_reducible repeat (first|apply zzf|apply zzg|apply zze));refine zzi (cs:=#[.bool t432,.bool t433,.int .i64 t434,.int .i64 0,.int .i64 0,.slice none 0 0]) ?_ 3 _ rfl;(with_reducible repeat (first|apply zzf|apply zzg|apply zze));refine zzi (cs:=#[.bool t432,.bool t433,.int .i64 0,.int .i64 0,.int .i64 0,.slice none 0 0]) ?_ 2 _ rfl;(with_reducible repeat (first|apply zzf|apply zzg|apply zze));refine zzi (cs:=#[.bool t432,.bool false,.int .i64 0,.int .i64 0,.int .i64 0,.slice none 0 0]) ?_ 1 _ rfl;(with_reducible repeat (first|apply zzf|apply zzg|apply zze));refine zzi (cs:=#[.bool false,.bool false,.int .i64 0,.int .i64 0,.int .i64 0,.slice none 0 0]) ?_ 0 _ rfl;(with_reducible repeat (first|apply zzf|apply zzg|apply zze));exact BK441.out) hb);have n9_:=zzm (zzp zzh2 hb);clear HO_5 HL428_5 HL429_3 HL429_5 HL430_5 HL431_5 HO439 BK441 HB;have HO_5:=n0_;have HL428_5:=n1_;have HL429_3:=n2_;have HL429_5:=n3_;have HL430_5:=n4_;have HL431_5:=n5_;have HO439:=n6_;have HO444:=n7_;have BK441:=n8_;have HB:=n9_;clear n0_ n1_ n2_ n3_ n4_ n5_ n6_ n7_ n8_ n9_;(try clear hb);(try clear hb2);(try clear hk);(try clear hi);(try clear ho0)))
              go_ret;exact ⟨by first|rfl|(simp [errW_none,errW_some] <;> rfl)|(simp [*,errW_none,errW_some] <;> rfl),by repeat (first|(with_reducible first|exact HB.out|apply zza|apply zzb|apply zzc|refine zzd ?_ GE441.out)|exact HB.out)⟩
            ·
             rw [if_neg c19] at H;have c19b0:(((rd_T34 ((rd_T27 t422 x8_3).f5) 0).f0)==t425)=false:=beq_eq_false_iff_ne.mpr c19;have c19b1:(((rd_T34 ((rd_T27 t422 x8_3).f5) 0).f0) != t425)=true:=bne_iff_ne.mpr c19;have H':=zzm H;clear H;have p428 : 0≤(x8_3:Int):=zzt;have q428:x8_3 < (t422.length:Int):=zzt;obtain ⟨ad428,A428_5,c428_5,e428,hx428_0,hx428_1,hx428_2,hx428_3,hx428_4,hx428_5,hl428_5,hi428_5⟩:=at_T27 (Kd.N_reads' HO_5.out).2.2 x8_3 p428 q428;cases e428;obtain ⟨ce428,hce428,hMe428,hcc428⟩:=Kd.N_get HO_5.out z27 x8_3 p428 (by first|exact q428|exact zzt|(have e_:=(Kd.N_reads' HO_5.out).1;omega));obtain ⟨ua428_5,uc428_5,rfl,ul428_5,ge428_5⟩:=k27_openF hMe428;have hv428_5:=hcc428 5 _ rfl;rw [add_field _ _ 5 (by omega)] at hv428_5;replace hv428_5:=Option.some.inj (hv428_5.symm.trans hx428_5);injection hv428_5 with hva_ hvn_ hvc_;rw [hva_] at ge428_5;rw [hvc_] at ul428_5;have HL428_5:=zzm (show Kd.V k34 34 _ w.heap.size _ _ ((rd_T27 t422 x8_3).f5) from Kd.V_mk ul428_5 ge428_5);clear hva_ hvn_ hvc_ ge428_5 ul428_5;clear hcc428 hce428;have HR428_5:=zzm hi428_5;have HC428_5:=zzm hl428_5;clear hi428_5 hl428_5;replace p428:=eq_true p428;replace q428:=eq_true q428;have p429 : 0≤(0:Int):=(by omega);have q429 : 0 < (((rd_T27 t422 x8_3).f5).length:Int):=zzt;obtain ⟨ad429,A429_3,c429_3,A429_5,c429_5,e429,hx429_0,hx429_1,hx429_2,hx429_3,hx429_4,hx429_5,hl429_3,hi429_3,hl429_5,hi429_5⟩:=at_T34 (zzC HR428_5.out) 0 p429 q429;cases e429;obtain ⟨ce429,hce429,hMe429,hcc429⟩:=Kd.V_get HL428_5.out z34 0 p429 (by first|exact q429|exact zzt|(have e_:=(Kd.V_reads' HL428_5.out).1;omega));obtain ⟨ua429_3,uc429_3,ua429_5,uc429_5,rfl,ul429_3,ge429_3,ul429_5,ge429_5⟩:=k34_openF hMe429;have hv429_3:=hcc429 3 _ rfl;rw [add_field _ _ 3 (by omega)] at hv429_3;replace hv429_3:=Option.some.inj (hv429_3.symm.trans hx429_3);injection hv429_3 with hva_ hvn_ hvc_;rw [hva_] at ge429_3;rw [hvc_] at ul429_3;have HL429_3:=zzm (show Kd.V (Kd.int .i64) 3 _ w.heap.size _ _ ((rd_T34 ((rd_T27 t422 x8_3).f5) 0).f3) from Kd.V_mk ul429_3 ge429_3);clear hva_ hvn_ hvc_ ge429_3 ul429_3;have hv429_5:=hcc429 5 _ rfl;rw [add_field _ _ 5 (by omega)] at hv429_5;replace hv429_5:=Option.some.inj (hv429_5.symm.trans hx429_5);injection hv429_5 with hva_ hvn_ hvc_;rw [hva_] at ge429_5;rw [hvc_] at ul429_5;have HL429_5:=zzm (show Kd.V (Kd.int .i64) 3 _ w.heap.size _ _ ((rd_T34 ((rd_T27 t422 x8_3).f5) 0).f5) from Kd.V_mk ul429_5 ge429_5);clear hva_ hvn_ hvc_ ge429_5 ul429_5;clear hcc429 hce429;have qi429:(0 < ((rd_T27 t422 x8_3).f5).length)=True:=eq_true (by omega);(try rw [show ((0:Int)).toNat=0 from rfl] at hx429_0);(try rw [show 0 * 6=0 from rfl] at hx429_0);(try rw [Addr.add_zero'] at hx429_0);(try rw [show ((0:Int)).toNat=0 from rfl] at hx429_1);(try rw [show 0 * 6=0 from rfl] at hx429_1);(try rw [Addr.add_zero'] at hx429_1);(try rw [show ((0:Int)).toNat=0 from rfl] at hx429_2);(try rw [show 0 * 6=0 from rfl] at hx429_2);(try rw [Addr.add_zero'] at hx429_2);(try rw [show ((0:Int)).toNat=0 from rfl] at hx429_3);(try rw [show 0 * 6=0 from rfl] at hx429_3);(try rw [Addr.add_zero'] at hx429_3);(try rw [show ((0:Int)).toNat=0 from rfl] at hx429_4);(try rw [show 0 * 6=0 from rfl] at hx429_4);(try rw [Addr.add_zero'] at hx429_4);(try rw [show ((0:Int)).toNat=0 from rfl] at hx429_5);(try rw [show 0 * 6=0 from rfl] at hx429_5);(try rw [Addr.add_zero'] at hx429_5);have HR429_3:=zzm hi429_3;have HC429_3:=zzm hl429_3;clear hi429_3 hl429_3;have HR429_5:=zzm hi429_5;have HC429_5:=zzm hl429_5;clear hi429_5 hl429_5;replace p429:=eq_true p429;replace q429:=eq_true q429;go_wp2;go_roundg k3
             case measure=>have:=HJ2.out;have:=HJ8.out;have:=HK3.out;omega
             case rel=>exact ⟨(wrap64 (x8_3+1)),(by first|rfl|(simp;done)|(simp [*];done)),H',⟨by have:=HJ2.out;have:=HJ8.out;have:=HK3.out;omega⟩,⟨by (with_reducible repeat (first|apply Kd.N_alloc|apply Kd.N_drewN|apply Kd.N_drew));exact HO_5.out⟩,⟨zzh1⟩⟩
           ·
            rw [if_neg c18] at H;exact absurd H (by simp)
          ·
           rw [if_neg c17] at H;exact absurd H (by simp)
         ·
          rw [if_neg c16] at H;have c16b0:decide (x8_3 < (t422.length:Int))=false:=decide_eq_false c16;clear c16;replace H:=Option.bind_eq_some_iff.mp H;obtain ⟨t427,A660,H⟩:=H;replace H:(some (t425==t427))=some r:=H;have A66:=zzm A660;clear A660;obtain rfl:=Option.some.inj H;go_wp2_with (first|((with_reducible refine gate_callee (f:=30) rfl ?_);refine goesL_ (some 91) rfl rfl Try.func30 (by kernel_rfl) rfl #[.slice Ao11 t422.length co11] rfl zzM2 ?_;(with_reducible refine (impl_ReadEnd.calls k3 _ _ t422 t427 _ ?side1 ?side2 A66.out).mono ?_);(case side1=>repeat (first|exact (Kd.N_reads' HO_5.out).2.2|(with_reducible refine Kd.C_alloc ?_ _)|(with_reducible refine Kd.C_drewN ?_ _)|(with_reducible refine Kd.C_drew ?_)));(case side2=>exact (Kd.N_reads' HO_5.out).2.1);rintro e w67 ⟨rfl,hb⟩;refine ⟨_,rfl,?_⟩;have n0_:=zzm (Kd.N_below (zzN HO_5.out) hb);have n1_:=zzm (zzp zzh1 hb);clear HO_5 HB;have HO_5:=n0_;have HB:=n1_;clear n0_ n1_;(try clear hb);(try clear hb2);(try clear hk);(try clear hi)));go_ret;exact ⟨by first|rfl|(simp [errW_none,errW_some] <;> rfl)|(simp [*,errW_none,errW_some] <;> rfl),zzh1⟩
def laws_FnStableDecide.Pure:Prop:=∀ (l0:List Int) (l1:List Int),l0.length≤maxLen→l0.length * 1≤140737488351232→(∀ x∈l0,(Lit.int .u8 x).wf=true)→l1.length≤maxLen→l1.length * 1≤140737488351232→(∀ x∈l1,(Lit.int .u8 x).wf=true)→∃ k,laws_FnStableDecide.f k l0 l1=some true
theorem laws_FnStableDecide.walk (P:laws_FnStableDecide.Pure) (a0:Option Addr) (len0 cap0:Nat) (z0:List Int) (a1:Option Addr) (len1 cap1:Nat) (z1:List Int) (w:World) (w0:(a0=none∧len0=0∧cap0=0∧z0 = [])∨∃ x,a0=some x∧len0≤cap0∧cap0≤maxLen∧z0.length=cap0∧(∀ i,i < z0.length→w.cell? (x.add i)=some (.int .u8 (z0.getD i 0)))∧∀ n∈z0,(Lit.int .u8 n).wf=true) (y0:len0 * 1≤140737488351232) (w1:(a1=none∧len1=0∧cap1=0∧z1 = [])∨∃ x,a1=some x∧len1≤cap1∧cap1≤maxLen∧z1.length=cap1∧(∀ i,i < z1.length→w.cell? (x.add i)=some (.int .u8 (z1.getD i 0)))∧∀ n∈z1,(Lit.int .u8 n).wf=true) (y1:len1 * 1≤140737488351232) :
  Calls Try.prog 11 #[.slice a0 len0 cap0,.slice a1 len1 cap1] w fun e w'=>e = .returned (.bool true)∧Below w.heap.size w w':=by
 obtain ⟨l0,rfl,hr0,hm0,hw0,hc0⟩:=ReadsInt.ofRowC w0;obtain ⟨l1,rfl,hr1,hm1,hw1,hc1⟩:=ReadsInt.ofRowC w1;obtain ⟨k,h⟩:=P l0 l1 hm0 y0 hw0 hm1 y1 hw1;refine (laws_FnStableDecide.calls k _ _ l0 _ _ l1 true w (Kd.C_of_reads (d:=(0:Int)) (h1:=fun _=>rfl) hr0) hc0 (Kd.C_of_reads (d:=(0:Int)) (h1:=fun _=>rfl) hr1) hc1 h).mono ?_;rintro e w' ⟨rfl,hd⟩;exact ⟨rfl,hd⟩
end Go.Proofs.Yticpnjhkdfdkkaa.T
namespace Go.Proofs.Yticpnjhkdfdkkaa.Q
open Go.RowKit Go.Proofs.YticpnjhkdfdkkaaW.PrintWords
set_option linter.unusedVariables false
set_option linter.unusedSimpArgs false
theorem ev_succ {α:Type} {g:Nat→Option α} {r : α} (h:Ev (fun k=>g (k+1)) r):Ev g r:=Ev.step (f:=fun k=>g (k+1)) (fun _=>rfl) h
theorem ev_of_all {α:Type} {g:Nat→Option α} {r : α} (h:∀ k,g k=some r):Ev g r:=⟨0,fun k _=>h k⟩
theorem ev_some {α:Type} (r : α):Ev (fun _=>some r) r:=ev_of_all fun _=>rfl
def Evs {α:Type} (g:Nat→Option α) (Q : α→Prop):Prop:=∃ r,Ev g r∧Q r
theorem Evs.of {α:Type} {g:Nat→Option α} {Q : α→Prop} {r : α} (h:Ev g r) (hq:Q r):Evs g Q:=⟨r,h,hq⟩
theorem Evs.done {α:Type} {Q : α→Prop} {r : α} (hq:Q r):Evs (fun _=>some r) Q:=⟨r,ev_some r,hq⟩
theorem Evs.mono {α:Type} {g:Nat→Option α} {Q Q' : α→Prop} (h:Evs g Q) (hq:∀ r,Q r→Q' r):Evs g Q':=by
 obtain ⟨r,h1,h2⟩:=h
 exact ⟨r,h1,hq r h2⟩
theorem Evs.succ {α:Type} {g:Nat→Option α} {Q : α→Prop} (h:Evs (fun k=>g (k+1)) Q):Evs g Q:=by
 obtain ⟨r,h1,h2⟩:=h
 exact ⟨r,ev_succ h1,h2⟩
theorem Evs.bind {α β:Type} {g:Nat→Option α} {f:Nat→α→Option β} {Q : α→Prop} {R : β→Prop} (h:Evs g Q) (k:∀ a,Q a→Evs (fun n=>f n a) R):Evs (fun n=>(g n).bind (f n)) R:=by
 obtain ⟨a,h1,h2⟩:=h
 obtain ⟨r,k1,k2⟩:=k a h2
 exact ⟨r,Ev.bind h1 k1,k2⟩
theorem bsome {α β:Type} (a : α) (f : α→Option β):(some a).bind f=f a:=Eq.trans (Option.bind_some a f) (Eq.refl _)
end Go.Proofs.Yticpnjhkdfdkkaa.Q
namespace Go.Proofs.Yticpnjhkdfdkkaa.Q
open Go.RowKit Go.Proofs.Yticpnjhkdfdkkaa.T Go.Proofs.YticpnjhkdfdkkaaW.PrintWords Go.Proofs.YticpnjhkdfdkkaaW.PrintLast
set_option linter.unusedVariables false
set_option linter.unusedSimpArgs false
theorem wrap_id {x:Int} (h0 : -9223372036854775808≤x) (h1:x < 9223372036854775808):wrap64 x=x:=by unfold wrap64;omega
theorem tmod_range {x n:Int} (h : 0≤x) (hn : 1≤n) : 0≤Int.tmod x n∧Int.tmod x n < n:=by
 rw [Int.tmod_eq_emod_of_nonneg h]
 exact ⟨Int.emod_nonneg _ (by omega),Int.emod_lt_of_pos _ (by omega)⟩
theorem xor_nonneg {a b:Int} (h1 : 0≤a) (h2:a < 4611686018427387904) (h3 : 0≤b) (h4:b < 4611686018427387904) : 0≤Go.bits .xor .i64 a b:=by
 obtain ⟨A,rfl⟩:=Int.eq_ofNat_of_zero_le h1
 obtain ⟨B,rfl⟩:=Int.eq_ofNat_of_zero_le h3
 have hx:A ^^^ B < 2 ^ 62:=Nat.xor_lt_two_pow (by omega) (by omega)
 have e1:(BitVec.ofInt 64 (A:Int)).toNat=A:=by
  rw [BitVec.ofInt_natCast,BitVec.toNat_ofNat];exact Nat.mod_eq_of_lt (by omega)
 have e2:(BitVec.ofInt 64 (B:Int)).toNat=B:=by
  rw [BitVec.ofInt_natCast,BitVec.toNat_ofNat];exact Nat.mod_eq_of_lt (by omega)
 show 0≤IntKind.i64.wrap ((BitVec.ofInt 64 (A:Int) ^^^ BitVec.ofInt 64 (B:Int)).toNat:Int)
 rw [BitVec.toNat_xor,e1,e2]
 simp only [IntKind.wrap,IntKind.bits,IntKind.signed]
 simp
 omega
def Bytes (b:List Int):Prop:=∀ x∈b,0≤x∧x≤255
theorem rd_bytes {b:List Int} (h:Bytes b) (i:Int) : 0≤rd b i∧rd b i≤255:=by
 unfold rd
 rw [List.getD_eq_getElem?_getD]
 cases e:b[i.toNat]? with
 | none=>simp
 | some x=>exact h x (List.mem_of_getElem? e)
theorem pick_ev (b:List Int) (p n:Int) (hb:Bytes b) (hl:b.length≤2000) (h0 : 0≤p) (h1:p≤1000000000) (hn : 1≤n) :
  ∃ v,Ev (fun k=>spec_l6Rd_pick.f k b p n) (v,p+1)∧0≤v∧v < n:=by
 have e1:wrap64 (p+1)=p+1:=wrap_id (by omega) (by omega)
 have e2:wrap64 (p+1 - 1)=p:=by rw [wrap_id (by omega) (by omega)];omega
 by_cases hz:b.length=0
 ·refine ⟨0,⟨1,fun k hk=>?_⟩,by omega,by omega⟩
  obtain ⟨k,rfl⟩:∃ m,k=m+1:=⟨k - 1,by omega⟩
  show spec_l6Rd_pick.f (k+1) b p n = _
  unfold spec_l6Rd_pick.f
  rw [if_neg (by omega),e1]
  simp [spec_l6Rd_pick.j0,hz]
 ·have hz' : (((b.length:Int)==0)=true)=False:=by simp;intro h;simp [h] at hz
  by_cases hlt:p < (b.length:Int)
  ·obtain ⟨r0,r1⟩:=rd_bytes hb p
   have:=tmod_range (x:=rd b p) r0 hn
   refine ⟨Int.tmod (rd b p) n,⟨1,fun k hk=>?_⟩,this.1,this.2⟩
   obtain ⟨k,rfl⟩:∃ m,k=m+1:=⟨k - 1,by omega⟩
   show spec_l6Rd_pick.f (k+1) b p n = _
   unfold spec_l6Rd_pick.f
   rw [if_neg (by omega),e1]
   simp only [spec_l6Rd_pick.j0,e2,hz']
   rw [if_neg (by simp),if_pos hlt,if_pos h0,if_neg (by omega),wrap_id (by omega) (by omega)]
  ·obtain ⟨q0,q1⟩:=tmod_range (x:=p) (n:=(b.length:Int)) h0 (by omega)
   obtain ⟨r0,r1⟩:=rd_bytes hb (Int.tmod p (b.length:Int))
   have f1:wrap64 (p * 7)=p * 7:=wrap_id (by omega) (by omega)
   have f2:wrap64 (p * 7+3)=p * 7+3:=wrap_id (by omega) (by omega)
   obtain ⟨q2,q3⟩:=tmod_range (x:=p * 7+3) (n:=(b.length:Int)) (by omega) (by omega)
   obtain ⟨r2,r3⟩:=rd_bytes hb (Int.tmod (p * 7+3) (b.length:Int))
   have d0 : 0≤Int.tdiv p (b.length:Int)∧Int.tdiv p (b.length:Int)≤p:=by
    rw [Int.tdiv_eq_ediv_of_nonneg h0]
    exact ⟨Int.ediv_nonneg h0 (by omega),Int.ediv_le_self _ h0⟩
   obtain ⟨x,hx⟩:∃ x,x=rd b (Int.tmod p (b.length:Int)):=⟨_,rfl⟩
   obtain ⟨y,hy⟩:∃ y,y=rd b (Int.tmod (p * 7+3) (b.length:Int)):=⟨_,rfl⟩
   obtain ⟨z,hz2⟩:∃ z,z=Int.tdiv p (b.length:Int):=⟨_,rfl⟩
   obtain ⟨s,hs⟩:∃ s,s=x * 131+y * 1117+p * 29+z * 53:=⟨_,rfl⟩
   rw [← hx] at r0 r1
   rw [← hy] at r2 r3
   rw [← hz2] at d0
   have s0 : 0≤s∧s < 4611686018427387904:=by omega
   have t0 : 0≤Int.tdiv s 64∧Int.tdiv s 64≤s:=by
    rw [Int.tdiv_eq_ediv_of_nonneg s0.1]
    exact ⟨Int.ediv_nonneg s0.1 (by omega),Int.ediv_le_self _ s0.1⟩
   have w1:wrap64 x=x:=wrap_id (by omega) (by omega)
   have w2:wrap64 y=y:=wrap_id (by omega) (by omega)
   have w3:wrap64 z=z:=wrap_id (by omega) (by omega)
   have w4:wrap64 (x * 131)=x * 131:=wrap_id (by omega) (by omega)
   have w5:wrap64 (y * 1117)=y * 1117:=wrap_id (by omega) (by omega)
   have w6:wrap64 (p * 29)=p * 29:=wrap_id (by omega) (by omega)
   have w7:wrap64 (z * 53)=z * 53:=wrap_id (by omega) (by omega)
   have w8:wrap64 (x * 131+y * 1117)=x * 131+y * 1117:=wrap_id (by omega) (by omega)
   have w9:wrap64 (x * 131+y * 1117+p * 29)=x * 131+y * 1117+p * 29:=wrap_id (by omega) (by omega)
   have wa:wrap64 (x * 131+y * 1117+p * 29+z * 53)=s:=by rw [hs];exact wrap_id (by omega) (by omega)
   have wb:wrap64 (Int.tdiv s 64)=Int.tdiv s 64:=wrap_id (by omega) (by omega)
   have:=tmod_range (x:=Go.bits .xor .i64 s (Int.tdiv s 64)) (n:=n) (xor_nonneg s0.1 s0.2 t0.1 (by omega)) hn
   refine ⟨_,⟨1,fun k hk=>?_⟩,this.1,this.2⟩
   obtain ⟨k,rfl⟩:∃ m,k=m+1:=⟨k - 1,by omega⟩
   show spec_l6Rd_pick.f (k+1) b p n = _
   unfold spec_l6Rd_pick.f
   rw [if_neg (by omega),e1]
   simp only [spec_l6Rd_pick.j0,e2,hz',f1,f2]
   rw [if_neg (by simp),if_neg hlt,if_neg (by omega),if_pos q0,if_pos q1,if_pos q2,if_pos q3,if_neg (by omega),← hx,← hy,← hz2,w1,w2,w3,w4,w5,w6,w7,w8,w9,wa,wb]
theorem pick_evs (b:List Int) (p n:Int) (hb:Bytes b) (hl:b.length≤2000) (h0 : 0≤p) (h1:p≤1000000000) (hn : 1≤n) :
  Evs (fun k=>spec_l6Rd_pick.f k b p n) (fun r=>0≤r.1∧r.1 < n∧r.2=p+1):=by
 obtain ⟨v,h,v0,v1⟩:=pick_ev b p n hb hl h0 h1 hn
 exact ⟨_,h,v0,v1,rfl⟩
theorem impl_within_eq (a b c:Int):impl_within.f a b c=some (decide (b≤a∧a≤c)):=by
 unfold impl_within.f
 by_cases h:a ≥ b
 ·rw [if_pos h]
  have:(b≤a∧a≤c)↔a≤c:=⟨fun h=>h.2,fun h'=>⟨h,h'⟩⟩
  simp [this]
 ·rw [if_neg h]
  have:¬ (b≤a∧a≤c):=fun h'=>h h'.1
  simp [this]
theorem spec_l6In_eq (a b c:Int):spec_l6In.f a b c=some (decide (b≤a∧a≤c)):=by
 unfold spec_l6In.f
 by_cases h:a ≥ b
 ·rw [if_pos h]
  have:(b≤a∧a≤c)↔a≤c:=⟨fun h=>h.2,fun h'=>⟨h,h'⟩⟩
  simp [this]
 ·rw [if_neg h]
  have:¬ (b≤a∧a≤c):=fun h'=>h h'.1
  simp [this]
theorem rd_nat (l:List Int) (j:Nat) (h:j < l.length):rd l (j:Int)=l[j]:=by
 unfold rd
 rw [Int.toNat_natCast,List.getD_eq_getElem?_getD,List.getElem?_eq_getElem h]
 rfl
theorem drop_int {l:List Int} {i:Nat} (h:i < l.length):l.drop i=rd l i::l.drop (i+1):=by
 rw [List.drop_eq_getElem_cons h,rd_nat l i h]
def ab (l:List Int):Bool:=decide (∀ x∈l,0≤x∧x≤255)
theorem ab_cons (x:Int) (l:List Int):ab (x::l)=(decide (0≤x∧x≤255)&&ab l):=by
 rw [Bool.eq_iff_iff]
 simp [ab,List.forall_mem_cons]
theorem ab_nil:ab []=true:=by simp [ab]
theorem isByte_eq (a:Int):impl_isByte.f a=some (decide (0≤a∧a≤255)):=by
 unfold impl_isByte.f
 by_cases h:a ≥ 0
 ·rw [if_pos h]
  have:(0≤a∧a≤255)↔a≤255:=⟨fun h=>h.2,fun h'=>⟨h,h'⟩⟩
  simp [this]
 ·rw [if_neg h]
  have:¬ (0≤a∧a≤255):=fun h'=>h h'.1
  simp [this]
theorem baseValid_eq (a b:Int):impl_baseValid.f a b=some (decide ((0≤a∧a≤99999)∧(0≤b∧b≤99999))):=by
 unfold impl_baseValid.f
 rw [impl_within_eq,impl_within_eq]
 by_cases h : 0≤a∧a≤99999 <;> simp [h]
theorem idValid_eqB (a:Int):impl_idValid.f a=some (decide (0≤a∧a≤254)):=by
 unfold impl_idValid.f
 rw [impl_within_eq]
 rfl
theorem implAll_loop (l:List Int) (hl:l.length≤1000000000000000):∀ (d i:Nat),l.length - i=d→i≤l.length→Ev (fun k=>impl_allBytes.l0 k l (l.length:Int) (i:Int)) (ab (l.drop i)):=by
 intro d
 induction d with
 | zero=>
  intro i hd hi
  rw [show l.drop i = [] from List.drop_eq_nil_of_le (by omega),ab_nil]
  refine ev_succ ?_
  simp only [impl_allBytes.l0,if_neg (show ¬ (i:Int) < (l.length:Int) by omega)]
  exact ev_some _
 | succ d ih=>
  intro i hd hi
  have e1:wrap64 ((i:Int)+1)=((i+1:Nat):Int):=by rw [wrap_id (by omega) (by omega)];omega
  rw [drop_int (show i < l.length by omega),ab_cons]
  refine ev_succ ?_
  simp only [impl_allBytes.l0,if_pos (show (i:Int) < (l.length:Int) by omega),if_pos (show (0:Int)≤i by omega),isByte_eq,bsome,decide_eq_true_eq,e1]
  by_cases h : 0≤rd l (i:Int)∧rd l (i:Int)≤255
  ·simp only [if_pos h,decide_eq_true h,Bool.true_and]
   exact ih (i+1) (by omega) (by omega)
  ·simp only [if_neg h,decide_eq_false h,Bool.false_and]
   exact ev_some _
theorem implAll (l:List Int) (hl:l.length≤1000000000000000):Ev (fun k=>impl_allBytes.f k l) (ab l):=by
 unfold impl_allBytes.f
 have:=implAll_loop l hl l.length 0 (by omega) (by omega)
 simpa using this
theorem specAll_loop (l:List Int) (hl:l.length≤1000000000000000):∀ (d i:Nat),l.length - i=d→i≤l.length→Ev (fun k=>spec_l1Ok.l0 k l (i:Int)) (ab (l.drop i)):=by
 intro d
 induction d with
 | zero=>
  intro i hd hi
  rw [show l.drop i = [] from List.drop_eq_nil_of_le (by omega),ab_nil]
  refine ev_succ ?_
  simp only [spec_l1Ok.l0,if_neg (show ¬ (i:Int) < (l.length:Int) by omega)]
  exact ev_some _
 | succ d ih=>
  intro i hd hi
  have e1:wrap64 ((i:Int)+1)=((i+1:Nat):Int):=by rw [wrap_id (by omega) (by omega)];omega
  rw [drop_int (show i < l.length by omega),ab_cons]
  refine ev_succ ?_
  simp only [spec_l1Ok.l0,if_pos (show (i:Int) < (l.length:Int) by omega),if_pos (show (0:Int)≤i by omega),spec_l6In_eq,bsome,decide_eq_true_eq,e1]
  by_cases h : 0≤rd l (i:Int)∧rd l (i:Int)≤255
  ·simp only [if_pos h,decide_eq_true h,Bool.true_and]
   exact ih (i+1) (by omega) (by omega)
  ·simp only [if_neg h,decide_eq_false h,Bool.false_and]
   exact ev_some _
theorem specAll (l:List Int) (hl:l.length≤1000000000000000):Ev (fun k=>spec_l1Ok.f k l) (ab l):=by
 unfold spec_l1Ok.f
 have:=specAll_loop l hl l.length 0 (by omega) (by omega)
 simpa using this
def pv (has:Bool) (l:List Int):Bool:=if has=true then decide (l.length≤12)&&ab l else decide (l.length=0)
theorem implPart (has:Bool) (l:List Int) (hl:l.length≤1000000000000000):Ev (fun k=>impl_partValid.f k has l) (pv has l):=by
 unfold impl_partValid.f pv
 cases has with
 | true=>
  simp only [if_true]
  by_cases h:(l.length:Int)≤12
  ·simp only [if_pos h,decide_eq_true (show l.length≤12 by omega),Bool.true_and]
   exact Ev.bind (implAll l hl) (ev_some _)
  ·simp only [if_neg h,decide_eq_false (show ¬ l.length≤12 by omega),Bool.false_and]
   exact ev_some _
 | false=>
  simp only [Bool.false_eq_true,if_false]
  rw [show ((l.length:Int)==0)=decide (l.length=0) by rw [Bool.eq_iff_iff];simp]
  exact ev_some _
theorem specPart (has:Bool) (l:List Int) (hl:l.length≤1000000000000000):Ev (fun k=>spec_l3Part.f k has l) (pv has l):=by
 unfold spec_l3Part.f pv
 cases has with
 | true=>
  simp only [if_true]
  refine Ev.bind (specAll l hl) ?_
  by_cases h:ab l=true
  ·simp only [if_pos h,h,Bool.and_true]
   rw [show decide ((l.length:Int)≤12)=decide (l.length≤12) by rw [decide_eq_decide];omega]
   exact ev_some _
  ·simp only [if_neg h,show ab l=false by simpa using h,Bool.and_false]
   exact ev_some _
 | false=>
  simp only [Bool.false_eq_true,if_false]
  by_cases h:l.length=0
  ·simp only [if_pos (show (l.length:Int)=0 by omega),decide_eq_true h]
   refine Ev.bind (specAll l hl) ?_
   have hn:l = []:=List.length_eq_zero_iff.1 h
   subst hn
   simp only [ab_nil,if_true]
   exact ev_some _
  ·simp only [if_neg (show ¬ (l.length:Int)=0 by omega),decide_eq_false h]
   exact ev_some _
abbrev Rc:=S34
abbrev rr (l:List Rc) (i:Int):Rc:=rd_T34 l i
theorem rr_nat (l:List Rc) (j:Nat) (h:j < l.length):rr l (j:Int)=l[j]:=by
 unfold rr rd_T34
 rw [Int.toNat_natCast,List.getD_eq_getElem?_getD,List.getElem?_eq_getElem h]
 rfl
def smallR (r:Rc):Prop:=r.f3.length≤1000000000000000∧r.f5.length≤1000000000000000
def smallRs (l:List Rc):Prop:=l.length≤1000000000000000∧∀ r∈l,smallR r
theorem smallRs_at {l:List Rc} (h:smallRs l) (j:Nat) (hj:j < l.length):smallR (rr l (j:Int)):=by
 rw [rr_nat l j hj]
 exact h.2 _ (List.getElem_mem hj)
def rv (r:Rc):Bool:=decide ((0≤r.f0∧r.f0≤99999)∧(0≤r.f1∧r.f1≤99999))&&(pv r.f2 r.f3&&pv r.f4 r.f5)
theorem implRec (r:Rc) (h:smallR r):Ev (fun k=>impl_RecordValid.f k r.f0 r.f1 r.f2 r.f3 r.f4 r.f5) (rv r):=by
 unfold impl_RecordValid.f rv
 simp only [baseValid_eq,bsome,decide_eq_true_eq]
 by_cases h0:(0≤r.f0∧r.f0≤99999)∧(0≤r.f1∧r.f1≤99999)
 ·simp only [if_pos h0,decide_eq_true h0,Bool.true_and]
  refine Ev.bind (implPart _ _ h.1) ?_
  by_cases h1:pv r.f2 r.f3=true
  ·simp only [if_pos h1,h1,Bool.true_and]
   exact Ev.bind (implPart _ _ h.2) (ev_some _)
  ·simp only [if_neg h1,show pv r.f2 r.f3=false by simpa using h1,Bool.false_and]
   exact ev_some _
 ·simp only [if_neg h0,decide_eq_false h0,Bool.false_and]
  exact ev_some _
theorem specRec (r:Rc) (h:smallR r):Ev (fun k=>spec_RecordValid.f k r.f0 r.f1 r.f2 r.f3 r.f4 r.f5) (rv r):=by
 unfold spec_RecordValid.f rv
 simp only [spec_l6In_eq,bsome,decide_eq_true_eq]
 by_cases h0 : 0≤r.f0∧r.f0≤99999
 ·by_cases h1 : 0≤r.f1∧r.f1≤99999
  ·simp only [if_pos h0,if_pos h1,decide_eq_true (show (0≤r.f0∧r.f0≤99999)∧(0≤r.f1∧r.f1≤99999) from ⟨h0,h1⟩),Bool.true_and]
   refine Ev.bind (specPart _ _ h.1) ?_
   by_cases h2:pv r.f2 r.f3=true
   ·simp only [if_pos h2,h2,Bool.true_and]
    exact Ev.bind (specPart _ _ h.2) (ev_some _)
   ·simp only [if_neg h2,show pv r.f2 r.f3=false by simpa using h2,Bool.false_and]
    exact ev_some _
  ·simp only [if_pos h0,if_neg h1,decide_eq_false (show ¬ ((0≤r.f0∧r.f0≤99999)∧(0≤r.f1∧r.f1≤99999)) from fun h=>h1 h.2),Bool.false_and]
   exact ev_some _
 ·simp only [if_neg h0,decide_eq_false (show ¬ ((0≤r.f0∧r.f0≤99999)∧(0≤r.f1∧r.f1≤99999)) from fun h=>h0 h.1),Bool.false_and]
  exact ev_some _
def RF (l:List Rc) (i:Nat):Prop:=∀ j,i≤j→j < l.length→rv (rr l j)=true∧(0 < j→(rr l ((j:Int) - 1)).f0 < (rr l j).f0)
theorem RF_end {l:List Rc} {i:Nat} (h:l.length≤i):RF l i:=fun j h1 h2=>by omega
theorem RF_step {l:List Rc} {i:Nat} (h:i < l.length):RF l i↔(rv (rr l i)=true∧(0 < i→(rr l ((i:Int) - 1)).f0 < (rr l i).f0))∧RF l (i+1):=by
 constructor
 ·intro hv
  exact ⟨hv i (Nat.le_refl _) h,fun j h1 h2=>hv j (by omega) h2⟩
 ·rintro ⟨h1,h2⟩ j h3 h4
  by_cases e:j=i
  ·subst e;exact h1
  ·exact h2 j (by omega) h4
theorem implRecs_loop (l:List Rc) (hl:smallRs l) (a0 a1:Bool) (a2 a3 a4:Int):∀ (d i:Nat),l.length - i=d→i≤l.length→Evs (fun k=>impl_BatchValid.l0 k l (l.length:Int) (i:Int) a0 a1 a2 a3 a4 l) (fun b=>b=true↔RF l i):=by
 intro d
 induction d with
 | zero=>
  intro i hd hi
  refine Evs.succ ?_
  simp only [impl_BatchValid.l0,if_neg (show ¬ (i:Int) < (l.length:Int) by omega)]
  exact Evs.done (by simp;exact RF_end (by omega))
 | succ d ih=>
  intro i hd hi
  have hll:=hl.1
  have hn:=ih (i+1) (by omega) (by omega)
  have e1:wrap64 ((i:Int)+1)=((i+1:Nat):Int):=by rw [wrap_id (by omega) (by omega)];omega
  have e2:wrap64 ((i:Int) - 1)=(i:Int) - 1:=wrap_id (by omega) (by omega)
  rw [RF_step (show i < l.length by omega)]
  refine Evs.succ ?_
  simp only [impl_BatchValid.l0,if_pos (show (i:Int) < (l.length:Int) by omega),if_pos (show (0:Int)≤i by omega),e1,e2]
  refine Evs.bind (Evs.of (implRec (rr l (i:Int)) (smallRs_at hl i (by omega))) rfl:Evs _ (fun x=>x=rv (rr l (i:Int)))) ?_
  rintro _ rfl
  by_cases h1:rv (rr l (i:Int))=true
  ·simp only [if_pos h1]
   by_cases h0:(i:Int) > 0
   ·simp only [if_pos h0,if_pos (show 0≤(i:Int) - 1 by omega),if_pos (show (i:Int) - 1 < (l.length:Int) by omega)]
    by_cases h2:(rr l ((i:Int) - 1)).f0 ≥ (rr l (i:Int)).f0
    ·simp only [if_pos h2]
     refine Evs.done ?_
     simp only [Bool.false_eq_true,false_iff]
     rintro ⟨⟨_,h3⟩,_⟩
     have:=h3 (by omega)
     omega
    ·simp only [if_neg h2]
     refine hn.mono fun b hb=>?_
     rw [hb]
     exact ⟨fun h=>⟨⟨h1,fun _=>by omega⟩,h⟩,fun h=>h.2⟩
   ·simp only [if_neg h0]
    refine hn.mono fun b hb=>?_
    rw [hb]
    exact ⟨fun h=>⟨⟨h1,fun h'=>absurd h' (by omega)⟩,h⟩,fun h=>h.2⟩
  ·simp only [if_neg h1]
   exact Evs.done (by simp only [Bool.false_eq_true,false_iff];exact fun h=>h1 h.1.1)
theorem specRecs_loop (l:List Rc) (hl:smallRs l):∀ (d i:Nat),l.length - i=d→i≤l.length→Evs (fun k=>spec_l5Records.l0 k l (i:Int)) (fun b=>b=true↔RF l i∧1≤l.length∧l.length≤6):=by
 intro d
 induction d with
 | zero=>
  intro i hd hi
  refine Evs.succ ?_
  simp only [spec_l5Records.l0,if_neg (show ¬ (i:Int) < (l.length:Int) by omega),spec_l6In_eq,bsome]
  exact Evs.done (by simp only [decide_eq_true_eq];exact ⟨fun h=>⟨RF_end (by omega),by omega,by omega⟩,fun h=>by have:=h.2;omega⟩)
 | succ d ih=>
  intro i hd hi
  have hll:=hl.1
  have hn:=ih (i+1) (by omega) (by omega)
  have e1:wrap64 ((i:Int)+1)=((i+1:Nat):Int):=by rw [wrap_id (by omega) (by omega)];omega
  have e2:wrap64 ((i:Int) - 1)=(i:Int) - 1:=wrap_id (by omega) (by omega)
  rw [RF_step (show i < l.length by omega)]
  refine Evs.succ ?_
  simp only [spec_l5Records.l0,if_pos (show (i:Int) < (l.length:Int) by omega),if_pos (show (0:Int)≤i by omega),e1,e2]
  refine Evs.bind (Evs.of (specRec (rr l (i:Int)) (smallRs_at hl i (by omega))) rfl:Evs _ (fun x=>x=rv (rr l (i:Int)))) ?_
  rintro _ rfl
  by_cases h1:rv (rr l (i:Int))=true
  ·simp only [if_pos h1]
   by_cases h0:(i:Int) > 0
   ·simp only [if_pos h0,if_pos (show 0≤(i:Int) - 1 by omega),if_pos (show (i:Int) - 1 < (l.length:Int) by omega)]
    by_cases h2:(rr l ((i:Int) - 1)).f0 ≥ (rr l (i:Int)).f0
    ·simp only [if_pos h2]
     refine Evs.done ?_
     simp only [Bool.false_eq_true,false_iff]
     rintro ⟨⟨⟨_,h3⟩,_⟩,_⟩
     have:=h3 (by omega)
     omega
    ·simp only [if_neg h2]
     refine hn.mono fun b hb=>?_
     rw [hb]
     exact ⟨fun h=>⟨⟨⟨h1,fun _=>by omega⟩,h.1⟩,h.2⟩,fun h=>⟨h.1.2,h.2⟩⟩
   ·simp only [if_neg h0]
    refine hn.mono fun b hb=>?_
    rw [hb]
    exact ⟨fun h=>⟨⟨⟨h1,fun h'=>absurd h' (by omega)⟩,h.1⟩,h.2⟩,fun h=>⟨h.1.2,h.2⟩⟩
  ·simp only [if_neg h1]
   exact Evs.done (by simp only [Bool.false_eq_true,false_iff];exact fun h=>h1 h.1.1.1)
def VB (a1:Bool) (a2 a3 a4:Int) (l:List Rc):Prop:=
 (if a2=255 then a3=0∧a4=0∧a1=false else (0≤a2∧a2≤254)∧(0≤a3∧a3≤99)∧(0≤a4∧a4≤9999))∧(1≤l.length∧l.length≤6)∧(a1=true→l.length=1)∧RF l 0
theorem implB_j0 (a0 a1:Bool) (a2 a3 a4:Int) (l:List Rc) (hl:smallRs l):Evs (fun k=>impl_BatchValid.j0 k a0 a1 a2 a3 a4 l) (fun b=>b=true↔(1≤l.length∧l.length≤6)∧(a1=true→l.length=1)∧RF l 0):=by
 have hr:=implRecs_loop l hl a0 a1 a2 a3 a4 l.length 0 (by omega) (by omega)
 refine Evs.succ ?_
 simp only [impl_BatchValid.j0,impl_within_eq,bsome,decide_eq_true_eq]
 by_cases h : 1≤(l.length:Int)∧(l.length:Int)≤6
 ·simp only [if_pos h]
  cases a1 with
  | true=>
   simp only [if_true]
   refine Evs.succ ?_
   by_cases h1:l.length=1
   ·simp only [impl_BatchValid.j1,show ((l.length:Int) != 1)=false by rw [h1];rfl,Bool.false_eq_true,if_false]
    refine hr.mono fun b hb=>?_
    rw [hb]
    exact ⟨fun h2=>⟨by omega,fun _=>h1,h2⟩,fun h2=>h2.2.2⟩
   ·simp only [impl_BatchValid.j1,show ((l.length:Int) != 1)=true by simp;omega,if_true]
    exact Evs.done (by simp only [Bool.false_eq_true,false_iff];exact fun h2=>h1 (h2.2.1 trivial))
  | false=>
   simp only [Bool.false_eq_true,if_false]
   refine Evs.succ ?_
   simp only [impl_BatchValid.j1,Bool.false_eq_true,if_false]
   refine hr.mono fun b hb=>?_
   rw [hb]
   exact ⟨fun h2=>⟨by omega,(fun h3=>h3.elim),h2⟩,fun h2=>h2.2.2⟩
 ·simp only [if_neg h]
  refine Evs.succ ?_
  simp only [impl_BatchValid.j1,if_true]
  exact Evs.done (by simp only [Bool.false_eq_true,false_iff];exact fun h2=>h ⟨by have:=h2.1.1;omega,by have:=h2.1.2;omega⟩)
theorem implB_evs (a0 a1:Bool) (a2 a3 a4:Int) (l:List Rc) (hl:smallRs l):Evs (fun k=>impl_BatchValid.f k a0 a1 a2 a3 a4 l) (fun b=>b=true↔VB a1 a2 a3 a4 l):=by
 have hj:=implB_j0 a0 a1 a2 a3 a4 l hl
 unfold impl_BatchValid.f VB
 by_cases h:a2=255
 ·simp only [if_pos h]
  by_cases h3:a3=0
  ·simp only [if_pos h3]
   by_cases h4:a4=0
   ·simp only [if_pos h4]
    cases a1 with
    | true=>
     simp only [if_true]
     exact Evs.done (by simp)
    | false=>
     simp only [Bool.false_eq_true,if_false]
     refine hj.mono fun b hb=>?_
     rw [hb]
     exact ⟨fun h2=>⟨⟨h3,h4,trivial⟩,h2.1,(fun h5=>h5.elim),h2.2.2⟩,fun h2=>⟨h2.2.1,(fun h5=>by cases h5),h2.2.2.2⟩⟩
   ·simp only [if_neg h4]
    exact Evs.done (by simp only [Bool.false_eq_true,false_iff];exact fun h2=>h4 h2.1.2.1)
  ·simp only [if_neg h3]
   exact Evs.done (by simp only [Bool.false_eq_true,false_iff];exact fun h2=>h3 h2.1.1)
 ·simp only [if_neg h,idValid_eqB,impl_within_eq,bsome,decide_eq_true_eq]
  by_cases h2 : 0≤a2∧a2≤254
  ·simp only [if_pos h2]
   by_cases h3 : 0≤a3∧a3≤99
   ·simp only [if_pos h3]
    by_cases h4 : 0≤a4∧a4≤9999
    ·simp only [if_pos h4]
     refine hj.mono fun b hb=>?_
     rw [hb]
     exact ⟨fun h5=>⟨⟨h2,h3,h4⟩,h5⟩,fun h5=>h5.2⟩
    ·simp only [if_neg h4]
     exact Evs.done (by simp only [Bool.false_eq_true,false_iff];exact fun h5=>h4 h5.1.2.2)
   ·simp only [if_neg h3]
    exact Evs.done (by simp only [Bool.false_eq_true,false_iff];exact fun h5=>h3 h5.1.2.1)
  ·simp only [if_neg h2]
   exact Evs.done (by simp only [Bool.false_eq_true,false_iff];exact fun h5=>h2 h5.1.1)
theorem specB_j0_true (a0 a1:Bool) (a2 a3 a4:Int) (l:List Rc):Evs (fun k=>spec_BatchValid.j0 k true a0 a1 a2 a3 a4 l) (fun b=>b=false):=by
 refine Evs.succ ?_
 simp only [spec_BatchValid.j0,if_true]
 exact Evs.done rfl
theorem specB_evs (a0 a1:Bool) (a2 a3 a4:Int) (l:List Rc) (hl:smallRs l):Evs (fun k=>spec_BatchValid.f k a0 a1 a2 a3 a4 l) (fun b=>b=true↔VB a1 a2 a3 a4 l):=by
 have hr:=specRecs_loop l hl l.length 0 (by omega) (by omega)
 have no:∀ {P:Prop},¬ P→∀ b:Bool,b=false→(b=true↔P):=fun hP b hb=>by rw [hb];simp only [Bool.false_eq_true,false_iff];exact hP
 unfold spec_BatchValid.f
 unfold spec_l5Records.f
 refine Evs.bind hr ?_
 intro t ht
 by_cases h:t=true
 ·obtain ⟨hRF,hl1⟩:=ht.1 h
  simp only [if_pos h,spec_l6In_eq,bsome,decide_eq_true_eq]
  by_cases h2 : 0≤a2∧a2≤255
  ·simp only [if_pos h2]
   by_cases h3 : 0≤a3∧a3≤99
   ·simp only [if_pos h3]
    by_cases h4 : 0≤a4∧a4≤9999
    ·simp only [decide_eq_true h4,Bool.not_true]
     refine Evs.succ ?_
     simp only [spec_BatchValid.j0,Bool.false_eq_true,if_false]
     unfold VB
     by_cases h5:a2=255
     ·simp only [if_pos h5]
      by_cases h6:a3=0
      ·simp only [if_pos h6]
       by_cases h7:a4=0
       ·simp only [if_pos h7]
        refine Evs.done ?_
        cases a1
        ·simp;exact ⟨⟨h6,h7⟩,hl1,hRF⟩
        ·simp
       ·simp only [if_neg h7]
        exact Evs.done (no (fun h8=>h7 h8.1.2.1) _ rfl)
      ·simp only [if_neg h6]
       exact Evs.done (no (fun h8=>h6 h8.1.1) _ rfl)
     ·simp only [if_neg h5]
      cases a1 with
      | true=>
       simp only [if_true]
       refine Evs.done ?_
       simp only [beq_iff_eq]
       exact ⟨fun h8=>⟨⟨by omega,h3,h4⟩,hl1,fun _=>by omega,hRF⟩,fun h8=>by have:=h8.2.2.1 trivial;omega⟩
      | false=>
       simp only [Bool.false_eq_true,if_false]
       refine Evs.done ?_
       simp only [true_iff]
       exact ⟨⟨by omega,h3,h4⟩,hl1,(fun h8=>h8.elim),hRF⟩
    ·simp only [decide_eq_false h4,Bool.not_false]
     refine (specB_j0_true a0 a1 a2 a3 a4 l).mono (no ?_)
     unfold VB
     split
     ·rintro ⟨⟨_,h8,_⟩,_⟩
      exact h4 (by omega)
     ·exact fun h8=>h4 h8.1.2.2
   ·simp only [if_neg h3]
    refine (specB_j0_true a0 a1 a2 a3 a4 l).mono (no ?_)
    unfold VB
    split
    ·rintro ⟨⟨h8,_,_⟩,_⟩
     exact h3 (by omega)
    ·exact fun h8=>h3 h8.1.2.1
  ·simp only [if_neg h2]
   refine (specB_j0_true a0 a1 a2 a3 a4 l).mono (no ?_)
   unfold VB
   split
   ·rename_i h8
    exact fun _=>h2 (by omega)
   ·exact fun h8=>h2 (by have:=h8.1.1;omega)
 ·simp only [if_neg h]
  refine (specB_j0_true a0 a1 a2 a3 a4 l).mono (no ?_)
  exact fun h8=>h (ht.2 ⟨h8.2.2.2,h8.2.1⟩)
open Classical in
noncomputable def vb (a1:Bool) (a2 a3 a4:Int) (l:List Rc):Bool:=decide (VB a1 a2 a3 a4 l)
theorem vb_iff (a1:Bool) (a2 a3 a4:Int) (l:List Rc):vb a1 a2 a3 a4 l=true↔VB a1 a2 a3 a4 l:=by unfold vb;simp
theorem implB (a0 a1:Bool) (a2 a3 a4:Int) (l:List Rc) (hl:smallRs l):Ev (fun k=>impl_BatchValid.f k a0 a1 a2 a3 a4 l) (vb a1 a2 a3 a4 l):=by
 obtain ⟨b,hb,h⟩:=implB_evs a0 a1 a2 a3 a4 l hl
 rw [show vb a1 a2 a3 a4 l=b by rw [Bool.eq_iff_iff,vb_iff,h]]
 exact hb
theorem specB (a0 a1:Bool) (a2 a3 a4:Int) (l:List Rc) (hl:smallRs l):Ev (fun k=>spec_BatchValid.f k a0 a1 a2 a3 a4 l) (vb a1 a2 a3 a4 l):=by
 obtain ⟨b,hb,h⟩:=specB_evs a0 a1 a2 a3 a4 l hl
 rw [show vb a1 a2 a3 a4 l=b by rw [Bool.eq_iff_iff,vb_iff,h]]
 exact hb
theorem bytes_of {l:List Int} (h:∀ x∈l,(Lit.int .u8 x).wf=true):Bytes l:=by
 intro x hx
 have:=h x hx
 simp [Lit.wf,IntKind.min,IntKind.max,IntKind.signed,IntKind.bits] at this
 omega
theorem open_ev (l:List Int) (h:Bytes l):∃ b,spec_l6Open.f l=some (b,0)∧Bytes b∧b.length≤2000:=by
 unfold spec_l6Open.f
 by_cases hc:(l.length:Int) > 2000
 ·rw [if_pos hc,if_pos (by omega)]
  exact ⟨_,rfl,fun x hx=>h x (List.mem_of_mem_take hx),by rw [length_take];omega⟩
 ·rw [if_neg hc]
  exact ⟨_,rfl,h,by omega⟩
theorem lim2 {n c:Nat} (h:n≤2000) (hc : 2000 < c):n < c:=by omega
theorem part_loop (bs:List Int) (hb:Bytes bs) (hl:bs.length≤2000):∀ (d:Nat) (l:List Int) (n i p:Int),n - i≤d→0≤i→(l.length:Int)≤i→(l.length:Int)≤12→n≤12→0≤p→p+2 * d≤900000000 →
  Evs (fun k=>spec_l91Part.l0 k l n i bs p) (fun r=>r.2.1.length≤12∧p≤r.2.2∧r.2.2≤p+2 * d):=by
 intro d
 induction d with
 | zero=>
  intro l n i p hd hi hll h12 hn h0 h1
  refine Evs.succ ?_
  simp only [spec_l91Part.l0,if_neg (show ¬ i < n by omega)]
  exact Evs.done ⟨by dsimp only;omega,by dsimp only;omega,by dsimp only;omega⟩
 | succ d ih=>
  intro l n i p hd hi hll h12 hn h0 h1
  refine Evs.succ ?_
  by_cases hlt:i < n
  ·have e1:wrap64 (i+1)=i+1:=wrap_id (by omega) (by omega)
   simp only [spec_l91Part.l0,if_pos hlt,bsome,e1]
   refine Evs.bind (pick_evs bs p 256 hb hl h0 (by omega) (by omega)) ?_
   rintro ⟨u,_⟩ ⟨u0,u1,rfl⟩
   refine Evs.bind (pick_evs bs (p+1) 4 hb hl (by omega) (by omega) (by omega)) ?_
   rintro ⟨v,_⟩ ⟨v0,v1,rfl⟩
   simp only [if_pos v0,if_pos (show v < (([1,2,3,u]:List Int).length:Int) from v1),if_pos (show l.length < 17592186044416 from lim2 (by omega) (by omega))]
   have h:=ih (l ++ [rd [1,2,3,u] v]) n (i+1) (p+1+1) (by omega) (by omega) (by simp;omega) (by simp;omega) hn (by omega) (by omega)
   exact h.mono (fun r hr=>⟨hr.1,by have:=hr.2.1;omega,by have:=hr.2.2;omega⟩)
  ·simp only [spec_l91Part.l0,if_neg hlt]
   exact Evs.done ⟨by dsimp only;omega,by dsimp only;omega,by dsimp only;omega⟩
theorem part_evs (bs:List Int) (hb:Bytes bs) (hl:bs.length≤2000) (p:Int) (h0 : 0≤p) (h1:p≤800000000):Evs (fun k=>spec_l91Part.f k bs p) (fun r=>r.2.1.length≤12∧p≤r.2.2∧r.2.2≤p+30):=by
 unfold spec_l91Part.f
 refine Evs.bind (pick_evs bs p 4 hb hl h0 (by omega) (by omega)) ?_
 rintro ⟨u,_⟩ ⟨u0,u1,rfl⟩
 by_cases hu:u=0
 ·simp only [if_pos hu]
  exact Evs.done ⟨by simp,by dsimp only;omega,by dsimp only;omega⟩
 ·simp only [if_neg hu,bsome]
  refine Evs.bind (pick_evs bs (p+1) 5 hb hl (by omega) (by omega) (by omega)) ?_
  rintro ⟨v,_⟩ ⟨v0,v1,rfl⟩
  refine Evs.bind (pick_evs bs (p+1+1) 12 hb hl (by omega) (by omega) (by omega)) ?_
  rintro ⟨x,_⟩ ⟨x0,x1,rfl⟩
  by_cases hx:x=0
  ·simp only [if_pos hx]
   refine Evs.succ ?_
   simp only [spec_l91Part.j0]
   have h:=part_loop bs hb hl 12 [] 12 0 (p+1+1+1) (by omega) (by omega) (by simp) (by simp) (by omega) (by omega) (by omega)
   exact h.mono (fun r hr=>⟨hr.1,by have:=hr.2.1;omega,by have:=hr.2.2;omega⟩)
  ·simp only [if_neg hx]
   refine Evs.succ ?_
   simp only [spec_l91Part.j0]
   have h:=part_loop bs hb hl 12 [] v 0 (p+1+1+1) (by omega) (by omega) (by simp) (by simp) (by omega) (by omega) (by omega)
   exact h.mono (fun r hr=>⟨hr.1,by have:=hr.2.1;omega,by have:=hr.2.2;omega⟩)
def drawnR (n:Nat) (l:List Rc):Prop:=l.length≤n∧∀ r∈l,r.f3.length≤12∧r.f5.length≤12
theorem drawnR_small {n:Nat} (hn:n≤100000) {l:List Rc} (h:drawnR n l):smallRs l:=⟨by have:=h.1;omega,fun r hr=>⟨by have:=(h.2 r hr).1;omega,by have:=(h.2 r hr).2;omega⟩⟩
theorem drawnR_add {n:Nat} {l:List Rc} (h:drawnR n l) {r:Rc} (h3:r.f3.length≤12) (h5:r.f5.length≤12):drawnR (n+1) (l ++ [r]):=by
 refine ⟨by have:=h.1;simp;omega,fun x hx=>?_⟩
 rcases List.mem_append.1 hx with hx|hx
 ·exact h.2 x hx
 ·rw [List.mem_singleton.1 hx]
  exact ⟨h3,h5⟩
theorem drawnR_mono {n m:Nat} {l:List Rc} (h:drawnR n l) (hm:n≤m):drawnR m l:=⟨by have:=h.1;omega,h.2⟩
theorem recs_loop (bs:List Int) (hb:Bytes bs) (hl:bs.length≤2000) (n:Int) (hn:n≤100):∀ (d:Nat) (o:Int) (l:List Rc) (t i p:Int),n - i≤d→0≤i→drawnR i.toNat l→(0 < i→0 < l.length)→0≤p→p+70 * d≤700000000 →
  Evs (fun k=>spec_l91Records.l0 k o l n t i bs p) (fun r=>drawnR (max i n).toNat r.1∧(0 < max i n→0 < r.1.length)∧p≤r.2∧r.2≤p+70 * d):=by
 intro d
 induction d with
 | zero=>
  intro o l t i p hd hi hll hpos h0 h1
  refine Evs.succ ?_
  simp only [spec_l91Records.l0,if_neg (show ¬ i < n by omega)]
  exact Evs.done ⟨by dsimp only;exact drawnR_mono hll (by omega),by dsimp only;intro h;exact hpos (by omega),by dsimp only;omega,by dsimp only;omega⟩
 | succ d ih=>
  intro o l t i p hd hi hll hpos h0 h1
  refine Evs.succ ?_
  by_cases hlt:i < n
  ·have e1:wrap64 (i+1)=i+1:=wrap_id (by omega) (by omega)
   have hlen:=hll.1
   simp only [spec_l91Records.l0,if_pos hlt]
   refine Evs.bind (part_evs bs hb hl p h0 (by omega)) ?_
   rintro ⟨kh,kl,p1⟩ ⟨hk,q0,q1⟩
   dsimp only at hk q0 q1 ⊢
   refine Evs.bind (part_evs bs hb hl p1 (by omega) (by omega)) ?_
   rintro ⟨vh,vl,p2⟩ ⟨hv,q2,q3⟩
   dsimp only at hv q2 q3 ⊢
   have main:∀ (c:Bool) (q:Int),0≤q→p≤q→q≤p2+1→Evs (fun k=>spec_l91Records.j1 k o l n t i vh vl c bs q o t kh kl false) (fun r=>drawnR (max i n).toNat r.1∧(0 < max i n→0 < r.1.length)∧p≤r.2∧r.2≤p+70 * (d+1:Nat)):=by
    intro c q hq0 hq1 hq2
    refine Evs.succ ?_
    have hlim:l.length < 1759218604441:=lim2 (by omega) (by omega)
    cases c with
    | true=>
     simp only [spec_l91Records.j1,if_true,if_pos hlim,e1]
     refine Evs.bind (pick_evs bs q 3 hb hl (by omega) (by omega) (by omega)) ?_
     rintro ⟨u,_⟩ ⟨u0,u1,rfl⟩
     refine Evs.bind (pick_evs bs (q+1) 5 hb hl (by omega) (by omega) (by omega)) ?_
     rintro ⟨v,_⟩ ⟨v0,v1,rfl⟩
     refine Evs.bind (pick_evs bs (q+1+1) 30 hb hl (by omega) (by omega) (by omega)) ?_
     rintro ⟨x,_⟩ ⟨x0,x1,rfl⟩
     have h:=ih (wrap64 (wrap64 (o+1)+wrap64 (Int.tdiv v 4))) (l ++ [⟨o,t,kh,[u],vh,vl⟩]) (mx (wrap64 (wrap64 (t+x) - 6)) 0) (i+1) (q+1+1+1) (by omega) (by omega) (drawnR_mono (drawnR_add hll (by simp) hv) (by omega)) (fun _=>by simp) (by omega) (by omega)
     rw [show max (i+1) n=max i n by omega] at h
     exact h.mono (fun r hr=>⟨hr.1,hr.2.1,by have:=hr.2.2.1;omega,by have:=hr.2.2.2;omega⟩)
    | false=>
     simp only [spec_l91Records.j1,Bool.false_eq_true,if_false,if_pos hlim,e1]
     refine Evs.bind (pick_evs bs q 5 hb hl (by omega) (by omega) (by omega)) ?_
     rintro ⟨v,_⟩ ⟨v0,v1,rfl⟩
     refine Evs.bind (pick_evs bs (q+1) 30 hb hl (by omega) (by omega) (by omega)) ?_
     rintro ⟨x,_⟩ ⟨x0,x1,rfl⟩
     have h:=ih (wrap64 (wrap64 (o+1)+wrap64 (Int.tdiv v 4))) (l ++ [⟨o,t,kh,kl,vh,vl⟩]) (mx (wrap64 (wrap64 (t+x) - 6)) 0) (i+1) (q+1+1) (by omega) (by omega) (drawnR_mono (drawnR_add hll hk hv) (by omega)) (fun _=>by simp) (by omega) (by omega)
     rw [show max (i+1) n=max i n by omega] at h
     exact h.mono (fun r hr=>⟨hr.1,hr.2.1,by have:=hr.2.2.1;omega,by have:=hr.2.2.2;omega⟩)
   by_cases hkh:kh=true
   ·simp only [if_pos hkh]
    refine Evs.bind (pick_evs bs p2 2 hb hl (by omega) (by omega) (by omega)) ?_
    rintro ⟨u,_⟩ ⟨u0,u1,rfl⟩
    exact main (u==0) (p2+1) (by omega) (by omega) (by omega)
   ·simp only [if_neg hkh]
    exact main false p2 (by omega) (by omega) (by omega)
  ·simp only [spec_l91Records.l0,if_neg hlt]
   exact Evs.done ⟨by dsimp only;exact drawnR_mono hll (by omega),by dsimp only;intro h;exact hpos (by omega),by dsimp only;omega,by dsimp only;omega⟩
theorem recs_evs (bs:List Int) (hb:Bytes bs) (hl:bs.length≤2000) (p o m:Int) (h0 : 0≤p) (h1:p≤600000000) (hm : 1≤m) (hm2:m≤10):Evs (fun k=>spec_l91Records.f k bs p o m) (fun r=>drawnR m.toNat r.1∧0 < r.1.length∧p≤r.2∧r.2≤p+800):=by
 unfold spec_l91Records.f
 refine Evs.bind (pick_evs bs p m hb hl h0 (by omega) hm) ?_
 rintro ⟨u,_⟩ ⟨u0,u1,rfl⟩
 refine Evs.bind (pick_evs bs (p+1) 200 hb hl (by omega) (by omega) (by omega)) ?_
 rintro ⟨v,_⟩ ⟨v0,v1,rfl⟩
 simp only [show wrap64 (1+u)=1+u from wrap_id (by omega) (by omega)]
 have h:=recs_loop bs hb hl (1+u) (by omega) 10 o [] v 0 (p+1+1) (by omega) (by omega) ⟨by simp,fun r hr=>by cases hr⟩ (fun h=>by omega) (by omega) (by omega)
 exact h.mono (fun r hr=>⟨drawnR_mono hr.1 (by omega),hr.2.1 (by omega),by have:=hr.2.2.1;omega,by have:=hr.2.2.2;omega⟩)
abbrev Bt:=S27
abbrev rb (l:List Bt) (i:Int):Bt:=rd_T27 l i
theorem rb_nat (l:List Bt) (j:Nat) (h:j < l.length):rb l (j:Int)=l[j]:=by
 unfold rb rd_T27
 rw [Int.toNat_natCast,List.getD_eq_getElem?_getD,List.getElem?_eq_getElem h]
 rfl
def smallBs (l:List Bt):Prop:=l.length≤2000000∧∀ b∈l,smallRs b.f5
theorem smallBs_at {l:List Bt} (h:smallBs l) (j:Nat) (hj:j < l.length):smallRs (rb l (j:Int)).f5:=by
 rw [rb_nat l j hj]
 exact h.2 _ (List.getElem_mem hj)
def fOff (b:Bt):Int:=(rr b.f5 0).f0
def lOff (b:Bt):Int:=(rr b.f5 ((b.f5.length:Int) - 1)).f0
def vB (b:Bt):Prop:=VB b.f1 b.f2 b.f3 b.f4 b.f5
theorem vB_pos {b:Bt} (h:vB b) : 1≤b.f5.length∧b.f5.length≤6:=h.2.1
theorem first_eq {b:Bt} (h:vB b):impl_Batch_first.f b.f0 b.f1 b.f2 b.f3 b.f4 b.f5=some (fOff b):=by
 have:=vB_pos h
 unfold impl_Batch_first.f
 rw [if_pos (show 0 < (b.f5.length:Int) by omega)]
 rfl
theorem last_eq {b:Bt} (h:vB b):impl_Batch_last.f b.f0 b.f1 b.f2 b.f3 b.f4 b.f5=some (lOff b):=by
 have:=vB_pos h
 have e:wrap64 ((b.f5.length:Int) - 1)=(b.f5.length:Int) - 1:=wrap_id (by omega) (by omega)
 unfold impl_Batch_last.f
 rw [e,if_pos (show 0≤(b.f5.length:Int) - 1 by omega),if_pos (show (b.f5.length:Int) - 1 < (b.f5.length:Int) by omega)]
 rfl
theorem lastS_eq {b:Bt} (h:vB b):spec_l12Last.f b.f0 b.f1 b.f2 b.f3 b.f4 b.f5=some (lOff b):=by
 have:=vB_pos h
 have e:wrap64 ((b.f5.length:Int) - 1)=(b.f5.length:Int) - 1:=wrap_id (by omega) (by omega)
 unfold spec_l12Last.f
 rw [e,if_pos (show 0≤(b.f5.length:Int) - 1 by omega),if_pos (show (b.f5.length:Int) - 1 < (b.f5.length:Int) by omega)]
 rfl
theorem RF_lt {l:List Rc} (h:RF l 0):∀ (d i:Nat),i+d+1 < l.length→(rr l (i:Int)).f0 < (rr l ((i+d+1:Nat):Int)).f0
 | 0,i,hi=>by
  have:=(h (i+1) (by omega) hi).2 (by omega)
  rw [show ((i+1:Nat):Int) - 1=(i:Int) by omega] at this
  exact this
 | d+1,i,hi=>by
  have h1:=RF_lt h d i (by omega)
  have:=(h (i+d+2) (by omega) (by omega)).2 (by omega)
  rw [show ((i+d+2:Nat):Int) - 1=((i+d+1:Nat):Int) by omega] at this
  exact Int.lt_trans h1 this
theorem fOff_le {b:Bt} (h:vB b):fOff b≤lOff b:=by
 have hp:=vB_pos h
 unfold fOff lOff
 by_cases h1:b.f5.length=1
 ·rw [h1]
  exact Int.le_refl _
 ·have:=RF_lt h.2.2.2 (b.f5.length - 2) 0 (by omega)
  rw [show ((0+(b.f5.length - 2)+1:Nat):Int)=(b.f5.length:Int) - 1 by omega] at this
  exact Int.le_of_lt this
theorem fOff_range {b:Bt} (h:vB b) : 0≤fOff b∧fOff b≤99999:=by
 have hp:=vB_pos h
 have:=(h.2.2.2 0 (Nat.le_refl _) (by omega)).1
 unfold rv at this
 rw [Bool.and_eq_true,decide_eq_true_eq] at this
 exact this.1.1
theorem lOff_range {b:Bt} (h:vB b) : 0≤lOff b∧lOff b≤99999:=by
 have hp:=vB_pos h
 have:=(h.2.2.2 (b.f5.length - 1) (Nat.zero_le _) (by omega)).1
 unfold rv at this
 rw [Bool.and_eq_true,decide_eq_true_eq] at this
 rw [show ((b.f5.length - 1:Nat):Int)=(b.f5.length:Int) - 1 by omega] at this
 exact this.1.1
def LF (l:List Bt) (i:Nat):Prop:=∀ j,i≤j→j < l.length→vB (rb l j)∧(0 < j→lOff (rb l ((j:Int) - 1)) < fOff (rb l j))
def VL (l:List Bt):Prop:=l.length≤8∧LF l 0
theorem LF_end {l:List Bt} {i:Nat} (h:l.length≤i):LF l i:=fun j h1 h2=>by omega
theorem LF_step {l:List Bt} {i:Nat} (h:i < l.length):LF l i↔(vB (rb l i)∧(0 < i→lOff (rb l ((i:Int) - 1)) < fOff (rb l i)))∧LF l (i+1):=by
 constructor
 ·intro hl
  exact ⟨hl i (Nat.le_refl _) h,fun j h1 h2=>hl j (by omega) h2⟩
 ·rintro ⟨h0,h1⟩ j hj1 hj2
  by_cases he:j=i
  ·subst he;exact h0
  ·exact h1 j (by omega) hj2
open Classical in
noncomputable def vl (l:List Bt):Bool:=decide (VL l)
theorem vl_iff (l:List Bt):vl l=true↔VL l:=by unfold vl;simp
theorem vl_of {b:Bool} {l:List Bt} (h:b=true↔VL l):b=vl l:=by
 rw [Bool.eq_iff_iff,h,vl_iff]
theorem vb_vB (b:Bt):vb b.f1 b.f2 b.f3 b.f4 b.f5=true↔vB b:=vb_iff _ _ _ _ _
theorem implLog_loop (l:List Bt) (hl:smallBs l):∀ (d i:Nat),l.length - i=d→i≤l.length→(∀ j,j < i→vB (rb l (j:Int)))→Evs (fun k=>impl_LogValid.l0 k l l (l.length:Int) (i:Int)) (fun b=>b=true↔LF l i):=by
 have hs:=hl.1
 intro d
 induction d with
 | zero=>
  intro i hd hi _
  refine Evs.succ ?_
  simp only [impl_LogValid.l0,if_neg (show ¬ (i:Int) < (l.length:Int) by omega)]
  exact Evs.done ⟨fun _=>LF_end (by omega),fun _=>rfl⟩
 | succ d ih=>
  intro i hd hi hv
  have hlt:i < l.length:=by omega
  have e1:wrap64 ((i:Int)+1)=((i+1:Nat):Int):=by rw [wrap_id (by omega) (by omega)];omega
  refine Evs.succ ?_
  simp only [impl_LogValid.l0,if_pos (show (i:Int) < (l.length:Int) by omega),if_pos (show (0:Int)≤(i:Int) by omega),e1]
  refine Evs.bind (Evs.of (implB (rb l i).f0 (rb l i).f1 (rb l i).f2 (rb l i).f3 (rb l i).f4 (rb l i).f5 (smallBs_at hl i hlt)) rfl) ?_
  rintro _ rfl
  by_cases hb:vB (rb l i)
  ·have hb2:=(vb_vB (rb l i)).2 hb
   simp only [if_pos hb2]
   have hv2:∀ j,j < i+1→vB (rb l (j:Int)):=fun j hj=>by
    by_cases he:j=i
    ·subst he;exact hb
    ·exact hv j (by omega)
   by_cases h0:i=0
   ·subst h0
    simp only [if_neg (show ¬ ((0:Nat):Int) > 0 by omega)]
    refine (ih 1 (by omega) (by omega) hv2).mono fun b hb3=>?_
    rw [hb3,LF_step hlt]
    exact ⟨fun h=>⟨⟨hb,fun h=>absurd h (by omega)⟩,h⟩,fun h=>h.2⟩
   ·have e2:wrap64 ((i:Int) - 1)=(i:Int) - 1:=wrap_id (by omega) (by omega)
    have hp:vB (rb l ((i:Int) - 1)):=by have:=hv (i - 1) (by omega);rwa [show ((i - 1:Nat):Int)=(i:Int) - 1 by omega] at this
    have f1:=last_eq hp
    have f2:=first_eq hb
    simp only [if_pos (show (i:Int) > 0 by omega),e2,if_pos (show 0≤(i:Int) - 1 by omega),if_pos (show (i:Int) - 1 < (l.length:Int) by omega)]
    rw [show (rd_T27 l ((i:Int) - 1))=rb l ((i:Int) - 1) from rfl,show (rd_T27 l (i:Int))=rb l (i:Int) from rfl,f1,f2]
    simp only [bsome]
    by_cases hc:lOff (rb l ((i:Int) - 1)) ≥ fOff (rb l i)
    ·simp only [if_pos hc]
     refine Evs.done ?_
     rw [LF_step hlt]
     simp only [Bool.false_eq_true,false_iff]
     intro h
     have:=h.1.2 (by omega)
     omega
    ·simp only [if_neg hc]
     refine (ih (i+1) (by omega) (by omega) hv2).mono fun b hb3=>?_
     rw [hb3,LF_step hlt]
     exact ⟨fun h=>⟨⟨hb,fun _=>by omega⟩,h⟩,fun h=>h.2⟩
  ·have hb2:¬ vb (rb l i).f1 (rb l i).f2 (rb l i).f3 (rb l i).f4 (rb l i).f5=true:=fun h=>hb ((vb_vB (rb l i)).1 h)
   simp only [if_neg hb2]
   refine Evs.done ?_
   rw [LF_step hlt]
   simp only [Bool.false_eq_true,false_iff]
   exact fun h=>hb h.1.1
theorem implLog (l:List Bt) (hl:smallBs l):Ev (fun k=>impl_LogValid.f k l) (vl l):=by
 have hs:=hl.1
 unfold impl_LogValid.f
 by_cases h:(l.length:Int) > 8
 ·simp only [if_pos h]
  have:vl l=false:=by rw [← Bool.not_eq_true,vl_iff];exact fun h2=>by have:=h2.1;omega
  rw [this]
  exact ev_some _
 ·simp only [if_neg h]
  obtain ⟨b,h1,h2⟩:=implLog_loop l hl l.length 0 (by omega) (by omega) (fun j hj=>by omega)
  have:b=vl l:=vl_of (h2.trans ⟨fun h3=>⟨by omega,h3⟩,fun h3=>h3.2⟩)
  rw [← this]
  exact h1
theorem specLog_loop (l:List Bt) (hl:smallBs l):∀ (d i:Nat),l.length - i=d→i≤l.length→(∀ j,j < i→vB (rb l (j:Int)))→Evs (fun k=>spec_LogValid.l0 k l (i:Int)) (fun b=>b=true↔LF l i∧l.length≤8):=by
 have hs:=hl.1
 intro d
 induction d with
 | zero=>
  intro i hd hi _
  refine Evs.succ ?_
  simp only [spec_LogValid.l0,if_neg (show ¬ (i:Int) < (l.length:Int) by omega)]
  refine Evs.done ?_
  rw [decide_eq_true_eq]
  exact ⟨fun h=>⟨LF_end (by omega),by omega⟩,fun h=>by omega⟩
 | succ d ih=>
  intro i hd hi hv
  have hlt:i < l.length:=by omega
  have e1:wrap64 ((i:Int)+1)=((i+1:Nat):Int):=by rw [wrap_id (by omega) (by omega)];omega
  refine Evs.succ ?_
  simp only [spec_LogValid.l0,if_pos (show (i:Int) < (l.length:Int) by omega),if_pos (show (0:Int)≤(i:Int) by omega),e1]
  refine Evs.bind (Evs.of (specB (rb l i).f0 (rb l i).f1 (rb l i).f2 (rb l i).f3 (rb l i).f4 (rb l i).f5 (smallBs_at hl i hlt)) rfl) ?_
  rintro _ rfl
  by_cases hb:vB (rb l i)
  ·have hb2:=(vb_vB (rb l i)).2 hb
   simp only [if_pos hb2]
   have hv2:∀ j,j < i+1→vB (rb l (j:Int)):=fun j hj=>by
    by_cases he:j=i
    ·subst he;exact hb
    ·exact hv j (by omega)
   by_cases h0:i=0
   ·subst h0
    simp only [if_neg (show ¬ ((0:Nat):Int) > 0 by omega)]
    refine (ih 1 (by omega) (by omega) hv2).mono fun b hb3=>?_
    rw [hb3,LF_step hlt]
    exact ⟨fun h=>⟨⟨⟨hb,fun h=>absurd h (by omega)⟩,h.1⟩,h.2⟩,fun h=>⟨h.1.2,h.2⟩⟩
   ·have e2:wrap64 ((i:Int) - 1)=(i:Int) - 1:=wrap_id (by omega) (by omega)
    have hp:vB (rb l ((i:Int) - 1)):=by have:=hv (i - 1) (by omega);rwa [show ((i - 1:Nat):Int)=(i:Int) - 1 by omega] at this
    have f1:=lastS_eq hp
    have hpos:=(vB_pos hb).1
    simp only [if_pos (show (i:Int) > 0 by omega),e2,if_pos (show 0≤(i:Int) - 1 by omega),if_pos (show (i:Int) - 1 < (l.length:Int) by omega)]
    rw [show (rd_T27 l ((i:Int) - 1))=rb l ((i:Int) - 1) from rfl,show (rd_T27 l (i:Int))=rb l (i:Int) from rfl,f1]
    simp only [bsome,if_pos (show 0 < ((rb l (i:Int)).f5.length:Int) by omega)]
    by_cases hc:lOff (rb l ((i:Int) - 1)) ≥ fOff (rb l i)
    ·simp only [if_pos (show lOff (rb l ((i:Int) - 1)) ≥ (rd_T34 (rb l (i:Int)).f5 0).f0 from hc)]
     refine Evs.done ?_
     rw [LF_step hlt]
     simp only [Bool.false_eq_true,false_iff]
     intro h
     have:=h.1.1.2 (by omega)
     omega
    ·simp only [if_neg (show ¬ lOff (rb l ((i:Int) - 1)) ≥ (rd_T34 (rb l (i:Int)).f5 0).f0 from hc)]
     refine (ih (i+1) (by omega) (by omega) hv2).mono fun b hb3=>?_
     rw [hb3,LF_step hlt]
     exact ⟨fun h=>⟨⟨⟨hb,fun _=>by omega⟩,h.1⟩,h.2⟩,fun h=>⟨h.1.2,h.2⟩⟩
  ·have hb2:¬ vb (rb l i).f1 (rb l i).f2 (rb l i).f3 (rb l i).f4 (rb l i).f5=true:=fun h=>hb ((vb_vB (rb l i)).1 h)
   simp only [if_neg hb2]
   refine Evs.done ?_
   rw [LF_step hlt]
   simp only [Bool.false_eq_true,false_iff]
   exact fun h=>hb h.1.1.1
theorem specLog (l:List Bt) (hl:smallBs l):Ev (fun k=>spec_LogValid.f k l) (vl l):=by
 unfold spec_LogValid.f
 obtain ⟨b,h1,h2⟩:=specLog_loop l hl l.length 0 (by omega) (by omega) (fun j hj=>by omega)
 have:b=vl l:=vl_of (h2.trans ⟨fun h3=>⟨h3.2,h3.1⟩,fun h3=>⟨h3.2,h3.1⟩⟩)
 rw [← this]
 exact h1
theorem VL_at {l:List Bt} (h:VL l) (j:Nat) (hj:j < l.length):vB (rb l (j:Int)):=(h.2 j (Nat.zero_le _) hj).1
theorem VL_lt {l:List Bt} (h:VL l):∀ (d i:Nat),i+d+1 < l.length→fOff (rb l (i:Int)) < fOff (rb l ((i+d+1:Nat):Int))
 | 0,i,hi=>by
  have h1:=(h.2 (i+1) (Nat.zero_le _) hi).2 (by omega)
  rw [show ((i+1:Nat):Int) - 1=(i:Int) by omega] at h1
  have:=fOff_le (VL_at h i (by omega))
  exact Int.lt_of_le_of_lt this h1
 | d+1,i,hi=>by
  have h0:=VL_lt h d i (by omega)
  have h1:=(h.2 (i+d+2) (Nat.zero_le _) (by omega)).2 (by omega)
  rw [show ((i+d+2:Nat):Int) - 1=((i+d+1:Nat):Int) by omega] at h1
  have:=fOff_le (VL_at h (i+d+1) (by omega))
  exact Int.lt_trans h0 (Int.lt_of_le_of_lt this h1)
theorem VL_lt' {l:List Bt} (h:VL l) {i j:Nat} (hij:i < j) (hj:j < l.length):fOff (rb l (i:Int)) < fOff (rb l (j:Int)):=by
 have:=VL_lt h (j - i - 1) i (by omega)
 rwa [show i+(j - i - 1)+1=j by omega] at this
theorem VL_inj {l:List Bt} (h:VL l) {i j:Nat} (hi:i < l.length) (hj:j < l.length) (he:fOff (rb l (i:Int))=fOff (rb l (j:Int))):i=j:=by
 rcases Nat.lt_trichotomy i j with h1|h1|h1
 ·have:=VL_lt' h h1 hj;omega
 ·exact h1
 ·have:=VL_lt' h h1 hi;omega
theorem markRow_small (o t:Int) (g:Bool):smallRs (markRow o t g):=by
 refine ⟨by simp [markRow],fun r hr=>?_⟩
 rw [List.mem_singleton.1 hr]
 exact ⟨by simp,by simp⟩
noncomputable def markB (p e o t:Int) (g:Bool):Bool×Bool×Int×Int×Int×List Rc×Bool:=if vb true p e 0 (markRow o t g)=true then (false,true,p,e,0,markRow o t g,true) else (false,false,0,0,0,[],false)
theorem specMark (p e o t:Int) (g:Bool):Ev (fun k=>spec_MarkBatch.f k p e o t g) (markB p e o t g):=by
 have h:=specB false true p e 0 (markRow o t g) (markRow_small o t g)
 unfold spec_MarkBatch.f markB
 refine Ev.bind h ?_
 by_cases hv:vb true p e 0 (markRow o t g)=true
 ·simp only [if_pos hv];exact ev_some _
 ·simp only [if_neg hv];exact ev_some _
def drawnBs (n:Nat) (l:List Bt):Prop:=l.length≤n∧∀ b∈l,drawnR 5 b.f5
theorem drawnBs_add {n:Nat} {l:List Bt} (h:drawnBs n l) {b:Bt} (hb:drawnR 5 b.f5):drawnBs (n+1) (l ++ [b]):=by
 refine ⟨by have:=h.1;simp;omega,fun x hx=>?_⟩
 rcases List.mem_append.1 hx with hx|hx
 ·exact h.2 x hx
 ·rw [List.mem_singleton.1 hx];exact hb
theorem drawnBs_mono {n m:Nat} {l:List Bt} (h:drawnBs n l) (hm:n≤m):drawnBs m l:=⟨by have:=h.1;omega,h.2⟩
theorem drawnBs_small {l:List Bt} (h:drawnBs 10 l):smallBs l:=⟨by have:=h.1;omega,fun b hb=>drawnR_small (by omega) (h.2 b hb)⟩
theorem drawnBs_set {n:Nat} {l:List Bt} (h:drawnBs n l) (i:Nat) {b:Bt} (hb:drawnR 5 b.f5):drawnBs n (l.set i b):=by
 refine ⟨by rw [List.length_set];exact h.1,fun x hx=>?_⟩
 rcases List.mem_or_eq_of_mem_set hx with hx|hx
 ·exact h.2 x hx
 ·rw [hx];exact hb
theorem markRow_drawn (o t:Int) (g:Bool):drawnR 5 (markRow o t g):=by
 refine ⟨by simp [markRow],fun r hr=>?_⟩
 rw [List.mem_singleton.1 hr]
 exact ⟨by simp,by simp⟩
theorem decided_loop (bs:List Int) (hb:Bytes bs) (hl:bs.length≤2000) (n:Int) (hn:n≤10) (hn2 : 1≤n):∀ (d:Nat) (l:List Bt) (o i p:Int),n - i≤d→0≤i→i≤n→drawnBs i.toNat l→(0 < i→0 < l.length)→0≤p→p+1000 * d≤400000000 →
  Evs (fun k=>spec_l92Decided.l0 k l n o i bs p) (fun r=>drawnBs 10 r.1):=by
 intro d
 induction d with
 | zero=>
  intro l o i p hd hi hin hdr hpos h0 h1
  refine Evs.succ ?_
  simp only [spec_l92Decided.l0,if_neg (show ¬ i < n by omega)]
  refine Evs.bind (pick_evs bs p 24 hb hl h0 (by omega) (by omega)) ?_
  rintro ⟨u,_⟩ ⟨u0,u1,rfl⟩
  by_cases hu:u=0
  ·have hlp:=hpos (by omega)
   simp only [if_pos hu,if_pos (show 0 < (l.length:Int) by omega)]
   refine Evs.done (drawnBs_set (drawnBs_mono hdr (by omega)) _ ?_)
   show drawnR 5 (rb l ((0:Nat):Int)).f5
   rw [rb_nat l 0 hlp]
   exact hdr.2 _ (List.getElem_mem hlp)
  ·simp only [if_neg hu]
   exact Evs.done (drawnBs_mono hdr (by omega))
 | succ d ih=>
  intro l o i p hd hi hin hdr hpos h0 h1
  by_cases hlt:i < n
  ·have e1:wrap64 (i+1)=i+1:=wrap_id (by omega) (by omega)
   have hlen:=hdr.1
   refine Evs.succ ?_
   simp only [spec_l92Decided.l0,if_pos hlt]
   refine Evs.bind (pick_evs bs p 2 hb hl h0 (by omega) (by omega)) ?_
   rintro ⟨u,_⟩ ⟨u0,u1,rfl⟩
   refine Evs.bind (recs_evs bs hb hl (p+1) o 2 (by omega) (by omega) (by omega) (by omega)) ?_
   rintro ⟨rs,q⟩ ⟨hd4,hrp,q0,q1⟩
   dsimp only at hd4 hrp q0 q1 ⊢
   have hlen2:=hd4.1
   refine Evs.bind (pick_evs bs q 6 hb hl (by omega) (by omega) (by omega)) ?_
   rintro ⟨v,_⟩ ⟨v0,v1,rfl⟩
   have next:∀ (b:Bt) (o' p' : Int),drawnR 5 b.f5→0≤p'→p' ≤ p+1000→Evs (fun k=>spec_l92Decided.l0 k (l ++ [b]) n o' (i+1) bs p') (fun r=>drawnBs 10 r.1):=fun b o' p' hb' h0' h1'=>
    ih (l ++ [b]) o' (i+1) p' (by omega) (by omega) (by omega) (drawnBs_mono (drawnBs_add hdr hb') (by omega)) (fun _=>by simp) h0' (by omega)
   have hlim:l.length < 2513169434916:=lim2 (by omega) (by omega)
   have w1:∀ x:List Rc,0 < x.length→x.length≤5→wrap64 ((x.length:Int) - 1)=(x.length:Int) - 1:=fun x hx hx2=>wrap_id (by omega) (by omega)
   have main:∀ c:Bool,Evs (fun k=>spec_l92Decided.j1 k l n o i v c bs (q+1) false false u 0 0 rs) (fun r=>drawnBs 10 r.1):=by
    intro c
    refine Evs.succ ?_
    cases c with
    | true=>
     simp only [spec_l92Decided.j1,if_true]
     refine Evs.bind (pick_evs bs (q+1) 2 hb hl (by omega) (by omega) (by omega)) ?_
     rintro ⟨a,_⟩ ⟨a0,a1,rfl⟩
     refine Evs.bind (pick_evs bs (q+1+1) 100 hb hl (by omega) (by omega) (by omega)) ?_
     rintro ⟨c1,_⟩ ⟨c0,c2,rfl⟩
     refine Evs.bind (pick_evs bs (q+1+1+1) 2 hb hl (by omega) (by omega) (by omega)) ?_
     rintro ⟨e,_⟩ ⟨e0,e2,rfl⟩
     refine Evs.bind (Evs.of (specMark a 0 o c1 (e==0)) rfl) ?_
     rintro _ rfl
     unfold markB
     by_cases hv:vb true a 0 0 (markRow o c1 (e==0))=true
     ·have hml:(markRow o c1 (e==0)).length=1:=by simp [markRow]
      simp only [if_pos hv,if_true,if_pos hlim,w1 _ (show 0 < (markRow o c1 (e==0)).length by omega) (by omega),if_pos (show 0≤((markRow o c1 (e==0)).length:Int) - 1 by omega),if_pos (show ((markRow o c1 (e==0)).length:Int) - 1 < ((markRow o c1 (e==0)).length:Int) by omega),e1]
      exact next _ _ _ (markRow_drawn _ _ _) (by omega) (by omega)
     ·simp only [if_neg hv,Bool.false_eq_true,if_false,if_pos hlim,w1 rs hrp (by omega),if_pos (show 0≤(rs.length:Int) - 1 by omega),if_pos (show (rs.length:Int) - 1 < (rs.length:Int) by omega),e1]
      exact next _ _ _ (drawnR_mono hd4 (by omega)) (by omega) (by omega)
    | false=>
     simp only [spec_l92Decided.j1,Bool.false_eq_true,if_false]
     by_cases hv2:v=2
     ·simp only [if_pos hv2,if_pos hlim,w1 rs hrp (by omega),if_pos (show 0≤(rs.length:Int) - 1 by omega),if_pos (show (rs.length:Int) - 1 < (rs.length:Int) by omega),e1]
      exact next _ _ _ (drawnR_mono hd4 (by omega)) (by omega) (by omega)
     ·simp only [if_neg hv2,if_pos hlim,w1 rs hrp (by omega),if_pos (show 0≤(rs.length:Int) - 1 by omega),if_pos (show (rs.length:Int) - 1 < (rs.length:Int) by omega),e1]
      exact next _ _ _ (drawnR_mono hd4 (by omega)) (by omega) (by omega)
   by_cases hv0:v=0
   ·simp only [if_pos hv0];exact main _
   ·simp only [if_neg hv0];exact main _
  ·have hni:i=n:=by omega
   subst hni
   refine Evs.succ ?_
   simp only [spec_l92Decided.l0,if_neg (show ¬ i < i by omega)]
   refine Evs.bind (pick_evs bs p 24 hb hl h0 (by omega) (by omega)) ?_
   rintro ⟨u,_⟩ ⟨u0,u1,rfl⟩
   by_cases hu:u=0
   ·have hlp:=hpos (by omega)
    simp only [if_pos hu,if_pos (show 0 < (l.length:Int) by omega)]
    refine Evs.done (drawnBs_set (drawnBs_mono hdr (by omega)) _ ?_)
    show drawnR 5 (rb l ((0:Nat):Int)).f5
    rw [rb_nat l 0 hlp]
    exact hdr.2 _ (List.getElem_mem hlp)
   ·simp only [if_neg hu]
    exact Evs.done (drawnBs_mono hdr (by omega))
theorem decided_evs (bs:List Int) (hb:Bytes bs) (hl:bs.length≤2000):Evs (fun k=>spec_l92Decided.f k bs 0) (fun r=>drawnBs 10 r.1):=by
 unfold spec_l92Decided.f
 refine Evs.bind (pick_evs bs 0 6 hb hl (by omega) (by omega) (by omega)) ?_
 rintro ⟨u,_⟩ ⟨u0,u1,rfl⟩
 refine Evs.bind (pick_evs bs (0+1) 5 hb hl (by omega) (by omega) (by omega)) ?_
 rintro ⟨v,_⟩ ⟨v0,v1,rfl⟩
 have e:wrap64 (2+u)=2+u:=wrap_id (by omega) (by omega)
 simp only [e]
 exact decided_loop bs hb hl (2+u) (by omega) (by omega) 10 [] v 0 (0+1+1) (by omega) (by omega) (by omega) ⟨by simp,fun b hb=>by cases hb⟩ (fun h=>by omega) (by omega) (by omega)
theorem drawStable {l0:List Int} (hb:Bytes l0):Evs (fun k=>spec_DrawStableEnd.f k l0) (fun r=>drawnBs 10 r):=by
 obtain ⟨b,ho,hb2,hbl⟩:=open_ev l0 hb
 unfold spec_DrawStableEnd.f
 simp only [ho,bsome]
 refine Evs.bind (decided_evs b hb2 hbl) ?_
 rintro ⟨r,p⟩ h
 exact Evs.done h
abbrev pr (l:List Bt) (i:Nat):Int:=(rb l (i:Int)).f2
abbrev mk (l:List Bt) (i:Nat):Bool:=(rb l (i:Int)).f1
def nm (l:List Bt):Nat→Nat→Option Nat
 | 0,_=>none
 | k+1,i=>match nm l k i with
  | some j=>some j
  | none=>if i < k∧mk l k=true∧pr l k=pr l i then some k else none
theorem nm_succ_some {l:List Bt} {k i j:Nat} (h:nm l k i=some j):nm l (k+1) i=some j:=by simp only [nm,h]
theorem nm_le {l:List Bt} {i j:Nat} : ∀ {k m:Nat},nm l k i=some j→k≤m→nm l m i=some j:=by
 intro k m h hk
 induction m with
 | zero=>
  have:k=0:=by omega
  subst this;exact h
 | succ m ih=>
  by_cases he:k=m+1
  ·subst he;exact h
  ·exact nm_succ_some (ih (by omega))
theorem nm_self {l:List Bt} : ∀ {k i:Nat},k≤i+1→nm l k i=none
 | 0,_,_=>rfl
 | k+1,i,h=>by
  simp only [nm,nm_self (show k≤i+1 by omega)]
  rw [if_neg (by omega)]
def wAt (l:List Bt) (k i:Nat):Int:=if pr l i=255 then 1 else if mk l i=true then 3 else match nm l k i with
 | none=>0
 | some j=>if tellsP (rb l (j:Int))=true then 1 else 2
def bAt (l:List Bt) (k i:Nat):Int:=if pr l i=255 then -1 else if mk l i=true then -1 else match nm l k i with
 | none=>-1
 | some j=>(j:Int)
def opens (l:List Bt) (k i:Nat):Bool:=decide (pr l i≠255)&&(!mk l i&&(nm l k i).isNone)
theorem fold_fin (l:List Bt) (i:Nat):∀ (xs:List Nat) (s:FSt),(∀ x∈xs,x < s.ws.length∧x < s.bs.length) →
  (xs.foldl (fin1 l i) s).op=s.op++xs.filter (fun x=>decide (pr l x≠pr l i)) ∧
  (∀ y,(xs.foldl (fin1 l i) s).ws.getD y 0=if y∈xs∧pr l y=pr l i then (if tellsP (rb l (i:Int))=true then 1 else 2) else s.ws.getD y 0) ∧
  (∀ y,(xs.foldl (fin1 l i) s).bs.getD y 0=if y∈xs∧pr l y=pr l i then (i:Int) else s.bs.getD y 0)
 | [],s,_=>by simp
 | x::xs,s,h=>by
  have hx:=h x (by simp)
  by_cases hp:pr l x=pr l i
  ·have hf:fin1 l i s x=⟨s.ws.set x (if tellsP (rb l (i:Int))=true then 1 else 2),s.bs.set x (i:Int),s.op⟩:=if_pos hp
   have ih:=fold_fin l i xs (fin1 l i s x) (fun y hy=>by rw [hf];simpa using h y (by simp [hy]))
   rw [List.foldl_cons]
   rw [hf] at ih ⊢
   refine ⟨?_,fun y=>?_,fun y=>?_⟩
   ·rw [ih.1];simp [hp]
   ·rw [ih.2.1 y]
    by_cases hy:y=x
    ·subst hy
     simp [hp,List.getD_eq_getElem?_getD,List.getElem?_set_self hx.1]
    ·simp [hy,List.getD_eq_getElem?_getD,List.getElem?_set_ne (Ne.symm hy)]
   ·rw [ih.2.2 y]
    by_cases hy:y=x
    ·subst hy
     simp [hp,List.getD_eq_getElem?_getD,List.getElem?_set_self hx.2]
    ·simp [hy,List.getD_eq_getElem?_getD,List.getElem?_set_ne (Ne.symm hy)]
  ·have hf:fin1 l i s x=⟨s.ws,s.bs,s.op ++ [x]⟩:=if_neg hp
   have ih:=fold_fin l i xs (fin1 l i s x) (fun y hy=>by rw [hf];exact h y (by simp [hy]))
   rw [List.foldl_cons]
   rw [hf] at ih ⊢
   refine ⟨?_,fun y=>?_,fun y=>?_⟩
   ·rw [ih.1];simp [hp]
   ·rw [ih.2.1 y]
    by_cases hy:y=x
    ·subst hy;simp [hp]
    ·simp [hy]
   ·rw [ih.2.2 y]
    by_cases hy:y=x
    ·subst hy;simp [hp]
    ·simp [hy]
structure FP (l:List Bt) (k:Nat) (s:FSt):Prop where
 op:s.op=(List.range k).filter (opens l k)
 ws:∀ i,i < k→s.ws.getD i 0=wAt l k i
 wz:∀ i,k≤i→s.ws.getD i 0=0
 bs:∀ i,i < k→s.bs.getD i 0=bAt l k i
theorem nm_step {l:List Bt} {k i:Nat} (h:¬ (mk l k=true∧pr l k=pr l i)):nm l (k+1) i=nm l k i:=by
 cases hn:nm l k i with
 | some j=>exact nm_succ_some hn
 | none=>simp only [nm,hn];rw [if_neg (fun h2=>h h2.2)]
theorem FP_step {l:List Bt} {k:Nat} (hk:k < l.length) {s:FSt} (hok:FOk l.length k s) (h:FP l k s):FP l (k+1) (fstep l s k):=by
 have hlw:=hok.lw
 have hlb:=hok.lb
 have gs:∀ (a:List Int) (i x:Nat) (v:Int),x < a.length→(a.set x v).getD i 0=if i=x then v else a.getD i 0:=by
  intro a i x v hx
  by_cases hi:i=x
  ·subst hi;simp [List.getD_eq_getElem?_getD,List.getElem?_set_self hx]
  ·simp [hi,List.getD_eq_getElem?_getD,List.getElem?_set_ne (Ne.symm hi)]
 unfold fstep
 by_cases h255:pr l k=255
 ·rw [if_pos h255]
  have same:∀ i,pr l i≠255→nm l (k+1) i=nm l k i:=fun i hi=>nm_step (fun h2=>hi (h2.2.symm.trans h255))
  refine ⟨?_,fun i hi=>?_,fun i hi=>?_,fun i hi=>?_⟩
  ·dsimp only
   rw [h.op,List.range_succ,List.filter_append]
   have h1 : [k].filter (opens l (k+1)) = []:=by simp [opens,h255]
   rw [h1,List.append_nil]
   refine List.filter_congr (fun i hi=>?_)
   unfold opens
   by_cases hp:pr l i=255
   ·simp [hp]
   ·rw [same i hp]
  ·dsimp only
   rw [gs _ _ _ _ (by omega)]
   by_cases he:i=k
   ·rw [if_pos he,he];unfold wAt;rw [if_pos h255]
   ·rw [if_neg he,h.ws i (by omega)]
    unfold wAt
    by_cases hp:pr l i=255
    ·rw [if_pos hp,if_pos hp]
    ·rw [if_neg hp,if_neg hp,same i hp]
  ·dsimp only
   rw [gs _ _ _ _ (by omega),if_neg (by omega)]
   exact h.wz i (by omega)
  ·dsimp only
   rw [gs _ _ _ _ (by omega)]
   by_cases he:i=k
   ·rw [if_pos he,he];unfold bAt;rw [if_pos h255]
   ·rw [if_neg he,h.bs i (by omega)]
    unfold bAt
    by_cases hp:pr l i=255
    ·rw [if_pos hp,if_pos hp]
    ·rw [if_neg hp,if_neg hp,same i hp]
 ·rw [if_neg h255]
  by_cases hm:mk l k=false
  ·rw [if_pos hm]
   have same:∀ i,nm l (k+1) i=nm l k i:=fun i=>nm_step (fun h2=>by rw [hm] at h2;cases h2.1)
   have hk0:nm l (k+1) k=none:=nm_self (Nat.le_refl _)
   refine ⟨?_,fun i hi=>?_,fun i hi=>?_,fun i hi=>?_⟩
   ·dsimp only
    rw [h.op,List.range_succ,List.filter_append]
    have h1 : [k].filter (opens l (k+1)) = [k]:=by simp [opens,h255,hm,hk0]
    rw [h1]
    congr 1
    refine List.filter_congr (fun i hi=>?_)
    unfold opens
    rw [same i]
   ·dsimp only
    by_cases he:i=k
    ·rw [he,h.wz k (Nat.le_refl _)]
     unfold wAt
     rw [if_neg h255,if_neg (by rw [hm];simp),hk0]
    ·rw [h.ws i (by omega)]
     unfold wAt
     rw [same i]
   ·dsimp only
    exact h.wz i (by omega)
   ·dsimp only
    rw [gs _ _ _ _ (by omega)]
    by_cases he:i=k
    ·rw [if_pos he,he];unfold bAt;rw [if_neg h255,if_neg (by rw [hm];simp),hk0]
    ·rw [if_neg he,h.bs i (by omega)]
     unfold bAt
     rw [same i]
  ·have hm' : mk l k=true:=by simpa using hm
   rw [if_neg hm]
   have hop:∀ x,x∈s.op↔x < k∧pr l x≠255∧mk l x=false∧nm l k x=none:=by
    intro x
    rw [h.op,List.mem_filter,List.mem_range]
    simp [opens]
   have hF:=fold_fin l k s.op ⟨s.ws.set k 3,s.bs.set k (-1),[]⟩ (fun x hx=>by
    have:=hok.op x hx
    simp only [List.length_set]
    omega)
   dsimp only at hF
   have hn:∀ i,i < k→nm l (k+1) i=match nm l k i with|some j=>some j|none=>if pr l k=pr l i then some k else none:=by
    intro i hi
    simp only [nm]
    cases nm l k i with
    | some j=>rfl
    | none=>simp [hi,hm']
   refine ⟨?_,fun i hi=>?_,fun i hi=>?_,fun i hi=>?_⟩
   ·rw [hF.1,List.nil_append,h.op,List.range_succ,List.filter_append,List.filter_filter]
    have h1 : [k].filter (opens l (k+1)) = []:=by simp [opens,hm']
    rw [h1,List.append_nil]
    refine List.filter_congr (fun i hi=>?_)
    rw [List.mem_range] at hi
    unfold opens
    rw [hn i hi]
    cases hni:nm l k i with
    | some j=>simp
    | none=>
     by_cases hp:pr l k=pr l i
     ·simp [hp]
     ·have hp2:¬ pr l i=pr l k:=fun e=>hp e.symm
      simp [hp,hp2]
   ·rw [hF.2.1 i]
    by_cases he:i=k
    ·subst he
     rw [if_neg (by rw [hop];omega),gs _ _ _ _ (by omega),if_pos rfl]
     unfold wAt
     rw [if_neg h255,if_pos hm']
    ·have hik:i < k:=by omega
     rw [gs _ _ _ _ (by omega),if_neg he,h.ws i hik]
     unfold wAt
     by_cases hp:pr l i=255
     ·rw [if_neg (by rw [hop];exact fun h2=>h2.1.2.1 hp),if_pos hp,if_pos hp]
     ·rw [if_neg hp,if_neg hp]
      by_cases hmi:mk l i=true
      ·rw [if_neg (by rw [hop];intro h2;rw [hmi] at h2;cases h2.1.2.2.1),if_pos hmi,if_pos hmi]
      ·rw [if_neg hmi,if_neg hmi,hn i hik]
       cases hni:nm l k i with
       | some j=>rw [if_neg (by rw [hop,hni];intro h2;cases h2.1.2.2.2)]
       | none=>
        by_cases hpk:pr l i=pr l k
        ·rw [if_pos ⟨(hop i).2 ⟨hik,hp,by simpa using hmi,hni⟩,hpk⟩]
         simp [hpk]
        ·rw [if_neg (fun h2=>hpk h2.2)]
         have hp2:¬ pr l k=pr l i:=fun e=>hpk e.symm
         simp [hp2]
   ·rw [hF.2.1 i,if_neg (by rw [hop];omega),gs _ _ _ _ (by omega),if_neg (by omega)]
    exact h.wz i (by omega)
   ·rw [hF.2.2 i]
    by_cases he:i=k
    ·subst he
     rw [if_neg (by rw [hop];omega),gs _ _ _ _ (by omega),if_pos rfl]
     unfold bAt
     rw [if_neg h255,if_pos hm']
    ·have hik:i < k:=by omega
     rw [gs _ _ _ _ (by omega),if_neg he,h.bs i hik]
     unfold bAt
     by_cases hp:pr l i=255
     ·rw [if_neg (by rw [hop];exact fun h2=>h2.1.2.1 hp),if_pos hp,if_pos hp]
     ·rw [if_neg hp,if_neg hp]
      by_cases hmi:mk l i=true
      ·rw [if_neg (by rw [hop];intro h2;rw [hmi] at h2;cases h2.1.2.2.1),if_pos hmi,if_pos hmi]
      ·rw [if_neg hmi,if_neg hmi,hn i hik]
       cases hni:nm l k i with
       | some j=>rw [if_neg (by rw [hop,hni];intro h2;cases h2.1.2.2.2)]
       | none=>
        by_cases hpk:pr l i=pr l k
        ·rw [if_pos ⟨(hop i).2 ⟨hik,hp,by simpa using hmi,hni⟩,hpk⟩]
         simp [hpk]
        ·rw [if_neg (fun h2=>hpk h2.2)]
         have hp2:¬ pr l k=pr l i:=fun e=>hpk e.symm
         simp [hp2]
theorem FP_all (l:List Bt):∀ k,k≤l.length→FP l k (fatesTo l k)
 | 0,_=>⟨by simp [fatesTo,fates0],fun i h=>by omega,fun i h=>by simp [fatesTo,fates0,List.getD_eq_getElem?_getD,List.getElem?_replicate];split <;> rfl,fun i h=>by omega⟩
 | k+1,h=>by
  rw [fatesTo_succ]
  exact FP_step (by omega) (fates_ok l k (by omega)) (FP_all l k (by omega))
theorem fates_len (l:List Bt):(fatesTo l l.length).ws.length=l.length∧(fatesTo l l.length).bs.length=l.length:=⟨(fates_ok l _ (Nat.le_refl _)).lw,(fates_ok l _ (Nat.le_refl _)).lb⟩
theorem fates_w (l:List Bt) (i:Nat) (h:i < l.length):rd (fatesTo l l.length).ws (i:Int)=wAt l l.length i:=by
 have:=(FP_all l l.length (Nat.le_refl _)).ws i h
 unfold rd
 rwa [Int.toNat_natCast]
theorem fates_fit {l:List Bt} (h:VL l):impl_fatesOf.f l=some ((fatesTo l l.length).ws,(fatesTo l l.length).bs):=by
 unfold impl_fatesOf.f
 rw [if_pos]
 unfold fatesFit
 rw [Bool.and_eq_true,decide_eq_true_eq,List.all_eq_true]
 refine ⟨by have:=h.1;omega,fun b hb=>?_⟩
 obtain ⟨j,hj,rfl⟩:=List.getElem_of_mem hb
 have:=(vB_pos (VL_at h j hj)).1
 rw [rb_nat l j hj] at this
 exact decide_eq_true (by omega)
def nmI:Option Nat→Int
 | none=>-1
 | some j=>(j:Int)
theorem specMark_loop (l:List Bt) (hl:l.length≤2000000) (i:Nat) (hi:i < l.length):∀ (d j:Nat),l.length - j=d→i < j→j≤l.length→nm l j i=none→Ev (fun k=>spec_l22Mark.l0 k l (i:Int) (j:Int)) (nmI (nm l l.length i)):=by
 intro d
 induction d with
 | zero=>
  intro j hd h1 h2 hn
  have hj:j=l.length:=by omega
  subst hj
  refine ev_succ ?_
  simp only [spec_l22Mark.l0,if_neg (show ¬ (l.length:Int) < (l.length:Int) by omega),hn]
  exact ev_some _
 | succ d ih=>
  intro j hd h1 h2 hn
  have e1:wrap64 ((j:Int)+1)=((j+1:Nat):Int):=by rw [wrap_id (by omega) (by omega)];omega
  refine ev_succ ?_
  simp only [spec_l22Mark.l0,if_pos (show (j:Int) < (l.length:Int) by omega),if_pos (show (0:Int)≤(j:Int) by omega),e1]
  have next:¬ (mk l j=true∧pr l j=pr l i)→Ev (fun k=>spec_l22Mark.l0 k l (i:Int) ((j+1:Nat):Int)) (nmI (nm l l.length i)):=fun h=>ih (j+1) (by omega) (by omega) (by omega) (by rw [nm_step h];exact hn)
  by_cases hm:mk l j=true
  ·simp only [if_pos (show (rd_T27 l (j:Int)).f1=true from hm),if_pos (show (0:Int)≤(i:Int) by omega),if_pos (show (i:Int) < (l.length:Int) by omega)]
   by_cases hp:pr l j=pr l i
   ·simp only [if_pos (show (rd_T27 l (j:Int)).f2=(rd_T27 l (i:Int)).f2 from hp)]
    have h3:nm l (j+1) i=some j:=by simp only [nm,hn];rw [if_pos ⟨h1,hm,hp⟩]
    rw [nm_le h3 (by omega)]
    exact ev_some _
   ·simp only [if_neg (show ¬ (rd_T27 l (j:Int)).f2=(rd_T27 l (i:Int)).f2 from hp)]
    exact next (fun h=>hp h.2)
  ·simp only [if_neg (show ¬ (rd_T27 l (j:Int)).f1=true from hm)]
   exact next (fun h=>hm h.1)
theorem specMarkAt (l:List Bt) (hl:l.length≤2000000) (i:Nat) (hi:i < l.length):Ev (fun k=>spec_l22Mark.f k l (i:Int)) (nmI (nm l l.length i)):=by
 unfold spec_l22Mark.f
 have e1:wrap64 ((i:Int)+1)=((i+1:Nat):Int):=by rw [wrap_id (by omega) (by omega)];omega
 rw [e1]
 exact specMark_loop l hl i hi _ (i+1) rfl (by omega) (by omega) (nm_self (Nat.le_refl _))
theorem ours_eq (b:Bt):spec_l22Ours.f b.f0 b.f1 b.f2 b.f3 b.f4 b.f5=some (decide (b.f2≠255) && !b.f1):=by
 unfold spec_l22Ours.f
 by_cases h:b.f2=255
 ·rw [if_pos h];simp [h]
 ·rw [if_neg h];simp [h]
theorem nmI_neg (o:Option Nat):nmI o < 0↔o=none:=by
 cases o with
 | none=>simp [nmI]
 | some j=>
  simp only [nmI];constructor
  ·intro h;omega
  ·intro h;cases h
theorem opens_iff (l:List Bt) (k i:Nat):opens l k i=true↔pr l i≠255∧mk l i=false∧nm l k i=none:=by
 unfold opens
 simp
theorem wAt_zero (l:List Bt) (k i:Nat):wAt l k i=0↔opens l k i=true:=by
 rw [opens_iff]
 unfold wAt
 by_cases h:pr l i=255
 ·simp [h]
 ·by_cases h2:mk l i=true
  ·simp [h,h2]
  ·cases h3:nm l k i with
   | none=>simp [h,h2]
   | some j=>by_cases h4:tellsP (rb l (j:Int))=true <;> simp [h,h2,h4]
def tailP (l:List Bt):Int:=if l.length=0 then 0 else lOff (rb l ((l.length:Int) - 1))+1
def EndP (l:List Bt) (r:Int):Prop:=(∃ i,i < l.length∧opens l l.length i=true∧(∀ j,j < i→opens l l.length j=false)∧r=fOff (rb l (i:Int)))∨((∀ j,j < l.length→opens l l.length j=false)∧r=tailP l)
theorem EndP_unique {l:List Bt} {r r' : Int} (h:EndP l r) (h' : EndP l r'):r=r':=by
 rcases h with ⟨i,h1,h2,h3,h4⟩|⟨h1,h2⟩
 ·rcases h' with ⟨i',h1',h2',h3',h4'⟩|⟨h1',h2'⟩
  ·have:i=i':=by
    rcases Nat.lt_trichotomy i i' with h|h|h
    ·have:=h3' i h;rw [h2] at this;cases this
    ·exact h
    ·have:=h3 i' h;rw [h2'] at this;cases this
   rw [h4,h4',this]
  ·have:=h1' i h1;rw [h2] at this;cases this
 ·rcases h' with ⟨i',h1',h2',h3',h4'⟩|⟨h1',h2'⟩
  ·have:=h1 i' h1';rw [h2'] at this;cases this
  ·rw [h2,h2']
theorem EndP_pos {l:List Bt} (h:VL l) {r:Int} (he:EndP l r) : 0≤r:=by
 rcases he with ⟨i,h1,_,_,rfl⟩|⟨_,rfl⟩
 ·exact (fOff_range (VL_at h i h1)).1
 ·unfold tailP
  split
  ·omega
  ·have:=lOff_range (VL_at h (l.length - 1) (by omega))
   rw [show ((l.length - 1:Nat):Int)=(l.length:Int) - 1 by omega] at this
   omega
theorem VL_last {l:List Bt} (h:VL l) (h0:l.length≠0):vB (rb l ((l.length:Int) - 1)):=by
 have:=VL_at h (l.length - 1) (by omega)
 rwa [show ((l.length - 1:Nat):Int)=(l.length:Int) - 1 by omega] at this
def StP (l:List Bt) (r:Int):Prop:=(VL l∧EndP l r)∨(¬ VL l∧r = -1)
theorem StP_unique {l:List Bt} {r r' : Int} (h:StP l r) (h' : StP l r'):r=r':=by
 rcases h with ⟨h1,h2⟩|⟨h1,h2⟩
 ·rcases h' with ⟨_,h2'⟩|⟨h1',_⟩
  ·exact EndP_unique h2 h2'
  ·exact absurd h1 h1'
 ·rcases h' with ⟨h1',_⟩|⟨_,h2'⟩
  ·exact absurd h1' h1
  ·rw [h2,h2']
theorem vl_true {l:List Bt} (h:VL l):vl l=true:=(vl_iff l).2 h
theorem vl_false {l:List Bt} (h:¬ VL l):vl l=false:=by rw [← Bool.not_eq_true,vl_iff];exact h
theorem implEnd (l:List Bt) (hl:smallBs l) (h:VL l):Ev (fun k=>impl_ReadEnd.f k l) (tailP l):=by
 have hs:=hl.1
 unfold impl_ReadEnd.f tailP
 refine Ev.bind (implLog l hl) ?_
 rw [vl_true h]
 simp only [if_true]
 by_cases h0:l.length=0
 ·rw [if_pos h0]
  simp only [if_pos (show (l.length:Int)=0 by omega)]
  exact ev_some _
 ·have e:wrap64 ((l.length:Int) - 1)=(l.length:Int) - 1:=wrap_id (by omega) (by omega)
  have hv:=VL_last h h0
  have hr:=lOff_range hv
  have e2:wrap64 (lOff (rb l ((l.length:Int) - 1))+1)=lOff (rb l ((l.length:Int) - 1))+1:=wrap_id (by omega) (by omega)
  have f:=last_eq hv
  rw [if_neg h0]
  simp only [if_neg (show ¬ (l.length:Int)=0 by omega),e,if_pos (show 0≤(l.length:Int) - 1 by omega),if_pos (show (l.length:Int) - 1 < (l.length:Int) by omega)]
  rw [show (rd_T27 l ((l.length:Int) - 1))=rb l ((l.length:Int) - 1) from rfl,f]
  simp only [bsome,e2]
  exact ev_some _
theorem implStable_loop (l:List Bt) (hl:smallBs l) (h:VL l):∀ (d i:Nat),l.length - i=d→i≤l.length→(∀ j,j < i→opens l l.length j=false)→Evs (fun k=>impl_StableEnd.l0 k l (fatesTo l l.length).ws (l.length:Int) (i:Int)) (EndP l):=by
 have hs:=hl.1
 have hw:=(fates_len l).1
 intro d
 induction d with
 | zero=>
  intro i hd hi ho
  refine Evs.succ ?_
  simp only [impl_StableEnd.l0,if_neg (show ¬ (i:Int) < (l.length:Int) by omega)]
  refine Evs.bind (Evs.of (implEnd l hl h) rfl) ?_
  rintro _ rfl
  exact Evs.done (.inr ⟨fun j hj=>ho j (by omega),rfl⟩)
 | succ d ih=>
  intro i hd hi ho
  have hlt:i < l.length:=by omega
  have e1:wrap64 ((i:Int)+1)=((i+1:Nat):Int):=by rw [wrap_id (by omega) (by omega)];omega
  refine Evs.succ ?_
  simp only [impl_StableEnd.l0,if_pos (show (i:Int) < (l.length:Int) by omega),if_pos (show (0:Int)≤(i:Int) by omega),hw,e1,fates_w l i hlt]
  by_cases hz:opens l l.length i=true
  ·simp only [if_pos ((wAt_zero l l.length i).2 hz)]
   have f:=first_eq (VL_at h i hlt)
   rw [show (rd_T27 l (i:Int))=rb l (i:Int) from rfl,f]
   simp only [bsome]
   exact Evs.done (.inl ⟨i,hlt,hz,ho,rfl⟩)
  ·simp only [if_neg (fun h2=>hz ((wAt_zero l l.length i).1 h2))]
   refine ih (i+1) (by omega) (by omega) (fun j hj=>?_)
   by_cases he:j=i
   ·subst he;simpa using hz
   ·exact ho j (by omega)
theorem implStable (l:List Bt) (hl:smallBs l):Evs (fun k=>impl_StableEnd.f k l) (StP l):=by
 unfold impl_StableEnd.f
 refine Evs.bind (Evs.of (implLog l hl) rfl) ?_
 rintro _ rfl
 by_cases h:VL l
 ·rw [vl_true h]
  simp only [if_true,fates_fit h,bsome]
  have:=implStable_loop l hl h l.length 0 (by omega) (by omega) (fun j hj=>by omega)
  have h2:=(fates_len l).1
  simp only [h2]
  exact this.mono (fun r hr=>Or.inl ⟨h,hr⟩)
 ·rw [vl_false h]
  simp only [Bool.false_eq_true,if_false]
  exact Evs.done (.inr ⟨h,rfl⟩)
theorem specEnd_loop (l:List Bt) (hl:smallBs l) (h:VL l):∀ (d i:Nat),l.length - i=d→i≤l.length→(∀ j,j < i→opens l l.length j=false)→Evs (fun k=>spec_l22End.l0 k l (i:Int)) (EndP l):=by
 have hs:=hl.1
 intro d
 induction d with
 | zero=>
  intro i hd hi ho
  refine Evs.succ ?_
  simp only [spec_l22End.l0,if_neg (show ¬ (i:Int) < (l.length:Int) by omega)]
  by_cases h0:l.length=0
  ·simp only [if_pos (show (l.length:Int)=0 by omega)]
   exact Evs.done (.inr ⟨fun j hj=>by omega,by unfold tailP;rw [if_pos h0]⟩)
  ·have e:wrap64 ((l.length:Int) - 1)=(l.length:Int) - 1:=wrap_id (by omega) (by omega)
   have hv:=VL_last h h0
   have hr:=lOff_range hv
   have e2:wrap64 (lOff (rb l ((l.length:Int) - 1))+1)=lOff (rb l ((l.length:Int) - 1))+1:=wrap_id (by omega) (by omega)
   have f:=lastS_eq hv
   simp only [if_neg (show ¬ (l.length:Int)=0 by omega),e,if_pos (show 0≤(l.length:Int) - 1 by omega),if_pos (show (l.length:Int) - 1 < (l.length:Int) by omega)]
   rw [show (rd_T27 l ((l.length:Int) - 1))=rb l ((l.length:Int) - 1) from rfl,f]
   simp only [bsome,e2]
   exact Evs.done (.inr ⟨fun j hj=>ho j (by omega),by unfold tailP;rw [if_neg h0]⟩)
 | succ d ih=>
  intro i hd hi ho
  have hlt:i < l.length:=by omega
  have e1:wrap64 ((i:Int)+1)=((i+1:Nat):Int):=by rw [wrap_id (by omega) (by omega)];omega
  have next:opens l l.length i=false→Evs (fun k=>spec_l22End.l0 k l ((i+1:Nat):Int)) (EndP l):=fun hz=>ih (i+1) (by omega) (by omega) (fun j hj=>by
   by_cases he:j=i
   ·subst he;exact hz
   ·exact ho j (by omega))
  refine Evs.succ ?_
  have f:=ours_eq (rb l (i:Int))
  simp only [spec_l22End.l0,if_pos (show (i:Int) < (l.length:Int) by omega),if_pos (show (0:Int)≤(i:Int) by omega),e1]
  rw [show (rd_T27 l (i:Int))=rb l (i:Int) from rfl,f]
  simp only [bsome]
  by_cases hu:(decide ((rb l (i:Int)).f2≠255) && !(rb l (i:Int)).f1)=true
  ·simp only [if_pos hu]
   refine Evs.bind (Evs.of (specMarkAt l hs i hlt) rfl) ?_
   rintro _ rfl
   have hu2:pr l i≠255∧mk l i=false:=by simpa using hu
   cases hn:nm l l.length i with
   | none=>
    have hpos:=(vB_pos (VL_at h i hlt)).1
    simp only [if_pos ((nmI_neg none).2 rfl),if_pos (show 0 < ((rb l (i:Int)).f5.length:Int) by omega)]
    exact Evs.done (.inl ⟨i,hlt,(opens_iff _ _ _).2 ⟨hu2.1,hu2.2,hn⟩,ho,rfl⟩)
   | some j=>
    simp only [if_neg (show ¬ nmI (some j) < 0 from fun h2=>by have:=(nmI_neg _).1 h2;cases this)]
    exact next (by rw [← Bool.not_eq_true,opens_iff,hn];exact fun h2=>by cases h2.2.2)
  ·simp only [if_neg hu]
   exact next (by rw [← Bool.not_eq_true,opens_iff];exact fun h2=>hu (by simp [h2.1,h2.2.1]))
theorem specStable (l:List Bt) (hl:smallBs l):Evs (fun k=>spec_StableEnd.f k l) (StP l):=by
 unfold spec_StableEnd.f
 refine Evs.bind (Evs.of (specLog l hl) rfl) ?_
 rintro _ rfl
 by_cases h:VL l
 ·rw [vl_true h]
  simp only [if_true]
  unfold spec_l22End.f
  refine Evs.bind (specEnd_loop l hl h l.length 0 (by omega) (by omega) (fun j hj=>by omega)) ?_
  intro r hr
  exact Evs.done (.inl ⟨h,hr⟩)
 ·rw [vl_false h]
  simp only [Bool.false_eq_true,if_false]
  exact Evs.done (.inr ⟨h,rfl⟩)
theorem clone_eq (l:List Int) (h:l.length≤1048576):slices_Clone_int_int.f l=some l:=by
 unfold slices_Clone_int_int.f
 rw [if_pos (by omega)]
def okc (r:Rc):Prop:=r.f3.length≤1048576∧r.f5.length≤1048576
theorem copyRec (r:Rc) (h:okc r):impl_Record_copyOf.f r.f0 r.f1 r.f2 r.f3 r.f4 r.f5=some (r.f0,r.f1,r.f2,r.f3,r.f4,r.f5):=by
 unfold impl_Record_copyOf.f
 rw [clone_eq _ h.1,bsome,clone_eq _ h.2,bsome]
theorem take_snoc {α:Type} (l:List α) (i:Nat) (h:i < l.length):l.take i ++ [l[i]]=l.take (i+1):=by
 rw [List.take_add_one,List.getElem?_eq_getElem h]
 rfl
theorem copyRecs_loop (l:List Rc) (hl:l.length≤1048576) (hx:∀ r∈l,okc r):∀ (d i:Nat),l.length - i=d→i≤l.length→Ev (fun k=>impl_copyRecords.l0 k (l.take i) l (l.length:Int) (i:Int)) l:=by
 intro d
 induction d with
 | zero=>
  intro i hd hi
  refine ev_succ ?_
  simp only [impl_copyRecords.l0,if_neg (show ¬ (i:Int) < (l.length:Int) by omega)]
  rw [List.take_of_length_le (by omega)]
  exact ev_some _
 | succ d ih=>
  intro i hd hi
  have hlt:i < l.length:=by omega
  have e1:wrap64 ((i:Int)+1)=((i+1:Nat):Int):=by rw [wrap_id (by omega) (by omega)];omega
  have hr:rd_T34 l (i:Int)=l[i]:=rr_nat l i hlt
  have next:=ih (i+1) (by omega) (by omega)
  refine ev_succ ?_
  simp only [impl_copyRecords.l0,if_pos (show (i:Int) < (l.length:Int) by omega),if_pos (show (0:Int)≤(i:Int) by omega),e1,hr,copyRec l[i] (hx _ (List.getElem_mem hlt)),bsome,if_pos (show (l.take i).length < 1759218604441 by rw [length_take];omega)]
  rw [← take_snoc l i hlt] at next
  exact next
theorem copyRecs (l:List Rc) (hl:l.length≤1048576) (hx:∀ r∈l,okc r):Ev (fun k=>impl_copyRecords.f k l) l:=by
 unfold impl_copyRecords.f
 simp only [if_pos (show (0:Int)≤(l.length:Int) by omega),if_pos (show ((l.length:Int)).toNat≤3518437208883 by omega)]
 exact copyRecs_loop l hl hx l.length 0 (by omega) (by omega)
theorem pv_len {has:Bool} {l:List Int} (h:pv has l=true):l.length≤12:=by
 unfold pv at h
 split at h
 ·simp only [Bool.and_eq_true,decide_eq_true_eq] at h
  exact h.1
 ·simp only [decide_eq_true_eq] at h
  omega
theorem rv_okc {r:Rc} (h:rv r=true):okc r:=by
 unfold rv at h
 simp only [Bool.and_eq_true] at h
 have h1:=pv_len h.2.1
 have h2:=pv_len h.2.2
 exact ⟨by omega,by omega⟩
theorem vB_okc {b:Bt} (h:vB b):∀ r∈b.f5,okc r:=by
 intro r hr
 obtain ⟨j,hj,rfl⟩:=List.getElem_of_mem hr
 have:=(h.2.2.2 j (Nat.zero_le _) hj).1
 rw [rr_nat b.f5 j hj] at this
 exact rv_okc this
theorem copyBt (b:Bt) (h:vB b):Ev (fun k=>impl_Batch_copyOf.f k b.f0 b.f1 b.f2 b.f3 b.f4 b.f5) (b.f0,b.f1,b.f2,b.f3,b.f4,b.f5):=by
 have hp:=(vB_pos h).2
 unfold impl_Batch_copyOf.f
 refine Ev.bind (copyRecs b.f5 (by omega) (vB_okc h)) ?_
 exact ev_some _
theorem copyBts_loop (l:List Bt) (hl:l.length≤1048576) (hx:∀ b∈l,vB b):∀ (d i:Nat),l.length - i=d→i≤l.length→Ev (fun k=>impl_copyBatches.l0 k (l.take i) l (l.length:Int) (i:Int)) l:=by
 intro d
 induction d with
 | zero=>
  intro i hd hi
  refine ev_succ ?_
  simp only [impl_copyBatches.l0,if_neg (show ¬ (i:Int) < (l.length:Int) by omega)]
  rw [List.take_of_length_le (by omega)]
  exact ev_some _
 | succ d ih=>
  intro i hd hi
  have hlt:i < l.length:=by omega
  have e1:wrap64 ((i:Int)+1)=((i+1:Nat):Int):=by rw [wrap_id (by omega) (by omega)];omega
  have hr:rd_T27 l (i:Int)=l[i]:=rb_nat l i hlt
  have next:=ih (i+1) (by omega) (by omega)
  refine ev_succ ?_
  simp only [impl_copyBatches.l0,if_pos (show (i:Int) < (l.length:Int) by omega),if_pos (show (0:Int)≤(i:Int) by omega),e1,hr]
  refine Ev.bind (copyBt l[i] (hx _ (List.getElem_mem hlt))) ?_
  simp only [if_pos (show (l.take i).length < 2513169434916 by rw [length_take];omega)]
  rw [← take_snoc l i hlt] at next
  exact next
theorem copyBts (l:List Bt) (hl:l.length≤1048576) (hx:∀ b∈l,vB b):Ev (fun k=>impl_copyBatches.f k l) l:=by
 unfold impl_copyBatches.f
 simp only [if_pos (show (0:Int)≤(l.length:Int) by omega),if_pos (show ((l.length:Int)).toNat≤5026338869833 by omega)]
 exact copyBts_loop l hl hx l.length 0 (by omega) (by omega)
theorem VL_mem {l:List Bt} (h:VL l):∀ b∈l,vB b:=by
 intro b hb
 obtain ⟨j,hj,rfl⟩:=List.getElem_of_mem hb
 have:=VL_at h j hj
 rwa [rb_nat l j hj] at this
def renR (n:Int) (l:List Rc) (i:Nat):List Rc:=l.mapIdx fun j r=>if j < i then ⟨n+(j:Int),r.f1,r.f2,r.f3,r.f4,r.f5⟩ else r
theorem renR_len (n:Int) (l:List Rc) (i:Nat):(renR n l i).length=l.length:=by simp [renR]
theorem renR_zero (n:Int) (l:List Rc):renR n l 0=l:=by
 apply List.ext_getElem
 ·simp [renR]
 ·intro j h1 h2
  simp [renR]
theorem renR_at (n:Int) (l:List Rc) (i:Nat) (h:i < l.length):rr (renR n l i) (i:Int)=l[i]:=by
 rw [rr_nat _ i (by rw [renR_len];exact h)]
 simp [renR]
theorem renR_set (n:Int) (l:List Rc) (i:Nat) (h:i < l.length):(renR n l i).set i ⟨n+(i:Int),l[i].f1,l[i].f2,l[i].f3,l[i].f4,l[i].f5⟩=renR n l (i+1):=by
 apply List.ext_getElem
 ·simp [renR]
 ·intro j h1 h2
  rw [List.getElem_set]
  by_cases he:i=j
  ·subst he
   simp [renR]
  ·rw [if_neg he]
   simp only [renR,List.getElem_mapIdx]
   by_cases hj:j < i
   ·rw [if_pos hj,if_pos (by omega)]
   ·rw [if_neg hj,if_neg (by omega)]
theorem renR_smallR (n:Int) (l:List Rc) (i:Nat) (h:smallRs l):smallRs (renR n l i):=by
 refine ⟨by rw [renR_len];exact h.1,fun r hr=>?_⟩
 obtain ⟨j,hj,rfl⟩:=List.getElem_of_mem hr
 have hj' : j < l.length:=by rw [renR_len] at hj;exact hj
 have:=h.2 _ (List.getElem_mem hj')
 simp only [renR,List.getElem_mapIdx]
 split
 ·exact this
 ·exact this
def renB (n:Int) (b:Bt):Bt:=⟨b.f0,b.f1,b.f2,b.f3,b.f4,renR n b.f5 b.f5.length⟩
theorem smallBs_snoc {l:List Bt} (hl:smallBs l) (h8:l.length≤8) {b:Bt} (hb:smallRs b.f5):smallBs (l ++ [b]):=by
 refine ⟨by rw [List.length_append,List.length_singleton];omega,fun x hx=>?_⟩
 rcases List.mem_append.1 hx with h|h
 ·exact hl.2 x h
 ·rw [List.mem_singleton.1 h];exact hb
def AppP (l:List Bt) (b:Bt) (r:List Bt×Bool):Prop:=r.2=true→VL l∧vB b∧r.1=l ++ [renB (tailP l) b]∧VL (l ++ [renB (tailP l) b])
theorem append_loop (l:List Bt) (hl:smallBs l) (h:VL l) (b:Bt) (hb:smallRs b.f5) (hv:vB b):∀ (d i:Nat),b.f5.length - i=d→i≤b.f5.length→Evs (fun k=>impl_LogAppend.l0 k l (tailP l) (b.f5.length:Int) (i:Int) b.f0 b.f1 b.f2 b.f3 b.f4 (renR (tailP l) b.f5 i)) (AppP l b):=by
 have hp:=(vB_pos hv).2
 have ht : 0≤tailP l∧tailP l≤100000:=by
  unfold tailP
  split
  ·omega
  ·have:=lOff_range (VL_last h (by assumption))
   omega
 intro d
 induction d with
 | zero=>
  intro i hd hi
  have hie:i=b.f5.length:=by omega
  subst hie
  refine Evs.succ ?_
  simp only [impl_LogAppend.l0,if_neg (show ¬ (b.f5.length:Int) < (b.f5.length:Int) by omega)]
  have h8:=h.1
  refine Evs.bind (Evs.of (copyBts l (by omega) (VL_mem h)) rfl) ?_
  rintro _ rfl
  simp only [bsome,List.length_singleton,if_pos (show l.length+1 < 2513169434916 by omega)]
  refine Evs.bind (Evs.of (implLog (l ++ [renB (tailP l) b]) (smallBs_snoc hl h8 (renR_smallR _ _ _ hb))) rfl) ?_
  rintro _ rfl
  by_cases hx:VL (l ++ [renB (tailP l) b])
  ·rw [vl_true hx]
   simp only [if_true]
   exact Evs.done (fun _=>⟨h,hv,rfl,hx⟩)
  ·rw [vl_false hx]
   simp only [Bool.false_eq_true,if_false]
   exact Evs.done (fun e=>by cases e)
 | succ d ih=>
  intro i hd hi
  have hlt:i < b.f5.length:=by omega
  have e1:wrap64 ((i:Int)+1)=((i+1:Nat):Int):=by rw [wrap_id (by omega) (by omega)];omega
  have e2:wrap64 (tailP l+(i:Int))=tailP l+(i:Int):=wrap_id (by omega) (by omega)
  have hr:rd_T34 (renR (tailP l) b.f5 i) (i:Int)=b.f5[i]:=renR_at _ _ _ hlt
  have next:=ih (i+1) (by omega) (by omega)
  refine Evs.succ ?_
  simp only [impl_LogAppend.l0,if_pos (show (i:Int) < (b.f5.length:Int) by omega),if_pos (show (0:Int)≤(i:Int) by omega),e1,e2,hr,renR_len,Int.toNat_natCast]
  rw [← renR_set _ _ _ hlt] at next
  exact next
theorem implAppend (l:List Bt) (hl:smallBs l) (b:Bt) (hb:smallRs b.f5):Evs (fun k=>impl_LogAppend.f k l b.f0 b.f1 b.f2 b.f3 b.f4 b.f5) (AppP l b):=by
 unfold impl_LogAppend.f
 refine Evs.bind (Evs.of (implLog l hl) rfl) ?_
 rintro _ rfl
 by_cases h:VL l
 ·rw [vl_true h]
  simp only [if_true]
  refine Evs.bind (Evs.of (implB b.f0 b.f1 b.f2 b.f3 b.f4 b.f5 hb) rfl) ?_
  rintro _ rfl
  refine Evs.succ ?_
  by_cases hv:vB b
  ·rw [(vb_vB b).2 hv]
   simp only [impl_LogAppend.j0,Bool.not_true,Bool.false_eq_true,if_false]
   refine Evs.bind (Evs.of (implEnd l hl h) rfl) ?_
   rintro _ rfl
   refine Evs.bind (Evs.of (copyBt b hv) rfl) ?_
   rintro _ rfl
   have:=append_loop l hl h b hb hv b.f5.length 0 (by omega) (by omega)
   rw [renR_zero] at this
   exact this
  ·rw [show vb b.f1 b.f2 b.f3 b.f4 b.f5=false by rw [← Bool.not_eq_true,vb_vB];exact hv]
   simp only [impl_LogAppend.j0,Bool.not_false,if_true]
   exact Evs.done (fun e=>by cases e)
 ·rw [vl_false h]
  simp only [Bool.false_eq_true,if_false]
  refine Evs.succ ?_
  simp only [impl_LogAppend.j0,if_true]
  exact Evs.done (fun e=>by cases e)
theorem rb_app_lt (l:List Bt) (b:Bt) (j:Nat) (h:j < l.length):rb (l ++ [b]) (j:Int)=rb l (j:Int):=by
 rw [rb_nat _ j (by rw [List.length_append];omega),rb_nat l j h,List.getElem_append_left h]
theorem rb_app_eq (l:List Bt) (b:Bt):rb (l ++ [b]) (l.length:Int)=b:=by
 rw [rb_nat _ l.length (by rw [List.length_append,List.length_singleton];omega),List.getElem_append_right (Nat.le_refl _)]
 simp
theorem nm_app (l:List Bt) (b:Bt) (i:Nat) (hi:i < l.length):∀ k,k≤l.length→nm (l ++ [b]) k i=nm l k i
 | 0,_=>rfl
 | k+1,h=>by
  simp only [nm]
  rw [nm_app l b i hi k (by omega)]
  simp only [mk,pr,rb_app_lt l b k (by omega),rb_app_lt l b i hi]
theorem opens_app (l:List Bt) (b:Bt) (i:Nat) (hi:i < l.length):opens (l ++ [b]) (l ++ [b]).length i=true↔opens l l.length i=true∧¬ (b.f1=true∧b.f2=pr l i):=by
 rw [List.length_append,List.length_singleton,opens_iff,opens_iff]
 have e1:pr (l ++ [b]) i=pr l i:=by simp only [pr,rb_app_lt l b i hi]
 have e2:mk (l ++ [b]) i=mk l i:=by simp only [mk,rb_app_lt l b i hi]
 have e3:mk (l ++ [b]) l.length=b.f1:=by simp only [mk,rb_app_eq]
 have e4:pr (l ++ [b]) l.length=b.f2:=by simp only [pr,rb_app_eq]
 rw [e1,e2]
 simp only [nm]
 rw [nm_app l b i hi l.length (Nat.le_refl _),e1,e3,e4]
 cases hn:nm l l.length i with
 | some j=>simp
 | none=>simp [hi,and_assoc]
theorem opens_last (l:List Bt) (b:Bt) (h:b.f2=255∨b.f1=true):opens (l ++ [b]) (l ++ [b]).length l.length=false:=by
 rw [← Bool.not_eq_true,opens_iff]
 rintro ⟨h1,h2,_⟩
 simp only [pr,mk,rb_app_eq] at h1 h2
 rcases h with h|h
 ·exact h1 h
 ·rw [h] at h2;cases h2
theorem tail_gt {l:List Bt} (h:VL l) (i:Nat) (hi:i < l.length):fOff (rb l (i:Int)) < tailP l:=by
 unfold tailP
 rw [if_neg (by omega)]
 have h1:fOff (rb l (i:Int))≤fOff (rb l ((l.length - 1:Nat):Int)):=by
  by_cases he:i=l.length - 1
  ·rw [he];omega
  ·have:=VL_lt' h (show i < l.length - 1 by omega) (by omega)
   omega
 have h2:=fOff_le (VL_at h (l.length - 1) (by omega))
 rw [show ((l.length - 1:Nat):Int)=(l.length:Int) - 1 by omega] at h1 h2
 omega
theorem implMark (p e o t:Int) (g:Bool):Ev (fun k=>impl_MarkBatch.f k p e o t g) (markB p e o t g):=by
 have h:=implB false true p e 0 (markRow o t g) (markRow_small o t g)
 unfold impl_MarkBatch.f markB
 cases g with
 | true=>
  simp only [if_true,bsome]
  refine Ev.bind h ?_
  by_cases hv:vb true p e 0 (markRow o t true)=true
  ·simp only [if_pos hv];exact ev_some _
  ·simp only [if_neg hv];exact ev_some _
 | false=>
  simp only [Bool.false_eq_true,if_false,bsome]
  refine Ev.bind h ?_
  by_cases hv:vb true p e 0 (markRow o t false)=true
  ·simp only [if_pos hv];exact ev_some _
  ·simp only [if_neg hv];exact ev_some _
end Go.Proofs.Yticpnjhkdfdkkaa.Q
namespace Go.Proofs.Yticpnjhkdfdkkaa.Pure
open Go.RowKit Go.Proofs.Yticpnjhkdfdkkaa.T Go.Proofs.YticpnjhkdfdkkaaW.PrintWords Go.Proofs.YticpnjhkdfdkkaaW.PrintLast Go.Proofs.Yticpnjhkdfdkkaa.Q
set_option linter.unusedVariables false
set_option linter.unusedSimpArgs false
theorem mark_gt {l:List Bt} {b:Bt} (hv:VL l) (hx:VL (l ++ [b])) (hm:b.f1=true) (i:Nat) (hi:i < l.length) (hp:b.f2=pr l i) (he:EndP l (fOff (rb l (i:Int)))) {r' : Int} (h' : EndP (l ++ [b]) r'):fOff (rb l (i:Int)) < r':=by
 have hfirst:∀ j,j < i→opens l l.length j=false:=by
  rcases he with ⟨i0,hi0,_,hf,e⟩|⟨_,e⟩
  ·have:=VL_inj hv hi hi0 e
   subst this
   exact hf
  ·have:=tail_gt hv i hi
   omega
 rcases h' with ⟨j,hj,hoj,_,rfl⟩|⟨_,rfl⟩
 ·rw [List.length_append,List.length_singleton] at hj
  by_cases hjl:j=l.length
  ·rw [hjl,opens_last l b (.inr hm)] at hoj
   cases hoj
  ·have hjl' : j < l.length:=by omega
   obtain ⟨h1,h2⟩:=(opens_app l b j hjl').1 hoj
   have hij:i < j:=by
    rcases Nat.lt_trichotomy j i with h|h|h
    ·rw [hfirst j h] at h1;cases h1
    ·subst h;exact absurd ⟨hm,hp⟩ h2
    ·exact h
   rw [rb_app_lt l b j hjl']
   exact VL_lt' hv hij hjl'
 ·have:=tail_gt hx i (by rw [List.length_append];omega)
  rwa [rb_app_lt l b i hi] at this
theorem decide_loop (x1:List Int) (l:List Bt) (hs:smallBs l) (hv:VL l) (r:Int) (he:EndP l r):∀ (d i:Nat),l.length - i=d→i≤l.length→(∀ j,j < i→fOff (rb l (j:Int))≠r)→Ev (fun k=>laws_FnStableDecide.l0 k x1 l r (i:Int)) true:=by
 have h8:=hv.1
 intro d
 induction d with
 | zero=>
  intro i hd hi hn
  refine ev_succ ?_
  simp only [laws_FnStableDecide.l0,if_neg (show ¬ (i:Int) < (l.length:Int) by omega)]
  refine Ev.bind (implEnd l hs hv) ?_
  rcases he with ⟨j,hj,_,_,e⟩|⟨_,e⟩
  ·exact absurd e.symm (hn j (by omega))
  ·rw [show (r==tailP l)=true by rw [e];exact beq_self_eq_true _]
   exact ev_some _
 | succ d ih=>
  intro i hd hi hn
  have hlt:i < l.length:=by omega
  have e1:wrap64 ((i:Int)+1)=((i+1:Nat):Int):=by rw [wrap_id (by omega) (by omega)];omega
  have hpos : 0 < ((rd_T27 l (i:Int)).f5.length:Int):=by
   have : 1≤(rb l (i:Int)).f5.length:=(vB_pos (VL_at hv i hlt)).1
   show 0 < ((rb l (i:Int)).f5.length:Int)
   omega
  refine ev_succ ?_
  simp only [laws_FnStableDecide.l0,if_pos (show (i:Int) < (l.length:Int) by omega),if_pos (show (0:Int)≤(i:Int) by omega),if_pos hpos,e1]
  by_cases hf:fOff (rb l (i:Int))=r
  ·simp only [if_pos (show (rd_T34 (rd_T27 l (i:Int)).f5 0).f0=r from hf)]
   generalize ((x1.length:Int) % 2==0)=g
   refine Ev.bind (implMark (pr l i) (rb l (i:Int)).f3 0 0 g) ?_
   unfold markB
   by_cases hb:vb true (pr l i) (rb l (i:Int)).f3 0 (markRow 0 0 g)=true
   ·simp only [if_pos hb]
    obtain ⟨⟨x,q⟩,hr2,hp2⟩:=implAppend l hs (⟨false,true,pr l i,(rb l (i:Int)).f3,0,markRow 0 0 g⟩:Bt) (markRow_small 0 0 g)
    refine Ev.bind hr2 ?_
    cases q with
    | false=>
     simp only [if_true,Bool.false_eq_true,if_false]
     exact ev_some _
    | true=>
     obtain ⟨_,hnv,hx,hxv⟩:=hp2 rfl
     simp only at hx
     subst hx
     simp only [if_true]
     obtain ⟨r2,h3,p3⟩:=implStable (l ++ [renB (tailP l) (⟨false,true,pr l i,(rb l (i:Int)).f3,0,markRow 0 0 g⟩:Bt)]) (smallBs_snoc hs h8 (renR_smallR _ _ _ (markRow_small 0 0 g)))
     refine Ev.bind h3 ?_
     rcases p3 with ⟨_,he2⟩|⟨hn2,_⟩
     ·subst hf
      rw [decide_eq_true (show r2 > fOff (rb l (i:Int)) from mark_gt hv hxv rfl i hlt rfl he he2)]
      exact ev_some _
     ·exact absurd hxv hn2
   ·simp only [if_neg hb]
    obtain ⟨⟨x,q⟩,hr2,hp2⟩:=implAppend l hs (⟨false,false,0,0,0,[]⟩:Bt) ⟨by simp,fun r hr=>by simp at hr⟩
    refine Ev.bind hr2 ?_
    simp only [Bool.false_eq_true,if_false]
    exact ev_some _
  ·simp only [if_neg (show ¬ (rd_T34 (rd_T27 l (i:Int)).f5 0).f0=r from hf)]
   refine ih (i+1) (by omega) (by omega) (fun j hj=>?_)
   by_cases hji:j=i
   ·rw [hji];exact hf
   ·exact hn j (by omega)
theorem FnStableDecide:laws_FnStableDecide.Pure:=by
 intro l0 l1 _ _ hb0 _ _ _
 refine Ev.rounds ?_
 have hb:=bytes_of hb0
 unfold laws_FnStableDecide.f
 have main:∀ f,Ev (fun k=>laws_FnStableDecide.j0 k l0 l1 f) true:=by
  intro f
  refine ev_succ ?_
  cases f with
  | true=>
   simp only [laws_FnStableDecide.j0,if_true]
   exact ev_some _
  | false=>
   simp only [laws_FnStableDecide.j0,Bool.false_eq_true,if_false]
   obtain ⟨l,hd,hdr⟩:=drawStable hb
   have hs:=drawnBs_small hdr
   refine Ev.bind hd ?_
   obtain ⟨r,h1,p1⟩:=implStable l hs
   obtain ⟨r',h2,p2⟩:=specStable l hs
   obtain rfl:=StP_unique p1 p2
   refine Ev.bind h1 ?_
   refine Ev.bind h2 ?_
   simp only [if_true]
   refine ev_succ ?_
   rcases p1 with ⟨hv,he⟩|⟨hv,rfl⟩
   ·have hp:=EndP_pos hv he
    simp only [laws_FnStableDecide.j1,decide_eq_false (show ¬ r < 0 by omega),Bool.false_eq_true,if_false]
    exact decide_loop l1 l hs hv r he l.length 0 (by omega) (by omega) (fun j hj=>by omega)
   ·simp only [laws_FnStableDecide.j1,decide_eq_true (show (-1:Int) < 0 by omega),if_true,beq_self_eq_true]
    exact ev_some _
 by_cases h:(l0.length:Int) > 1048576
 ·simp only [if_pos h]
  exact main _
 ·simp only [if_neg h]
  exact main _
end Go.Proofs.Yticpnjhkdfdkkaa.Pure
