/- The law FnStableRecordsRead holds (part 4 of 7; merged by pack2.py). -/
import Derived.Test.YticpnjhkdfdkkaaFnStableRecordsReadK2
open List (setIfInBounds_toArray set_cons_zero set_cons_succ map_toArray map_cons map_nil length_drop length_take)
namespace Go.Proofs.Yticpnjhkdfdkkaa.U
open Go.RowKit Go.Proofs.YticpnjhkdfdkkaaW.PrintWords Go.Proofs.YticpnjhkdfdkkaaW.PrintLast Go.Proofs.YticpnjhkdfdkkaaW.PrintMore
attribute [local go_sem] max2_int max_two
set_option linter.unusedVariables false
set_option linter.unusedSimpArgs false
def impl_within.f (a0:Int) (a1:Int) (a2:Int):Option (Bool):=if a0 ≥ a1 then (some (decide (a0≤a2))) else (some false)
set_option maxHeartbeats 8000000 in
set_option maxRecDepth 100000 in
theorem impl_within.calls (a0:Int) (a1:Int) (a2:Int) (r:Bool) (w:World) (h:impl_within.f a0 a1 a2=some r) :
  Calls Try.prog 57 #[.int .i64 a0,.int .i64 a1,.int .i64 a2] w fun e w'=>e = .returned (.bool r)∧Drawn0 w w':=by
 have H:(if a0 ≥ a1 then (some (decide (a0≤a2))) else (some false))=some r:=h;clear h;by_cases c4:a0 ≥ a1
 ·
  rw [if_pos c4] at H;have c4b0:decide (a1≤a0)=true:=decide_eq_true c4;clear c4;obtain rfl:=Option.some.inj H;go_enter Try.func57,Try.ntmps57;go_wp2;go_ret;exact ⟨by first|rfl|(simp;done)|(simp [*];done),by repeat (first|exact Drawn0.refl _|apply Drawn0.step)⟩
 ·
  rw [if_neg c4] at H;have c4b0:decide (a1≤a0)=false:=decide_eq_false c4;clear c4;obtain rfl:=Option.some.inj H;go_enter Try.func57,Try.ntmps57;go_wp2;go_ret;exact ⟨by first|rfl|(simp;done)|(simp [*];done),by repeat (first|exact Drawn0.refl _|apply Drawn0.step)⟩
def impl_idValid.f (a0:Int):Option (Bool):=(impl_within.f a0 0 254).bind fun t246=>(some t246)
set_option maxHeartbeats 8000000 in
set_option maxRecDepth 100000 in
theorem impl_idValid.calls (a0:Int) (r:Bool) (w:World) (h:impl_idValid.f a0=some r) :
  Calls Try.prog 56 #[.int .i64 a0] w fun e w'=>e = .returned (.bool r)∧Drawn0 w w':=by
 have H:((impl_within.f a0 0 254).bind fun t246=>(some t246))=some r:=h;clear h;replace H:=Option.bind_eq_some_iff.mp H;obtain ⟨t246,A20,H⟩:=H;replace H:(some t246)=some r:=H;have A2:=zzm A20;clear A20;obtain rfl:=Option.some.inj H;go_enter Try.func56,Try.ntmps56;go_wp2_with (first|((with_reducible refine gate_callee (f:=57) rfl ?_);refine goesL_ (some 4) rfl rfl Try.func57 (by kernel_rfl) rfl #[.int .i64 a0,.int .i64 0,.int .i64 254] rfl zzM2 ?_;(with_reducible refine (impl_within.calls a0 0 254 t246 _ A2.out).mono ?_);rintro e w' ⟨rfl,⟨nd,rfl⟩⟩;refine ⟨_,rfl,?_⟩));go_ret;exact ⟨by first|rfl|(simp;done)|(simp [*];done),by repeat (first|exact Drawn0.refl _|apply Drawn0.step)⟩
def impl_baseValid.f (a0:Int) (a1:Int):Option (Bool):=(impl_within.f a0 0 99999).bind fun t247=>(if t247=true then ((impl_within.f a1 0 99999).bind fun t248=>(some t248)) else (some false))
set_option maxHeartbeats 8000000 in
set_option maxRecDepth 100000 in
theorem impl_baseValid.calls (a0:Int) (a1:Int) (r:Bool) (w:World) (h:impl_baseValid.f a0 a1=some r) :
  Calls Try.prog 85 #[.int .i64 a0,.int .i64 a1] w fun e w'=>e = .returned (.bool r)∧Drawn0 w w':=by
 have H:((impl_within.f a0 0 99999).bind fun t247=>(if t247=true then ((impl_within.f a1 0 99999).bind fun t248=>(some t248)) else (some false)))=some r:=h;clear h;replace H:=Option.bind_eq_some_iff.mp H;obtain ⟨t247,A30,H⟩:=H;replace H:(if t247=true then ((impl_within.f a1 0 99999).bind fun t248=>(some t248)) else (some false))=some r:=H;have A3:=zzm A30;clear A30;by_cases c4:t247=true
 ·
  subst c4;have H1:((impl_within.f a1 0 99999).bind fun t248=>(some t248))=some r:=by rw [if_pos rfl] at H;exact H
  clear H;have H:=H1;clear H1;replace H:=Option.bind_eq_some_iff.mp H;obtain ⟨t248,A50,H⟩:=H;replace H:(some t248)=some r:=H;have A5:=zzm A50;clear A50;obtain rfl:=Option.some.inj H;go_enter Try.func85,Try.ntmps85;go_wp2_with (first|((with_reducible refine gate_callee (f:=57) rfl ?_);refine goesL_ (some 6) rfl rfl Try.func57 (by kernel_rfl) rfl #[.int .i64 a0,.int .i64 0,.int .i64 99999] rfl zzM2 ?_;(with_reducible refine (impl_within.calls a0 0 99999 true _ A3.out).mono ?_);rintro e w' ⟨rfl,⟨nd,rfl⟩⟩;refine ⟨_,rfl,?_⟩)|(go_at_call 57;(with_reducible refine (impl_within.calls a1 0 99999 t248 _ A5.out).mono ?_);rintro e w' ⟨rfl,⟨nd,rfl⟩⟩));go_ret;exact ⟨by first|rfl|(simp;done)|(simp [*];done),by repeat (first|exact Drawn0.refl _|apply Drawn0.step)⟩
 ·
  replace c4:=Bool.eq_false_iff.mpr c4;subst c4;have H1:(some false)=some r:=by rw [if_neg (show ¬ (false=true) by decide)] at H;exact H
  clear H;have H:=H1;clear H1;obtain rfl:=Option.some.inj H;go_enter Try.func85,Try.ntmps85;go_wp2_with (first|((with_reducible refine gate_callee (f:=57) rfl ?_);refine goesL_ (some 6) rfl rfl Try.func57 (by kernel_rfl) rfl #[.int .i64 a0,.int .i64 0,.int .i64 99999] rfl zzM2 ?_;(with_reducible refine (impl_within.calls a0 0 99999 false _ A3.out).mono ?_);rintro e w' ⟨rfl,⟨nd,rfl⟩⟩;refine ⟨_,rfl,?_⟩));go_ret;exact ⟨by first|rfl|(simp;done)|(simp [*];done),by repeat (first|exact Drawn0.refl _|apply Drawn0.step)⟩
def impl_isByte.f (a0:Int):Option (Bool):=if a0 ≥ 0 then (some (decide (a0≤255))) else (some false)
set_option maxHeartbeats 8000000 in
set_option maxRecDepth 100000 in
theorem impl_isByte.calls (a0:Int) (r:Bool) (w:World) (h:impl_isByte.f a0=some r) :
  Calls Try.prog 110 #[.int .i64 a0] w fun e w'=>e = .returned (.bool r)∧Drawn0 w w':=by
 have H:(if a0 ≥ 0 then (some (decide (a0≤255))) else (some false))=some r:=h;clear h;by_cases c2:a0 ≥ 0
 ·
  rw [if_pos c2] at H;have c2b0:decide (0≤a0)=true:=decide_eq_true c2;clear c2;obtain rfl:=Option.some.inj H;go_enter Try.func110,Try.ntmps110;go_wp2;go_ret;exact ⟨by first|rfl|(simp;done)|(simp [*];done),by repeat (first|exact Drawn0.refl _|apply Drawn0.step)⟩
 ·
  rw [if_neg c2] at H;have c2b0:decide (0≤a0)=false:=decide_eq_false c2;clear c2;obtain rfl:=Option.some.inj H;go_enter Try.func110,Try.ntmps110;go_wp2;go_ret;exact ⟨by first|rfl|(simp;done)|(simp [*];done),by repeat (first|exact Drawn0.refl _|apply Drawn0.step)⟩
def impl_allBytes.l0:Nat→List Int→Int→Int→Option (Bool)
 | 0,_,_,_=>none
 | k+1,x5,x6,x7=>if x7 < x6 then (if 0≤x7 then (if x7 < (x5.length:Int) then ((impl_isByte.f (rd x5 x7)).bind fun t250=>(if t250=true then (impl_allBytes.l0 k x5 x6 (wrap64 (x7+1))) else (some false))) else (none)) else (none)) else (some true)
def impl_allBytes.f (k:Nat) (l0:List Int):Option (Bool):=impl_allBytes.l0 k l0 (l0.length:Int) 0
set_option maxHeartbeats 8000000 in
set_option maxRecDepth 100000 in
theorem impl_allBytes.calls (k:Nat) (A0:Option Addr) (c0:Nat) (l0:List Int) (r:Bool) (w:World) (hr0:Kd.C (Kd.int .i64) w A0 l0.length l0) (hc0:l0.length≤c0) (h:impl_allBytes.f k l0=some r) :
  Calls Try.prog 100 #[.slice A0 l0.length c0] w fun e w'=>e = .returned (.bool r)∧Drawn0 w w':=by
 have HR0:=zzm hr0;have HC0:=zzm hc0;clear hr0 hc0;have H:(impl_allBytes.l0 k l0 (l0.length:Int) 0)=some r:=h;clear h;have H':=zzm H;clear H;go_enter Try.func100,Try.ntmps100;go_wp2;go_loopg [7] k (fun kq v7 w'=>∃ (x7_1:Int),v7 = .int .i64 x7_1∧Aside0 (impl_allBytes.l0 kq l0 (l0.length:Int) x7_1=some r)∧Aside0 (kq≤k)∧Drawn0 w w')
 case atStart=>exact ⟨(0),(by first|rfl|(simp;done)|(simp [*];done)),H',⟨Nat.le_refl _⟩,by repeat (first|exact Drawn0.refl _|apply Drawn0.step)⟩
 case round=>
  clear H';try clear c1
  obtain ⟨x7_1,rfl,HA,HK1,⟨m1,rfl⟩⟩:=hrel;cases gk with
  | zero=>exact absurd HA.out (by simp [impl_allBytes.l0])
  | succ k1=>
   have H:=HA.out;clear HA;simp only [impl_allBytes.l0] at H;by_cases c2:x7_1 < (l0.length:Int)
   ·
    rw [if_pos c2] at H;have c2b0:decide (x7_1 < (l0.length:Int))=true:=decide_eq_true c2;clear c2;by_cases c3 : 0≤x7_1
    ·
     rw [if_pos c3] at H;have c3b0:decide (0≤x7_1)=true:=decide_eq_true c3;clear c3;by_cases c4:x7_1 < (l0.length:Int)
     ·
      rw [if_pos c4] at H;have c4b0:decide (x7_1 < (l0.length:Int))=true:=decide_eq_true c4;clear c4;replace H:=Option.bind_eq_some_iff.mp H;obtain ⟨t250,A50,H⟩:=H;replace H:(if t250=true then (impl_allBytes.l0 k1 l0 (l0.length:Int) (wrap64 (x7_1+1))) else (some false))=some r:=H;have A5:=zzm A50;clear A50;by_cases c6:t250=true
      ·
       subst c6;have H1:(impl_allBytes.l0 k1 l0 (l0.length:Int) (wrap64 (x7_1+1)))=some r:=by rw [if_pos rfl] at H;exact H
       clear H;have H:=H1;clear H1;have H':=zzm H;clear H;have p249 : 0≤(x7_1:Int):=zzt;have q249:x7_1 < (l0.length:Int):=zzt;obtain ⟨ad249,e249,hx249_0⟩:=Kd.at_int HR0.out x7_1 p249 q249;cases e249;replace p249:=eq_true p249;replace q249:=eq_true q249;go_wp2_with (first|((with_reducible refine gate_callee (f:=110) rfl ?_);refine goesL_ (some 12) rfl rfl Try.func110 (by kernel_rfl) rfl #[.int .i64 (rd l0 x7_1)] rfl zzM2 ?_;(with_reducible refine (impl_isByte.calls (rd l0 x7_1) true _ A5.out).mono ?_);rintro e w' ⟨rfl,⟨nd,rfl⟩⟩;refine ⟨_,rfl,?_⟩));go_roundg k1
       case measure=>have:=HK1.out;omega
       case rel=>exact ⟨(wrap64 (x7_1+1)),(by first|rfl|(simp;done)|(simp [*];done)),H',⟨by have:=HK1.out;omega⟩,by repeat (first|exact Drawn0.refl _|apply Drawn0.step)⟩
      ·
       replace c6:=Bool.eq_false_iff.mpr c6;subst c6;have H1:(some false)=some r:=by rw [if_neg (show ¬ (false=true) by decide)] at H;exact H
       clear H;have H:=H1;clear H1;obtain rfl:=Option.some.inj H;have p249 : 0≤(x7_1:Int):=zzt;have q249:x7_1 < (l0.length:Int):=zzt;obtain ⟨ad249,e249,hx249_0⟩:=Kd.at_int HR0.out x7_1 p249 q249;cases e249;replace p249:=eq_true p249;replace q249:=eq_true q249;go_wp2_with (first|((with_reducible refine gate_callee (f:=110) rfl ?_);refine goesL_ (some 12) rfl rfl Try.func110 (by kernel_rfl) rfl #[.int .i64 (rd l0 x7_1)] rfl zzM2 ?_;(with_reducible refine (impl_isByte.calls (rd l0 x7_1) false _ A5.out).mono ?_);rintro e w' ⟨rfl,⟨nd,rfl⟩⟩;refine ⟨_,rfl,?_⟩));go_ret;exact ⟨by first|rfl|(simp;done)|(simp [*];done),by repeat (first|exact Drawn0.refl _|apply Drawn0.step)⟩
     ·
      rw [if_neg c4] at H;exact absurd H (by simp)
    ·
     rw [if_neg c3] at H;exact absurd H (by simp)
   ·
    rw [if_neg c2] at H;have c2b0:decide (x7_1 < (l0.length:Int))=false:=decide_eq_false c2;clear c2;obtain rfl:=Option.some.inj H;go_wp2;go_ret;exact ⟨by first|rfl|(simp;done)|(simp [*];done),by repeat (first|exact Drawn0.refl _|apply Drawn0.step)⟩
def impl_partValid.f (k:Nat) (a0:Bool) (l1:List Int):Option (Bool):=if a0=true then (if (l1.length:Int)≤12 then ((impl_allBytes.f k l1).bind fun t251=>(some t251)) else (some false)) else (some ((l1.length:Int)==0))
set_option maxHeartbeats 8000000 in
set_option maxRecDepth 100000 in
theorem impl_partValid.calls (k:Nat) (a0:Bool) (A1:Option Addr) (c1:Nat) (l1:List Int) (r:Bool) (w:World) (hr1:Kd.C (Kd.int .i64) w A1 l1.length l1) (hc1:l1.length≤c1) (h:impl_partValid.f k a0 l1=some r) :
  Calls Try.prog 86 #[.bool a0,.slice A1 l1.length c1] w fun e w'=>e = .returned (.bool r)∧Drawn0 w w':=by
 have HR1:=zzm hr1;have HC1:=zzm hc1;clear hr1 hc1;have H:(if a0=true then (if (l1.length:Int)≤12 then ((impl_allBytes.f k l1).bind fun t251=>(some t251)) else (some false)) else (some ((l1.length:Int)==0)))=some r:=h;clear h;by_cases c3:a0=true
 ·
  subst c3;have H1:(if (l1.length:Int)≤12 then ((impl_allBytes.f k l1).bind fun t251=>(some t251)) else (some false))=some r:=by rw [if_pos rfl] at H;exact H
  clear H;have H:=H1;clear H1;by_cases c4:(l1.length:Int)≤12
  ·
   rw [if_pos c4] at H;have c4b0:decide ((l1.length:Int)≤12)=true:=decide_eq_true c4;have c4b1:decide (l1.length≤12)=true:=decide_eq_true (by omega);clear c4;replace H:=Option.bind_eq_some_iff.mp H;obtain ⟨t251,A50,H⟩:=H;replace H:(some t251)=some r:=H;have A5:=zzm A50;clear A50;obtain rfl:=Option.some.inj H;go_enter Try.func86,Try.ntmps86;go_wp2_with (first|(go_at_call 100;(with_reducible refine (impl_allBytes.calls k _ _ l1 t251 _ ?side1 ?side2 A5.out).mono ?_);(case side1=>repeat (first|exact HR1.out|(with_reducible refine Kd.C_alloc ?_ _)|(with_reducible refine Kd.C_drewN ?_ _)|(with_reducible refine Kd.C_drew ?_)));(case side2=>exact HC1.out);rintro e w' ⟨rfl,⟨nd,rfl⟩⟩));go_ret;exact ⟨by first|rfl|(simp;done)|(simp [*];done),by repeat (first|exact Drawn0.refl _|apply Drawn0.step)⟩
  ·
   rw [if_neg c4] at H;have c4b0:decide ((l1.length:Int)≤12)=false:=decide_eq_false c4;have c4b1:decide (l1.length≤12)=false:=decide_eq_false (by omega);clear c4;obtain rfl:=Option.some.inj H;go_enter Try.func86,Try.ntmps86;go_wp2;go_ret;exact ⟨by first|rfl|(simp;done)|(simp [*];done),by repeat (first|exact Drawn0.refl _|apply Drawn0.step)⟩
 ·
  replace c3:=Bool.eq_false_iff.mpr c3;subst c3;have H1:(some ((l1.length:Int)==0))=some r:=by rw [if_neg (show ¬ (false=true) by decide)] at H;exact H
  clear H;have H:=H1;clear H1;obtain rfl:=Option.some.inj H;go_enter Try.func86,Try.ntmps86;go_wp2;go_ret;exact ⟨by first|rfl|(simp;done)|(simp [*];done),by repeat (first|exact Drawn0.refl _|apply Drawn0.step)⟩
def impl_RecordValid.f (k:Nat) (a0_0:Int) (a0_1:Int) (a0_2:Bool) (l0_3:List Int) (a0_4:Bool) (l0_5:List Int):Option (Bool):=(impl_baseValid.f a0_0 a0_1).bind fun t253=>(if t253=true then ((impl_partValid.f k a0_2 l0_3).bind fun t254=>(if t254=true then ((impl_partValid.f k a0_4 l0_5).bind fun t255=>(some t255)) else (some false))) else (some false))
set_option maxHeartbeats 8000000 in
set_option maxRecDepth 100000 in
theorem impl_RecordValid.calls (k:Nat) (a0_0:Int) (a0_1:Int) (a0_2:Bool) (A0_3:Option Addr) (c0_3:Nat) (l0_3:List Int) (a0_4:Bool) (A0_5:Option Addr) (c0_5:Nat) (l0_5:List Int) (r:Bool) (w:World) (hr0_3:Kd.C (Kd.int .i64) w A0_3 l0_3.length l0_3) (hc0_3:l0_3.length≤c0_3) (hr0_5:Kd.C (Kd.int .i64) w A0_5 l0_5.length l0_5) (hc0_5:l0_5.length≤c0_5) (h:impl_RecordValid.f k a0_0 a0_1 a0_2 l0_3 a0_4 l0_5=some r) :
  Calls Try.prog 58 #[.agg #[.int .i64 a0_0,.int .i64 a0_1,.bool a0_2,.slice A0_3 l0_3.length c0_3,.bool a0_4,.slice A0_5 l0_5.length c0_5]] w fun e w'=>e = .returned (.bool r)∧Below w.heap.size w w':=by
 have hu34:=Try.underlying34;have HR0_3:=zzm hr0_3;have HC0_3:=zzm hc0_3;clear hr0_3 hc0_3;have HR0_5:=zzm hr0_5;have HC0_5:=zzm hc0_5;clear hr0_5 hc0_5;have HB:=zzm (Below.refl w.heap.size w);have H:((impl_baseValid.f a0_0 a0_1).bind fun t253=>(if t253=true then ((impl_partValid.f k a0_2 l0_3).bind fun t254=>(if t254=true then ((impl_partValid.f k a0_4 l0_5).bind fun t255=>(some t255)) else (some false))) else (some false)))=some r:=h;clear h;replace H:=Option.bind_eq_some_iff.mp H;obtain ⟨t253,A20,H⟩:=H;replace H:(if t253=true then ((impl_partValid.f k a0_2 l0_3).bind fun t254=>(if t254=true then ((impl_partValid.f k a0_4 l0_5).bind fun t255=>(some t255)) else (some false))) else (some false))=some r:=H;have A2:=zzm A20;clear A20;by_cases c3:t253=true
 ·
  subst c3;have H1:((impl_partValid.f k a0_2 l0_3).bind fun t254=>(if t254=true then ((impl_partValid.f k a0_4 l0_5).bind fun t255=>(some t255)) else (some false)))=some r:=by rw [if_pos rfl] at H;exact H
  clear H;have H:=H1;clear H1;replace H:=Option.bind_eq_some_iff.mp H;obtain ⟨t254,A40,H⟩:=H;replace H:(if t254=true then ((impl_partValid.f k a0_4 l0_5).bind fun t255=>(some t255)) else (some false))=some r:=H;have A4:=zzm A40;clear A40;by_cases c5:t254=true
  ·
   subst c5;have H1:((impl_partValid.f k a0_4 l0_5).bind fun t255=>(some t255))=some r:=by rw [if_pos rfl] at H;exact H
   clear H;have H:=H1;clear H1;replace H:=Option.bind_eq_some_iff.mp H;obtain ⟨t255,A60,H⟩:=H;replace H:(some t255)=some r:=H;have A6:=zzm A60;clear A60;obtain rfl:=Option.some.inj H;go_enter Try.func58,Try.ntmps58;go_wp2_with (first|((with_reducible refine gate_dst (N:=1) rfl ?_);refine box_event ?hg (N:=1) ?hd (cs:=#[.int .i64 a0_0,.int .i64 a0_1,.bool a0_2,.slice A0_3 l0_3.length c0_3,.bool a0_4,.slice A0_5 l0_5.length c0_5]) (t:=34) ?hr ?_;(case hd=>rfl);(case hg=>rfl);(case hr=>first|(go_simp;done)|(go_simp;rfl));intro gb252 hg w7 hbox hb;have n0_:=zzm (zzp zzh1 hb);have n1_:=zzm (hbox);have n2_:=zzm ((by rw [hg];exact (zzo zzh1):w.heap.size≤gb252));have n3_:=zzm ((by rw [hg];exact (zzo zzh1):w.heap.size≤gb252));clear HB;have HB:=n0_;have BK252:=n1_;have GW252:=n2_;have GE252:=n3_;clear n0_ n1_ n2_ n3_ hb hbox hg;obtain ⟨hcz8_0,hcz8_1,hcz8_2,hcz8_3,hcz8_4,hcz8_5,hfz8_0,hfz8_1,hfz8_2,hfz8_3,hfz8_4,hfz8_5⟩:=zzc6 BK252.out)|((with_reducible refine gate_callee (f:=85) rfl ?_);refine goesL_ (some 7) rfl rfl Try.func85 (by kernel_rfl) rfl #[.int .i64 a0_0,.int .i64 a0_1] rfl zzM2 ?_;(with_reducible refine (impl_baseValid.calls a0_0 a0_1 true _ A2.out).mono ?_);rintro e w' ⟨rfl,⟨nd,rfl⟩⟩;refine ⟨_,rfl,?_⟩)|(go_at_call 86;(with_reducible refine (impl_partValid.calls k a0_2 _ _ l0_3 true _ ?side1 ?side2 A4.out).mono ?_);(case side1=>repeat (first|exact (Kd.C_below HR0_3.out zzh2)|(with_reducible refine Kd.C_alloc ?_ _)|(with_reducible refine Kd.C_drewN ?_ _)|(with_reducible refine Kd.C_drew ?_)));(case side2=>exact HC0_3.out);rintro e w' ⟨rfl,⟨nd,rfl⟩⟩)|(go_at_call 86;(with_reducible refine (impl_partValid.calls k a0_4 _ _ l0_5 t255 _ ?side1 ?side2 A6.out).mono ?_);(case side1=>repeat (first|exact (Kd.C_below HR0_5.out zzh2)|(with_reducible refine Kd.C_alloc ?_ _)|(with_reducible refine Kd.C_drewN ?_ _)|(with_reducible refine Kd.C_drew ?_)));(case side2=>exact HC0_5.out);rintro e w' ⟨rfl,⟨nd,rfl⟩⟩));go_ret;exact ⟨by first|rfl|(simp [errW_none,errW_some] <;> rfl)|(simp [*,errW_none,errW_some] <;> rfl),by repeat (first|(with_reducible first|exact HB.out|apply zza|apply zzb|apply zzc|refine zzd ?_ GE252.out)|exact HB.out)⟩
  ·
   replace c5:=Bool.eq_false_iff.mpr c5;subst c5;have H1:(some false)=some r:=by rw [if_neg (show ¬ (false=true) by decide)] at H;exact H
   clear H;have H:=H1;clear H1;obtain rfl:=Option.some.inj H;go_enter Try.func58,Try.ntmps58;go_wp2_with (first|((with_reducible refine gate_dst (N:=1) rfl ?_);refine box_event ?hg (N:=1) ?hd (cs:=#[.int .i64 a0_0,.int .i64 a0_1,.bool a0_2,.slice A0_3 l0_3.length c0_3,.bool a0_4,.slice A0_5 l0_5.length c0_5]) (t:=34) ?hr ?_;(case hd=>rfl);(case hg=>rfl);(case hr=>first|(go_simp;done)|(go_simp;rfl));intro gb252 hg w9 hbox hb;have n0_:=zzm (zzp zzh1 hb);have n1_:=zzm (hbox);have n2_:=zzm ((by rw [hg];exact (zzo zzh1):w.heap.size≤gb252));have n3_:=zzm ((by rw [hg];exact (zzo zzh1):w.heap.size≤gb252));clear HB;have HB:=n0_;have BK252:=n1_;have GW252:=n2_;have GE252:=n3_;clear n0_ n1_ n2_ n3_ hb hbox hg;obtain ⟨hcz10_0,hcz10_1,hcz10_2,hcz10_3,hcz10_4,hcz10_5,hfz10_0,hfz10_1,hfz10_2,hfz10_3,hfz10_4,hfz10_5⟩:=zzc6 BK252.out)|((with_reducible refine gate_callee (f:=85) rfl ?_);refine goesL_ (some 7) rfl rfl Try.func85 (by kernel_rfl) rfl #[.int .i64 a0_0,.int .i64 a0_1] rfl zzM2 ?_;(with_reducible refine (impl_baseValid.calls a0_0 a0_1 true _ A2.out).mono ?_);rintro e w' ⟨rfl,⟨nd,rfl⟩⟩;refine ⟨_,rfl,?_⟩)|(go_at_call 86;(with_reducible refine (impl_partValid.calls k a0_2 _ _ l0_3 false _ ?side1 ?side2 A4.out).mono ?_);(case side1=>repeat (first|exact (Kd.C_below HR0_3.out zzh2)|(with_reducible refine Kd.C_alloc ?_ _)|(with_reducible refine Kd.C_drewN ?_ _)|(with_reducible refine Kd.C_drew ?_)));(case side2=>exact HC0_3.out);rintro e w' ⟨rfl,⟨nd,rfl⟩⟩));go_ret;exact ⟨by first|rfl|(simp [errW_none,errW_some] <;> rfl)|(simp [*,errW_none,errW_some] <;> rfl),by repeat (first|(with_reducible first|exact HB.out|apply zza|apply zzb|apply zzc|refine zzd ?_ GE252.out)|exact HB.out)⟩
 ·
  replace c3:=Bool.eq_false_iff.mpr c3;subst c3;have H1:(some false)=some r:=by rw [if_neg (show ¬ (false=true) by decide)] at H;exact H
  clear H;have H:=H1;clear H1;obtain rfl:=Option.some.inj H;go_enter Try.func58,Try.ntmps58;go_wp2_with (first|((with_reducible refine gate_dst (N:=1) rfl ?_);refine box_event ?hg (N:=1) ?hd (cs:=#[.int .i64 a0_0,.int .i64 a0_1,.bool a0_2,.slice A0_3 l0_3.length c0_3,.bool a0_4,.slice A0_5 l0_5.length c0_5]) (t:=34) ?hr ?_;(case hd=>rfl);(case hg=>rfl);(case hr=>first|(go_simp;done)|(go_simp;rfl));intro gb252 hg w11 hbox hb;have n0_:=zzm (zzp zzh1 hb);have n1_:=zzm (hbox);have n2_:=zzm ((by rw [hg];exact (zzo zzh1):w.heap.size≤gb252));have n3_:=zzm ((by rw [hg];exact (zzo zzh1):w.heap.size≤gb252));clear HB;have HB:=n0_;have BK252:=n1_;have GW252:=n2_;have GE252:=n3_;clear n0_ n1_ n2_ n3_ hb hbox hg;obtain ⟨hcz12_0,hcz12_1,hcz12_2,hcz12_3,hcz12_4,hcz12_5,hfz12_0,hfz12_1,hfz12_2,hfz12_3,hfz12_4,hfz12_5⟩:=zzc6 BK252.out)|((with_reducible refine gate_callee (f:=85) rfl ?_);refine goesL_ (some 7) rfl rfl Try.func85 (by kernel_rfl) rfl #[.int .i64 a0_0,.int .i64 a0_1] rfl zzM2 ?_;(with_reducible refine (impl_baseValid.calls a0_0 a0_1 false _ A2.out).mono ?_);rintro e w' ⟨rfl,⟨nd,rfl⟩⟩;refine ⟨_,rfl,?_⟩));go_ret;exact ⟨by first|rfl|(simp [errW_none,errW_some] <;> rfl)|(simp [*,errW_none,errW_some] <;> rfl),by repeat (first|(with_reducible first|exact HB.out|apply zza|apply zzb|apply zzc|refine zzd ?_ GE252.out)|exact HB.out)⟩
mutual
def impl_BatchValid.j0:Nat→Bool→Bool→Int→Int→Int→List (S34)→Option (Bool)
 | 0,_,_,_,_,_,_=>none
 | k+1,x257000,x257001,x257002,x257003,x257004,x257005=>(impl_within.f (x257005.length:Int) 1 6).bind fun t260=>(if t260=true then (if x257001=true then (impl_BatchValid.j1 k ((x257005.length:Int) != 1) x257000 x257001 x257002 x257003 x257004 x257005) else (impl_BatchValid.j1 k false x257000 x257001 x257002 x257003 x257004 x257005)) else (impl_BatchValid.j1 k true x257000 x257001 x257002 x257003 x257004 x257005))
def impl_BatchValid.j1:Nat→Bool→Bool→Bool→Int→Int→Int→List (S34)→Option (Bool)
 | 0,_,_,_,_,_,_,_=>none
 | k+1,x50,x257000,x257001,x257002,x257003,x257004,x257005=>if x50=true then (some false) else (impl_BatchValid.l0 k x257005 (x257005.length:Int) 0 x257000 x257001 x257002 x257003 x257004 x257005)
def impl_BatchValid.l0:Nat→List (S34)→Int→Int→Bool→Bool→Int→Int→Int→List (S34)→Option (Bool)
 | 0,_,_,_,_,_,_,_,_,_=>none
 | k+1,x52,x53,x54,x257000,x257001,x257002,x257003,x257004,x257005=>if x54 < x53 then (if 0≤x54 then (if x54 < (x52.length:Int) then ((impl_RecordValid.f k ((rd_T34 x52 x54).f0) ((rd_T34 x52 x54).f1) ((rd_T34 x52 x54).f2) ((rd_T34 x52 x54).f3) ((rd_T34 x52 x54).f4) ((rd_T34 x52 x54).f5)).bind fun t263=>(if t263=true then (if x54 > 0 then (if 0≤(wrap64 (x54 - 1)) then (if (wrap64 (x54 - 1)) < (x257005.length:Int) then (if ((rd_T34 x257005 (wrap64 (x54 - 1))).f0) ≥ ((rd_T34 x52 x54).f0) then (some false) else (impl_BatchValid.l0 k x52 x53 (wrap64 (x54+1)) x257000 x257001 x257002 x257003 x257004 x257005)) else (none)) else (none)) else (impl_BatchValid.l0 k x52 x53 (wrap64 (x54+1)) x257000 x257001 x257002 x257003 x257004 x257005)) else (some false))) else (none)) else (none)) else (some true)
end
def impl_BatchValid.f (k:Nat) (a0_0:Bool) (a0_1:Bool) (a0_2:Int) (a0_3:Int) (a0_4:Int) (l0_5:List (S34)):Option (Bool):=if a0_2=255 then (if a0_3=0 then (if a0_4=0 then (if a0_1=true then (some false) else (impl_BatchValid.j0 k a0_0 a0_1 a0_2 a0_3 a0_4 l0_5)) else (some false)) else (some false)) else ((impl_idValid.f a0_2).bind fun t257=>(if t257=true then ((impl_within.f a0_3 0 99).bind fun t258=>(if t258=true then ((impl_within.f a0_4 0 9999).bind fun t259=>(if t259=true then (impl_BatchValid.j0 k a0_0 a0_1 a0_2 a0_3 a0_4 l0_5) else (some false))) else (some false))) else (some false)))
def impl_BatchValid.T11:Bool×List (List Nat×List Nat):=(true,[([],[]),([0],[0]),([1],[1]),([2,1],[2]),([3],[3]),([4,3],[3,4]),([5,3,3],[3,5]),([6],[6]),([7,6],[6,7]),([6],[6]),([9,6],[6,9]),([8,10,6],[6,8,10]),([11,6],[6,11]),([12,6],[6,12]),([6],[6]),([14,6],[6,14]),([13,15,6],[6,13,15]),([6,16,3],[3,6,16]),([3,17],[3,17])])
def impl_BatchValid.B11:List Nat:=[0,1,3,7,15,31,63,127,255,127,639,2047,4095,8191,127,16511,65535,131071,262143]
theorem impl_BatchValid.tab11:rtab .any (opsOf Try.f22 11)=impl_BatchValid.T11:=by kernel_rfl
theorem impl_BatchValid.bits11:waitsOk impl_BatchValid.T11.2 impl_BatchValid.B11=true:=by kernel_rfl
set_option maxHeartbeats 8000000 in
set_option maxRecDepth 100000 in
theorem impl_BatchValid.calls (k:Nat) (a0_0:Bool) (a0_1:Bool) (a0_2:Int) (a0_3:Int) (a0_4:Int) (A0_5:Option Addr) (c0_5:Nat) (l0_5:List (S34)) (r:Bool) (w:World) (hr0_5:Kd.C k34 w A0_5 l0_5.length l0_5) (hc0_5:l0_5.length≤c0_5) (h:impl_BatchValid.f k a0_0 a0_1 a0_2 a0_3 a0_4 l0_5=some r) :
  Calls Try.prog 22 #[.agg #[.bool a0_0,.bool a0_1,.int .i64 a0_2,.int .i64 a0_3,.int .i64 a0_4,.slice A0_5 l0_5.length c0_5]] w fun e w'=>e = .returned (.bool r)∧Below w.heap.size w w':=by
 have hu27:=Try.underlying27;have hu34:=Try.underlying34;have HR0_5:=zzm hr0_5;have HC0_5:=zzm hc0_5;clear hr0_5 hc0_5;have HB:=zzm (Below.refl w.heap.size w);have H:(if a0_2=255 then (if a0_3=0 then (if a0_4=0 then (if a0_1=true then (some false) else (impl_BatchValid.j0 k a0_0 a0_1 a0_2 a0_3 a0_4 l0_5)) else (some false)) else (some false)) else ((impl_idValid.f a0_2).bind fun t257=>(if t257=true then ((impl_within.f a0_3 0 99).bind fun t258=>(if t258=true then ((impl_within.f a0_4 0 9999).bind fun t259=>(if t259=true then (impl_BatchValid.j0 k a0_0 a0_1 a0_2 a0_3 a0_4 l0_5) else (some false))) else (some false))) else (some false))))=some r:=h;clear h;have HC2:=zzm H;clear H;go_enter Try.func22,Try.ntmps22;go_upto_if 7 with (first|((with_reducible refine gate_dst (N:=1) rfl ?_);(try (refine gate_guard (by rfl) ?_;dsimp only));refine box_event ?hg (N:=1) ?hd (cs:=#[.bool a0_0,.bool a0_1,.int .i64 a0_2,.int .i64 a0_3,.int .i64 a0_4,.slice A0_5 l0_5.length c0_5]) (t:=27) ?hr ?_;(case hd=>rfl);(case hg=>rfl);(case hr=>first|(go_simp;done)|(go_simp;rfl));intro gb256 hg w3 hbox hb;have n0_:=zzm (zzp zzh1 hb);have n1_:=zzm (hbox);have n2_:=zzm ((by rw [hg];exact (zzo zzh1):w.heap.size≤gb256));have n3_:=zzm ((by rw [hg];exact (zzo zzh1):w.heap.size≤gb256));clear HB;have HB:=n0_;have BK256:=n1_;have GW256:=n2_;have GE256:=n3_;clear n0_ n1_ n2_ n3_ hb hbox hg;obtain ⟨hcz4_0,hcz4_1,hcz4_2,hcz4_3,hcz4_4,hcz4_5,hfz4_0,hfz4_1,hfz4_2,hfz4_3,hfz4_4,hfz4_5⟩:=zzc6 BK256.out))
 (try simp only [Act.put,zzq,zzr,zzs]);go_cut [] (fun wc=>∃ (kq:Nat),Aside0 (impl_BatchValid.j0 kq a0_0 a0_1 a0_2 a0_3 a0_4 l0_5=some r)∧Aside0 (kq≤k)∧Aside0 (wc.heap[gb256]? = some (.cells #[.bool a0_0,.bool a0_1,.int .i64 a0_2,.int .i64 a0_3,.int .i64 a0_4,(.slice A0_5 l0_5.length c0_5)] 27 (0,0)))∧Aside0 (Below w.heap.size w wc))
 case first=>
  have H:=HC2.out;clear HC2;by_cases c5:a0_2=255
  ·
   rw [if_pos c5] at H;have c5b0:(a0_2==255)=true:=beq_iff_eq.mpr c5;have c5b1:(a0_2 != 255)=false:=bne_eq_false_iff_eq.mpr c5;clear c5
   (first|rw [c5b0]|(simp only [i64_w,i32_w];rw [c5b0])|skip);by_cases c6:a0_3=0
   ·
    rw [if_pos c6] at H;have c6b0:(a0_3==0)=true:=beq_iff_eq.mpr c6;have c6b1:(a0_3 != 0)=false:=bne_eq_false_iff_eq.mpr c6;clear c6;by_cases c7:a0_4=0
    ·
     rw [if_pos c7] at H;have c7b0:(a0_4==0)=true:=beq_iff_eq.mpr c7;have c7b1:(a0_4 != 0)=false:=bne_eq_false_iff_eq.mpr c7;clear c7;by_cases c8:a0_1=true
     ·
      subst c8;have H1:(some false)=some r:=by rw [if_pos rfl] at H;exact H
      clear H;have H:=H1;clear H1;obtain rfl:=Option.some.inj H;obtain ⟨hcz9_0,hcz9_1,hcz9_2,hcz9_3,hcz9_4,hcz9_5,hfz9_0,hfz9_1,hfz9_2,hfz9_3,hfz9_4,hfz9_5⟩:=zzc6 BK256.out;go_wp2;go_ret;exact ⟨by first|rfl|(simp [errW_none,errW_some] <;> rfl)|(simp [*,errW_none,errW_some] <;> rfl),by repeat (first|(with_reducible first|exact HB.out|apply zza|apply zzb|apply zzc|refine zzd ?_ GE256.out)|exact HB.out)⟩
     ·
      replace c8:=Bool.eq_false_iff.mpr c8;subst c8;have H1:(impl_BatchValid.j0 k a0_0 false a0_2 a0_3 a0_4 l0_5)=some r:=by rw [if_neg (show ¬ (false=true) by decide)] at H;exact H
      clear H;have H:=H1;clear H1;have H':=zzm H;clear H;obtain ⟨hcz10_0,hcz10_1,hcz10_2,hcz10_3,hcz10_4,hcz10_5,hfz10_0,hfz10_1,hfz10_2,hfz10_3,hfz10_4,hfz10_5⟩:=zzc6 BK256.out;go_wp2;go_meet
      case rel=>exact ⟨_,H',⟨by first|omega|exact Nat.le_refl _⟩,⟨by (with_reducible repeat (first|apply zzf|apply zzg|apply zze));exact BK256.out⟩,⟨by repeat (first|(with_reducible first|exact HB.out|apply zza|apply zzb|apply zzc|refine zzd ?_ GE256.out)|exact HB.out)⟩⟩
    ·
     rw [if_neg c7] at H;have c7b0:(a0_4==0)=false:=beq_eq_false_iff_ne.mpr c7;have c7b1:(a0_4 != 0)=true:=bne_iff_ne.mpr c7;obtain rfl:=Option.some.inj H;obtain ⟨hcz11_0,hcz11_1,hcz11_2,hcz11_3,hcz11_4,hcz11_5,hfz11_0,hfz11_1,hfz11_2,hfz11_3,hfz11_4,hfz11_5⟩:=zzc6 BK256.out;go_wp2;go_ret;exact ⟨by first|rfl|(simp [errW_none,errW_some] <;> rfl)|(simp [*,errW_none,errW_some] <;> rfl),by repeat (first|(with_reducible first|exact HB.out|apply zza|apply zzb|apply zzc|refine zzd ?_ GE256.out)|exact HB.out)⟩
   ·
    rw [if_neg c6] at H;have c6b0:(a0_3==0)=false:=beq_eq_false_iff_ne.mpr c6;have c6b1:(a0_3 != 0)=true:=bne_iff_ne.mpr c6;obtain rfl:=Option.some.inj H;obtain ⟨hcz12_0,hcz12_1,hcz12_2,hcz12_3,hcz12_4,hcz12_5,hfz12_0,hfz12_1,hfz12_2,hfz12_3,hfz12_4,hfz12_5⟩:=zzc6 BK256.out;go_wp2;go_ret;exact ⟨by first|rfl|(simp [errW_none,errW_some] <;> rfl)|(simp [*,errW_none,errW_some] <;> rfl),by repeat (first|(with_reducible first|exact HB.out|apply zza|apply zzb|apply zzc|refine zzd ?_ GE256.out)|exact HB.out)⟩
  ·
   rw [if_neg c5] at H;have c5b0:(a0_2==255)=false:=beq_eq_false_iff_ne.mpr c5;have c5b1:(a0_2 != 255)=true:=bne_iff_ne.mpr c5
   (first|rw [c5b0]|(simp only [i64_w,i32_w];rw [c5b0])|skip);replace H:=Option.bind_eq_some_iff.mp H;obtain ⟨t257,A130,H⟩:=H;replace H:(if t257=true then ((impl_within.f a0_3 0 99).bind fun t258=>(if t258=true then ((impl_within.f a0_4 0 9999).bind fun t259=>(if t259=true then (impl_BatchValid.j0 k a0_0 a0_1 a0_2 a0_3 a0_4 l0_5) else (some false))) else (some false))) else (some false))=some r:=H;have A13:=zzm A130;clear A130;by_cases c14:t257=true
   ·
    subst c14;have H1:((impl_within.f a0_3 0 99).bind fun t258=>(if t258=true then ((impl_within.f a0_4 0 9999).bind fun t259=>(if t259=true then (impl_BatchValid.j0 k a0_0 a0_1 a0_2 a0_3 a0_4 l0_5) else (some false))) else (some false)))=some r:=by rw [if_pos rfl] at H;exact H
    clear H;have H:=H1;clear H1;replace H:=Option.bind_eq_some_iff.mp H;obtain ⟨t258,A150,H⟩:=H;replace H:(if t258=true then ((impl_within.f a0_4 0 9999).bind fun t259=>(if t259=true then (impl_BatchValid.j0 k a0_0 a0_1 a0_2 a0_3 a0_4 l0_5) else (some false))) else (some false))=some r:=H;have A15:=zzm A150;clear A150;by_cases c16:t258=true
    ·
     subst c16;have H1:((impl_within.f a0_4 0 9999).bind fun t259=>(if t259=true then (impl_BatchValid.j0 k a0_0 a0_1 a0_2 a0_3 a0_4 l0_5) else (some false)))=some r:=by rw [if_pos rfl] at H;exact H
     clear H;have H:=H1;clear H1;replace H:=Option.bind_eq_some_iff.mp H;obtain ⟨t259,A170,H⟩:=H;replace H:(if t259=true then (impl_BatchValid.j0 k a0_0 a0_1 a0_2 a0_3 a0_4 l0_5) else (some false))=some r:=H;have A17:=zzm A170;clear A170;by_cases c18:t259=true
     ·
      subst c18;have H1:(impl_BatchValid.j0 k a0_0 a0_1 a0_2 a0_3 a0_4 l0_5)=some r:=by rw [if_pos rfl] at H;exact H
      clear H;have H:=H1;clear H1;have H':=zzm H;clear H;obtain ⟨hcz19_0,hcz19_1,hcz19_2,hcz19_3,hcz19_4,hcz19_5,hfz19_0,hfz19_1,hfz19_2,hfz19_3,hfz19_4,hfz19_5⟩:=zzc6 BK256.out;go_wp2_with (first|((with_reducible refine gate_callee (f:=56) rfl ?_);refine goesL_ (some 22) rfl rfl Try.func56 (by kernel_rfl) rfl #[.int .i64 a0_2] rfl zzM2 ?_;(with_reducible refine (impl_idValid.calls a0_2 true _ A13.out).mono ?_);rintro e w' ⟨rfl,⟨nd,rfl⟩⟩;refine ⟨_,rfl,?_⟩)|(go_at_call 57;(with_reducible refine (impl_within.calls a0_3 0 99 true _ A15.out).mono ?_);rintro e w' ⟨rfl,⟨nd,rfl⟩⟩)|(go_at_call 57;(with_reducible refine (impl_within.calls a0_4 0 9999 true _ A17.out).mono ?_);rintro e w' ⟨rfl,⟨nd,rfl⟩⟩));go_meet
      case rel=>exact ⟨_,H',⟨by first|omega|exact Nat.le_refl _⟩,⟨by (with_reducible repeat (first|apply zzf|apply zzg|apply zze));exact BK256.out⟩,⟨by repeat (first|(with_reducible first|exact HB.out|apply zza|apply zzb|apply zzc|refine zzd ?_ GE256.out)|exact HB.out)⟩⟩
     ·
      replace c18:=Bool.eq_false_iff.mpr c18;subst c18;have H1:(some false)=some r:=by rw [if_neg (show ¬ (false=true) by decide)] at H;exact H
      clear H;have H:=H1;clear H1;obtain rfl:=Option.some.inj H;obtain ⟨hcz20_0,hcz20_1,hcz20_2,hcz20_3,hcz20_4,hcz20_5,hfz20_0,hfz20_1,hfz20_2,hfz20_3,hfz20_4,hfz20_5⟩:=zzc6 BK256.out;go_wp2_with (first|((with_reducible refine gate_callee (f:=56) rfl ?_);refine goesL_ (some 22) rfl rfl Try.func56 (by kernel_rfl) rfl #[.int .i64 a0_2] rfl zzM2 ?_;(with_reducible refine (impl_idValid.calls a0_2 true _ A13.out).mono ?_);rintro e w' ⟨rfl,⟨nd,rfl⟩⟩;refine ⟨_,rfl,?_⟩)|(go_at_call 57;(with_reducible refine (impl_within.calls a0_3 0 99 true _ A15.out).mono ?_);rintro e w' ⟨rfl,⟨nd,rfl⟩⟩)|(go_at_call 57;(with_reducible refine (impl_within.calls a0_4 0 9999 false _ A17.out).mono ?_);rintro e w' ⟨rfl,⟨nd,rfl⟩⟩));go_ret;exact ⟨by first|rfl|(simp [errW_none,errW_some] <;> rfl)|(simp [*,errW_none,errW_some] <;> rfl),by repeat (first|(with_reducible first|exact HB.out|apply zza|apply zzb|apply zzc|refine zzd ?_ GE256.out)|exact HB.out)⟩
    ·
     replace c16:=Bool.eq_false_iff.mpr c16;subst c16;have H1:(some false)=some r:=by rw [if_neg (show ¬ (false=true) by decide)] at H;exact H
     clear H;have H:=H1;clear H1;obtain rfl:=Option.some.inj H;obtain ⟨hcz21_0,hcz21_1,hcz21_2,hcz21_3,hcz21_4,hcz21_5,hfz21_0,hfz21_1,hfz21_2,hfz21_3,hfz21_4,hfz21_5⟩:=zzc6 BK256.out;go_wp2_with (first|((with_reducible refine gate_callee (f:=56) rfl ?_);refine goesL_ (some 22) rfl rfl Try.func56 (by kernel_rfl) rfl #[.int .i64 a0_2] rfl zzM2 ?_;(with_reducible refine (impl_idValid.calls a0_2 true _ A13.out).mono ?_);rintro e w' ⟨rfl,⟨nd,rfl⟩⟩;refine ⟨_,rfl,?_⟩)|(go_at_call 57;(with_reducible refine (impl_within.calls a0_3 0 99 false _ A15.out).mono ?_);rintro e w' ⟨rfl,⟨nd,rfl⟩⟩));go_ret;exact ⟨by first|rfl|(simp [errW_none,errW_some] <;> rfl)|(simp [*,errW_none,errW_some] <;> rfl),by repeat (first|(with_reducible first|exact HB.out|apply zza|apply zzb|apply zzc|refine zzd ?_ GE256.out)|exact HB.out)⟩
   ·
    replace c14:=Bool.eq_false_iff.mpr c14;subst c14;have H1:(some false)=some r:=by rw [if_neg (show ¬ (false=true) by decide)] at H;exact H
    clear H;have H:=H1;clear H1;obtain rfl:=Option.some.inj H;obtain ⟨hcz22_0,hcz22_1,hcz22_2,hcz22_3,hcz22_4,hcz22_5,hfz22_0,hfz22_1,hfz22_2,hfz22_3,hfz22_4,hfz22_5⟩:=zzc6 BK256.out;go_wp2_with (first|((with_reducible refine gate_callee (f:=56) rfl ?_);refine goesL_ (some 22) rfl rfl Try.func56 (by kernel_rfl) rfl #[.int .i64 a0_2] rfl zzM2 ?_;(with_reducible refine (impl_idValid.calls a0_2 false _ A13.out).mono ?_);rintro e w' ⟨rfl,⟨nd,rfl⟩⟩;refine ⟨_,rfl,?_⟩));go_ret;exact ⟨by first|rfl|(simp [errW_none,errW_some] <;> rfl)|(simp [*,errW_none,errW_some] <;> rfl),by repeat (first|(with_reducible first|exact HB.out|apply zza|apply zzb|apply zzc|refine zzd ?_ GE256.out)|exact HB.out)⟩
 case rest=>
  clear HC2;try clear c1
  try clear c2
  try clear p2
  try clear c5
  try clear c5b0
  try clear c5b1
  try clear c6
  try clear c6b0
  try clear c6b1
  try clear c7
  try clear c7b0
  try clear c7b1
  try clear c8
  try clear c14
  try clear c16
  try clear c18
  try clear c22
  try clear hcz10_0
  try clear hcz10_1
  try clear hcz10_2
  try clear hcz10_3
  try clear hcz10_4
  try clear hcz10_5
  try clear hcz11_0
  try clear hcz11_1
  try clear hcz11_2
  try clear hcz11_3
  try clear hcz11_4
  try clear hcz11_5
  try clear hcz12_0
  try clear hcz12_1
  try clear hcz12_2
  try clear hcz12_3
  try clear hcz12_4
  try clear hcz12_5
  try clear hcz19_0
  try clear hcz19_1
  try clear hcz19_2
  try clear hcz19_3
  try clear hcz19_4
  try clear hcz19_5
  try clear hcz20_0
  try clear hcz20_1
  try clear hcz20_2
  try clear hcz20_3
  try clear hcz20_4
  try clear hcz20_5
  try clear hcz21_0
  try clear hcz21_1
  try clear hcz21_2
  try clear hcz21_3
  try clear hcz21_4
  try clear hcz21_5
  try clear hcz22_0
  try clear hcz22_1
  try clear hcz22_2
  try clear hcz22_3
  try clear hcz22_4
  try clear hcz22_5
  try clear hcz4_0
  try clear hcz4_1
  try clear hcz4_2
  try clear hcz4_3
  try clear hcz4_4
  try clear hcz4_5
  try clear hcz9_0
  try clear hcz9_1
  try clear hcz9_2
  try clear hcz9_3
  try clear hcz9_4
  try clear hcz9_5
  try clear hfz10_0
  try clear hfz10_1
  try clear hfz10_2
  try clear hfz10_3
  try clear hfz10_4
  try clear hfz10_5
  try clear hfz11_0
  try clear hfz11_1
  try clear hfz11_2
  try clear hfz11_3
  try clear hfz11_4
  try clear hfz11_5
  try clear hfz12_0
  try clear hfz12_1
  try clear hfz12_2
  try clear hfz12_3
  try clear hfz12_4
  try clear hfz12_5
  try clear hfz19_0
  try clear hfz19_1
  try clear hfz19_2
  try clear hfz19_3
  try clear hfz19_4
  try clear hfz19_5
  try clear hfz20_0
  try clear hfz20_1
  try clear hfz20_2
  try clear hfz20_3
  try clear hfz20_4
  try clear hfz20_5
  try clear hfz21_0
  try clear hfz21_1
  try clear hfz21_2
  try clear hfz21_3
  try clear hfz21_4
  try clear hfz21_5
  try clear hfz22_0
  try clear hfz22_1
  try clear hfz22_2
  try clear hfz22_3
  try clear hfz22_4
  try clear hfz22_5
  try clear hfz4_0
  try clear hfz4_1
  try clear hfz4_2
  try clear hfz4_3
  try clear hfz4_4
  try clear hfz4_5
  try clear hfz9_0
  try clear hfz9_1
  try clear hfz9_2
  try clear hfz9_3
  try clear hfz9_4
  try clear hfz9_5
  obtain ⟨kq,HA,HJ1,BK256,HB⟩:=hcut;cases kq with
  | zero=>exact absurd HA.out (by simp [impl_BatchValid.j0])
  | succ kj1=>
   have H:=HA.out;clear HA;simp only [impl_BatchValid.j0] at H;have HC23:=zzm H;clear H;go_upto_region 6 with (fail);go_cut [50] (fun v50 wc=>∃ (kq:Nat) (x50_22:Bool),v50 = .bool x50_22∧Aside0 (impl_BatchValid.j1 kq x50_22 a0_0 a0_1 a0_2 a0_3 a0_4 l0_5=some r)∧Aside0 (kq≤kj1)∧Aside0 (wc.heap[gb256]? = some (.cells #[.bool a0_0,.bool a0_1,.int .i64 a0_2,.int .i64 a0_3,.int .i64 a0_4,(.slice A0_5 l0_5.length c0_5)] 27 (0,0)))∧Aside0 (Below w.heap.size w wc))
   case first=>
    have H:=HC23.out;clear HC23;replace H:=Option.bind_eq_some_iff.mp H;obtain ⟨t260,A240,H⟩:=H;replace H:(if t260=true then (if a0_1=true then (impl_BatchValid.j1 kj1 ((l0_5.length:Int) != 1) a0_0 a0_1 a0_2 a0_3 a0_4 l0_5) else (impl_BatchValid.j1 kj1 false a0_0 a0_1 a0_2 a0_3 a0_4 l0_5)) else (impl_BatchValid.j1 kj1 true a0_0 a0_1 a0_2 a0_3 a0_4 l0_5))=some r:=H;have A24:=zzm A240;clear A240;by_cases c25:t260=true
    ·
     subst c25;have H1:(if a0_1=true then (impl_BatchValid.j1 kj1 ((l0_5.length:Int) != 1) a0_0 a0_1 a0_2 a0_3 a0_4 l0_5) else (impl_BatchValid.j1 kj1 false a0_0 a0_1 a0_2 a0_3 a0_4 l0_5))=some r:=by rw [if_pos rfl] at H;exact H
     clear H;have H:=H1;clear H1;by_cases c26:a0_1=true
     ·
      subst c26;have H1:(impl_BatchValid.j1 kj1 ((l0_5.length:Int) != 1) a0_0 true a0_2 a0_3 a0_4 l0_5)=some r:=by rw [if_pos rfl] at H;exact H
      clear H;have H:=H1;clear H1;have H':=zzm H;clear H;obtain ⟨hcz27_0,hcz27_1,hcz27_2,hcz27_3,hcz27_4,hcz27_5,hfz27_0,hfz27_1,hfz27_2,hfz27_3,hfz27_4,hfz27_5⟩:=zzc6 BK256.out;go_wp2_with (first|((with_reducible refine gate_callee (f:=57) rfl ?_);refine goesL_ (some 39) rfl rfl Try.func57 (by kernel_rfl) rfl #[.int .i64 (l0_5.length:Int),.int .i64 1,.int .i64 6] rfl zzM2 ?_;(with_reducible refine (impl_within.calls (l0_5.length:Int) 1 6 true _ A24.out).mono ?_);rintro e w' ⟨rfl,⟨nd,rfl⟩⟩;refine ⟨_,rfl,?_⟩));go_meet
      case rel=>exact ⟨_,(((l0_5.length:Int) != 1)),(by first|rfl|(simp;done)|(simp [*];done)),H',⟨by have:=HJ1.out;first|omega|exact Nat.le_refl _⟩,⟨by (with_reducible repeat (first|apply zzf|apply zzg|apply zze));exact BK256.out⟩,⟨by repeat (first|(with_reducible first|exact HB.out|apply zza|apply zzb|apply zzc|refine zzd ?_ GE256.out)|exact HB.out)⟩⟩
     ·
      replace c26:=Bool.eq_false_iff.mpr c26;subst c26;have H1:(impl_BatchValid.j1 kj1 false a0_0 false a0_2 a0_3 a0_4 l0_5)=some r:=by rw [if_neg (show ¬ (false=true) by decide)] at H;exact H
      clear H;have H:=H1;clear H1;have H':=zzm H;clear H;obtain ⟨hcz28_0,hcz28_1,hcz28_2,hcz28_3,hcz28_4,hcz28_5,hfz28_0,hfz28_1,hfz28_2,hfz28_3,hfz28_4,hfz28_5⟩:=zzc6 BK256.out;go_wp2_with (first|((with_reducible refine gate_callee (f:=57) rfl ?_);refine goesL_ (some 39) rfl rfl Try.func57 (by kernel_rfl) rfl #[.int .i64 (l0_5.length:Int),.int .i64 1,.int .i64 6] rfl zzM2 ?_;(with_reducible refine (impl_within.calls (l0_5.length:Int) 1 6 true _ A24.out).mono ?_);rintro e w' ⟨rfl,⟨nd,rfl⟩⟩;refine ⟨_,rfl,?_⟩));go_meet
      case rel=>exact ⟨_,(false),(by first|rfl|(simp;done)|(simp [*];done)),H',⟨by have:=HJ1.out;first|omega|exact Nat.le_refl _⟩,⟨by (with_reducible repeat (first|apply zzf|apply zzg|apply zze));exact BK256.out⟩,⟨by repeat (first|(with_reducible first|exact HB.out|apply zza|apply zzb|apply zzc|refine zzd ?_ GE256.out)|exact HB.out)⟩⟩
    ·
     replace c25:=Bool.eq_false_iff.mpr c25;subst c25;have H1:(impl_BatchValid.j1 kj1 true a0_0 a0_1 a0_2 a0_3 a0_4 l0_5)=some r:=by rw [if_neg (show ¬ (false=true) by decide)] at H;exact H
     clear H;have H:=H1;clear H1;have H':=zzm H;clear H;obtain ⟨hcz29_0,hcz29_1,hcz29_2,hcz29_3,hcz29_4,hcz29_5,hfz29_0,hfz29_1,hfz29_2,hfz29_3,hfz29_4,hfz29_5⟩:=zzc6 BK256.out;go_wp2_with (first|((with_reducible refine gate_callee (f:=57) rfl ?_);refine goesL_ (some 39) rfl rfl Try.func57 (by kernel_rfl) rfl #[.int .i64 (l0_5.length:Int),.int .i64 1,.int .i64 6] rfl zzM2 ?_;(with_reducible refine (impl_within.calls (l0_5.length:Int) 1 6 false _ A24.out).mono ?_);rintro e w' ⟨rfl,⟨nd,rfl⟩⟩;refine ⟨_,rfl,?_⟩));go_meet
     case rel=>exact ⟨_,(true),(by first|rfl|(simp;done)|(simp [*];done)),H',⟨by have:=HJ1.out;first|omega|exact Nat.le_refl _⟩,⟨by (with_reducible repeat (first|apply zzf|apply zzg|apply zze));exact BK256.out⟩,⟨by repeat (first|(with_reducible first|exact HB.out|apply zza|apply zzb|apply zzc|refine zzd ?_ GE256.out)|exact HB.out)⟩⟩
   case rest=>
    clear HC23;try clear c1
    try clear c2
    try clear p2
    try clear c5
    try clear c5b0
    try clear c5b1
    try clear c6
    try clear c6b0
    try clear c6b1
    try clear c7
    try clear c7b0
    try clear c7b1
    try clear c8
    try clear c14
    try clear c16
    try clear c18
    try clear c22
    try clear c25
    try clear c26
    try clear hcz10_0
    try clear hcz10_1
    try clear hcz10_2
    try clear hcz10_3
    try clear hcz10_4
    try clear hcz10_5
    try clear hcz11_0
    try clear hcz11_1
    try clear hcz11_2
    try clear hcz11_3
    try clear hcz11_4
    try clear hcz11_5
    try clear hcz12_0
    try clear hcz12_1
    try clear hcz12_2
    try clear hcz12_3
    try clear hcz12_4
    try clear hcz12_5
    try clear hcz19_0
    try clear hcz19_1
    try clear hcz19_2
    try clear hcz19_3
    try clear hcz19_4
    try clear hcz19_5
    try clear hcz20_0
    try clear hcz20_1
    try clear hcz20_2
    try clear hcz20_3
    try clear hcz20_4
    try clear hcz20_5
    try clear hcz21_0
    try clear hcz21_1
    try clear hcz21_2
    try clear hcz21_3
    try clear hcz21_4
    try clear hcz21_5
    try clear hcz22_0
    try clear hcz22_1
    try clear hcz22_2
    try clear hcz22_3
    try clear hcz22_4
    try clear hcz22_5
    try clear hcz27_0
    try clear hcz27_1
    try clear hcz27_2
    try clear hcz27_3
    try clear hcz27_4
    try clear hcz27_5
    try clear hcz28_0
    try clear hcz28_1
    try clear hcz28_2
    try clear hcz28_3
    try clear hcz28_4
    try clear hcz28_5
    try clear hcz29_0
    try clear hcz29_1
    try clear hcz29_2
    try clear hcz29_3
    try clear hcz29_4
    try clear hcz29_5
    try clear hcz4_0
    try clear hcz4_1
    try clear hcz4_2
    try clear hcz4_3
    try clear hcz4_4
    try clear hcz4_5
    try clear hcz9_0
    try clear hcz9_1
    try clear hcz9_2
    try clear hcz9_3
    try clear hcz9_4
    try clear hcz9_5
    try clear hfz10_0
    try clear hfz10_1
    try clear hfz10_2
    try clear hfz10_3
    try clear hfz10_4
    try clear hfz10_5
    try clear hfz11_0
    try clear hfz11_1
    try clear hfz11_2
    try clear hfz11_3
    try clear hfz11_4
    try clear hfz11_5
    try clear hfz12_0
    try clear hfz12_1
    try clear hfz12_2
    try clear hfz12_3
    try clear hfz12_4
    try clear hfz12_5
    try clear hfz19_0
    try clear hfz19_1
    try clear hfz19_2
    try clear hfz19_3
    try clear hfz19_4
    try clear hfz19_5
    try clear hfz20_0
    try clear hfz20_1
    try clear hfz20_2
    try clear hfz20_3
    try clear hfz20_4
    try clear hfz20_5
    try clear hfz21_0
    try clear hfz21_1
    try clear hfz21_2
    try clear hfz21_3
    try clear hfz21_4
    try clear hfz21_5
    try clear hfz22_0
    try clear hfz22_1
    try clear hfz22_2
    try clear hfz22_3
    try clear hfz22_4
    try clear hfz22_5
    try clear hfz27_0
    try clear hfz27_1
    try clear hfz27_2
    try clear hfz27_3
    try clear hfz27_4
    try clear hfz27_5
    try clear hfz28_0
    try clear hfz28_1
    try clear hfz28_2
    try clear hfz28_3
    try clear hfz28_4
    try clear hfz28_5
    try clear hfz29_0
    try clear hfz29_1
    try clear hfz29_2
    try clear hfz29_3
    try clear hfz29_4
    try clear hfz29_5
    try clear hfz4_0
    try clear hfz4_1
    try clear hfz4_2
    try clear hfz4_3
    try clear hfz4_4
    try clear hfz4_5
    try clear hfz9_0
    try clear hfz9_1
    try clear hfz9_2
    try clear hfz9_3
    try clear hfz9_4
    try clear hfz9_5
    try clear p2
    obtain ⟨kq,x50_22,rfl,HA,HJ22,BK256,HB⟩:=hcut;cases kq with
    | zero=>exact absurd HA.out (by simp [impl_BatchValid.j1])
    | succ kj22=>
     have H:=HA.out;clear HA;simp only [impl_BatchValid.j1] at H;by_cases c30:x50_22=true
     ·
      subst c30;have H1:(some false)=some r:=by rw [if_pos rfl] at H;exact H
      clear H;have H:=H1;clear H1;obtain rfl:=Option.some.inj H;go_wp2;go_ret;exact ⟨by first|rfl|(simp [errW_none,errW_some] <;> rfl)|(simp [*,errW_none,errW_some] <;> rfl),by repeat (first|(with_reducible first|exact HB.out|apply zza|apply zzb|apply zzc|refine zzd ?_ GE256.out)|exact HB.out)⟩
     ·
      replace c30:=Bool.eq_false_iff.mpr c30;subst c30;have H1:(impl_BatchValid.l0 kj22 l0_5 (l0_5.length:Int) 0 a0_0 a0_1 a0_2 a0_3 a0_4 l0_5)=some r:=by rw [if_neg (show ¬ (false=true) by decide)] at H;exact H
      clear H;have H:=H1;clear H1;have H':=zzm H;clear H;obtain ⟨hcz31_0,hcz31_1,hcz31_2,hcz31_3,hcz31_4,hcz31_5,hfz31_0,hfz31_1,hfz31_2,hfz31_3,hfz31_4,hfz31_5⟩:=zzc6 BK256.out;go_wp2;go_loopg [54] kj22 (fun kq v54 w'=>∃ (x54_3:Int),v54 = .int .i64 x54_3∧Aside0 (impl_BatchValid.l0 kq l0_5 (l0_5.length:Int) x54_3 a0_0 a0_1 a0_2 a0_3 a0_4 l0_5=some r)∧Aside0 (kq≤kj22)∧Aside0 (w'.heap[gb256]? = some (.cells #[.bool a0_0,.bool a0_1,.int .i64 a0_2,.int .i64 a0_3,.int .i64 a0_4,(.slice A0_5 l0_5.length c0_5)] 27 (0,0)))∧Aside0 (Below w.heap.size w w'))
      case atStart=>exact ⟨(0),(by first|rfl|(simp;done)|(simp [*];done)),H',⟨Nat.le_refl _⟩,⟨by (with_reducible repeat (first|apply zzf|apply zzg|apply zze));exact BK256.out⟩,⟨by repeat (first|(with_reducible first|exact HB.out|apply zza|apply zzb|apply zzc|refine zzd ?_ GE256.out)|exact HB.out)⟩⟩
      case round=>
       clear H';try clear c1
       try clear c2
       try clear p2
       try clear c3
       try clear c5
       try clear c5b0
       try clear c5b1
       try clear c6
       try clear c6b0
       try clear c6b1
       try clear c7
       try clear c7b0
       try clear c7b1
       try clear c8
       try clear c14
       try clear c16
       try clear c18
       try clear c22
       try clear c25
       try clear c26
       try clear c30
       try clear hcz10_0
       try clear hcz10_1
       try clear hcz10_2
       try clear hcz10_3
       try clear hcz10_4
       try clear hcz10_5
       try clear hcz11_0
       try clear hcz11_1
       try clear hcz11_2
       try clear hcz11_3
       try clear hcz11_4
       try clear hcz11_5
       try clear hcz12_0
       try clear hcz12_1
       try clear hcz12_2
       try clear hcz12_3
       try clear hcz12_4
       try clear hcz12_5
       try clear hcz19_0
       try clear hcz19_1
       try clear hcz19_2
       try clear hcz19_3
       try clear hcz19_4
       try clear hcz19_5
       try clear hcz20_0
       try clear hcz20_1
       try clear hcz20_2
       try clear hcz20_3
       try clear hcz20_4
       try clear hcz20_5
       try clear hcz21_0
       try clear hcz21_1
       try clear hcz21_2
       try clear hcz21_3
       try clear hcz21_4
       try clear hcz21_5
       try clear hcz22_0
       try clear hcz22_1
       try clear hcz22_2
       try clear hcz22_3
       try clear hcz22_4
       try clear hcz22_5
       try clear hcz27_0
       try clear hcz27_1
       try clear hcz27_2
       try clear hcz27_3
       try clear hcz27_4
       try clear hcz27_5
       try clear hcz28_0
       try clear hcz28_1
       try clear hcz28_2
       try clear hcz28_3
       try clear hcz28_4
       try clear hcz28_5
       try clear hcz29_0
       try clear hcz29_1
       try clear hcz29_2
       try clear hcz29_3
       try clear hcz29_4
       try clear hcz29_5
       try clear hcz31_0
       try clear hcz31_1
       try clear hcz31_2
       try clear hcz31_3
       try clear hcz31_4
       try clear hcz31_5
       try clear hcz4_0
       try clear hcz4_1
       try clear hcz4_2
       try clear hcz4_3
       try clear hcz4_4
       try clear hcz4_5
       try clear hcz9_0
       try clear hcz9_1
       try clear hcz9_2
       try clear hcz9_3
       try clear hcz9_4
       try clear hcz9_5
       try clear hfz10_0
       try clear hfz10_1
       try clear hfz10_2
       try clear hfz10_3
       try clear hfz10_4
       try clear hfz10_5
       try clear hfz11_0
       try clear hfz11_1
       try clear hfz11_2
       try clear hfz11_3
       try clear hfz11_4
       try clear hfz11_5
       try clear hfz12_0
       try clear hfz12_1
       try clear hfz12_2
       try clear hfz12_3
       try clear hfz12_4
       try clear hfz12_5
       try clear hfz19_0
       try clear hfz19_1
       try clear hfz19_2
       try clear hfz19_3
       try clear hfz19_4
       try clear hfz19_5
       try clear hfz20_0
       try clear hfz20_1
       try clear hfz20_2
       try clear hfz20_3
       try clear hfz20_4
       try clear hfz20_5
       try clear hfz21_0
       try clear hfz21_1
       try clear hfz21_2
       try clear hfz21_3
       try clear hfz21_4
       try clear hfz21_5
       try clear hfz22_0
       try clear hfz22_1
       try clear hfz22_2
       try clear hfz22_3
       try clear hfz22_4
       try clear hfz22_5
       try clear hfz27_0
       try clear hfz27_1
       try clear hfz27_2
       try clear hfz27_3
       try clear hfz27_4
       try clear hfz27_5
       try clear hfz28_0
       try clear hfz28_1
       try clear hfz28_2
       try clear hfz28_3
       try clear hfz28_4
       try clear hfz28_5
       try clear hfz29_0
       try clear hfz29_1
       try clear hfz29_2
       try clear hfz29_3
       try clear hfz29_4
       try clear hfz29_5
       try clear hfz31_0
       try clear hfz31_1
       try clear hfz31_2
       try clear hfz31_3
       try clear hfz31_4
       try clear hfz31_5
       try clear hfz4_0
       try clear hfz4_1
       try clear hfz4_2
       try clear hfz4_3
       try clear hfz4_4
       try clear hfz4_5
       try clear hfz9_0
       try clear hfz9_1
       try clear hfz9_2
       try clear hfz9_3
       try clear hfz9_4
       try clear hfz9_5
       try clear p2
       obtain ⟨x54_3,rfl,HA,HK3,BK256,HB⟩:=hrel;cases gk with
       | zero=>exact absurd HA.out (by simp [impl_BatchValid.l0])
       | succ k3=>
        have H:=HA.out;clear HA;simp only [impl_BatchValid.l0] at H;by_cases c32:x54_3 < (l0_5.length:Int)
        ·
         rw [if_pos c32] at H;have c32b0:decide (x54_3 < (l0_5.length:Int))=true:=decide_eq_true c32;clear c32;by_cases c33 : 0≤x54_3
         ·
          rw [if_pos c33] at H;have c33b0:decide (0≤x54_3)=true:=decide_eq_true c33;clear c33;by_cases c34:x54_3 < (l0_5.length:Int)
          ·
           rw [if_pos c34] at H;have c34b0:decide (x54_3 < (l0_5.length:Int))=true:=decide_eq_true c34;clear c34;replace H:=Option.bind_eq_some_iff.mp H;obtain ⟨t263,A350,H⟩:=H;replace H:(if t263=true then (if x54_3 > 0 then (if 0≤(wrap64 (x54_3 - 1)) then (if (wrap64 (x54_3 - 1)) < (l0_5.length:Int) then (if ((rd_T34 l0_5 (wrap64 (x54_3 - 1))).f0) ≥ ((rd_T34 l0_5 x54_3).f0) then (some false) else (impl_BatchValid.l0 k3 l0_5 (l0_5.length:Int) (wrap64 (x54_3+1)) a0_0 a0_1 a0_2 a0_3 a0_4 l0_5)) else (none)) else (none)) else (impl_BatchValid.l0 k3 l0_5 (l0_5.length:Int) (wrap64 (x54_3+1)) a0_0 a0_1 a0_2 a0_3 a0_4 l0_5)) else (some false))=some r:=H;have A35:=zzm A350;clear A350;by_cases c36:t263=true
           ·
            subst c36;have H1:(if x54_3 > 0 then (if 0≤(wrap64 (x54_3 - 1)) then (if (wrap64 (x54_3 - 1)) < (l0_5.length:Int) then (if ((rd_T34 l0_5 (wrap64 (x54_3 - 1))).f0) ≥ ((rd_T34 l0_5 x54_3).f0) then (some false) else (impl_BatchValid.l0 k3 l0_5 (l0_5.length:Int) (wrap64 (x54_3+1)) a0_0 a0_1 a0_2 a0_3 a0_4 l0_5)) else (none)) else (none)) else (impl_BatchValid.l0 k3 l0_5 (l0_5.length:Int) (wrap64 (x54_3+1)) a0_0 a0_1 a0_2 a0_3 a0_4 l0_5))=some r:=by rw [if_pos rfl] at H;exact H
            clear H;have H:=H1;clear H1;by_cases c37:x54_3 > 0
            ·
             rw [if_pos c37] at H;have c37b0:decide (0 < x54_3)=true:=decide_eq_true c37;clear c37;obtain ⟨ji38,hji38⟩:∃ j_:Int,(wrap64 (x54_3 - 1))=j_:=⟨_,rfl⟩;replace H:(if 0≤(ji38) then (if (ji38) < (l0_5.length:Int) then (if ((rd_T34 l0_5 (ji38)).f0) ≥ ((rd_T34 l0_5 x54_3).f0) then (some false) else (impl_BatchValid.l0 k3 l0_5 (l0_5.length:Int) (wrap64 (x54_3+1)) a0_0 a0_1 a0_2 a0_3 a0_4 l0_5)) else (none)) else (none))=some r:=by first|(rw [hji38] at H;exact H)|(simp only [hji38] at H ⊢;exact H)
             (try rw [hji38] at A35);have hji38w:(IntKind.i64.wrap (x54_3 - 1))=ji38:=(i64_w _).trans hji38;by_cases c39 : 0≤(ji38)
             ·
              rw [if_pos c39] at H;have c39b0:decide (0≤(ji38))=true:=decide_eq_true c39;clear c39;by_cases c40:(ji38) < (l0_5.length:Int)
              ·
               rw [if_pos c40] at H;have c40b0:decide ((ji38) < (l0_5.length:Int))=true:=decide_eq_true c40;clear c40;by_cases c41:((rd_T34 l0_5 (ji38)).f0) ≥ ((rd_T34 l0_5 x54_3).f0)
               ·
                rw [if_pos c41] at H;have c41b0:decide (((rd_T34 l0_5 x54_3).f0)≤((rd_T34 l0_5 (ji38)).f0))=true:=decide_eq_true c41;clear c41;obtain rfl:=Option.some.inj H;have p261 : 0≤(x54_3:Int):=zzt;have q261:x54_3 < (l0_5.length:Int):=zzt;obtain ⟨ad261,A261_3,c261_3,A261_5,c261_5,e261,hx261_0,hx261_1,hx261_2,hx261_3,hx261_4,hx261_5,hl261_3,hi261_3,hl261_5,hi261_5⟩:=at_T34 HR0_5.out x54_3 p261 q261;cases e261;replace hx261_0:=zzx HB.out hx261_0;replace hx261_1:=zzx HB.out hx261_1;replace hx261_2:=zzx HB.out hx261_2;replace hx261_3:=zzx HB.out hx261_3;replace hx261_4:=zzx HB.out hx261_4;replace hx261_5:=zzx HB.out hx261_5;have HR261_3:=zzm hi261_3;have HC261_3:=zzm hl261_3;clear hi261_3 hl261_3;have HR261_5:=zzm hi261_5;have HC261_5:=zzm hl261_5;clear hi261_5 hl261_5;replace p261:=eq_true p261;replace q261:=eq_true q261;try go_wp2_with (first|((with_reducible refine gate_dst (N:=4) rfl ?_);(try (refine gate_guard (by rfl) ?_;dsimp only));refine box_event ?hg (N:=4) ?hd (cs:=#[.int .i64 0,.int .i64 0,.bool false,.slice none 0 0,.bool false,.slice none 0 0]) (t:=34) ?hr ?_;(case hd=>rfl);(case hg=>rfl);(case hr=>first|(go_simp;done)|(go_simp;rfl));intro gb262 hg w42 hbox hb;have n0_:=zzm (zzh (g:=gb256) (o:=.cells #[.bool a0_0,.bool a0_1,.int .i64 a0_2,.int .i64 a0_3,.int .i64 a0_4,.slice (some ad261) l0_5.length c0_5] 27 (0,0)) (zzE BK256.out) hb);have n1_:=zzm (zzp zzh2 hb);have n2_:=zzm (hbox);have n3_:=zzm ((by rw [hg];exact (zzo zzh2):w.heap.size≤gb262));have n4_:=zzm ((by rw [hg];exact (zzo zzh2):w.heap.size≤gb262));have n5_:=zzm ((by rw [hg];exact Nat.ne_of_lt (blk_lt (g:=gb256) (o:=.cells #[.bool a0_0,.bool a0_1,.int .i64 a0_2,.int .i64 a0_3,.int .i64 a0_4,.slice (some ad261) l0_5.length c0_5] 27 (0,0)) (zzE BK256.out)):gb256≠gb262));have n6_:=zzm ((by rw [hg];exact Nat.ne_of_gt (blk_lt (g:=gb256) (o:=.cells #[.bool a0_0,.bool a0_1,.int .i64 a0_2,.int .i64 a0_3,.int .i64 a0_4,.slice (some ad261) l0_5.length c0_5] 27 (0,0)) (zzE BK256.out)):gb262≠gb256));clear BK256 HB;have BK256:=n0_;have HB:=n1_;have BK262:=n2_;have GW262:=n3_;have GE262:=n4_;have NB256_262:=n5_;have NB262_256:=n6_;clear n0_ n1_ n2_ n3_ n4_ n5_ n6_ hb hbox hg;have hnb43:=NB262_256.out;have hnc43:=NB256_262.out;obtain ⟨hcz44_0,hcz44_1,hcz44_2,hcz44_3,hcz44_4,hcz44_5,hfz44_0,hfz44_1,hfz44_2,hfz44_3,hfz44_4,hfz44_5⟩:=zzc6 BK262.out))
                have n0_:Aside0 (((((((w42.setCell ⟨gb262,0,none⟩ (.int .i64 ((rd_T34 l0_5 x54_3).f0))).setCell ⟨gb262,1,none⟩ (.int .i64 ((rd_T34 l0_5 x54_3).f1))).setCell ⟨gb262,2,none⟩ (.bool ((rd_T34 l0_5 x54_3).f2))).setCell ⟨gb262,3,none⟩ (.slice A261_3 ((rd_T34 l0_5 x54_3).f3).length c261_3)).setCell ⟨gb262,4,none⟩ (.bool ((rd_T34 l0_5 x54_3).f4))).setCell ⟨gb262,5,none⟩ (.slice A261_5 ((rd_T34 l0_5 x54_3).f5).length c261_5)).heap[gb256]? = some (.cells #[.bool a0_0,.bool a0_1,.int .i64 a0_2,.int .i64 a0_3,.int .i64 a0_4,.slice (some ad261) l0_5.length c0_5] 27 (0,0))):=⟨by (with_reducible repeat (first|apply zzf|apply zzg|apply zze));refine zzj ?_ NB256_262.out _;(with_reducible repeat (first|apply zzf|apply zzg|apply zze));refine zzj ?_ NB256_262.out _;(with_reducible repeat (first|apply zzf|apply zzg|apply zze));refine zzj ?_ NB256_262.out _;(with_reducible repeat (first|apply zzf|apply zzg|apply zze));refine zzj ?_ NB256_262.out _;(with_reducible repeat (first|apply zzf|apply zzg|apply zze));refine zzj ?_ NB256_262.out _;(with_reducible repeat (first|apply zzf|apply zzg|apply zze));refine zzj ?_ NB256_262.out _;(with_reducible repeat (first|apply zzf|apply zzg|apply zze));exact BK256.out⟩;have n1_:Aside0 (((((((w42.setCell ⟨gb262,0,none⟩ (.int .i64 ((rd_T34 l0_5 x54_3).f0))).setCell ⟨gb262,1,none⟩ (.int .i64 ((rd_T34 l0_5 x54_3).f1))).setCell ⟨gb262,2,none⟩ (.bool ((rd_T34 l0_5 x54_3).f2))).setCell ⟨gb262,3,none⟩ (.slice A261_3 ((rd_T34 l0_5 x54_3).f3).length c261_3)).setCell ⟨gb262,4,none⟩ (.bool ((rd_T34 l0_5 x54_3).f4))).setCell ⟨gb262,5,none⟩ (.slice A261_5 ((rd_T34 l0_5 x54_3).f5).length c261_5)).heap[gb262]? = some (.cells #[.int .i64 ((rd_T34 l0_5 x54_3).f0),.int .i64 ((rd_T34 l0_5 x54_3).f1),.bool ((rd_T34 l0_5 x54_3).f2),.slice A261_3 ((rd_T34 l0_5 x54_3).f3).length c261_3,.bool ((rd_T34 l0_5 x54_3).f4),.slice A261_5 ((rd_T34 l0_5 x54_3).f5).length c261_5] 34 (0,0))):=⟨by (with_reducible repeat (first|apply zzf|apply zzg|apply zze));refine zzi (cs:=#[.int .i64 ((rd_T34 l0_5 x54_3).f0),.int .i64 ((rd_T34 l0_5 x54_3).f1),.bool ((rd_T34 l0_5 x54_3).f2),.slice A261_3 ((rd_T34 l0_5 x54_3).f3).length c261_3,.bool ((rd_T34 l0_5 x54_3).f4),.slice none 0 0]) ?_ 5 _ rfl;(with_reducible repeat (first|apply zzf|apply zzg|apply zze));refine zzi (cs:=#[.int .i64 ((rd_T34 l0_5 x54_3).f0),.int .i64 ((rd_T34 l0_5 x54_3).f1),.bool ((rd_T34 l0_5 x54_3).f2),.slice A261_3 ((rd_T34 l0_5 x54_3).f3).length c261_3,.bool false,.slice none 0 0]) ?_ 4 _ rfl;(with_reducible repeat (first|apply zzf|apply zzg|apply zze));refine zzi (cs:=#[.int .i64 ((rd_T34 l0_5 x54_3).f0),.int .i64 ((rd_T34 l0_5 x54_3).f1),.bool ((rd_T34 l0_5 x54_3).f2),.slice none 0 0,.bool false,.slice none 0 0]) ?_ 3 _ rfl;(with_reducible repeat (first|apply zzf|apply zzg|apply zze));refine zzi (cs:=#[.int .i64 ((rd_T34 l0_5 x54_3).f0),.int .i64 ((rd_T34 l0_5 x54_3).f1),.bool false,.slice none 0 0,.bool false,.slice none 0 0]) ?_ 2 _ rfl;(with_reducible repeat (first|apply zzf|apply zzg|apply zze));refine zzi (cs:=#[.int .i64 ((rd_T34 l0_5 x54_3).f0),.int .i64 0,.bool false,.slice none 0 0,.bool false,.slice none 0 0]) ?_ 1 _ rfl;(with_reducible repeat (first|apply zzf|apply zzg|apply zze));refine zzi (cs:=#[.int .i64 0,.int .i64 0,.bool false,.slice none 0 0,.bool false,.slice none 0 0]) ?_ 0 _ rfl;(with_reducible repeat (first|apply zzf|apply zzg|apply zze));exact BK262.out⟩;have n2_:Aside0 (Below w.heap.size w ((((((w42.setCell ⟨gb262,0,none⟩ (.int .i64 ((rd_T34 l0_5 x54_3).f0))).setCell ⟨gb262,1,none⟩ (.int .i64 ((rd_T34 l0_5 x54_3).f1))).setCell ⟨gb262,2,none⟩ (.bool ((rd_T34 l0_5 x54_3).f2))).setCell ⟨gb262,3,none⟩ (.slice A261_3 ((rd_T34 l0_5 x54_3).f3).length c261_3)).setCell ⟨gb262,4,none⟩ (.bool ((rd_T34 l0_5 x54_3).f4))).setCell ⟨gb262,5,none⟩ (.slice A261_5 ((rd_T34 l0_5 x54_3).f5).length c261_5))):=⟨by repeat (first|(with_reducible first|exact HB.out|apply zza|apply zzb|apply zzc|refine zzd ?_ GE256.out|refine zzd ?_ GE262.out)|exact HB.out)⟩
                (try clear BK256)
                (try clear BK262)
                (try clear HB);generalize ((((((w42.setCell ⟨gb262,0,none⟩ (.int .i64 ((rd_T34 l0_5 x54_3).f0))).setCell ⟨gb262,1,none⟩ (.int .i64 ((rd_T34 l0_5 x54_3).f1))).setCell ⟨gb262,2,none⟩ (.bool ((rd_T34 l0_5 x54_3).f2))).setCell ⟨gb262,3,none⟩ (.slice A261_3 ((rd_T34 l0_5 x54_3).f3).length c261_3)).setCell ⟨gb262,4,none⟩ (.bool ((rd_T34 l0_5 x54_3).f4))).setCell ⟨gb262,5,none⟩ (.slice A261_5 ((rd_T34 l0_5 x54_3).f5).length c261_5))=w45 at n0_ n1_ n2_ ⊢;have BK256:=n0_;have BK262:=n1_;have HB:=n2_;clear n0_ n1_ n2_;have n0_:=zzm (zzg BK256.out);have n1_:=zzm (zzg BK262.out);have n2_:=zzm (zzc HB.out);clear BK256 BK262 HB;have BK256:=n0_;have BK262:=n1_;have HB:=n2_;clear n0_ n1_ n2_;have p264 : 0≤((ji38):Int):=zzt;have q264:(ji38) < (l0_5.length:Int):=zzt;obtain ⟨ad264,A264_3,c264_3,A264_5,c264_5,e264,hx264_0,hx264_1,hx264_2,hx264_3,hx264_4,hx264_5,hl264_3,hi264_3,hl264_5,hi264_5⟩:=at_T34 HR0_5.out (ji38) p264 q264;have hw264_5:=hx264_5;have hw264_4:=hx264_4;have hw264_3:=hx264_3;have hw264_2:=hx264_2;have hw264_1:=hx264_1;have hw264_0:=hx264_0;obtain rfl:ad261=ad264:=(by injection e264);replace hx264_0:=zzx HB.out hx264_0;replace hx264_1:=zzx HB.out hx264_1;replace hx264_2:=zzx HB.out hx264_2;replace hx264_3:=zzx HB.out hx264_3;replace hx264_4:=zzx HB.out hx264_4;replace hx264_5:=zzx HB.out hx264_5;have HR264_3:=zzm hi264_3;have HC264_3:=zzm hl264_3;clear hi264_3 hl264_3;have HR264_5:=zzm hi264_5;have HC264_5:=zzm hl264_5;clear hi264_5 hl264_5;replace p264:=eq_true p264;replace q264:=eq_true q264;refine start_ (n:=19) (S:=fun w'=>w'.cell? ⟨gb262,0,none⟩=some (.int .i64 ((rd_T34 l0_5 x54_3).f0))∧w'.cell? ⟨gb262,1,none⟩=some (.int .i64 ((rd_T34 l0_5 x54_3).f1))∧w'.cell? ⟨gb262,2,none⟩=some (.bool ((rd_T34 l0_5 x54_3).f2))∧w'.cell? ⟨gb262,3,none⟩=some (.slice A261_3 ((rd_T34 l0_5 x54_3).f3).length c261_3)∧w'.cell? ⟨gb262,4,none⟩=some (.bool ((rd_T34 l0_5 x54_3).f4))∧w'.cell? ⟨gb262,5,none⟩=some (.slice A261_5 ((rd_T34 l0_5 x54_3).f5).length c261_5)∧w'.cell? ⟨gb256,0,none⟩=some (.bool a0_0)∧w'.cell? ⟨gb256,1,none⟩=some (.bool a0_1)∧w'.cell? ⟨gb256,2,none⟩=some (.int .i64 a0_2)∧w'.cell? ⟨gb256,3,none⟩=some (.int .i64 a0_3)∧w'.cell? ⟨gb256,4,none⟩=some (.int .i64 a0_4)∧w'.cell? ⟨gb256,5,none⟩=some (.slice (some ad261) l0_5.length c0_5)∧w'.cell? (ad261.add (((ji38)).toNat * 6))=some (.int .i64 ((rd_T34 l0_5 (ji38)).f0))∧w'.cell? ⟨(ad261.add (((ji38)).toNat * 6)).block,(ad261.add (((ji38)).toNat * 6)).off+1,none⟩=some (.int .i64 ((rd_T34 l0_5 (ji38)).f1))∧w'.cell? ⟨(ad261.add (((ji38)).toNat * 6)).block,(ad261.add (((ji38)).toNat * 6)).off+2,none⟩=some (.bool ((rd_T34 l0_5 (ji38)).f2))∧w'.cell? ⟨(ad261.add (((ji38)).toNat * 6)).block,(ad261.add (((ji38)).toNat * 6)).off+3,none⟩=some (.slice A264_3 ((rd_T34 l0_5 (ji38)).f3).length c264_3)∧w'.cell? ⟨(ad261.add (((ji38)).toNat * 6)).block,(ad261.add (((ji38)).toNat * 6)).off+4,none⟩=some (.bool ((rd_T34 l0_5 (ji38)).f4))∧w'.cell? ⟨(ad261.add (((ji38)).toNat * 6)).block,(ad261.add (((ji38)).toNat * 6)).off+5,none⟩=some (.slice A264_5 ((rd_T34 l0_5 (ji38)).f5).length c264_5)) (ds:=[]) (zzB 19 0) (by kernel_rfl) rfl rfl ⟨(zzk BK262.out 0).trans rfl,(zzk BK262.out 1).trans rfl,(zzk BK262.out 2).trans rfl,(zzk BK262.out 3).trans rfl,(zzk BK262.out 4).trans rfl,(zzk BK262.out 5).trans rfl,(zzk BK256.out 0).trans rfl,(zzk BK256.out 1).trans rfl,(zzk BK256.out 2).trans rfl,(zzk BK256.out 3).trans rfl,(zzk BK256.out 4).trans rfl,(zzk BK256.out 5).trans rfl,(zzx HB.out hw264_0),(zzx HB.out hw264_1),(zzx HB.out hw264_2),(zzx HB.out hw264_3),(zzx HB.out hw264_4),(zzx HB.out hw264_5)⟩ (fun hHeld=>?_);refine with_tabW impl_BatchValid.tab11 impl_BatchValid.bits11 (fun HT_ HW_=>?_);generalize w45.drew=w46 at BK256 BK262 HB HR264_3 HR264_5 hx264_0 hx264_1 hx264_2 hx264_3 hx264_4 hx264_5 hHeld ⊢;refine take_ (i:=0) (N:=some 59) (v:=?_) (a':=?_) (zzB 19 1) rfl rfl (take_ofW HT_.out HW_.out (by kernel_rfl)) (fun _ _ _ h=>h) (Or.inl ⟨by rfl,?_⟩) hHeld ?_ ?_;rotate_left
                ·
                 rintro w' ⟨s0,s1,s2,s3,s4,s5,s6,s7,s8,s9,s10,s11,s12,s13,s14,s15,s16,s17⟩;go_simp;with_reducible rfl
                rotate_left
                ·
                 simp only [Act.put,zzq,zzr,zzs,i64_w,i32_w];rfl
                refine one_ (i:=1) (N:=some 60) (zzB 19 3) rfl rfl (one_of HT_.out (by kernel_rfl)) (by decide) (fun K hK=>?_);refine goes_ Try.func58 (by kernel_rfl) rfl #[.agg #[.int .i64 ((rd_T34 l0_5 x54_3).f0),.int .i64 ((rd_T34 l0_5 x54_3).f1),.bool ((rd_T34 l0_5 x54_3).f2),.slice A261_3 ((rd_T34 l0_5 x54_3).f3).length c261_3,.bool ((rd_T34 l0_5 x54_3).f4),.slice A261_5 ((rd_T34 l0_5 x54_3).f5).length c261_5]] (by rfl) rfl rfl zzM2 ?_;with_reducible refine (impl_RecordValid.calls k3 ((rd_T34 l0_5 x54_3).f0) ((rd_T34 l0_5 x54_3).f1) ((rd_T34 l0_5 x54_3).f2) _ _ ((rd_T34 l0_5 x54_3).f3) ((rd_T34 l0_5 x54_3).f4) _ _ ((rd_T34 l0_5 x54_3).f5) true _ ?side1 ?side2 ?side3 ?side4 A35.out).mono ?_
                (case side1=>repeat (first|exact (Kd.C_below HR261_3.out HB.out)|(with_reducible refine Kd.C_alloc ?_ _)|(with_reducible refine Kd.C_drewN ?_ _)|(with_reducible refine Kd.C_drew ?_)))
                (case side2=>exact HC261_3.out)
                (case side3=>repeat (first|exact (Kd.C_below HR261_5.out HB.out)|(with_reducible refine Kd.C_alloc ?_ _)|(with_reducible refine Kd.C_drewN ?_ _)|(with_reducible refine Kd.C_drew ?_)))
                (case side4=>exact HC261_5.out);rintro e w47 ⟨rfl,hb⟩;refine ⟨_,rfl,?_⟩;have n0_:=zzm (zzh (g:=gb256) (o:=.cells #[.bool a0_0,.bool a0_1,.int .i64 a0_2,.int .i64 a0_3,.int .i64 a0_4,.slice (some ad261) l0_5.length c0_5] 27 (0,0)) (zzE BK256.out) hb);have n1_:=zzm (zzh (g:=gb262) (o:=.cells #[.int .i64 ((rd_T34 l0_5 x54_3).f0),.int .i64 ((rd_T34 l0_5 x54_3).f1),.bool ((rd_T34 l0_5 x54_3).f2),.slice A261_3 ((rd_T34 l0_5 x54_3).f3).length c261_3,.bool ((rd_T34 l0_5 x54_3).f4),.slice A261_5 ((rd_T34 l0_5 x54_3).f5).length c261_5] 34 (0,0)) (zzE BK262.out) hb);have n2_:=zzm (zzp zzh2 hb);clear BK256 BK262 HB;have BK256:=n0_;have BK262:=n1_;have HB:=n2_;clear n0_ n1_ n2_
                (try clear hb)
                (try clear hb2)
                (try clear hk)
                (try clear hi);refine hK.out _ _ ⟨(zzk BK262.out 0).trans rfl,(zzk BK262.out 1).trans rfl,(zzk BK262.out 2).trans rfl,(zzk BK262.out 3).trans rfl,(zzk BK262.out 4).trans rfl,(zzk BK262.out 5).trans rfl,(zzk BK256.out 0).trans rfl,(zzk BK256.out 1).trans rfl,(zzk BK256.out 2).trans rfl,(zzk BK256.out 3).trans rfl,(zzk BK256.out 4).trans rfl,(zzk BK256.out 5).trans rfl,(zzx HB.out hw264_0),(zzx HB.out hw264_1),(zzx HB.out hw264_2),(zzx HB.out hw264_3),(zzx HB.out hw264_4),(zzx HB.out hw264_5)⟩ (fun hHeld=>?_);clear hK K;refine norm_ (a':=?_) ?_ ?_;rotate_left
                ·
                 show Act.put _ (some 60) _ = _;simp only [Act.put,zzq,zzr,zzs,i64_w,i32_w];rfl
                refine pure_ (i:=2) (N:=some 61) (v:=?_) (a':=?_) (zzB 19 7) rfl rfl (zzA2 HT_.out) (fun _ _ _ h=>h) (Or.inl ⟨by rfl,?_⟩) ?_ ?_;rotate_left
                ·
                 intro w';go_simp;with_reducible rfl
                rotate_left
                ·
                 simp only [Act.put,zzq,zzr,zzs,i64_w,i32_w];rfl
                refine pure_ (i:=3) (N:=some 62) (v:=?_) (a':=?_) (zzB 19 15) rfl rfl (zzA2 HT_.out) (fun _ _ _ h=>h) (Or.inl ⟨by rfl,?_⟩) ?_ ?_;rotate_left
                ·
                 intro w';go_simp;with_reducible rfl
                rotate_left
                ·
                 simp only [Act.put,zzq,zzr,zzs,i64_w,i32_w];rfl
                refine pure_ (i:=4) (N:=some 63) (v:=?_) (a':=?_) (zzB 19 31) rfl rfl (zzA2 HT_.out) (fun _ _ _ h=>h) (Or.inl ⟨by rfl,?_⟩) ?_ ?_;rotate_left
                ·
                 intro w';go_simp;with_reducible rfl
                rotate_left
                ·
                 simp only [Act.put,zzq,zzr,zzs,i64_w,i32_w];rfl
                refine pure_ (i:=5) (N:=some 64) (v:=?_) (a':=?_) (zzB 19 63) rfl rfl (zzA2 HT_.out) (fun _ _ _ h=>h) (Or.inl ⟨by rfl,?_⟩) ?_ ?_;rotate_left
                ·
                 intro w';go_simp;with_reducible rfl
                rotate_left
                ·
                 simp only [Act.put,zzq,zzr,zzs,i64_w,i32_w];rfl
                refine pure_ (i:=6) (N:=some 65) (v:=?_) (a':=?_) (zzB 19 127) rfl rfl (zzA2 HT_.out) (fun _ _ _ h=>h) (Or.inl ⟨by rfl,?_⟩) ?_ ?_;rotate_left
                ·
                 intro w';go_simp;with_reducible rfl
                rotate_left
                ·
                 simp only [Act.put,zzq,zzr,zzs,i64_w,i32_w];rfl
                refine pure_ (i:=7) (N:=some 66) (v:=?_) (a':=?_) (zzB 19 255) rfl rfl (zzA2 HT_.out) (fun _ _ _ h=>h) (Or.inl ⟨by rfl,?_⟩) ?_ ?_;rotate_left
                ·
                 intro w';go_simp;with_reducible rfl
                rotate_left
                ·
                 simp only [Act.put,zzq,zzr,zzs,i64_w,i32_w];rfl
                refine pure_ (i:=9) (N:=some 68) (v:=?_) (a':=?_) (zzB 19 767) rfl rfl (zzA2 HT_.out) (fun _ _ _ h=>h) (Or.inl ⟨by rfl,?_⟩) ?_ ?_;rotate_left
                ·
                 intro w';go_simp;with_reducible rfl
                rotate_left
                ·
                 simp only [Act.put,zzq,zzr,zzs,i64_w,i32_w];rfl
                refine pure_ (i:=10) (N:=some 69) (v:=?_) (a':=?_) (zzB 19 1791) rfl rfl (zzA2 HT_.out) (fun _ _ _ h=>h) (Or.inl ⟨by rfl,?_⟩) ?_ ?_;rotate_left
                ·
                 intro w';go_simp;with_reducible rfl
                rotate_left
                ·
                 simp only [Act.put,zzq,zzr,zzs,i64_w,i32_w];rfl
                refine pure_ (i:=14) (N:=some 73) (v:=?_) (a':=?_) (zzB 19 18175) rfl rfl (zzA2 HT_.out) (fun _ _ _ h=>h) (Or.inl ⟨by rfl,?_⟩) ?_ ?_;rotate_left
                ·
                 intro w';go_simp;with_reducible rfl
                rotate_left
                ·
                 simp only [Act.put,zzq,zzr,zzs,i64_w,i32_w];rfl
                refine take_ (i:=8) (N:=some 67) (v:=?_) (a':=?_) (zzB 19 18431) rfl rfl (take_ofW HT_.out HW_.out (by kernel_rfl)) (fun _ _ _ h=>h) (Or.inl ⟨by rfl,?_⟩) hHeld ?_ ?_;rotate_left
                ·
                 rintro w' ⟨s0,s1,s2,s3,s4,s5,s6,s7,s8,s9,s10,s11,s12,s13,s14,s15,s16,s17⟩;go_simp;with_reducible rfl
                rotate_left
                ·
                 simp only [Act.put,zzq,zzr,zzs,i64_w,i32_w];rfl
                refine pure_ (i:=11) (N:=some 70) (v:=?_) (a':=?_) (zzB 19 20479) rfl rfl (zzA2 HT_.out) (fun _ _ _ h=>h) (Or.inl ⟨by rfl,?_⟩) ?_ ?_;rotate_left
                ·
                 intro w';go_simp;with_reducible rfl
                rotate_left
                ·
                 simp only [Act.put,zzq,zzr,zzs,i64_w,i32_w];rfl
                refine pure_ (i:=12) (N:=some 71) (v:=?_) (a':=?_) (zzB 19 24575) rfl rfl (zzA2 HT_.out) (fun _ _ _ h=>h) (Or.inl ⟨by rfl,?_⟩) ?_ ?_;rotate_left
                ·
                 intro w';go_simp;with_reducible rfl
                rotate_left
                ·
                 simp only [Act.put,zzq,zzr,zzs,i64_w,i32_w];rfl
                refine take_ (i:=13) (N:=some 72) (v:=?_) (a':=?_) (zzB 19 32767) rfl rfl (take_ofW HT_.out HW_.out (by kernel_rfl)) (fun _ _ _ h=>h) (Or.inl ⟨by rfl,?_⟩) hHeld ?_ ?_;rotate_left
                ·
                 rintro w' ⟨s0,s1,s2,s3,s4,s5,s6,s7,s8,s9,s10,s11,s12,s13,s14,s15,s16,s17⟩;go_simp;with_reducible rfl
                rotate_left
                ·
                 simp only [Act.put,zzq,zzr,zzs,i64_w,i32_w];rfl
                refine take_ (i:=15) (N:=some 74) (v:=?_) (a':=?_) (zzB 19 65535) rfl rfl (take_ofW HT_.out HW_.out (by kernel_rfl)) (fun _ _ _ h=>h) (Or.inl ⟨by rfl,?_⟩) hHeld ?_ ?_;rotate_left
                ·
                 rintro w' ⟨s0,s1,s2,s3,s4,s5,s6,s7,s8,s9,s10,s11,s12,s13,s14,s15,s16,s17⟩;go_simp;with_reducible rfl
                rotate_left
                ·
                 simp only [Act.put,zzq,zzr,zzs,i64_w,i32_w];rfl
                refine pure_ (i:=16) (N:=some 75) (v:=?_) (a':=?_) (zzB 19 131071) rfl rfl (zzA2 HT_.out) (fun _ _ _ h=>h) (Or.inl ⟨by rfl,?_⟩) ?_ ?_;rotate_left
                ·
                 intro w';go_simp;with_reducible rfl
                rotate_left
                ·
                 simp only [Act.put,zzq,zzr,zzs,i64_w,i32_w];rfl
                refine pure_ (i:=17) (N:=some 76) (v:=?_) (a':=?_) (zzB 19 262143) rfl rfl (zzA2 HT_.out) (fun _ _ _ h=>h) (Or.inl ⟨by rfl,?_⟩) ?_ ?_;rotate_left
                ·
                 intro w';go_simp;with_reducible rfl
                rotate_left
                ·
                 simp only [Act.put,zzq,zzr,zzs,i64_w,i32_w];rfl
                refine pure_ (i:=18) (N:=some 77) (v:=?_) (a':=?_) (zzB 19 524287) rfl rfl (zzA2 HT_.out) (fun _ _ _ h=>h) (Or.inl ⟨by rfl,?_⟩) ?_ ?_;rotate_left
                ·
                 intro w';go_simp;with_reducible rfl
                rotate_left
                ·
                 simp only [Act.put,zzq,zzr,zzs,i64_w,i32_w];rfl
                refine done_ (done_of HT_.out (by kernel_rfl)) ?_;try go_wp2
                go_ret;exact ⟨by first|rfl|(simp [errW_none,errW_some] <;> rfl)|(simp only [← hji38];first|rfl|(simp [errW_none,errW_some] <;> rfl))|(simp [*,errW_none,errW_some] <;> rfl),by repeat (first|(with_reducible first|exact HB.out|apply zza|apply zzb|apply zzc|refine zzd ?_ GE256.out|refine zzd ?_ GE262.out)|exact HB.out)⟩
               ·
                rw [if_neg c41] at H;have c41b0:decide (((rd_T34 l0_5 x54_3).f0)≤((rd_T34 l0_5 (ji38)).f0))=false:=decide_eq_false c41;clear c41;have H':=zzm H;clear H;have p261 : 0≤(x54_3:Int):=zzt;have q261:x54_3 < (l0_5.length:Int):=zzt;obtain ⟨ad261,A261_3,c261_3,A261_5,c261_5,e261,hx261_0,hx261_1,hx261_2,hx261_3,hx261_4,hx261_5,hl261_3,hi261_3,hl261_5,hi261_5⟩:=at_T34 HR0_5.out x54_3 p261 q261;cases e261;replace hx261_0:=zzx HB.out hx261_0;replace hx261_1:=zzx HB.out hx261_1;replace hx261_2:=zzx HB.out hx261_2;replace hx261_3:=zzx HB.out hx261_3;replace hx261_4:=zzx HB.out hx261_4;replace hx261_5:=zzx HB.out hx261_5;have HR261_3:=zzm hi261_3;have HC261_3:=zzm hl261_3;clear hi261_3 hl261_3;have HR261_5:=zzm hi261_5;have HC261_5:=zzm hl261_5;clear hi261_5 hl261_5;replace p261:=eq_true p261;replace q261:=eq_true q261;try go_wp2_with (first|((with_reducible refine gate_dst (N:=4) rfl ?_);(try (refine gate_guard (by rfl) ?_;dsimp only));refine box_event ?hg (N:=4) ?hd (cs:=#[.int .i64 0,.int .i64 0,.bool false,.slice none 0 0,.bool false,.slice none 0 0]) (t:=34) ?hr ?_;(case hd=>rfl);(case hg=>rfl);(case hr=>first|(go_simp;done)|(go_simp;rfl));intro gb262 hg w48 hbox hb;have n0_:=zzm (zzh (g:=gb256) (o:=.cells #[.bool a0_0,.bool a0_1,.int .i64 a0_2,.int .i64 a0_3,.int .i64 a0_4,.slice (some ad261) l0_5.length c0_5] 27 (0,0)) (zzE BK256.out) hb);have n1_:=zzm (zzp zzh2 hb);have n2_:=zzm (hbox);have n3_:=zzm ((by rw [hg];exact (zzo zzh2):w.heap.size≤gb262));have n4_:=zzm ((by rw [hg];exact (zzo zzh2):w.heap.size≤gb262));have n5_:=zzm ((by rw [hg];exact Nat.ne_of_lt (blk_lt (g:=gb256) (o:=.cells #[.bool a0_0,.bool a0_1,.int .i64 a0_2,.int .i64 a0_3,.int .i64 a0_4,.slice (some ad261) l0_5.length c0_5] 27 (0,0)) (zzE BK256.out)):gb256≠gb262));have n6_:=zzm ((by rw [hg];exact Nat.ne_of_gt (blk_lt (g:=gb256) (o:=.cells #[.bool a0_0,.bool a0_1,.int .i64 a0_2,.int .i64 a0_3,.int .i64 a0_4,.slice (some ad261) l0_5.length c0_5] 27 (0,0)) (zzE BK256.out)):gb262≠gb256));clear BK256 HB;have BK256:=n0_;have HB:=n1_;have BK262:=n2_;have GW262:=n3_;have GE262:=n4_;have NB256_262:=n5_;have NB262_256:=n6_;clear n0_ n1_ n2_ n3_ n4_ n5_ n6_ hb hbox hg;have hnb49:=NB262_256.out;have hnc49:=NB256_262.out;obtain ⟨hcz50_0,hcz50_1,hcz50_2,hcz50_3,hcz50_4,hcz50_5,hfz50_0,hfz50_1,hfz50_2,hfz50_3,hfz50_4,hfz50_5⟩:=zzc6 BK262.out))
                have n0_:Aside0 (((((((w48.setCell ⟨gb262,0,none⟩ (.int .i64 ((rd_T34 l0_5 x54_3).f0))).setCell ⟨gb262,1,none⟩ (.int .i64 ((rd_T34 l0_5 x54_3).f1))).setCell ⟨gb262,2,none⟩ (.bool ((rd_T34 l0_5 x54_3).f2))).setCell ⟨gb262,3,none⟩ (.slice A261_3 ((rd_T34 l0_5 x54_3).f3).length c261_3)).setCell ⟨gb262,4,none⟩ (.bool ((rd_T34 l0_5 x54_3).f4))).setCell ⟨gb262,5,none⟩ (.slice A261_5 ((rd_T34 l0_5 x54_3).f5).length c261_5)).heap[gb256]? = some (.cells #[.bool a0_0,.bool a0_1,.int .i64 a0_2,.int .i64 a0_3,.int .i64 a0_4,.slice (some ad261) l0_5.length c0_5] 27 (0,0))):=⟨by (with_reducible repeat (first|apply zzf|apply zzg|apply zze));refine zzj ?_ NB256_262.out _;(with_reducible repeat (first|apply zzf|apply zzg|apply zze));refine zzj ?_ NB256_262.out _;(with_reducible repeat (first|apply zzf|apply zzg|apply zze));refine zzj ?_ NB256_262.out _;(with_reducible repeat (first|apply zzf|apply zzg|apply zze));refine zzj ?_ NB256_262.out _;(with_reducible repeat (first|apply zzf|apply zzg|apply zze));refine zzj ?_ NB256_262.out _;(with_reducible repeat (first|apply zzf|apply zzg|apply zze));refine zzj ?_ NB256_262.out _;(with_reducible repeat (first|apply zzf|apply zzg|apply zze));exact BK256.out⟩;have n1_:Aside0 (((((((w48.setCell ⟨gb262,0,none⟩ (.int .i64 ((rd_T34 l0_5 x54_3).f0))).setCell ⟨gb262,1,none⟩ (.int .i64 ((rd_T34 l0_5 x54_3).f1))).setCell ⟨gb262,2,none⟩ (.bool ((rd_T34 l0_5 x54_3).f2))).setCell ⟨gb262,3,none⟩ (.slice A261_3 ((rd_T34 l0_5 x54_3).f3).length c261_3)).setCell ⟨gb262,4,none⟩ (.bool ((rd_T34 l0_5 x54_3).f4))).setCell ⟨gb262,5,none⟩ (.slice A261_5 ((rd_T34 l0_5 x54_3).f5).length c261_5)).heap[gb262]? = some (.cells #[.int .i64 ((rd_T34 l0_5 x54_3).f0),.int .i64 ((rd_T34 l0_5 x54_3).f1),.bool ((rd_T34 l0_5 x54_3).f2),.slice A261_3 ((rd_T34 l0_5 x54_3).f3).length c261_3,.bool ((rd_T34 l0_5 x54_3).f4),.slice A261_5 ((rd_T34 l0_5 x54_3).f5).length c261_5] 34 (0,0))):=⟨by (with_reducible repeat (first|apply zzf|apply zzg|apply zze));refine zzi (cs:=#[.int .i64 ((rd_T34 l0_5 x54_3).f0),.int .i64 ((rd_T34 l0_5 x54_3).f1),.bool ((rd_T34 l0_5 x54_3).f2),.slice A261_3 ((rd_T34 l0_5 x54_3).f3).length c261_3,.bool ((rd_T34 l0_5 x54_3).f4),.slice none 0 0]) ?_ 5 _ rfl;(with_reducible repeat (first|apply zzf|apply zzg|apply zze));refine zzi (cs:=#[.int .i64 ((rd_T34 l0_5 x54_3).f0),.int .i64 ((rd_T34 l0_5 x54_3).f1),.bool ((rd_T34 l0_5 x54_3).f2),.slice A261_3 ((rd_T34 l0_5 x54_3).f3).length c261_3,.bool false,.slice none 0 0]) ?_ 4 _ rfl;(with_reducible repeat (first|apply zzf|apply zzg|apply zze));refine zzi (cs:=#[.int .i64 ((rd_T34 l0_5 x54_3).f0),.int .i64 ((rd_T34 l0_5 x54_3).f1),.bool ((rd_T34 l0_5 x54_3).f2),.slice none 0 0,.bool false,.slice none 0 0]) ?_ 3 _ rfl;(with_reducible repeat (first|apply zzf|apply zzg|apply zze));refine zzi (cs:=#[.int .i64 ((rd_T34 l0_5 x54_3).f0),.int .i64 ((rd_T34 l0_5 x54_3).f1),.bool false,.slice none 0 0,.bool false,.slice none 0 0]) ?_ 2 _ rfl;(with_reducible repeat (first|apply zzf|apply zzg|apply zze));refine zzi (cs:=#[.int .i64 ((rd_T34 l0_5 x54_3).f0),.int .i64 0,.bool false,.slice none 0 0,.bool false,.slice none 0 0]) ?_ 1 _ rfl;(with_reducible repeat (first|apply zzf|apply zzg|apply zze));refine zzi (cs:=#[.int .i64 0,.int .i64 0,.bool false,.slice none 0 0,.bool false,.slice none 0 0]) ?_ 0 _ rfl;(with_reducible repeat (first|apply zzf|apply zzg|apply zze));exact BK262.out⟩;have n2_:Aside0 (Below w.heap.size w ((((((w48.setCell ⟨gb262,0,none⟩ (.int .i64 ((rd_T34 l0_5 x54_3).f0))).setCell ⟨gb262,1,none⟩ (.int .i64 ((rd_T34 l0_5 x54_3).f1))).setCell ⟨gb262,2,none⟩ (.bool ((rd_T34 l0_5 x54_3).f2))).setCell ⟨gb262,3,none⟩ (.slice A261_3 ((rd_T34 l0_5 x54_3).f3).length c261_3)).setCell ⟨gb262,4,none⟩ (.bool ((rd_T34 l0_5 x54_3).f4))).setCell ⟨gb262,5,none⟩ (.slice A261_5 ((rd_T34 l0_5 x54_3).f5).length c261_5))):=⟨by repeat (first|(with_reducible first|exact HB.out|apply zza|apply zzb|apply zzc|refine zzd ?_ GE256.out|refine zzd ?_ GE262.out)|exact HB.out)⟩
                (try clear BK256)
                (try clear BK262)
                (try clear HB);generalize ((((((w48.setCell ⟨gb262,0,none⟩ (.int .i64 ((rd_T34 l0_5 x54_3).f0))).setCell ⟨gb262,1,none⟩ (.int .i64 ((rd_T34 l0_5 x54_3).f1))).setCell ⟨gb262,2,none⟩ (.bool ((rd_T34 l0_5 x54_3).f2))).setCell ⟨gb262,3,none⟩ (.slice A261_3 ((rd_T34 l0_5 x54_3).f3).length c261_3)).setCell ⟨gb262,4,none⟩ (.bool ((rd_T34 l0_5 x54_3).f4))).setCell ⟨gb262,5,none⟩ (.slice A261_5 ((rd_T34 l0_5 x54_3).f5).length c261_5))=w51 at n0_ n1_ n2_ ⊢;have BK256:=n0_;have BK262:=n1_;have HB:=n2_;clear n0_ n1_ n2_;have n0_:=zzm (zzg BK256.out);have n1_:=zzm (zzg BK262.out);have n2_:=zzm (zzc HB.out);clear BK256 BK262 HB;have BK256:=n0_;have BK262:=n1_;have HB:=n2_;clear n0_ n1_ n2_;have p264 : 0≤((ji38):Int):=zzt;have q264:(ji38) < (l0_5.length:Int):=zzt;obtain ⟨ad264,A264_3,c264_3,A264_5,c264_5,e264,hx264_0,hx264_1,hx264_2,hx264_3,hx264_4,hx264_5,hl264_3,hi264_3,hl264_5,hi264_5⟩:=at_T34 HR0_5.out (ji38) p264 q264;have hw264_5:=hx264_5;have hw264_4:=hx264_4;have hw264_3:=hx264_3;have hw264_2:=hx264_2;have hw264_1:=hx264_1;have hw264_0:=hx264_0;obtain rfl:ad261=ad264:=(by injection e264);replace hx264_0:=zzx HB.out hx264_0;replace hx264_1:=zzx HB.out hx264_1;replace hx264_2:=zzx HB.out hx264_2;replace hx264_3:=zzx HB.out hx264_3;replace hx264_4:=zzx HB.out hx264_4;replace hx264_5:=zzx HB.out hx264_5;have HR264_3:=zzm hi264_3;have HC264_3:=zzm hl264_3;clear hi264_3 hl264_3;have HR264_5:=zzm hi264_5;have HC264_5:=zzm hl264_5;clear hi264_5 hl264_5;replace p264:=eq_true p264;replace q264:=eq_true q264;refine start_ (n:=19) (S:=fun w'=>w'.cell? ⟨gb262,0,none⟩=some (.int .i64 ((rd_T34 l0_5 x54_3).f0))∧w'.cell? ⟨gb262,1,none⟩=some (.int .i64 ((rd_T34 l0_5 x54_3).f1))∧w'.cell? ⟨gb262,2,none⟩=some (.bool ((rd_T34 l0_5 x54_3).f2))∧w'.cell? ⟨gb262,3,none⟩=some (.slice A261_3 ((rd_T34 l0_5 x54_3).f3).length c261_3)∧w'.cell? ⟨gb262,4,none⟩=some (.bool ((rd_T34 l0_5 x54_3).f4))∧w'.cell? ⟨gb262,5,none⟩=some (.slice A261_5 ((rd_T34 l0_5 x54_3).f5).length c261_5)∧w'.cell? ⟨gb256,0,none⟩=some (.bool a0_0)∧w'.cell? ⟨gb256,1,none⟩=some (.bool a0_1)∧w'.cell? ⟨gb256,2,none⟩=some (.int .i64 a0_2)∧w'.cell? ⟨gb256,3,none⟩=some (.int .i64 a0_3)∧w'.cell? ⟨gb256,4,none⟩=some (.int .i64 a0_4)∧w'.cell? ⟨gb256,5,none⟩=some (.slice (some ad261) l0_5.length c0_5)∧w'.cell? (ad261.add (((ji38)).toNat * 6))=some (.int .i64 ((rd_T34 l0_5 (ji38)).f0))∧w'.cell? ⟨(ad261.add (((ji38)).toNat * 6)).block,(ad261.add (((ji38)).toNat * 6)).off+1,none⟩=some (.int .i64 ((rd_T34 l0_5 (ji38)).f1))∧w'.cell? ⟨(ad261.add (((ji38)).toNat * 6)).block,(ad261.add (((ji38)).toNat * 6)).off+2,none⟩=some (.bool ((rd_T34 l0_5 (ji38)).f2))∧w'.cell? ⟨(ad261.add (((ji38)).toNat * 6)).block,(ad261.add (((ji38)).toNat * 6)).off+3,none⟩=some (.slice A264_3 ((rd_T34 l0_5 (ji38)).f3).length c264_3)∧w'.cell? ⟨(ad261.add (((ji38)).toNat * 6)).block,(ad261.add (((ji38)).toNat * 6)).off+4,none⟩=some (.bool ((rd_T34 l0_5 (ji38)).f4))∧w'.cell? ⟨(ad261.add (((ji38)).toNat * 6)).block,(ad261.add (((ji38)).toNat * 6)).off+5,none⟩=some (.slice A264_5 ((rd_T34 l0_5 (ji38)).f5).length c264_5)) (ds:=[]) (zzB 19 0) (by kernel_rfl) rfl rfl ⟨(zzk BK262.out 0).trans rfl,(zzk BK262.out 1).trans rfl,(zzk BK262.out 2).trans rfl,(zzk BK262.out 3).trans rfl,(zzk BK262.out 4).trans rfl,(zzk BK262.out 5).trans rfl,(zzk BK256.out 0).trans rfl,(zzk BK256.out 1).trans rfl,(zzk BK256.out 2).trans rfl,(zzk BK256.out 3).trans rfl,(zzk BK256.out 4).trans rfl,(zzk BK256.out 5).trans rfl,(zzx HB.out hw264_0),(zzx HB.out hw264_1),(zzx HB.out hw264_2),(zzx HB.out hw264_3),(zzx HB.out hw264_4),(zzx HB.out hw264_5)⟩ (fun hHeld=>?_);refine with_tabW impl_BatchValid.tab11 impl_BatchValid.bits11 (fun HT_ HW_=>?_);generalize w51.drew=w52 at BK256 BK262 HB HR264_3 HR264_5 hx264_0 hx264_1 hx264_2 hx264_3 hx264_4 hx264_5 hHeld ⊢;refine take_ (i:=0) (N:=some 59) (v:=?_) (a':=?_) (zzB 19 1) rfl rfl (take_ofW HT_.out HW_.out (by kernel_rfl)) (fun _ _ _ h=>h) (Or.inl ⟨by rfl,?_⟩) hHeld ?_ ?_;rotate_left
                ·
                 rintro w' ⟨s0,s1,s2,s3,s4,s5,s6,s7,s8,s9,s10,s11,s12,s13,s14,s15,s16,s17⟩;go_simp;with_reducible rfl
                rotate_left
                ·
                 simp only [Act.put,zzq,zzr,zzs,i64_w,i32_w];rfl
                refine one_ (i:=1) (N:=some 60) (zzB 19 3) rfl rfl (one_of HT_.out (by kernel_rfl)) (by decide) (fun K hK=>?_);refine goes_ Try.func58 (by kernel_rfl) rfl #[.agg #[.int .i64 ((rd_T34 l0_5 x54_3).f0),.int .i64 ((rd_T34 l0_5 x54_3).f1),.bool ((rd_T34 l0_5 x54_3).f2),.slice A261_3 ((rd_T34 l0_5 x54_3).f3).length c261_3,.bool ((rd_T34 l0_5 x54_3).f4),.slice A261_5 ((rd_T34 l0_5 x54_3).f5).length c261_5]] (by rfl) rfl rfl zzM2 ?_;with_reducible refine (impl_RecordValid.calls k3 ((rd_T34 l0_5 x54_3).f0) ((rd_T34 l0_5 x54_3).f1) ((rd_T34 l0_5 x54_3).f2) _ _ ((rd_T34 l0_5 x54_3).f3) ((rd_T34 l0_5 x54_3).f4) _ _ ((rd_T34 l0_5 x54_3).f5) true _ ?side1 ?side2 ?side3 ?side4 A35.out).mono ?_
                (case side1=>repeat (first|exact (Kd.C_below HR261_3.out HB.out)|(with_reducible refine Kd.C_alloc ?_ _)|(with_reducible refine Kd.C_drewN ?_ _)|(with_reducible refine Kd.C_drew ?_)))
                (case side2=>exact HC261_3.out)
                (case side3=>repeat (first|exact (Kd.C_below HR261_5.out HB.out)|(with_reducible refine Kd.C_alloc ?_ _)|(with_reducible refine Kd.C_drewN ?_ _)|(with_reducible refine Kd.C_drew ?_)))
                (case side4=>exact HC261_5.out);rintro e w53 ⟨rfl,hb⟩;refine ⟨_,rfl,?_⟩;have n0_:=zzm (zzh (g:=gb256) (o:=.cells #[.bool a0_0,.bool a0_1,.int .i64 a0_2,.int .i64 a0_3,.int .i64 a0_4,.slice (some ad261) l0_5.length c0_5] 27 (0,0)) (zzE BK256.out) hb);have n1_:=zzm (zzh (g:=gb262) (o:=.cells #[.int .i64 ((rd_T34 l0_5 x54_3).f0),.int .i64 ((rd_T34 l0_5 x54_3).f1),.bool ((rd_T34 l0_5 x54_3).f2),.slice A261_3 ((rd_T34 l0_5 x54_3).f3).length c261_3,.bool ((rd_T34 l0_5 x54_3).f4),.slice A261_5 ((rd_T34 l0_5 x54_3).f5).length c261_5] 34 (0,0)) (zzE BK262.out) hb);have n2_:=zzm (zzp zzh2 hb);clear BK256 BK262 HB;have BK256:=n0_;have BK262:=n1_;have HB:=n2_;clear n0_ n1_ n2_
                (try clear hb)
                (try clear hb2)
                (try clear hk)
                (try clear hi);refine hK.out _ _ ⟨(zzk BK262.out 0).trans rfl,(zzk BK262.out 1).trans rfl,(zzk BK262.out 2).trans rfl,(zzk BK262.out 3).trans rfl,(zzk BK262.out 4).trans rfl,(zzk BK262.out 5).trans rfl,(zzk BK256.out 0).trans rfl,(zzk BK256.out 1).trans rfl,(zzk BK256.out 2).trans rfl,(zzk BK256.out 3).trans rfl,(zzk BK256.out 4).trans rfl,(zzk BK256.out 5).trans rfl,(zzx HB.out hw264_0),(zzx HB.out hw264_1),(zzx HB.out hw264_2),(zzx HB.out hw264_3),(zzx HB.out hw264_4),(zzx HB.out hw264_5)⟩ (fun hHeld=>?_);clear hK K;refine norm_ (a':=?_) ?_ ?_;rotate_left
                ·
                 show Act.put _ (some 60) _ = _;simp only [Act.put,zzq,zzr,zzs,i64_w,i32_w];rfl
                refine pure_ (i:=2) (N:=some 61) (v:=?_) (a':=?_) (zzB 19 7) rfl rfl (zzA2 HT_.out) (fun _ _ _ h=>h) (Or.inl ⟨by rfl,?_⟩) ?_ ?_;rotate_left
                ·
                 intro w';go_simp;with_reducible rfl
                rotate_left
                ·
                 simp only [Act.put,zzq,zzr,zzs,i64_w,i32_w];rfl
                refine pure_ (i:=3) (N:=some 62) (v:=?_) (a':=?_) (zzB 19 15) rfl rfl (zzA2 HT_.out) (fun _ _ _ h=>h) (Or.inl ⟨by rfl,?_⟩) ?_ ?_;rotate_left
                ·
                 intro w';go_simp;with_reducible rfl
                rotate_left
                ·
                 simp only [Act.put,zzq,zzr,zzs,i64_w,i32_w];rfl
                refine pure_ (i:=4) (N:=some 63) (v:=?_) (a':=?_) (zzB 19 31) rfl rfl (zzA2 HT_.out) (fun _ _ _ h=>h) (Or.inl ⟨by rfl,?_⟩) ?_ ?_;rotate_left
                ·
                 intro w';go_simp;with_reducible rfl
                rotate_left
                ·
                 simp only [Act.put,zzq,zzr,zzs,i64_w,i32_w];rfl
                refine pure_ (i:=5) (N:=some 64) (v:=?_) (a':=?_) (zzB 19 63) rfl rfl (zzA2 HT_.out) (fun _ _ _ h=>h) (Or.inl ⟨by rfl,?_⟩) ?_ ?_;rotate_left
                ·
                 intro w';go_simp;with_reducible rfl
                rotate_left
                ·
                 simp only [Act.put,zzq,zzr,zzs,i64_w,i32_w];rfl
                refine pure_ (i:=6) (N:=some 65) (v:=?_) (a':=?_) (zzB 19 127) rfl rfl (zzA2 HT_.out) (fun _ _ _ h=>h) (Or.inl ⟨by rfl,?_⟩) ?_ ?_;rotate_left
                ·
                 intro w';go_simp;with_reducible rfl
                rotate_left
                ·
                 simp only [Act.put,zzq,zzr,zzs,i64_w,i32_w];rfl
                refine pure_ (i:=7) (N:=some 66) (v:=?_) (a':=?_) (zzB 19 255) rfl rfl (zzA2 HT_.out) (fun _ _ _ h=>h) (Or.inl ⟨by rfl,?_⟩) ?_ ?_;rotate_left
                ·
                 intro w';go_simp;with_reducible rfl
                rotate_left
                ·
                 simp only [Act.put,zzq,zzr,zzs,i64_w,i32_w];rfl
                refine pure_ (i:=9) (N:=some 68) (v:=?_) (a':=?_) (zzB 19 767) rfl rfl (zzA2 HT_.out) (fun _ _ _ h=>h) (Or.inl ⟨by rfl,?_⟩) ?_ ?_;rotate_left
                ·
                 intro w';go_simp;with_reducible rfl
                rotate_left
                ·
                 simp only [Act.put,zzq,zzr,zzs,i64_w,i32_w];rfl
                refine pure_ (i:=10) (N:=some 69) (v:=?_) (a':=?_) (zzB 19 1791) rfl rfl (zzA2 HT_.out) (fun _ _ _ h=>h) (Or.inl ⟨by rfl,?_⟩) ?_ ?_;rotate_left
                ·
                 intro w';go_simp;with_reducible rfl
                rotate_left
                ·
                 simp only [Act.put,zzq,zzr,zzs,i64_w,i32_w];rfl
                refine pure_ (i:=14) (N:=some 73) (v:=?_) (a':=?_) (zzB 19 18175) rfl rfl (zzA2 HT_.out) (fun _ _ _ h=>h) (Or.inl ⟨by rfl,?_⟩) ?_ ?_;rotate_left
                ·
                 intro w';go_simp;with_reducible rfl
                rotate_left
                ·
                 simp only [Act.put,zzq,zzr,zzs,i64_w,i32_w];rfl
                refine take_ (i:=8) (N:=some 67) (v:=?_) (a':=?_) (zzB 19 18431) rfl rfl (take_ofW HT_.out HW_.out (by kernel_rfl)) (fun _ _ _ h=>h) (Or.inl ⟨by rfl,?_⟩) hHeld ?_ ?_;rotate_left
                ·
                 rintro w' ⟨s0,s1,s2,s3,s4,s5,s6,s7,s8,s9,s10,s11,s12,s13,s14,s15,s16,s17⟩;go_simp;with_reducible rfl
                rotate_left
                ·
                 simp only [Act.put,zzq,zzr,zzs,i64_w,i32_w];rfl
                refine pure_ (i:=11) (N:=some 70) (v:=?_) (a':=?_) (zzB 19 20479) rfl rfl (zzA2 HT_.out) (fun _ _ _ h=>h) (Or.inl ⟨by rfl,?_⟩) ?_ ?_;rotate_left
                ·
                 intro w';go_simp;with_reducible rfl
                rotate_left
                ·
                 simp only [Act.put,zzq,zzr,zzs,i64_w,i32_w];rfl
                refine pure_ (i:=12) (N:=some 71) (v:=?_) (a':=?_) (zzB 19 24575) rfl rfl (zzA2 HT_.out) (fun _ _ _ h=>h) (Or.inl ⟨by rfl,?_⟩) ?_ ?_;rotate_left
                ·
                 intro w';go_simp;with_reducible rfl
                rotate_left
                ·
                 simp only [Act.put,zzq,zzr,zzs,i64_w,i32_w];rfl
                refine take_ (i:=13) (N:=some 72) (v:=?_) (a':=?_) (zzB 19 32767) rfl rfl (take_ofW HT_.out HW_.out (by kernel_rfl)) (fun _ _ _ h=>h) (Or.inl ⟨by rfl,?_⟩) hHeld ?_ ?_;rotate_left
                ·
                 rintro w' ⟨s0,s1,s2,s3,s4,s5,s6,s7,s8,s9,s10,s11,s12,s13,s14,s15,s16,s17⟩;go_simp;with_reducible rfl
                rotate_left
                ·
                 simp only [Act.put,zzq,zzr,zzs,i64_w,i32_w];rfl
                refine take_ (i:=15) (N:=some 74) (v:=?_) (a':=?_) (zzB 19 65535) rfl rfl (take_ofW HT_.out HW_.out (by kernel_rfl)) (fun _ _ _ h=>h) (Or.inl ⟨by rfl,?_⟩) hHeld ?_ ?_;rotate_left
                ·
                 rintro w' ⟨s0,s1,s2,s3,s4,s5,s6,s7,s8,s9,s10,s11,s12,s13,s14,s15,s16,s17⟩;go_simp;with_reducible rfl
                rotate_left
                ·
                 simp only [Act.put,zzq,zzr,zzs,i64_w,i32_w];rfl
                refine pure_ (i:=16) (N:=some 75) (v:=?_) (a':=?_) (zzB 19 131071) rfl rfl (zzA2 HT_.out) (fun _ _ _ h=>h) (Or.inl ⟨by rfl,?_⟩) ?_ ?_;rotate_left
                ·
                 intro w';go_simp;with_reducible rfl
                rotate_left
                ·
                 simp only [Act.put,zzq,zzr,zzs,i64_w,i32_w];rfl
                refine pure_ (i:=17) (N:=some 76) (v:=?_) (a':=?_) (zzB 19 262143) rfl rfl (zzA2 HT_.out) (fun _ _ _ h=>h) (Or.inl ⟨by rfl,?_⟩) ?_ ?_;rotate_left
                ·
                 intro w';go_simp;with_reducible rfl
                rotate_left
                ·
                 simp only [Act.put,zzq,zzr,zzs,i64_w,i32_w];rfl
                refine pure_ (i:=18) (N:=some 77) (v:=?_) (a':=?_) (zzB 19 524287) rfl rfl (zzA2 HT_.out) (fun _ _ _ h=>h) (Or.inl ⟨by rfl,?_⟩) ?_ ?_;rotate_left
                ·
                 intro w';go_simp;with_reducible rfl
                rotate_left
                ·
                 simp only [Act.put,zzq,zzr,zzs,i64_w,i32_w];rfl
                refine done_ (done_of HT_.out (by kernel_rfl)) ?_;try go_wp2
                go_roundg k3
                case measure=>have:=HJ1.out;have:=HJ22.out;have:=HK3.out;omega
                case rel=>exact ⟨(wrap64 (x54_3+1)),(by first|rfl|(simp;done)|(simp [*];done)),H',⟨by have:=HJ1.out;have:=HJ22.out;have:=HK3.out;omega⟩,⟨by (with_reducible repeat (first|apply zzf|apply zzg|apply zze));exact BK256.out⟩,⟨by repeat (first|(with_reducible first|exact HB.out|apply zza|apply zzb|apply zzc|refine zzd ?_ GE256.out|refine zzd ?_ GE262.out)|exact HB.out)⟩⟩
              ·
               rw [if_neg c40] at H;exact absurd H (by simp)
             ·
              rw [if_neg c39] at H;exact absurd H (by simp)
            ·
             rw [if_neg c37] at H;have c37b0:decide (0 < x54_3)=false:=decide_eq_false c37;clear c37;have H':=zzm H;clear H;have p261 : 0≤(x54_3:Int):=zzt;have q261:x54_3 < (l0_5.length:Int):=zzt;obtain ⟨ad261,A261_3,c261_3,A261_5,c261_5,e261,hx261_0,hx261_1,hx261_2,hx261_3,hx261_4,hx261_5,hl261_3,hi261_3,hl261_5,hi261_5⟩:=at_T34 HR0_5.out x54_3 p261 q261;cases e261;replace hx261_0:=zzx HB.out hx261_0;replace hx261_1:=zzx HB.out hx261_1;replace hx261_2:=zzx HB.out hx261_2;replace hx261_3:=zzx HB.out hx261_3;replace hx261_4:=zzx HB.out hx261_4;replace hx261_5:=zzx HB.out hx261_5;have HR261_3:=zzm hi261_3;have HC261_3:=zzm hl261_3;clear hi261_3 hl261_3;have HR261_5:=zzm hi261_5;have HC261_5:=zzm hl261_5;clear hi261_5 hl261_5;replace p261:=eq_true p261;replace q261:=eq_true q261;try go_wp2_with (first|((with_reducible refine gate_dst (N:=4) rfl ?_);(try (refine gate_guard (by rfl) ?_;dsimp only));refine box_event ?hg (N:=4) ?hd (cs:=#[.int .i64 0,.int .i64 0,.bool false,.slice none 0 0,.bool false,.slice none 0 0]) (t:=34) ?hr ?_;(case hd=>rfl);(case hg=>rfl);(case hr=>first|(go_simp;done)|(go_simp;rfl));intro gb262 hg w54 hbox hb;have n0_:=zzm (zzh (g:=gb256) (o:=.cells #[.bool a0_0,.bool a0_1,.int .i64 a0_2,.int .i64 a0_3,.int .i64 a0_4,.slice (some ad261) l0_5.length c0_5] 27 (0,0)) (zzE BK256.out) hb);have n1_:=zzm (zzp zzh2 hb);have n2_:=zzm (hbox);have n3_:=zzm ((by rw [hg];exact (zzo zzh2):w.heap.size≤gb262));have n4_:=zzm ((by rw [hg];exact (zzo zzh2):w.heap.size≤gb262));have n5_:=zzm ((by rw [hg];exact Nat.ne_of_lt (blk_lt (g:=gb256) (o:=.cells #[.bool a0_0,.bool a0_1,.int .i64 a0_2,.int .i64 a0_3,.int .i64 a0_4,.slice (some ad261) l0_5.length c0_5] 27 (0,0)) (zzE BK256.out)):gb256≠gb262));have n6_:=zzm ((by rw [hg];exact Nat.ne_of_gt (blk_lt (g:=gb256) (o:=.cells #[.bool a0_0,.bool a0_1,.int .i64 a0_2,.int .i64 a0_3,.int .i64 a0_4,.slice (some ad261) l0_5.length c0_5] 27 (0,0)) (zzE BK256.out)):gb262≠gb256));clear BK256 HB;have BK256:=n0_;have HB:=n1_;have BK262:=n2_;have GW262:=n3_;have GE262:=n4_;have NB256_262:=n5_;have NB262_256:=n6_;clear n0_ n1_ n2_ n3_ n4_ n5_ n6_ hb hbox hg;have hnb55:=NB262_256.out;have hnc55:=NB256_262.out;obtain ⟨hcz56_0,hcz56_1,hcz56_2,hcz56_3,hcz56_4,hcz56_5,hfz56_0,hfz56_1,hfz56_2,hfz56_3,hfz56_4,hfz56_5⟩:=zzc6 BK262.out))
             have n0_:Aside0 (((((((w54.setCell ⟨gb262,0,none⟩ (.int .i64 ((rd_T34 l0_5 x54_3).f0))).setCell ⟨gb262,1,none⟩ (.int .i64 ((rd_T34 l0_5 x54_3).f1))).setCell ⟨gb262,2,none⟩ (.bool ((rd_T34 l0_5 x54_3).f2))).setCell ⟨gb262,3,none⟩ (.slice A261_3 ((rd_T34 l0_5 x54_3).f3).length c261_3)).setCell ⟨gb262,4,none⟩ (.bool ((rd_T34 l0_5 x54_3).f4))).setCell ⟨gb262,5,none⟩ (.slice A261_5 ((rd_T34 l0_5 x54_3).f5).length c261_5)).heap[gb256]? = some (.cells #[.bool a0_0,.bool a0_1,.int .i64 a0_2,.int .i64 a0_3,.int .i64 a0_4,.slice (some ad261) l0_5.length c0_5] 27 (0,0))):=⟨by (with_reducible repeat (first|apply zzf|apply zzg|apply zze));refine zzj ?_ NB256_262.out _;(with_reducible repeat (first|apply zzf|apply zzg|apply zze));refine zzj ?_ NB256_262.out _;(with_reducible repeat (first|apply zzf|apply zzg|apply zze));refine zzj ?_ NB256_262.out _;(with_reducible repeat (first|apply zzf|apply zzg|apply zze));refine zzj ?_ NB256_262.out _;(with_reducible repeat (first|apply zzf|apply zzg|apply zze));refine zzj ?_ NB256_262.out _;(with_reducible repeat (first|apply zzf|apply zzg|apply zze));refine zzj ?_ NB256_262.out _;(with_reducible repeat (first|apply zzf|apply zzg|apply zze));exact BK256.out⟩;have n1_:Aside0 (((((((w54.setCell ⟨gb262,0,none⟩ (.int .i64 ((rd_T34 l0_5 x54_3).f0))).setCell ⟨gb262,1,none⟩ (.int .i64 ((rd_T34 l0_5 x54_3).f1))).setCell ⟨gb262,2,none⟩ (.bool ((rd_T34 l0_5 x54_3).f2))).setCell ⟨gb262,3,none⟩ (.slice A261_3 ((rd_T34 l0_5 x54_3).f3).length c261_3)).setCell ⟨gb262,4,none⟩ (.bool ((rd_T34 l0_5 x54_3).f4))).setCell ⟨gb262,5,none⟩ (.slice A261_5 ((rd_T34 l0_5 x54_3).f5).length c261_5)).heap[gb262]? = some (.cells #[.int .i64 ((rd_T34 l0_5 x54_3).f0),.int .i64 ((rd_T34 l0_5 x54_3).f1),.bool ((rd_T34 l0_5 x54_3).f2),.slice A261_3 ((rd_T34 l0_5 x54_3).f3).length c261_3,.bool ((rd_T34 l0_5 x54_3).f4),.slice A261_5 ((rd_T34 l0_5 x54_3).f5).length c261_5] 34 (0,0))):=⟨by (with_reducible repeat (first|apply zzf|apply zzg|apply zze));refine zzi (cs:=#[.int .i64 ((rd_T34 l0_5 x54_3).f0),.int .i64 ((rd_T34 l0_5 x54_3).f1),.bool ((rd_T34 l0_5 x54_3).f2),.slice A261_3 ((rd_T34 l0_5 x54_3).f3).length c261_3,.bool ((rd_T34 l0_5 x54_3).f4),.slice none 0 0]) ?_ 5 _ rfl;(with_reducible repeat (first|apply zzf|apply zzg|apply zze));refine zzi (cs:=#[.int .i64 ((rd_T34 l0_5 x54_3).f0),.int .i64 ((rd_T34 l0_5 x54_3).f1),.bool ((rd_T34 l0_5 x54_3).f2),.slice A261_3 ((rd_T34 l0_5 x54_3).f3).length c261_3,.bool false,.slice none 0 0]) ?_ 4 _ rfl;(with_reducible repeat (first|apply zzf|apply zzg|apply zze));refine zzi (cs:=#[.int .i64 ((rd_T34 l0_5 x54_3).f0),.int .i64 ((rd_T34 l0_5 x54_3).f1),.bool ((rd_T34 l0_5 x54_3).f2),.slice none 0 0,.bool false,.slice none 0 0]) ?_ 3 _ rfl;(with_reducible repeat (first|apply zzf|apply zzg|apply zze));refine zzi (cs:=#[.int .i64 ((rd_T34 l0_5 x54_3).f0),.int .i64 ((rd_T34 l0_5 x54_3).f1),.bool false,.slice none 0 0,.bool false,.slice none 0 0]) ?_ 2 _ rfl;(with_reducible repeat (first|apply zzf|apply zzg|apply zze));refine zzi (cs:=#[.int .i64 ((rd_T34 l0_5 x54_3).f0),.int .i64 0,.bool false,.slice none 0 0,.bool false,.slice none 0 0]) ?_ 1 _ rfl;(with_reducible repeat (first|apply zzf|apply zzg|apply zze));refine zzi (cs:=#[.int .i64 0,.int .i64 0,.bool false,.slice none 0 0,.bool false,.slice none 0 0]) ?_ 0 _ rfl;(with_reducible repeat (first|apply zzf|apply zzg|apply zze));exact BK262.out⟩;have n2_:Aside0 (Below w.heap.size w ((((((w54.setCell ⟨gb262,0,none⟩ (.int .i64 ((rd_T34 l0_5 x54_3).f0))).setCell ⟨gb262,1,none⟩ (.int .i64 ((rd_T34 l0_5 x54_3).f1))).setCell ⟨gb262,2,none⟩ (.bool ((rd_T34 l0_5 x54_3).f2))).setCell ⟨gb262,3,none⟩ (.slice A261_3 ((rd_T34 l0_5 x54_3).f3).length c261_3)).setCell ⟨gb262,4,none⟩ (.bool ((rd_T34 l0_5 x54_3).f4))).setCell ⟨gb262,5,none⟩ (.slice A261_5 ((rd_T34 l0_5 x54_3).f5).length c261_5))):=⟨by repeat (first|(with_reducible first|exact HB.out|apply zza|apply zzb|apply zzc|refine zzd ?_ GE256.out|refine zzd ?_ GE262.out)|exact HB.out)⟩
             (try clear BK256)
             (try clear BK262)
             (try clear HB);generalize ((((((w54.setCell ⟨gb262,0,none⟩ (.int .i64 ((rd_T34 l0_5 x54_3).f0))).setCell ⟨gb262,1,none⟩ (.int .i64 ((rd_T34 l0_5 x54_3).f1))).setCell ⟨gb262,2,none⟩ (.bool ((rd_T34 l0_5 x54_3).f2))).setCell ⟨gb262,3,none⟩ (.slice A261_3 ((rd_T34 l0_5 x54_3).f3).length c261_3)).setCell ⟨gb262,4,none⟩ (.bool ((rd_T34 l0_5 x54_3).f4))).setCell ⟨gb262,5,none⟩ (.slice A261_5 ((rd_T34 l0_5 x54_3).f5).length c261_5))=w57 at n0_ n1_ n2_ ⊢;have BK256:=n0_;have BK262:=n1_;have HB:=n2_;clear n0_ n1_ n2_;have n0_:=zzm (zzg BK256.out);have n1_:=zzm (zzg BK262.out);have n2_:=zzm (zzc HB.out);clear BK256 BK262 HB;have BK256:=n0_;have BK262:=n1_;have HB:=n2_;clear n0_ n1_ n2_;refine start_ (n:=19) (S:=fun w'=>w'.cell? ⟨gb262,0,none⟩=some (.int .i64 ((rd_T34 l0_5 x54_3).f0))∧w'.cell? ⟨gb262,1,none⟩=some (.int .i64 ((rd_T34 l0_5 x54_3).f1))∧w'.cell? ⟨gb262,2,none⟩=some (.bool ((rd_T34 l0_5 x54_3).f2))∧w'.cell? ⟨gb262,3,none⟩=some (.slice A261_3 ((rd_T34 l0_5 x54_3).f3).length c261_3)∧w'.cell? ⟨gb262,4,none⟩=some (.bool ((rd_T34 l0_5 x54_3).f4))∧w'.cell? ⟨gb262,5,none⟩=some (.slice A261_5 ((rd_T34 l0_5 x54_3).f5).length c261_5)) (ds:=[]) (zzB 19 0) (by kernel_rfl) rfl rfl ⟨(zzk BK262.out 0).trans rfl,(zzk BK262.out 1).trans rfl,(zzk BK262.out 2).trans rfl,(zzk BK262.out 3).trans rfl,(zzk BK262.out 4).trans rfl,(zzk BK262.out 5).trans rfl⟩ (fun hHeld=>?_);refine with_tabW impl_BatchValid.tab11 impl_BatchValid.bits11 (fun HT_ HW_=>?_);generalize w57.drew=w58 at BK256 BK262 HB hHeld ⊢;refine take_ (i:=0) (N:=some 59) (v:=?_) (a':=?_) (zzB 19 1) rfl rfl (take_ofW HT_.out HW_.out (by kernel_rfl)) (fun _ _ _ h=>h) (Or.inl ⟨by rfl,?_⟩) hHeld ?_ ?_;rotate_left
             ·
              rintro w' ⟨s0,s1,s2,s3,s4,s5⟩;go_simp;with_reducible rfl
             rotate_left
             ·
              simp only [Act.put,zzq,zzr,zzs,i64_w,i32_w];rfl
             refine one_ (i:=1) (N:=some 60) (zzB 19 3) rfl rfl (one_of HT_.out (by kernel_rfl)) (by decide) (fun K hK=>?_);refine goes_ Try.func58 (by kernel_rfl) rfl #[.agg #[.int .i64 ((rd_T34 l0_5 x54_3).f0),.int .i64 ((rd_T34 l0_5 x54_3).f1),.bool ((rd_T34 l0_5 x54_3).f2),.slice A261_3 ((rd_T34 l0_5 x54_3).f3).length c261_3,.bool ((rd_T34 l0_5 x54_3).f4),.slice A261_5 ((rd_T34 l0_5 x54_3).f5).length c261_5]] (by rfl) rfl rfl zzM2 ?_;with_reducible refine (impl_RecordValid.calls k3 ((rd_T34 l0_5 x54_3).f0) ((rd_T34 l0_5 x54_3).f1) ((rd_T34 l0_5 x54_3).f2) _ _ ((rd_T34 l0_5 x54_3).f3) ((rd_T34 l0_5 x54_3).f4) _ _ ((rd_T34 l0_5 x54_3).f5) true _ ?side1 ?side2 ?side3 ?side4 A35.out).mono ?_
             (case side1=>repeat (first|exact (Kd.C_below HR261_3.out HB.out)|(with_reducible refine Kd.C_alloc ?_ _)|(with_reducible refine Kd.C_drewN ?_ _)|(with_reducible refine Kd.C_drew ?_)))
             (case side2=>exact HC261_3.out)
             (case side3=>repeat (first|exact (Kd.C_below HR261_5.out HB.out)|(with_reducible refine Kd.C_alloc ?_ _)|(with_reducible refine Kd.C_drewN ?_ _)|(with_reducible refine Kd.C_drew ?_)))
             (case side4=>exact HC261_5.out);rintro e w59 ⟨rfl,hb⟩;refine ⟨_,rfl,?_⟩;have n0_:=zzm (zzh (g:=gb256) (o:=.cells #[.bool a0_0,.bool a0_1,.int .i64 a0_2,.int .i64 a0_3,.int .i64 a0_4,.slice (some ad261) l0_5.length c0_5] 27 (0,0)) (zzE BK256.out) hb);have n1_:=zzm (zzh (g:=gb262) (o:=.cells #[.int .i64 ((rd_T34 l0_5 x54_3).f0),.int .i64 ((rd_T34 l0_5 x54_3).f1),.bool ((rd_T34 l0_5 x54_3).f2),.slice A261_3 ((rd_T34 l0_5 x54_3).f3).length c261_3,.bool ((rd_T34 l0_5 x54_3).f4),.slice A261_5 ((rd_T34 l0_5 x54_3).f5).length c261_5] 34 (0,0)) (zzE BK262.out) hb);have n2_:=zzm (zzp zzh2 hb);clear BK256 BK262 HB;have BK256:=n0_;have BK262:=n1_;have HB:=n2_;clear n0_ n1_ n2_
             (try clear hb)
             (try clear hb2)
             (try clear hk)
             (try clear hi);refine hK.out _ _ ⟨(zzk BK262.out 0).trans rfl,(zzk BK262.out 1).trans rfl,(zzk BK262.out 2).trans rfl,(zzk BK262.out 3).trans rfl,(zzk BK262.out 4).trans rfl,(zzk BK262.out 5).trans rfl⟩ (fun hHeld=>?_);clear hK K;refine norm_ (a':=?_) ?_ ?_;rotate_left
             ·
              show Act.put _ (some 60) _ = _;simp only [Act.put,zzq,zzr,zzs,i64_w,i32_w];rfl
             refine pure_ (i:=2) (N:=some 61) (v:=?_) (a':=?_) (zzB 19 7) rfl rfl (zzA2 HT_.out) (fun _ _ _ h=>h) (Or.inl ⟨by rfl,?_⟩) ?_ ?_;rotate_left
             ·
              intro w';go_simp;with_reducible rfl
             rotate_left
             ·
              simp only [Act.put,zzq,zzr,zzs,i64_w,i32_w];rfl
             refine pure_ (i:=3) (N:=some 62) (v:=?_) (a':=?_) (zzB 19 15) rfl rfl (zzA2 HT_.out) (fun _ _ _ h=>h) (Or.inl ⟨by rfl,?_⟩) ?_ ?_;rotate_left
             ·
              intro w';go_simp;with_reducible rfl
             rotate_left
             ·
              simp only [Act.put,zzq,zzr,zzs,i64_w,i32_w];rfl
             refine pure_ (i:=4) (N:=some 63) (v:=?_) (a':=?_) (zzB 19 31) rfl rfl (zzA2 HT_.out) (fun _ _ _ h=>h) (Or.inl ⟨by rfl,?_⟩) ?_ ?_;rotate_left
             ·
              intro w';go_simp;with_reducible rfl
             rotate_left
             ·
              simp only [Act.put,zzq,zzr,zzs,i64_w,i32_w];rfl
             refine pure_ (i:=5) (N:=some 64) (v:=?_) (a':=?_) (zzB 19 63) rfl rfl (zzA2 HT_.out) (fun _ _ _ h=>h) (Or.inl ⟨by rfl,?_⟩) ?_ ?_;rotate_left
             ·
              intro w';go_simp;with_reducible rfl
             rotate_left
             ·
              simp only [Act.put,zzq,zzr,zzs,i64_w,i32_w];rfl
             refine pure_ (i:=6) (N:=some 65) (v:=?_) (a':=?_) (zzB 19 127) rfl rfl (zzA2 HT_.out) (fun _ _ _ h=>h) (Or.inl ⟨by rfl,?_⟩) ?_ ?_;rotate_left
             ·
              intro w';go_simp;with_reducible rfl
             rotate_left
             ·
              simp only [Act.put,zzq,zzr,zzs,i64_w,i32_w];rfl
             refine pure_ (i:=7) (N:=some 66) (v:=undef) (a':=?_) (zzB 19 255) rfl rfl (zzA2 HT_.out) (fun _ _ _ h=>h) (Or.inr ⟨by rfl,rfl⟩) ?_ ?_;rotate_left
             ·
              simp only [Act.put,zzq,zzr,zzs,i64_w,i32_w];rfl
             refine pure_ (i:=8) (N:=some 67) (v:=undef) (a':=?_) (zzB 19 511) rfl rfl (zzA2 HT_.out) (fun _ _ _ h=>h) (Or.inr ⟨by rfl,rfl⟩) ?_ ?_;rotate_left
             ·
              simp only [Act.put,zzq,zzr,zzs,i64_w,i32_w];rfl
             refine pure_ (i:=9) (N:=some 68) (v:=undef) (a':=?_) (zzB 19 1023) rfl rfl (zzA2 HT_.out) (fun _ _ _ h=>h) (Or.inr ⟨by rfl,rfl⟩) ?_ ?_;rotate_left
             ·
              simp only [Act.put,zzq,zzr,zzs,i64_w,i32_w];rfl
             refine pure_ (i:=10) (N:=some 69) (v:=undef) (a':=?_) (zzB 19 2047) rfl rfl (zzA2 HT_.out) (fun _ _ _ h=>h) (Or.inr ⟨by rfl,rfl⟩) ?_ ?_;rotate_left
             ·
              simp only [Act.put,zzq,zzr,zzs,i64_w,i32_w];rfl
             refine pure_ (i:=11) (N:=some 70) (v:=undef) (a':=?_) (zzB 19 4095) rfl rfl (zzA2 HT_.out) (fun _ _ _ h=>h) (Or.inr ⟨by rfl,rfl⟩) ?_ ?_;rotate_left
             ·
              simp only [Act.put,zzq,zzr,zzs,i64_w,i32_w];rfl
             refine pure_ (i:=12) (N:=some 71) (v:=undef) (a':=?_) (zzB 19 8191) rfl rfl (zzA2 HT_.out) (fun _ _ _ h=>h) (Or.inr ⟨by rfl,rfl⟩) ?_ ?_;rotate_left
             ·
              simp only [Act.put,zzq,zzr,zzs,i64_w,i32_w];rfl
             refine pure_ (i:=13) (N:=some 72) (v:=undef) (a':=?_) (zzB 19 16383) rfl rfl (zzA2 HT_.out) (fun _ _ _ h=>h) (Or.inr ⟨by rfl,rfl⟩) ?_ ?_;rotate_left
             ·
              simp only [Act.put,zzq,zzr,zzs,i64_w,i32_w];rfl
             refine pure_ (i:=14) (N:=some 73) (v:=undef) (a':=?_) (zzB 19 32767) rfl rfl (zzA2 HT_.out) (fun _ _ _ h=>h) (Or.inr ⟨by rfl,rfl⟩) ?_ ?_;rotate_left
             ·
              simp only [Act.put,zzq,zzr,zzs,i64_w,i32_w];rfl
             refine pure_ (i:=15) (N:=some 74) (v:=undef) (a':=?_) (zzB 19 65535) rfl rfl (zzA2 HT_.out) (fun _ _ _ h=>h) (Or.inr ⟨by rfl,rfl⟩) ?_ ?_;rotate_left
             ·
              simp only [Act.put,zzq,zzr,zzs,i64_w,i32_w];rfl
             refine pure_ (i:=16) (N:=some 75) (v:=undef) (a':=?_) (zzB 19 131071) rfl rfl (zzA2 HT_.out) (fun _ _ _ h=>h) (Or.inr ⟨by rfl,rfl⟩) ?_ ?_;rotate_left
             ·
              simp only [Act.put,zzq,zzr,zzs,i64_w,i32_w];rfl
             refine pure_ (i:=17) (N:=some 76) (v:=?_) (a':=?_) (zzB 19 262143) rfl rfl (zzA2 HT_.out) (fun _ _ _ h=>h) (Or.inl ⟨by rfl,?_⟩) ?_ ?_;rotate_left
             ·
              intro w';go_simp;with_reducible rfl
             rotate_left
             ·
              simp only [Act.put,zzq,zzr,zzs,i64_w,i32_w];rfl
             refine pure_ (i:=18) (N:=some 77) (v:=?_) (a':=?_) (zzB 19 524287) rfl rfl (zzA2 HT_.out) (fun _ _ _ h=>h) (Or.inl ⟨by rfl,?_⟩) ?_ ?_;rotate_left
             ·
              intro w';go_simp;with_reducible rfl
             rotate_left
             ·
              simp only [Act.put,zzq,zzr,zzs,i64_w,i32_w];rfl
             refine done_ (done_of HT_.out (by kernel_rfl)) ?_;try go_wp2
             go_roundg k3
             case measure=>have:=HJ1.out;have:=HJ22.out;have:=HK3.out;omega
             case rel=>exact ⟨(wrap64 (x54_3+1)),(by first|rfl|(simp;done)|(simp [*];done)),H',⟨by have:=HJ1.out;have:=HJ22.out;have:=HK3.out;omega⟩,⟨by (with_reducible repeat (first|apply zzf|apply zzg|apply zze));exact BK256.out⟩,⟨by repeat (first|(with_reducible first|exact HB.out|apply zza|apply zzb|apply zzc|refine zzd ?_ GE256.out|refine zzd ?_ GE262.out)|exact HB.out)⟩⟩
           ·
            replace c36:=Bool.eq_false_iff.mpr c36;subst c36;have H1:(some false)=some r:=by rw [if_neg (show ¬ (false=true) by decide)] at H;exact H
            clear H;have H:=H1;clear H1;obtain rfl:=Option.some.inj H;have p261 : 0≤(x54_3:Int):=zzt;have q261:x54_3 < (l0_5.length:Int):=zzt;obtain ⟨ad261,A261_3,c261_3,A261_5,c261_5,e261,hx261_0,hx261_1,hx261_2,hx261_3,hx261_4,hx261_5,hl261_3,hi261_3,hl261_5,hi261_5⟩:=at_T34 HR0_5.out x54_3 p261 q261;cases e261;replace hx261_0:=zzx HB.out hx261_0;replace hx261_1:=zzx HB.out hx261_1;replace hx261_2:=zzx HB.out hx261_2;replace hx261_3:=zzx HB.out hx261_3;replace hx261_4:=zzx HB.out hx261_4;replace hx261_5:=zzx HB.out hx261_5;have HR261_3:=zzm hi261_3;have HC261_3:=zzm hl261_3;clear hi261_3 hl261_3;have HR261_5:=zzm hi261_5;have HC261_5:=zzm hl261_5;clear hi261_5 hl261_5;replace p261:=eq_true p261;replace q261:=eq_true q261;try go_wp2_with (first|((with_reducible refine gate_dst (N:=4) rfl ?_);(try (refine gate_guard (by rfl) ?_;dsimp only));refine box_event ?hg (N:=4) ?hd (cs:=#[.int .i64 0,.int .i64 0,.bool false,.slice none 0 0,.bool false,.slice none 0 0]) (t:=34) ?hr ?_;(case hd=>rfl);(case hg=>rfl);(case hr=>first|(go_simp;done)|(go_simp;rfl));intro gb262 hg w60 hbox hb;have n0_:=zzm (zzh (g:=gb256) (o:=.cells #[.bool a0_0,.bool a0_1,.int .i64 a0_2,.int .i64 a0_3,.int .i64 a0_4,.slice (some ad261) l0_5.length c0_5] 27 (0,0)) (zzE BK256.out) hb);have n1_:=zzm (zzp zzh2 hb);have n2_:=zzm (hbox);have n3_:=zzm ((by rw [hg];exact (zzo zzh2):w.heap.size≤gb262));have n4_:=zzm ((by rw [hg];exact (zzo zzh2):w.heap.size≤gb262));have n5_:=zzm ((by rw [hg];exact Nat.ne_of_lt (blk_lt (g:=gb256) (o:=.cells #[.bool a0_0,.bool a0_1,.int .i64 a0_2,.int .i64 a0_3,.int .i64 a0_4,.slice (some ad261) l0_5.length c0_5] 27 (0,0)) (zzE BK256.out)):gb256≠gb262));have n6_:=zzm ((by rw [hg];exact Nat.ne_of_gt (blk_lt (g:=gb256) (o:=.cells #[.bool a0_0,.bool a0_1,.int .i64 a0_2,.int .i64 a0_3,.int .i64 a0_4,.slice (some ad261) l0_5.length c0_5] 27 (0,0)) (zzE BK256.out)):gb262≠gb256));clear BK256 HB;have BK256:=n0_;have HB:=n1_;have BK262:=n2_;have GW262:=n3_;have GE262:=n4_;have NB256_262:=n5_;have NB262_256:=n6_;clear n0_ n1_ n2_ n3_ n4_ n5_ n6_ hb hbox hg;have hnb61:=NB262_256.out;have hnc61:=NB256_262.out;obtain ⟨hcz62_0,hcz62_1,hcz62_2,hcz62_3,hcz62_4,hcz62_5,hfz62_0,hfz62_1,hfz62_2,hfz62_3,hfz62_4,hfz62_5⟩:=zzc6 BK262.out))
            have n0_:Aside0 (((((((w60.setCell ⟨gb262,0,none⟩ (.int .i64 ((rd_T34 l0_5 x54_3).f0))).setCell ⟨gb262,1,none⟩ (.int .i64 ((rd_T34 l0_5 x54_3).f1))).setCell ⟨gb262,2,none⟩ (.bool ((rd_T34 l0_5 x54_3).f2))).setCell ⟨gb262,3,none⟩ (.slice A261_3 ((rd_T34 l0_5 x54_3).f3).length c261_3)).setCell ⟨gb262,4,none⟩ (.bool ((rd_T34 l0_5 x54_3).f4))).setCell ⟨gb262,5,none⟩ (.slice A261_5 ((rd_T34 l0_5 x54_3).f5).length c261_5)).heap[gb256]? = some (.cells #[.bool a0_0,.bool a0_1,.int .i64 a0_2,.int .i64 a0_3,.int .i64 a0_4,.slice (some ad261) l0_5.length c0_5] 27 (0,0))):=⟨by (with_reducible repeat (first|apply zzf|apply zzg|apply zze));refine zzj ?_ NB256_262.out _;(with_reducible repeat (first|apply zzf|apply zzg|apply zze));refine zzj ?_ NB256_262.out _;(with_reducible repeat (first|apply zzf|apply zzg|apply zze));refine zzj ?_ NB256_262.out _;(with_reducible repeat (first|apply zzf|apply zzg|apply zze));refine zzj ?_ NB256_262.out _;(with_reducible repeat (first|apply zzf|apply zzg|apply zze));refine zzj ?_ NB256_262.out _;(with_reducible repeat (first|apply zzf|apply zzg|apply zze));refine zzj ?_ NB256_262.out _;(with_reducible repeat (first|apply zzf|apply zzg|apply zze));exact BK256.out⟩;have n1_:Aside0 (((((((w60.setCell ⟨gb262,0,none⟩ (.int .i64 ((rd_T34 l0_5 x54_3).f0))).setCell ⟨gb262,1,none⟩ (.int .i64 ((rd_T34 l0_5 x54_3).f1))).setCell ⟨gb262,2,none⟩ (.bool ((rd_T34 l0_5 x54_3).f2))).setCell ⟨gb262,3,none⟩ (.slice A261_3 ((rd_T34 l0_5 x54_3).f3).length c261_3)).setCell ⟨gb262,4,none⟩ (.bool ((rd_T34 l0_5 x54_3).f4))).setCell ⟨gb262,5,none⟩ (.slice A261_5 ((rd_T34 l0_5 x54_3).f5).length c261_5)).heap[gb262]? = some (.cells #[.int .i64 ((rd_T34 l0_5 x54_3).f0),.int .i64 ((rd_T34 l0_5 x54_3).f1),.bool ((rd_T34 l0_5 x54_3).f2),.slice A261_3 ((rd_T34 l0_5 x54_3).f3).length c261_3,.bool ((rd_T34 l0_5 x54_3).f4),.slice A261_5 ((rd_T34 l0_5 x54_3).f5).length c261_5] 34 (0,0))):=⟨by (with_reducible repeat (first|apply zzf|apply zzg|apply zze));refine zzi (cs:=#[.int .i64 ((rd_T34 l0_5 x54_3).f0),.int .i64 ((rd_T34 l0_5 x54_3).f1),.bool ((rd_T34 l0_5 x54_3).f2),.slice A261_3 ((rd_T34 l0_5 x54_3).f3).length c261_3,.bool ((rd_T34 l0_5 x54_3).f4),.slice none 0 0]) ?_ 5 _ rfl;(with_reducible repeat (first|apply zzf|apply zzg|apply zze));refine zzi (cs:=#[.int .i64 ((rd_T34 l0_5 x54_3).f0),.int .i64 ((rd_T34 l0_5 x54_3).f1),.bool ((rd_T34 l0_5 x54_3).f2),.slice A261_3 ((rd_T34 l0_5 x54_3).f3).length c261_3,.bool false,.slice none 0 0]) ?_ 4 _ rfl;(with_reducible repeat (first|apply zzf|apply zzg|apply zze));refine zzi (cs:=#[.int .i64 ((rd_T34 l0_5 x54_3).f0),.int .i64 ((rd_T34 l0_5 x54_3).f1),.bool ((rd_T34 l0_5 x54_3).f2),.slice none 0 0,.bool false,.slice none 0 0]) ?_ 3 _ rfl;(with_reducible repeat (first|apply zzf|apply zzg|apply zze));refine zzi (cs:=#[.int .i64 ((rd_T34 l0_5 x54_3).f0),.int .i64 ((rd_T34 l0_5 x54_3).f1),.bool false,.slice none 0 0,.bool false,.slice none 0 0]) ?_ 2 _ rfl;(with_reducible repeat (first|apply zzf|apply zzg|apply zze));refine zzi (cs:=#[.int .i64 ((rd_T34 l0_5 x54_3).f0),.int .i64 0,.bool false,.slice none 0 0,.bool false,.slice none 0 0]) ?_ 1 _ rfl;(with_reducible repeat (first|apply zzf|apply zzg|apply zze));refine zzi (cs:=#[.int .i64 0,.int .i64 0,.bool false,.slice none 0 0,.bool false,.slice none 0 0]) ?_ 0 _ rfl;(with_reducible repeat (first|apply zzf|apply zzg|apply zze));exact BK262.out⟩;have n2_:Aside0 (Below w.heap.size w ((((((w60.setCell ⟨gb262,0,none⟩ (.int .i64 ((rd_T34 l0_5 x54_3).f0))).setCell ⟨gb262,1,none⟩ (.int .i64 ((rd_T34 l0_5 x54_3).f1))).setCell ⟨gb262,2,none⟩ (.bool ((rd_T34 l0_5 x54_3).f2))).setCell ⟨gb262,3,none⟩ (.slice A261_3 ((rd_T34 l0_5 x54_3).f3).length c261_3)).setCell ⟨gb262,4,none⟩ (.bool ((rd_T34 l0_5 x54_3).f4))).setCell ⟨gb262,5,none⟩ (.slice A261_5 ((rd_T34 l0_5 x54_3).f5).length c261_5))):=⟨by repeat (first|(with_reducible first|exact HB.out|apply zza|apply zzb|apply zzc|refine zzd ?_ GE256.out|refine zzd ?_ GE262.out)|exact HB.out)⟩
            (try clear BK256)
            (try clear BK262)
            (try clear HB);generalize ((((((w60.setCell ⟨gb262,0,none⟩ (.int .i64 ((rd_T34 l0_5 x54_3).f0))).setCell ⟨gb262,1,none⟩ (.int .i64 ((rd_T34 l0_5 x54_3).f1))).setCell ⟨gb262,2,none⟩ (.bool ((rd_T34 l0_5 x54_3).f2))).setCell ⟨gb262,3,none⟩ (.slice A261_3 ((rd_T34 l0_5 x54_3).f3).length c261_3)).setCell ⟨gb262,4,none⟩ (.bool ((rd_T34 l0_5 x54_3).f4))).setCell ⟨gb262,5,none⟩ (.slice A261_5 ((rd_T34 l0_5 x54_3).f5).length c261_5))=w63 at n0_ n1_ n2_ ⊢;have BK256:=n0_;have BK262:=n1_;have HB:=n2_;clear n0_ n1_ n2_;have n0_:=zzm (zzg BK256.out);have n1_:=zzm (zzg BK262.out);have n2_:=zzm (zzc HB.out);clear BK256 BK262 HB;have BK256:=n0_;have BK262:=n1_;have HB:=n2_;clear n0_ n1_ n2_;refine start_ (n:=19) (S:=fun w'=>w'.cell? ⟨gb262,0,none⟩=some (.int .i64 ((rd_T34 l0_5 x54_3).f0))∧w'.cell? ⟨gb262,1,none⟩=some (.int .i64 ((rd_T34 l0_5 x54_3).f1))∧w'.cell? ⟨gb262,2,none⟩=some (.bool ((rd_T34 l0_5 x54_3).f2))∧w'.cell? ⟨gb262,3,none⟩=some (.slice A261_3 ((rd_T34 l0_5 x54_3).f3).length c261_3)∧w'.cell? ⟨gb262,4,none⟩=some (.bool ((rd_T34 l0_5 x54_3).f4))∧w'.cell? ⟨gb262,5,none⟩=some (.slice A261_5 ((rd_T34 l0_5 x54_3).f5).length c261_5)) (ds:=[]) (zzB 19 0) (by kernel_rfl) rfl rfl ⟨(zzk BK262.out 0).trans rfl,(zzk BK262.out 1).trans rfl,(zzk BK262.out 2).trans rfl,(zzk BK262.out 3).trans rfl,(zzk BK262.out 4).trans rfl,(zzk BK262.out 5).trans rfl⟩ (fun hHeld=>?_);refine with_tabW impl_BatchValid.tab11 impl_BatchValid.bits11 (fun HT_ HW_=>?_);generalize w63.drew=w64 at BK256 BK262 HB hHeld ⊢;refine take_ (i:=0) (N:=some 59) (v:=?_) (a':=?_) (zzB 19 1) rfl rfl (take_ofW HT_.out HW_.out (by kernel_rfl)) (fun _ _ _ h=>h) (Or.inl ⟨by rfl,?_⟩) hHeld ?_ ?_;rotate_left
            ·
             rintro w' ⟨s0,s1,s2,s3,s4,s5⟩;go_simp;with_reducible rfl
            rotate_left
            ·
             simp only [Act.put,zzq,zzr,zzs,i64_w,i32_w];rfl
            refine one_ (i:=1) (N:=some 60) (zzB 19 3) rfl rfl (one_of HT_.out (by kernel_rfl)) (by decide) (fun K hK=>?_);refine goes_ Try.func58 (by kernel_rfl) rfl #[.agg #[.int .i64 ((rd_T34 l0_5 x54_3).f0),.int .i64 ((rd_T34 l0_5 x54_3).f1),.bool ((rd_T34 l0_5 x54_3).f2),.slice A261_3 ((rd_T34 l0_5 x54_3).f3).length c261_3,.bool ((rd_T34 l0_5 x54_3).f4),.slice A261_5 ((rd_T34 l0_5 x54_3).f5).length c261_5]] (by rfl) rfl rfl zzM2 ?_;with_reducible refine (impl_RecordValid.calls k3 ((rd_T34 l0_5 x54_3).f0) ((rd_T34 l0_5 x54_3).f1) ((rd_T34 l0_5 x54_3).f2) _ _ ((rd_T34 l0_5 x54_3).f3) ((rd_T34 l0_5 x54_3).f4) _ _ ((rd_T34 l0_5 x54_3).f5) false _ ?side1 ?side2 ?side3 ?side4 A35.out).mono ?_
            (case side1=>repeat (first|exact (Kd.C_below HR261_3.out HB.out)|(with_reducible refine Kd.C_alloc ?_ _)|(with_reducible refine Kd.C_drewN ?_ _)|(with_reducible refine Kd.C_drew ?_)))
            (case side2=>exact HC261_3.out)
            (case side3=>repeat (first|exact (Kd.C_below HR261_5.out HB.out)|(with_reducible refine Kd.C_alloc ?_ _)|(with_reducible refine Kd.C_drewN ?_ _)|(with_reducible refine Kd.C_drew ?_)))
            (case side4=>exact HC261_5.out);rintro e w65 ⟨rfl,hb⟩;refine ⟨_,rfl,?_⟩;have n0_:=zzm (zzh (g:=gb256) (o:=.cells #[.bool a0_0,.bool a0_1,.int .i64 a0_2,.int .i64 a0_3,.int .i64 a0_4,.slice (some ad261) l0_5.length c0_5] 27 (0,0)) (zzE BK256.out) hb);have n1_:=zzm (zzh (g:=gb262) (o:=.cells #[.int .i64 ((rd_T34 l0_5 x54_3).f0),.int .i64 ((rd_T34 l0_5 x54_3).f1),.bool ((rd_T34 l0_5 x54_3).f2),.slice A261_3 ((rd_T34 l0_5 x54_3).f3).length c261_3,.bool ((rd_T34 l0_5 x54_3).f4),.slice A261_5 ((rd_T34 l0_5 x54_3).f5).length c261_5] 34 (0,0)) (zzE BK262.out) hb);have n2_:=zzm (zzp zzh2 hb);clear BK256 BK262 HB;have BK256:=n0_;have BK262:=n1_;have HB:=n2_;clear n0_ n1_ n2_
            (try clear hb)
            (try clear hb2)
            (try clear hk)
            (try clear hi);refine hK.out _ _ ⟨(zzk BK262.out 0).trans rfl,(zzk BK262.out 1).trans rfl,(zzk BK262.out 2).trans rfl,(zzk BK262.out 3).trans rfl,(zzk BK262.out 4).trans rfl,(zzk BK262.out 5).trans rfl⟩ (fun hHeld=>?_);clear hK K;refine norm_ (a':=?_) ?_ ?_;rotate_left
            ·
             show Act.put _ (some 60) _ = _;simp only [Act.put,zzq,zzr,zzs,i64_w,i32_w];rfl
            refine pure_ (i:=2) (N:=some 61) (v:=?_) (a':=?_) (zzB 19 7) rfl rfl (zzA2 HT_.out) (fun _ _ _ h=>h) (Or.inl ⟨by rfl,?_⟩) ?_ ?_;rotate_left
            ·
             intro w';go_simp;with_reducible rfl
            rotate_left
            ·
             simp only [Act.put,zzq,zzr,zzs,i64_w,i32_w];rfl
            refine pure_ (i:=3) (N:=some 62) (v:=?_) (a':=?_) (zzB 19 15) rfl rfl (zzA2 HT_.out) (fun _ _ _ h=>h) (Or.inl ⟨by rfl,?_⟩) ?_ ?_;rotate_left
            ·
             intro w';go_simp;with_reducible rfl
            rotate_left
            ·
             simp only [Act.put,zzq,zzr,zzs,i64_w,i32_w];rfl
            refine pure_ (i:=4) (N:=some 63) (v:=undef) (a':=?_) (zzB 19 31) rfl rfl (zzA2 HT_.out) (fun _ _ _ h=>h) (Or.inr ⟨by rfl,rfl⟩) ?_ ?_;rotate_left
            ·
             simp only [Act.put,zzq,zzr,zzs,i64_w,i32_w];rfl
            refine pure_ (i:=5) (N:=some 64) (v:=undef) (a':=?_) (zzB 19 63) rfl rfl (zzA2 HT_.out) (fun _ _ _ h=>h) (Or.inr ⟨by rfl,rfl⟩) ?_ ?_;rotate_left
            ·
             simp only [Act.put,zzq,zzr,zzs,i64_w,i32_w];rfl
            refine pure_ (i:=6) (N:=some 65) (v:=undef) (a':=?_) (zzB 19 127) rfl rfl (zzA2 HT_.out) (fun _ _ _ h=>h) (Or.inr ⟨by rfl,rfl⟩) ?_ ?_;rotate_left
            ·
             simp only [Act.put,zzq,zzr,zzs,i64_w,i32_w];rfl
            refine pure_ (i:=7) (N:=some 66) (v:=undef) (a':=?_) (zzB 19 255) rfl rfl (zzA2 HT_.out) (fun _ _ _ h=>h) (Or.inr ⟨by rfl,rfl⟩) ?_ ?_;rotate_left
            ·
             simp only [Act.put,zzq,zzr,zzs,i64_w,i32_w];rfl
            refine pure_ (i:=8) (N:=some 67) (v:=undef) (a':=?_) (zzB 19 511) rfl rfl (zzA2 HT_.out) (fun _ _ _ h=>h) (Or.inr ⟨by rfl,rfl⟩) ?_ ?_;rotate_left
            ·
             simp only [Act.put,zzq,zzr,zzs,i64_w,i32_w];rfl
            refine pure_ (i:=9) (N:=some 68) (v:=undef) (a':=?_) (zzB 19 1023) rfl rfl (zzA2 HT_.out) (fun _ _ _ h=>h) (Or.inr ⟨by rfl,rfl⟩) ?_ ?_;rotate_left
            ·
             simp only [Act.put,zzq,zzr,zzs,i64_w,i32_w];rfl
            refine pure_ (i:=10) (N:=some 69) (v:=undef) (a':=?_) (zzB 19 2047) rfl rfl (zzA2 HT_.out) (fun _ _ _ h=>h) (Or.inr ⟨by rfl,rfl⟩) ?_ ?_;rotate_left
            ·
             simp only [Act.put,zzq,zzr,zzs,i64_w,i32_w];rfl
            refine pure_ (i:=11) (N:=some 70) (v:=undef) (a':=?_) (zzB 19 4095) rfl rfl (zzA2 HT_.out) (fun _ _ _ h=>h) (Or.inr ⟨by rfl,rfl⟩) ?_ ?_;rotate_left
            ·
             simp only [Act.put,zzq,zzr,zzs,i64_w,i32_w];rfl
            refine pure_ (i:=12) (N:=some 71) (v:=undef) (a':=?_) (zzB 19 8191) rfl rfl (zzA2 HT_.out) (fun _ _ _ h=>h) (Or.inr ⟨by rfl,rfl⟩) ?_ ?_;rotate_left
            ·
             simp only [Act.put,zzq,zzr,zzs,i64_w,i32_w];rfl
            refine pure_ (i:=13) (N:=some 72) (v:=undef) (a':=?_) (zzB 19 16383) rfl rfl (zzA2 HT_.out) (fun _ _ _ h=>h) (Or.inr ⟨by rfl,rfl⟩) ?_ ?_;rotate_left
            ·
             simp only [Act.put,zzq,zzr,zzs,i64_w,i32_w];rfl
            refine pure_ (i:=14) (N:=some 73) (v:=undef) (a':=?_) (zzB 19 32767) rfl rfl (zzA2 HT_.out) (fun _ _ _ h=>h) (Or.inr ⟨by rfl,rfl⟩) ?_ ?_;rotate_left
            ·
             simp only [Act.put,zzq,zzr,zzs,i64_w,i32_w];rfl
            refine pure_ (i:=15) (N:=some 74) (v:=undef) (a':=?_) (zzB 19 65535) rfl rfl (zzA2 HT_.out) (fun _ _ _ h=>h) (Or.inr ⟨by rfl,rfl⟩) ?_ ?_;rotate_left
            ·
             simp only [Act.put,zzq,zzr,zzs,i64_w,i32_w];rfl
            refine pure_ (i:=16) (N:=some 75) (v:=undef) (a':=?_) (zzB 19 131071) rfl rfl (zzA2 HT_.out) (fun _ _ _ h=>h) (Or.inr ⟨by rfl,rfl⟩) ?_ ?_;rotate_left
            ·
             simp only [Act.put,zzq,zzr,zzs,i64_w,i32_w];rfl
            refine pure_ (i:=17) (N:=some 76) (v:=undef) (a':=?_) (zzB 19 262143) rfl rfl (zzA2 HT_.out) (fun _ _ _ h=>h) (Or.inr ⟨by rfl,rfl⟩) ?_ ?_;rotate_left
            ·
             simp only [Act.put,zzq,zzr,zzs,i64_w,i32_w];rfl
            refine pure_ (i:=18) (N:=some 77) (v:=?_) (a':=?_) (zzB 19 524287) rfl rfl (zzA2 HT_.out) (fun _ _ _ h=>h) (Or.inl ⟨by rfl,?_⟩) ?_ ?_;rotate_left
            ·
             intro w';go_simp;with_reducible rfl
            rotate_left
            ·
             simp only [Act.put,zzq,zzr,zzs,i64_w,i32_w];rfl
            refine done_ (done_of HT_.out (by kernel_rfl)) ?_;try go_wp2
            go_ret;exact ⟨by first|rfl|(simp [errW_none,errW_some] <;> rfl)|(simp [*,errW_none,errW_some] <;> rfl),by repeat (first|(with_reducible first|exact HB.out|apply zza|apply zzb|apply zzc|refine zzd ?_ GE256.out|refine zzd ?_ GE262.out)|exact HB.out)⟩
          ·
           rw [if_neg c34] at H;exact absurd H (by simp)
         ·
          rw [if_neg c33] at H;exact absurd H (by simp)
        ·
         rw [if_neg c32] at H;have c32b0:decide (x54_3 < (l0_5.length:Int))=false:=decide_eq_false c32;clear c32;obtain rfl:=Option.some.inj H;go_wp2;go_ret;exact ⟨by first|rfl|(simp [errW_none,errW_some] <;> rfl)|(simp [*,errW_none,errW_some] <;> rfl),by repeat (first|(with_reducible first|exact HB.out|apply zza|apply zzb|apply zzc|refine zzd ?_ GE256.out)|exact HB.out)⟩
def impl_Batch_first.f (a0_0:Bool) (a0_1:Bool) (a0_2:Int) (a0_3:Int) (a0_4:Int) (l0_5:List (S34)):Option (Int):=if 0 < (l0_5.length:Int) then (some ((rd_T34 l0_5 0).f0)) else (none)
set_option maxHeartbeats 8000000 in
set_option maxRecDepth 100000 in
theorem impl_Batch_first.calls (a0_0:Bool) (a0_1:Bool) (a0_2:Int) (a0_3:Int) (a0_4:Int) (A0_5:Option Addr) (c0_5:Nat) (l0_5:List (S34)) (r:Int) (w:World) (hr0_5:Kd.C k34 w A0_5 l0_5.length l0_5) (hc0_5:l0_5.length≤c0_5) (h:impl_Batch_first.f a0_0 a0_1 a0_2 a0_3 a0_4 l0_5=some r) :
  Calls Try.prog 63 #[.agg #[.bool a0_0,.bool a0_1,.int .i64 a0_2,.int .i64 a0_3,.int .i64 a0_4,.slice A0_5 l0_5.length c0_5]] w fun e w'=>e = .returned (.int .i64 r)∧Below w.heap.size w w':=by
 have hu27:=Try.underlying27;have HR0_5:=zzm hr0_5;have HC0_5:=zzm hc0_5;clear hr0_5 hc0_5;have HB:=zzm (Below.refl w.heap.size w);have H:(if 0 < (l0_5.length:Int) then (some ((rd_T34 l0_5 0).f0)) else (none))=some r:=h;clear h;by_cases c2 : 0 < (l0_5.length:Int)
 ·
  rw [if_pos c2] at H;have c2b0:decide (0 < (l0_5.length:Int))=true:=decide_eq_true c2;have c2b1:decide (0 < l0_5.length)=true:=decide_eq_true (by omega);clear c2;obtain rfl:=Option.some.inj H;go_enter Try.func63,Try.ntmps63;go_wp2_with (first|((with_reducible refine gate_dst (N:=1) rfl ?_);refine box_event ?hg (N:=1) ?hd (cs:=#[.bool a0_0,.bool a0_1,.int .i64 a0_2,.int .i64 a0_3,.int .i64 a0_4,.slice A0_5 l0_5.length c0_5]) (t:=27) ?hr ?_;(case hd=>rfl);(case hg=>rfl);(case hr=>first|(go_simp;done)|(go_simp;rfl));intro gb265 hg w3 hbox hb;have n0_:=zzm (zzp zzh1 hb);have n1_:=zzm (hbox);have n2_:=zzm ((by rw [hg];exact (zzo zzh1):w.heap.size≤gb265));have n3_:=zzm ((by rw [hg];exact (zzo zzh1):w.heap.size≤gb265));clear HB;have HB:=n0_;have BK265:=n1_;have GW265:=n2_;have GE265:=n3_;clear n0_ n1_ n2_ n3_ hb hbox hg;obtain ⟨hcz4_0,hcz4_1,hcz4_2,hcz4_3,hcz4_4,hcz4_5,hfz4_0,hfz4_1,hfz4_2,hfz4_3,hfz4_4,hfz4_5⟩:=zzc6 BK265.out;have p266 : 0≤(0:Int):=(by omega);have q266 : 0 < (l0_5.length:Int):=zzt;obtain ⟨ad266,A266_3,c266_3,A266_5,c266_5,e266,hx266_0,hx266_1,hx266_2,hx266_3,hx266_4,hx266_5,hl266_3,hi266_3,hl266_5,hi266_5⟩:=at_T34 HR0_5.out 0 p266 q266;cases e266;have qi266:(0 < l0_5.length)=True:=eq_true (by omega);(try rw [show ((0:Int)).toNat=0 from rfl] at hx266_0);(try rw [show 0 * 6=0 from rfl] at hx266_0);(try rw [Addr.add_zero'] at hx266_0);(try rw [show ((0:Int)).toNat=0 from rfl] at hx266_1);(try rw [show 0 * 6=0 from rfl] at hx266_1);(try rw [Addr.add_zero'] at hx266_1);(try rw [show ((0:Int)).toNat=0 from rfl] at hx266_2);(try rw [show 0 * 6=0 from rfl] at hx266_2);(try rw [Addr.add_zero'] at hx266_2);(try rw [show ((0:Int)).toNat=0 from rfl] at hx266_3);(try rw [show 0 * 6=0 from rfl] at hx266_3);(try rw [Addr.add_zero'] at hx266_3);(try rw [show ((0:Int)).toNat=0 from rfl] at hx266_4);(try rw [show 0 * 6=0 from rfl] at hx266_4);(try rw [Addr.add_zero'] at hx266_4);(try rw [show ((0:Int)).toNat=0 from rfl] at hx266_5);(try rw [show 0 * 6=0 from rfl] at hx266_5);(try rw [Addr.add_zero'] at hx266_5);replace hx266_0:=zzx HB.out hx266_0;replace hx266_1:=zzx HB.out hx266_1;replace hx266_2:=zzx HB.out hx266_2;replace hx266_3:=zzx HB.out hx266_3;replace hx266_4:=zzx HB.out hx266_4;replace hx266_5:=zzx HB.out hx266_5;have HR266_3:=zzm hi266_3;have HC266_3:=zzm hl266_3;clear hi266_3 hl266_3;have HR266_5:=zzm hi266_5;have HC266_5:=zzm hl266_5;clear hi266_5 hl266_5;replace p266:=eq_true p266;replace q266:=eq_true q266));go_ret;exact ⟨by first|rfl|(simp [errW_none,errW_some] <;> rfl)|(simp [*,errW_none,errW_some] <;> rfl),by repeat (first|(with_reducible first|exact HB.out|apply zza|apply zzb|apply zzc|refine zzd ?_ GE265.out)|exact HB.out)⟩
 ·
  rw [if_neg c2] at H;exact absurd H (by simp)
def impl_Batch_last.f (a0_0:Bool) (a0_1:Bool) (a0_2:Int) (a0_3:Int) (a0_4:Int) (l0_5:List (S34)):Option (Int):=if 0≤(wrap64 ((l0_5.length:Int) - 1)) then (if (wrap64 ((l0_5.length:Int) - 1)) < (l0_5.length:Int) then (some ((rd_T34 l0_5 (wrap64 ((l0_5.length:Int) - 1))).f0)) else (none)) else (none)
set_option maxHeartbeats 8000000 in
set_option maxRecDepth 100000 in
theorem impl_Batch_last.calls (a0_0:Bool) (a0_1:Bool) (a0_2:Int) (a0_3:Int) (a0_4:Int) (A0_5:Option Addr) (c0_5:Nat) (l0_5:List (S34)) (r:Int) (w:World) (hr0_5:Kd.C k34 w A0_5 l0_5.length l0_5) (hc0_5:l0_5.length≤c0_5) (h:impl_Batch_last.f a0_0 a0_1 a0_2 a0_3 a0_4 l0_5=some r) :
  Calls Try.prog 65 #[.agg #[.bool a0_0,.bool a0_1,.int .i64 a0_2,.int .i64 a0_3,.int .i64 a0_4,.slice A0_5 l0_5.length c0_5]] w fun e w'=>e = .returned (.int .i64 r)∧Below w.heap.size w w':=by
 have hu27:=Try.underlying27;have HR0_5:=zzm hr0_5;have HC0_5:=zzm hc0_5;clear hr0_5 hc0_5;have HB:=zzm (Below.refl w.heap.size w);have H:(if 0≤(wrap64 ((l0_5.length:Int) - 1)) then (if (wrap64 ((l0_5.length:Int) - 1)) < (l0_5.length:Int) then (some ((rd_T34 l0_5 (wrap64 ((l0_5.length:Int) - 1))).f0)) else (none)) else (none))=some r:=h;clear h;obtain ⟨ji2,hji2⟩:∃ j_:Int,(wrap64 ((l0_5.length:Int) - 1))=j_:=⟨_,rfl⟩;replace H:(if 0≤(ji2) then (if (ji2) < (l0_5.length:Int) then (some ((rd_T34 l0_5 (ji2)).f0)) else (none)) else (none))=some r:=by first|(rw [hji2] at H;exact H)|(simp only [hji2] at H ⊢;exact H)
 have hji2w:(IntKind.i64.wrap ((l0_5.length:Int) - 1))=ji2:=(i64_w _).trans hji2;by_cases c3 : 0≤(ji2)
 ·
  rw [if_pos c3] at H;have c3b0:decide (0≤(ji2))=true:=decide_eq_true c3;clear c3;by_cases c4:(ji2) < (l0_5.length:Int)
  ·
   rw [if_pos c4] at H;have c4b0:decide ((ji2) < (l0_5.length:Int))=true:=decide_eq_true c4;clear c4;obtain rfl:=Option.some.inj H;go_enter Try.func65,Try.ntmps65;go_wp2_with (first|((with_reducible refine gate_dst (N:=1) rfl ?_);refine box_event ?hg (N:=1) ?hd (cs:=#[.bool a0_0,.bool a0_1,.int .i64 a0_2,.int .i64 a0_3,.int .i64 a0_4,.slice A0_5 l0_5.length c0_5]) (t:=27) ?hr ?_;(case hd=>rfl);(case hg=>rfl);(case hr=>first|(go_simp;done)|(go_simp;rfl));intro gb267 hg w5 hbox hb;have n0_:=zzm (zzp zzh1 hb);have n1_:=zzm (hbox);have n2_:=zzm ((by rw [hg];exact (zzo zzh1):w.heap.size≤gb267));have n3_:=zzm ((by rw [hg];exact (zzo zzh1):w.heap.size≤gb267));clear HB;have HB:=n0_;have BK267:=n1_;have GW267:=n2_;have GE267:=n3_;clear n0_ n1_ n2_ n3_ hb hbox hg;obtain ⟨hcz6_0,hcz6_1,hcz6_2,hcz6_3,hcz6_4,hcz6_5,hfz6_0,hfz6_1,hfz6_2,hfz6_3,hfz6_4,hfz6_5⟩:=zzc6 BK267.out;have p268 : 0≤((ji2):Int):=zzt;have q268:(ji2) < (l0_5.length:Int):=zzt;obtain ⟨ad268,A268_3,c268_3,A268_5,c268_5,e268,hx268_0,hx268_1,hx268_2,hx268_3,hx268_4,hx268_5,hl268_3,hi268_3,hl268_5,hi268_5⟩:=at_T34 HR0_5.out (ji2) p268 q268;cases e268;replace hx268_0:=zzx HB.out hx268_0;replace hx268_1:=zzx HB.out hx268_1;replace hx268_2:=zzx HB.out hx268_2;replace hx268_3:=zzx HB.out hx268_3;replace hx268_4:=zzx HB.out hx268_4;replace hx268_5:=zzx HB.out hx268_5;have HR268_3:=zzm hi268_3;have HC268_3:=zzm hl268_3;clear hi268_3 hl268_3;have HR268_5:=zzm hi268_5;have HC268_5:=zzm hl268_5;clear hi268_5 hl268_5;replace p268:=eq_true p268;replace q268:=eq_true q268));go_ret;exact ⟨by first|rfl|(simp [errW_none,errW_some] <;> rfl)|(simp only [← hji2];first|rfl|(simp [errW_none,errW_some] <;> rfl))|(simp [*,errW_none,errW_some] <;> rfl),by repeat (first|(with_reducible first|exact HB.out|apply zza|apply zzb|apply zzc|refine zzd ?_ GE267.out)|exact HB.out)⟩
  ·
   rw [if_neg c4] at H;exact absurd H (by simp)
 ·
  rw [if_neg c3] at H;exact absurd H (by simp)
def impl_LogValid.l0:Nat→List (S27)→List (S27)→Int→Int→Option (Bool)
 | 0,_,_,_,_=>none
 | k+1,x0,x8,x9,x10=>if x10 < x9 then (if 0≤x10 then (if x10 < (x8.length:Int) then ((impl_BatchValid.f k ((rd_T27 x8 x10).f0) ((rd_T27 x8 x10).f1) ((rd_T27 x8 x10).f2) ((rd_T27 x8 x10).f3) ((rd_T27 x8 x10).f4) ((rd_T27 x8 x10).f5)).bind fun t271=>(if t271=true then (if x10 > 0 then (if 0≤(wrap64 (x10 - 1)) then (if (wrap64 (x10 - 1)) < (x0.length:Int) then ((impl_Batch_last.f ((rd_T27 x0 (wrap64 (x10 - 1))).f0) ((rd_T27 x0 (wrap64 (x10 - 1))).f1) ((rd_T27 x0 (wrap64 (x10 - 1))).f2) ((rd_T27 x0 (wrap64 (x10 - 1))).f3) ((rd_T27 x0 (wrap64 (x10 - 1))).f4) ((rd_T27 x0 (wrap64 (x10 - 1))).f5)).bind fun t273=>((impl_Batch_first.f ((rd_T27 x8 x10).f0) ((rd_T27 x8 x10).f1) ((rd_T27 x8 x10).f2) ((rd_T27 x8 x10).f3) ((rd_T27 x8 x10).f4) ((rd_T27 x8 x10).f5)).bind fun t274=>(if t273 ≥ t274 then (some false) else (impl_LogValid.l0 k x0 x8 x9 (wrap64 (x10+1)))))) else (none)) else (none)) else (impl_LogValid.l0 k x0 x8 x9 (wrap64 (x10+1)))) else (some false))) else (none)) else (none)) else (some true)
def impl_LogValid.f (k:Nat) (l0:List (S27)):Option (Bool):=if (l0.length:Int) > 8 then (some false) else (impl_LogValid.l0 k l0 l0 (l0.length:Int) 0)
def impl_LogValid.T6:Bool×List (List Nat×List Nat):=(true,[([],[]),([0],[0]),([1],[1]),([2,1],[2]),([3],[3]),([4,3],[3,4]),([5,3,3],[3,5]),([6],[6]),([6],[6]),([8,6],[6,8]),([7,9,6],[6,7,9]),([10,6],[6,10]),([11,6,6],[6,11]),([6],[6]),([13,12,6],[6,13]),([12,14,6],[6,12,14]),([6,15,3],[3,6,15]),([3,16],[3,16])])
def impl_LogValid.B6:List Nat:=[0,1,3,7,15,31,63,127,127,383,1023,2047,4095,127,16383,32767,65535,131071]
theorem impl_LogValid.tab6:rtab .any (opsOf Try.f61 6)=impl_LogValid.T6:=by kernel_rfl
theorem impl_LogValid.bits6:waitsOk impl_LogValid.T6.2 impl_LogValid.B6=true:=by kernel_rfl
set_option maxHeartbeats 8000000 in
set_option maxRecDepth 100000 in
theorem impl_LogValid.calls (k:Nat) (A0:Option Addr) (c0:Nat) (l0:List (S27)) (r:Bool) (w:World) (hr0:Kd.C k27 w A0 l0.length l0) (hc0:l0.length≤c0) (h:impl_LogValid.f k l0=some r) :
  Calls Try.prog 61 #[.slice A0 l0.length c0] w fun e w'=>e = .returned (.bool r)∧Below w.heap.size w w':=by
 have hu27:=Try.underlying27;have HR0:=zzm hr0;have HC0:=zzm hc0;clear hr0 hc0;have HB:=zzm (Below.refl w.heap.size w);have H:(if (l0.length:Int) > 8 then (some false) else (impl_LogValid.l0 k l0 l0 (l0.length:Int) 0))=some r:=h;clear h;by_cases c2:(l0.length:Int) > 8
 ·
  rw [if_pos c2] at H;have c2b0:decide (8 < (l0.length:Int))=true:=decide_eq_true c2;have c2b1:decide (8 < l0.length)=true:=decide_eq_true (by omega);clear c2;obtain rfl:=Option.some.inj H;go_enter Try.func61,Try.ntmps61;go_wp2;go_ret;exact ⟨by first|rfl|(simp [errW_none,errW_some] <;> rfl)|(simp [*,errW_none,errW_some] <;> rfl),zzh1⟩
 ·
  rw [if_neg c2] at H;have c2b0:decide (8 < (l0.length:Int))=false:=decide_eq_false c2;have c2b1:decide (8 < l0.length)=false:=decide_eq_false (by omega);clear c2;have H':=zzm H;clear H;go_enter Try.func61,Try.ntmps61;go_wp2;go_loopg [10] k (fun kq v10 w'=>∃ (x10_1:Int),v10 = .int .i64 x10_1∧Aside0 (impl_LogValid.l0 kq l0 l0 (l0.length:Int) x10_1=some r)∧Aside0 (kq≤k)∧Aside0 (Below w.heap.size w w'))
  case atStart=>exact ⟨(0),(by first|rfl|(simp;done)|(simp [*];done)),H',⟨Nat.le_refl _⟩,⟨zzh1⟩⟩
  case round=>
   clear H';try clear c2
   try clear c2b0
   try clear c2b1
   try clear p2
   obtain ⟨x10_1,rfl,HA,HK1,HB⟩:=hrel;cases gk with
   | zero=>exact absurd HA.out (by simp [impl_LogValid.l0])
   | succ k1=>
    have H:=HA.out;clear HA;simp only [impl_LogValid.l0] at H;by_cases c3:x10_1 < (l0.length:Int)
    ·
     rw [if_pos c3] at H;have c3b0:decide (x10_1 < (l0.length:Int))=true:=decide_eq_true c3;clear c3;by_cases c4 : 0≤x10_1
     ·
      rw [if_pos c4] at H;have c4b0:decide (0≤x10_1)=true:=decide_eq_true c4;clear c4;by_cases c5:x10_1 < (l0.length:Int)
      ·
       rw [if_pos c5] at H;have c5b0:decide (x10_1 < (l0.length:Int))=true:=decide_eq_true c5;clear c5;replace H:=Option.bind_eq_some_iff.mp H;obtain ⟨t271,A60,H⟩:=H;replace H:(if t271=true then (if x10_1 > 0 then (if 0≤(wrap64 (x10_1 - 1)) then (if (wrap64 (x10_1 - 1)) < (l0.length:Int) then ((impl_Batch_last.f ((rd_T27 l0 (wrap64 (x10_1 - 1))).f0) ((rd_T27 l0 (wrap64 (x10_1 - 1))).f1) ((rd_T27 l0 (wrap64 (x10_1 - 1))).f2) ((rd_T27 l0 (wrap64 (x10_1 - 1))).f3) ((rd_T27 l0 (wrap64 (x10_1 - 1))).f4) ((rd_T27 l0 (wrap64 (x10_1 - 1))).f5)).bind fun t273=>((impl_Batch_first.f ((rd_T27 l0 x10_1).f0) ((rd_T27 l0 x10_1).f1) ((rd_T27 l0 x10_1).f2) ((rd_T27 l0 x10_1).f3) ((rd_T27 l0 x10_1).f4) ((rd_T27 l0 x10_1).f5)).bind fun t274=>(if t273 ≥ t274 then (some false) else (impl_LogValid.l0 k1 l0 l0 (l0.length:Int) (wrap64 (x10_1+1)))))) else (none)) else (none)) else (impl_LogValid.l0 k1 l0 l0 (l0.length:Int) (wrap64 (x10_1+1)))) else (some false))=some r:=H;have A6:=zzm A60;clear A60;by_cases c7:t271=true
       ·
        subst c7;have H1:(if x10_1 > 0 then (if 0≤(wrap64 (x10_1 - 1)) then (if (wrap64 (x10_1 - 1)) < (l0.length:Int) then ((impl_Batch_last.f ((rd_T27 l0 (wrap64 (x10_1 - 1))).f0) ((rd_T27 l0 (wrap64 (x10_1 - 1))).f1) ((rd_T27 l0 (wrap64 (x10_1 - 1))).f2) ((rd_T27 l0 (wrap64 (x10_1 - 1))).f3) ((rd_T27 l0 (wrap64 (x10_1 - 1))).f4) ((rd_T27 l0 (wrap64 (x10_1 - 1))).f5)).bind fun t273=>((impl_Batch_first.f ((rd_T27 l0 x10_1).f0) ((rd_T27 l0 x10_1).f1) ((rd_T27 l0 x10_1).f2) ((rd_T27 l0 x10_1).f3) ((rd_T27 l0 x10_1).f4) ((rd_T27 l0 x10_1).f5)).bind fun t274=>(if t273 ≥ t274 then (some false) else (impl_LogValid.l0 k1 l0 l0 (l0.length:Int) (wrap64 (x10_1+1)))))) else (none)) else (none)) else (impl_LogValid.l0 k1 l0 l0 (l0.length:Int) (wrap64 (x10_1+1))))=some r:=by rw [if_pos rfl] at H;exact H
        clear H;have H:=H1;clear H1;by_cases c8:x10_1 > 0
        ·
         rw [if_pos c8] at H;have c8b0:decide (0 < x10_1)=true:=decide_eq_true c8;clear c8;obtain ⟨ji9,hji9⟩:∃ j_:Int,(wrap64 (x10_1 - 1))=j_:=⟨_,rfl⟩;replace H:(if 0≤(ji9) then (if (ji9) < (l0.length:Int) then ((impl_Batch_last.f ((rd_T27 l0 (ji9)).f0) ((rd_T27 l0 (ji9)).f1) ((rd_T27 l0 (ji9)).f2) ((rd_T27 l0 (ji9)).f3) ((rd_T27 l0 (ji9)).f4) ((rd_T27 l0 (ji9)).f5)).bind fun t273=>((impl_Batch_first.f ((rd_T27 l0 x10_1).f0) ((rd_T27 l0 x10_1).f1) ((rd_T27 l0 x10_1).f2) ((rd_T27 l0 x10_1).f3) ((rd_T27 l0 x10_1).f4) ((rd_T27 l0 x10_1).f5)).bind fun t274=>(if t273 ≥ t274 then (some false) else (impl_LogValid.l0 k1 l0 l0 (l0.length:Int) (wrap64 (x10_1+1)))))) else (none)) else (none))=some r:=by first|(rw [hji9] at H;exact H)|(simp only [hji9] at H ⊢;exact H)
         (try rw [hji9] at A6);have hji9w:(IntKind.i64.wrap (x10_1 - 1))=ji9:=(i64_w _).trans hji9;by_cases c10 : 0≤(ji9)
         ·
          rw [if_pos c10] at H;have c10b0:decide (0≤(ji9))=true:=decide_eq_true c10;clear c10;by_cases c11:(ji9) < (l0.length:Int)
          ·
           rw [if_pos c11] at H;have c11b0:decide ((ji9) < (l0.length:Int))=true:=decide_eq_true c11;clear c11;replace H:=Option.bind_eq_some_iff.mp H;obtain ⟨t273,A120,H⟩:=H;replace H:((impl_Batch_first.f ((rd_T27 l0 x10_1).f0) ((rd_T27 l0 x10_1).f1) ((rd_T27 l0 x10_1).f2) ((rd_T27 l0 x10_1).f3) ((rd_T27 l0 x10_1).f4) ((rd_T27 l0 x10_1).f5)).bind fun t274=>(if t273 ≥ t274 then (some false) else (impl_LogValid.l0 k1 l0 l0 (l0.length:Int) (wrap64 (x10_1+1)))))=some r:=H;have A12:=zzm A120;clear A120;replace H:=Option.bind_eq_some_iff.mp H;obtain ⟨t274,A130,H⟩:=H;replace H:(if t273 ≥ t274 then (some false) else (impl_LogValid.l0 k1 l0 l0 (l0.length:Int) (wrap64 (x10_1+1))))=some r:=H;have A13:=zzm A130;clear A130;by_cases c14:t273 ≥ t274
           ·
            rw [if_pos c14] at H;have c14b0:decide (t274≤t273)=true:=decide_eq_true c14;clear c14;obtain rfl:=Option.some.inj H;have p269 : 0≤(x10_1:Int):=zzt;have q269:x10_1 < (l0.length:Int):=zzt;obtain ⟨ad269,A269_5,c269_5,e269,hx269_0,hx269_1,hx269_2,hx269_3,hx269_4,hx269_5,hl269_5,hi269_5⟩:=at_T27 HR0.out x10_1 p269 q269;cases e269;replace hx269_0:=zzx HB.out hx269_0;replace hx269_1:=zzx HB.out hx269_1;replace hx269_2:=zzx HB.out hx269_2;replace hx269_3:=zzx HB.out hx269_3;replace hx269_4:=zzx HB.out hx269_4;replace hx269_5:=zzx HB.out hx269_5;have HR269_5:=zzm hi269_5;have HC269_5:=zzm hl269_5;clear hi269_5 hl269_5;replace p269:=eq_true p269;replace q269:=eq_true q269;try go_wp2_with (first|((with_reducible refine gate_dst (N:=4) rfl ?_);refine box_event ?hg (N:=4) ?hd (cs:=#[.bool false,.bool false,.int .i64 0,.int .i64 0,.int .i64 0,.slice none 0 0]) (t:=27) ?hr ?_;(case hd=>rfl);(case hg=>rfl);(case hr=>first|(go_simp;done)|(go_simp;rfl));intro gb270 hg w15 hbox hb;have n0_:=zzm (zzp zzh1 hb);have n1_:=zzm (hbox);have n2_:=zzm ((by rw [hg];exact (zzo zzh1):w.heap.size≤gb270));have n3_:=zzm ((by rw [hg];exact (zzo zzh1):w.heap.size≤gb270));clear HB;have HB:=n0_;have BK270:=n1_;have GW270:=n2_;have GE270:=n3_;clear n0_ n1_ n2_ n3_ hb hbox hg;obtain ⟨hcz16_0,hcz16_1,hcz16_2,hcz16_3,hcz16_4,hcz16_5,hfz16_0,hfz16_1,hfz16_2,hfz16_3,hfz16_4,hfz16_5⟩:=zzc6 BK270.out))
            have n0_:Aside0 (((((((w15.setCell ⟨gb270,0,none⟩ (.bool ((rd_T27 l0 x10_1).f0))).setCell ⟨gb270,1,none⟩ (.bool ((rd_T27 l0 x10_1).f1))).setCell ⟨gb270,2,none⟩ (.int .i64 ((rd_T27 l0 x10_1).f2))).setCell ⟨gb270,3,none⟩ (.int .i64 ((rd_T27 l0 x10_1).f3))).setCell ⟨gb270,4,none⟩ (.int .i64 ((rd_T27 l0 x10_1).f4))).setCell ⟨gb270,5,none⟩ (.slice A269_5 ((rd_T27 l0 x10_1).f5).length c269_5)).heap[gb270]? = some (.cells #[.bool ((rd_T27 l0 x10_1).f0),.bool ((rd_T27 l0 x10_1).f1),.int .i64 ((rd_T27 l0 x10_1).f2),.int .i64 ((rd_T27 l0 x10_1).f3),.int .i64 ((rd_T27 l0 x10_1).f4),.slice A269_5 ((rd_T27 l0 x10_1).f5).length c269_5] 27 (0,0))):=⟨by (with_reducible repeat (first|apply zzf|apply zzg|apply zze));refine zzi (cs:=#[.bool ((rd_T27 l0 x10_1).f0),.bool ((rd_T27 l0 x10_1).f1),.int .i64 ((rd_T27 l0 x10_1).f2),.int .i64 ((rd_T27 l0 x10_1).f3),.int .i64 ((rd_T27 l0 x10_1).f4),.slice none 0 0]) ?_ 5 _ rfl;(with_reducible repeat (first|apply zzf|apply zzg|apply zze));refine zzi (cs:=#[.bool ((rd_T27 l0 x10_1).f0),.bool ((rd_T27 l0 x10_1).f1),.int .i64 ((rd_T27 l0 x10_1).f2),.int .i64 ((rd_T27 l0 x10_1).f3),.int .i64 0,.slice none 0 0]) ?_ 4 _ rfl;(with_reducible repeat (first|apply zzf|apply zzg|apply zze));refine zzi (cs:=#[.bool ((rd_T27 l0 x10_1).f0),.bool ((rd_T27 l0 x10_1).f1),.int .i64 ((rd_T27 l0 x10_1).f2),.int .i64 0,.int .i64 0,.slice none 0 0]) ?_ 3 _ rfl;(with_reducible repeat (first|apply zzf|apply zzg|apply zze));refine zzi (cs:=#[.bool ((rd_T27 l0 x10_1).f0),.bool ((rd_T27 l0 x10_1).f1),.int .i64 0,.int .i64 0,.int .i64 0,.slice none 0 0]) ?_ 2 _ rfl;(with_reducible repeat (first|apply zzf|apply zzg|apply zze));refine zzi (cs:=#[.bool ((rd_T27 l0 x10_1).f0),.bool false,.int .i64 0,.int .i64 0,.int .i64 0,.slice none 0 0]) ?_ 1 _ rfl;(with_reducible repeat (first|apply zzf|apply zzg|apply zze));refine zzi (cs:=#[.bool false,.bool false,.int .i64 0,.int .i64 0,.int .i64 0,.slice none 0 0]) ?_ 0 _ rfl;(with_reducible repeat (first|apply zzf|apply zzg|apply zze));exact BK270.out⟩;have n1_:Aside0 (Below w.heap.size w ((((((w15.setCell ⟨gb270,0,none⟩ (.bool ((rd_T27 l0 x10_1).f0))).setCell ⟨gb270,1,none⟩ (.bool ((rd_T27 l0 x10_1).f1))).setCell ⟨gb270,2,none⟩ (.int .i64 ((rd_T27 l0 x10_1).f2))).setCell ⟨gb270,3,none⟩ (.int .i64 ((rd_T27 l0 x10_1).f3))).setCell ⟨gb270,4,none⟩ (.int .i64 ((rd_T27 l0 x10_1).f4))).setCell ⟨gb270,5,none⟩ (.slice A269_5 ((rd_T27 l0 x10_1).f5).length c269_5))):=⟨by repeat (first|(with_reducible first|exact HB.out|apply zza|apply zzb|apply zzc|refine zzd ?_ GE270.out)|exact HB.out)⟩
            (try clear BK270)
            (try clear HB);generalize ((((((w15.setCell ⟨gb270,0,none⟩ (.bool ((rd_T27 l0 x10_1).f0))).setCell ⟨gb270,1,none⟩ (.bool ((rd_T27 l0 x10_1).f1))).setCell ⟨gb270,2,none⟩ (.int .i64 ((rd_T27 l0 x10_1).f2))).setCell ⟨gb270,3,none⟩ (.int .i64 ((rd_T27 l0 x10_1).f3))).setCell ⟨gb270,4,none⟩ (.int .i64 ((rd_T27 l0 x10_1).f4))).setCell ⟨gb270,5,none⟩ (.slice A269_5 ((rd_T27 l0 x10_1).f5).length c269_5))=w17 at n0_ n1_ ⊢;have BK270:=n0_;have HB:=n1_;clear n0_ n1_;have n0_:=zzm (zzg BK270.out);have n1_:=zzm (zzc HB.out);clear BK270 HB;have BK270:=n0_;have HB:=n1_;clear n0_ n1_;have p272 : 0≤((ji9):Int):=zzt;have q272:(ji9) < (l0.length:Int):=zzt;obtain ⟨ad272,A272_5,c272_5,e272,hx272_0,hx272_1,hx272_2,hx272_3,hx272_4,hx272_5,hl272_5,hi272_5⟩:=at_T27 HR0.out (ji9) p272 q272;have hw272_5:=hx272_5;have hw272_4:=hx272_4;have hw272_3:=hx272_3;have hw272_2:=hx272_2;have hw272_1:=hx272_1;have hw272_0:=hx272_0;obtain rfl:ad269=ad272:=(by injection e272);replace hx272_0:=zzx HB.out hx272_0;replace hx272_1:=zzx HB.out hx272_1;replace hx272_2:=zzx HB.out hx272_2;replace hx272_3:=zzx HB.out hx272_3;replace hx272_4:=zzx HB.out hx272_4;replace hx272_5:=zzx HB.out hx272_5;have HR272_5:=zzm hi272_5;have HC272_5:=zzm hl272_5;clear hi272_5 hl272_5;replace p272:=eq_true p272;replace q272:=eq_true q272;refine start_ (n:=18) (S:=fun w'=>w'.cell? ⟨gb270,0,none⟩=some (.bool ((rd_T27 l0 x10_1).f0))∧w'.cell? ⟨gb270,1,none⟩=some (.bool ((rd_T27 l0 x10_1).f1))∧w'.cell? ⟨gb270,2,none⟩=some (.int .i64 ((rd_T27 l0 x10_1).f2))∧w'.cell? ⟨gb270,3,none⟩=some (.int .i64 ((rd_T27 l0 x10_1).f3))∧w'.cell? ⟨gb270,4,none⟩=some (.int .i64 ((rd_T27 l0 x10_1).f4))∧w'.cell? ⟨gb270,5,none⟩=some (.slice A269_5 ((rd_T27 l0 x10_1).f5).length c269_5)∧w'.cell? (ad269.add (((ji9)).toNat * 6))=some (.bool ((rd_T27 l0 (ji9)).f0))∧w'.cell? ⟨(ad269.add (((ji9)).toNat * 6)).block,(ad269.add (((ji9)).toNat * 6)).off+1,none⟩=some (.bool ((rd_T27 l0 (ji9)).f1))∧w'.cell? ⟨(ad269.add (((ji9)).toNat * 6)).block,(ad269.add (((ji9)).toNat * 6)).off+2,none⟩=some (.int .i64 ((rd_T27 l0 (ji9)).f2))∧w'.cell? ⟨(ad269.add (((ji9)).toNat * 6)).block,(ad269.add (((ji9)).toNat * 6)).off+3,none⟩=some (.int .i64 ((rd_T27 l0 (ji9)).f3))∧w'.cell? ⟨(ad269.add (((ji9)).toNat * 6)).block,(ad269.add (((ji9)).toNat * 6)).off+4,none⟩=some (.int .i64 ((rd_T27 l0 (ji9)).f4))∧w'.cell? ⟨(ad269.add (((ji9)).toNat * 6)).block,(ad269.add (((ji9)).toNat * 6)).off+5,none⟩=some (.slice A272_5 ((rd_T27 l0 (ji9)).f5).length c272_5)) (ds:=[]) (zzB 18 0) (by kernel_rfl) rfl rfl ⟨(zzk BK270.out 0).trans rfl,(zzk BK270.out 1).trans rfl,(zzk BK270.out 2).trans rfl,(zzk BK270.out 3).trans rfl,(zzk BK270.out 4).trans rfl,(zzk BK270.out 5).trans rfl,(zzx HB.out hw272_0),(zzx HB.out hw272_1),(zzx HB.out hw272_2),(zzx HB.out hw272_3),(zzx HB.out hw272_4),(zzx HB.out hw272_5)⟩ (fun hHeld=>?_);refine with_tabW impl_LogValid.tab6 impl_LogValid.bits6 (fun HT_ HW_=>?_);generalize w17.drew=w18 at BK270 HB HR272_5 hx272_0 hx272_1 hx272_2 hx272_3 hx272_4 hx272_5 hHeld ⊢;refine take_ (i:=0) (N:=some 15) (v:=?_) (a':=?_) (zzB 18 1) rfl rfl (take_ofW HT_.out HW_.out (by kernel_rfl)) (fun _ _ _ h=>h) (Or.inl ⟨by rfl,?_⟩) hHeld ?_ ?_;rotate_left
            ·
             rintro w' ⟨s0,s1,s2,s3,s4,s5,s6,s7,s8,s9,s10,s11⟩;go_simp;with_reducible rfl
            rotate_left
            ·
             simp only [Act.put,zzq,zzr,zzs,i64_w,i32_w];rfl
            refine one_ (i:=1) (N:=some 16) (zzB 18 3) rfl rfl (one_of HT_.out (by kernel_rfl)) (by decide) (fun K hK=>?_);refine goes_ Try.func22 (by kernel_rfl) rfl #[.agg #[.bool ((rd_T27 l0 x10_1).f0),.bool ((rd_T27 l0 x10_1).f1),.int .i64 ((rd_T27 l0 x10_1).f2),.int .i64 ((rd_T27 l0 x10_1).f3),.int .i64 ((rd_T27 l0 x10_1).f4),.slice A269_5 ((rd_T27 l0 x10_1).f5).length c269_5]] (by rfl) rfl rfl zzM2 ?_;with_reducible refine (impl_BatchValid.calls k1 ((rd_T27 l0 x10_1).f0) ((rd_T27 l0 x10_1).f1) ((rd_T27 l0 x10_1).f2) ((rd_T27 l0 x10_1).f3) ((rd_T27 l0 x10_1).f4) _ _ ((rd_T27 l0 x10_1).f5) true _ ?side1 ?side2 A6.out).mono ?_
            (case side1=>repeat (first|exact (Kd.C_below HR269_5.out HB.out)|(with_reducible refine Kd.C_alloc ?_ _)|(with_reducible refine Kd.C_drewN ?_ _)|(with_reducible refine Kd.C_drew ?_)))
            (case side2=>exact HC269_5.out);rintro e w19 ⟨rfl,hb⟩;refine ⟨_,rfl,?_⟩;have n0_:=zzm (zzh (g:=gb270) (o:=.cells #[.bool ((rd_T27 l0 x10_1).f0),.bool ((rd_T27 l0 x10_1).f1),.int .i64 ((rd_T27 l0 x10_1).f2),.int .i64 ((rd_T27 l0 x10_1).f3),.int .i64 ((rd_T27 l0 x10_1).f4),.slice A269_5 ((rd_T27 l0 x10_1).f5).length c269_5] 27 (0,0)) (zzE BK270.out) hb);have n1_:=zzm (zzp zzh2 hb);clear BK270 HB;have BK270:=n0_;have HB:=n1_;clear n0_ n1_
            (try clear hb)
            (try clear hb2)
            (try clear hk)
            (try clear hi);refine hK.out _ _ ⟨(zzk BK270.out 0).trans rfl,(zzk BK270.out 1).trans rfl,(zzk BK270.out 2).trans rfl,(zzk BK270.out 3).trans rfl,(zzk BK270.out 4).trans rfl,(zzk BK270.out 5).trans rfl,(zzx HB.out hw272_0),(zzx HB.out hw272_1),(zzx HB.out hw272_2),(zzx HB.out hw272_3),(zzx HB.out hw272_4),(zzx HB.out hw272_5)⟩ (fun hHeld=>?_);clear hK K;refine norm_ (a':=?_) ?_ ?_;rotate_left
            ·
             show Act.put _ (some 16) _ = _;simp only [Act.put,zzq,zzr,zzs,i64_w,i32_w];rfl
            refine pure_ (i:=2) (N:=some 17) (v:=?_) (a':=?_) (zzB 18 7) rfl rfl (zzA2 HT_.out) (fun _ _ _ h=>h) (Or.inl ⟨by rfl,?_⟩) ?_ ?_;rotate_left
            ·
             intro w';go_simp;with_reducible rfl
            rotate_left
            ·
             simp only [Act.put,zzq,zzr,zzs,i64_w,i32_w];rfl
            refine pure_ (i:=3) (N:=some 18) (v:=?_) (a':=?_) (zzB 18 15) rfl rfl (zzA2 HT_.out) (fun _ _ _ h=>h) (Or.inl ⟨by rfl,?_⟩) ?_ ?_;rotate_left
            ·
             intro w';go_simp;with_reducible rfl
            rotate_left
            ·
             simp only [Act.put,zzq,zzr,zzs,i64_w,i32_w];rfl
            refine pure_ (i:=4) (N:=some 19) (v:=?_) (a':=?_) (zzB 18 31) rfl rfl (zzA2 HT_.out) (fun _ _ _ h=>h) (Or.inl ⟨by rfl,?_⟩) ?_ ?_;rotate_left
            ·
             intro w';go_simp;with_reducible rfl
            rotate_left
            ·
             simp only [Act.put,zzq,zzr,zzs,i64_w,i32_w];rfl
            refine pure_ (i:=5) (N:=some 20) (v:=?_) (a':=?_) (zzB 18 63) rfl rfl (zzA2 HT_.out) (fun _ _ _ h=>h) (Or.inl ⟨by rfl,?_⟩) ?_ ?_;rotate_left
            ·
             intro w';go_simp;with_reducible rfl
            rotate_left
            ·
             simp only [Act.put,zzq,zzr,zzs,i64_w,i32_w];rfl
            refine pure_ (i:=6) (N:=some 21) (v:=?_) (a':=?_) (zzB 18 127) rfl rfl (zzA2 HT_.out) (fun _ _ _ h=>h) (Or.inl ⟨by rfl,?_⟩) ?_ ?_;rotate_left
            ·
             intro w';go_simp;with_reducible rfl
            rotate_left
            ·
             simp only [Act.put,zzq,zzr,zzs,i64_w,i32_w];rfl
            refine pure_ (i:=7) (N:=some 22) (v:=?_) (a':=?_) (zzB 18 255) rfl rfl (zzA2 HT_.out) (fun _ _ _ h=>h) (Or.inl ⟨by rfl,?_⟩) ?_ ?_;rotate_left
            ·
             intro w';go_simp;with_reducible rfl
            rotate_left
            ·
             simp only [Act.put,zzq,zzr,zzs,i64_w,i32_w];rfl
            refine pure_ (i:=8) (N:=some 23) (v:=?_) (a':=?_) (zzB 18 511) rfl rfl (zzA2 HT_.out) (fun _ _ _ h=>h) (Or.inl ⟨by rfl,?_⟩) ?_ ?_;rotate_left
            ·
             intro w';go_simp;with_reducible rfl
            rotate_left
            ·
             simp only [Act.put,zzq,zzr,zzs,i64_w,i32_w];rfl
            refine pure_ (i:=9) (N:=some 24) (v:=?_) (a':=?_) (zzB 18 1023) rfl rfl (zzA2 HT_.out) (fun _ _ _ h=>h) (Or.inl ⟨by rfl,?_⟩) ?_ ?_;rotate_left
            ·
             intro w';go_simp;with_reducible rfl
            rotate_left
            ·
             simp only [Act.put,zzq,zzr,zzs,i64_w,i32_w];rfl
            refine pure_ (i:=10) (N:=some 25) (v:=?_) (a':=?_) (zzB 18 2047) rfl rfl (zzA2 HT_.out) (fun _ _ _ h=>h) (Or.inl ⟨by rfl,?_⟩) ?_ ?_;rotate_left
            ·
             intro w';go_simp;with_reducible rfl
            rotate_left
            ·
             simp only [Act.put,zzq,zzr,zzs,i64_w,i32_w];rfl
            refine take_ (i:=11) (N:=some 26) (v:=?_) (a':=?_) (zzB 18 4095) rfl rfl (take_ofW HT_.out HW_.out (by kernel_rfl)) (fun _ _ _ h=>h) (Or.inl ⟨by rfl,?_⟩) hHeld ?_ ?_;rotate_left
            ·
             rintro w' ⟨s0,s1,s2,s3,s4,s5,s6,s7,s8,s9,s10,s11⟩;go_simp;with_reducible rfl
            rotate_left
            ·
             simp only [Act.put,zzq,zzr,zzs,i64_w,i32_w];rfl
            refine take_ (i:=13) (N:=some 28) (v:=?_) (a':=?_) (zzB 18 12287) rfl rfl (take_ofW HT_.out HW_.out (by kernel_rfl)) (fun _ _ _ h=>h) (Or.inl ⟨by rfl,?_⟩) hHeld ?_ ?_;rotate_left
            ·
             rintro w' ⟨s0,s1,s2,s3,s4,s5,s6,s7,s8,s9,s10,s11⟩;go_simp;with_reducible rfl
            rotate_left
            ·
             simp only [Act.put,zzq,zzr,zzs,i64_w,i32_w];rfl
            refine one_ (i:=12) (N:=some 27) (zzB 18 16383) rfl rfl (one_of HT_.out (by kernel_rfl)) (by decide) (fun K hK=>?_);refine goes_ Try.func65 (by kernel_rfl) rfl #[.agg #[.bool ((rd_T27 l0 (ji9)).f0),.bool ((rd_T27 l0 (ji9)).f1),.int .i64 ((rd_T27 l0 (ji9)).f2),.int .i64 ((rd_T27 l0 (ji9)).f3),.int .i64 ((rd_T27 l0 (ji9)).f4),.slice A272_5 ((rd_T27 l0 (ji9)).f5).length c272_5]] (by rfl) rfl rfl (by (try simp only [map_toArray,map_cons,map_nil]);first|done|(simp only [hji9];rfl)|rfl|(simp only [length_drop,length_take];rfl)) ?_;with_reducible refine (impl_Batch_last.calls ((rd_T27 l0 (ji9)).f0) ((rd_T27 l0 (ji9)).f1) ((rd_T27 l0 (ji9)).f2) ((rd_T27 l0 (ji9)).f3) ((rd_T27 l0 (ji9)).f4) _ _ ((rd_T27 l0 (ji9)).f5) t273 _ ?side1 ?side2 A12.out).mono ?_
            (case side1=>repeat (first|exact (Kd.C_below HR272_5.out HB.out)|(with_reducible refine Kd.C_alloc ?_ _)|(with_reducible refine Kd.C_drewN ?_ _)|(with_reducible refine Kd.C_drew ?_)))
            (case side2=>exact HC272_5.out);rintro e w20 ⟨rfl,hb⟩;refine ⟨_,rfl,?_⟩;have n0_:=zzm (zzh (g:=gb270) (o:=.cells #[.bool ((rd_T27 l0 x10_1).f0),.bool ((rd_T27 l0 x10_1).f1),.int .i64 ((rd_T27 l0 x10_1).f2),.int .i64 ((rd_T27 l0 x10_1).f3),.int .i64 ((rd_T27 l0 x10_1).f4),.slice A269_5 ((rd_T27 l0 x10_1).f5).length c269_5] 27 (0,0)) (zzE BK270.out) hb);have n1_:=zzm (zzp zzh2 hb);clear BK270 HB;have BK270:=n0_;have HB:=n1_;clear n0_ n1_
            (try clear hb)
            (try clear hb2)
            (try clear hk)
            (try clear hi);refine hK.out _ _ ⟨(zzk BK270.out 0).trans rfl,(zzk BK270.out 1).trans rfl,(zzk BK270.out 2).trans rfl,(zzk BK270.out 3).trans rfl,(zzk BK270.out 4).trans rfl,(zzk BK270.out 5).trans rfl,(zzx HB.out hw272_0),(zzx HB.out hw272_1),(zzx HB.out hw272_2),(zzx HB.out hw272_3),(zzx HB.out hw272_4),(zzx HB.out hw272_5)⟩ (fun hHeld=>?_);clear hK K;refine norm_ (a':=?_) ?_ ?_;rotate_left
            ·
             show Act.put _ (some 27) _ = _;simp only [Act.put,zzq,zzr,zzs,i64_w,i32_w];rfl
            refine one_ (i:=14) (N:=some 29) (zzB 18 32767) rfl rfl (one_of HT_.out (by kernel_rfl)) (by decide) (fun K hK=>?_);refine goes_ Try.func63 (by kernel_rfl) rfl #[.agg #[.bool ((rd_T27 l0 x10_1).f0),.bool ((rd_T27 l0 x10_1).f1),.int .i64 ((rd_T27 l0 x10_1).f2),.int .i64 ((rd_T27 l0 x10_1).f3),.int .i64 ((rd_T27 l0 x10_1).f4),.slice A269_5 ((rd_T27 l0 x10_1).f5).length c269_5]] (by rfl) rfl rfl zzM2 ?_;with_reducible refine (impl_Batch_first.calls ((rd_T27 l0 x10_1).f0) ((rd_T27 l0 x10_1).f1) ((rd_T27 l0 x10_1).f2) ((rd_T27 l0 x10_1).f3) ((rd_T27 l0 x10_1).f4) _ _ ((rd_T27 l0 x10_1).f5) t274 _ ?side1 ?side2 A13.out).mono ?_
            (case side1=>repeat (first|exact (Kd.C_below HR269_5.out HB.out)|(with_reducible refine Kd.C_alloc ?_ _)|(with_reducible refine Kd.C_drewN ?_ _)|(with_reducible refine Kd.C_drew ?_)))
            (case side2=>exact HC269_5.out);rintro e w21 ⟨rfl,hb⟩;refine ⟨_,rfl,?_⟩;have n0_:=zzm (zzh (g:=gb270) (o:=.cells #[.bool ((rd_T27 l0 x10_1).f0),.bool ((rd_T27 l0 x10_1).f1),.int .i64 ((rd_T27 l0 x10_1).f2),.int .i64 ((rd_T27 l0 x10_1).f3),.int .i64 ((rd_T27 l0 x10_1).f4),.slice A269_5 ((rd_T27 l0 x10_1).f5).length c269_5] 27 (0,0)) (zzE BK270.out) hb);have n1_:=zzm (zzp zzh2 hb);clear BK270 HB;have BK270:=n0_;have HB:=n1_;clear n0_ n1_
            (try clear hb)
            (try clear hb2)
            (try clear hk)
            (try clear hi);refine hK.out _ _ ⟨(zzk BK270.out 0).trans rfl,(zzk BK270.out 1).trans rfl,(zzk BK270.out 2).trans rfl,(zzk BK270.out 3).trans rfl,(zzk BK270.out 4).trans rfl,(zzk BK270.out 5).trans rfl,(zzx HB.out hw272_0),(zzx HB.out hw272_1),(zzx HB.out hw272_2),(zzx HB.out hw272_3),(zzx HB.out hw272_4),(zzx HB.out hw272_5)⟩ (fun hHeld=>?_);clear hK K;refine norm_ (a':=?_) ?_ ?_;rotate_left
            ·
             show Act.put _ (some 29) _ = _;simp only [Act.put,zzq,zzr,zzs,i64_w,i32_w];rfl
            refine pure_ (i:=15) (N:=some 30) (v:=?_) (a':=?_) (zzB 18 65535) rfl rfl (zzA2 HT_.out) (fun _ _ _ h=>h) (Or.inl ⟨by rfl,?_⟩) ?_ ?_;rotate_left
            ·
             intro w';go_simp;with_reducible rfl
            rotate_left
            ·
             simp only [Act.put,zzq,zzr,zzs,i64_w,i32_w];rfl
            refine pure_ (i:=16) (N:=some 31) (v:=?_) (a':=?_) (zzB 18 131071) rfl rfl (zzA2 HT_.out) (fun _ _ _ h=>h) (Or.inl ⟨by rfl,?_⟩) ?_ ?_;rotate_left
            ·
             intro w';go_simp;with_reducible rfl
            rotate_left
            ·
             simp only [Act.put,zzq,zzr,zzs,i64_w,i32_w];rfl
            refine pure_ (i:=17) (N:=some 32) (v:=?_) (a':=?_) (zzB 18 262143) rfl rfl (zzA2 HT_.out) (fun _ _ _ h=>h) (Or.inl ⟨by rfl,?_⟩) ?_ ?_;rotate_left
            ·
             intro w';go_simp;with_reducible rfl
            rotate_left
            ·
             simp only [Act.put,zzq,zzr,zzs,i64_w,i32_w];rfl
            refine done_ (done_of HT_.out (by kernel_rfl)) ?_;try go_wp2
            go_ret;exact ⟨by first|rfl|(simp [errW_none,errW_some] <;> rfl)|(simp only [← hji9];first|rfl|(simp [errW_none,errW_some] <;> rfl))|(simp [*,errW_none,errW_some] <;> rfl),by repeat (first|(with_reducible first|exact HB.out|apply zza|apply zzb|apply zzc|refine zzd ?_ GE270.out)|exact HB.out)⟩
           ·
            rw [if_neg c14] at H;have c14b0:decide (t274≤t273)=false:=decide_eq_false c14;clear c14;have H':=zzm H;clear H;have p269 : 0≤(x10_1:Int):=zzt;have q269:x10_1 < (l0.length:Int):=zzt;obtain ⟨ad269,A269_5,c269_5,e269,hx269_0,hx269_1,hx269_2,hx269_3,hx269_4,hx269_5,hl269_5,hi269_5⟩:=at_T27 HR0.out x10_1 p269 q269;cases e269;replace hx269_0:=zzx HB.out hx269_0;replace hx269_1:=zzx HB.out hx269_1;replace hx269_2:=zzx HB.out hx269_2;replace hx269_3:=zzx HB.out hx269_3;replace hx269_4:=zzx HB.out hx269_4;replace hx269_5:=zzx HB.out hx269_5;have HR269_5:=zzm hi269_5;have HC269_5:=zzm hl269_5;clear hi269_5 hl269_5;replace p269:=eq_true p269;replace q269:=eq_true q269;try go_wp2_with (first|((with_reducible refine gate_dst (N:=4) rfl ?_);refine box_event ?hg (N:=4) ?hd (cs:=#[.bool false,.bool false,.int .i64 0,.int .i64 0,.int .i64 0,.slice none 0 0]) (t:=27) ?hr ?_;(case hd=>rfl);(case hg=>rfl);(case hr=>first|(go_simp;done)|(go_simp;rfl));intro gb270 hg w22 hbox hb;have n0_:=zzm (zzp zzh1 hb);have n1_:=zzm (hbox);have n2_:=zzm ((by rw [hg];exact (zzo zzh1):w.heap.size≤gb270));have n3_:=zzm ((by rw [hg];exact (zzo zzh1):w.heap.size≤gb270));clear HB;have HB:=n0_;have BK270:=n1_;have GW270:=n2_;have GE270:=n3_;clear n0_ n1_ n2_ n3_ hb hbox hg;obtain ⟨hcz23_0,hcz23_1,hcz23_2,hcz23_3,hcz23_4,hcz23_5,hfz23_0,hfz23_1,hfz23_2,hfz23_3,hfz23_4,hfz23_5⟩:=zzc6 BK270.out))
            have n0_:Aside0 (((((((w22.setCell ⟨gb270,0,none⟩ (.bool ((rd_T27 l0 x10_1).f0))).setCell ⟨gb270,1,none⟩ (.bool ((rd_T27 l0 x10_1).f1))).setCell ⟨gb270,2,none⟩ (.int .i64 ((rd_T27 l0 x10_1).f2))).setCell ⟨gb270,3,none⟩ (.int .i64 ((rd_T27 l0 x10_1).f3))).setCell ⟨gb270,4,none⟩ (.int .i64 ((rd_T27 l0 x10_1).f4))).setCell ⟨gb270,5,none⟩ (.slice A269_5 ((rd_T27 l0 x10_1).f5).length c269_5)).heap[gb270]? = some (.cells #[.bool ((rd_T27 l0 x10_1).f0),.bool ((rd_T27 l0 x10_1).f1),.int .i64 ((rd_T27 l0 x10_1).f2),.int .i64 ((rd_T27 l0 x10_1).f3),.int .i64 ((rd_T27 l0 x10_1).f4),.slice A269_5 ((rd_T27 l0 x10_1).f5).length c269_5] 27 (0,0))):=⟨by (with_reducible repeat (first|apply zzf|apply zzg|apply zze));refine zzi (cs:=#[.bool ((rd_T27 l0 x10_1).f0),.bool ((rd_T27 l0 x10_1).f1),.int .i64 ((rd_T27 l0 x10_1).f2),.int .i64 ((rd_T27 l0 x10_1).f3),.int .i64 ((rd_T27 l0 x10_1).f4),.slice none 0 0]) ?_ 5 _ rfl;(with_reducible repeat (first|apply zzf|apply zzg|apply zze));refine zzi (cs:=#[.bool ((rd_T27 l0 x10_1).f0),.bool ((rd_T27 l0 x10_1).f1),.int .i64 ((rd_T27 l0 x10_1).f2),.int .i64 ((rd_T27 l0 x10_1).f3),.int .i64 0,.slice none 0 0]) ?_ 4 _ rfl;(with_reducible repeat (first|apply zzf|apply zzg|apply zze));refine zzi (cs:=#[.bool ((rd_T27 l0 x10_1).f0),.bool ((rd_T27 l0 x10_1).f1),.int .i64 ((rd_T27 l0 x10_1).f2),.int .i64 0,.int .i64 0,.slice none 0 0]) ?_ 3 _ rfl;(with_reducible repeat (first|apply zzf|apply zzg|apply zze));refine zzi (cs:=#[.bool ((rd_T27 l0 x10_1).f0),.bool ((rd_T27 l0 x10_1).f1),.int .i64 0,.int .i64 0,.int .i64 0,.slice none 0 0]) ?_ 2 _ rfl;(with_reducible repeat (first|apply zzf|apply zzg|apply zze));refine zzi (cs:=#[.bool ((rd_T27 l0 x10_1).f0),.bool false,.int .i64 0,.int .i64 0,.int .i64 0,.slice none 0 0]) ?_ 1 _ rfl;(with_reducible repeat (first|apply zzf|apply zzg|apply zze));refine zzi (cs:=#[.bool false,.bool false,.int .i64 0,.int .i64 0,.int .i64 0,.slice none 0 0]) ?_ 0 _ rfl;(with_reducible repeat (first|apply zzf|apply zzg|apply zze));exact BK270.out⟩;have n1_:Aside0 (Below w.heap.size w ((((((w22.setCell ⟨gb270,0,none⟩ (.bool ((rd_T27 l0 x10_1).f0))).setCell ⟨gb270,1,none⟩ (.bool ((rd_T27 l0 x10_1).f1))).setCell ⟨gb270,2,none⟩ (.int .i64 ((rd_T27 l0 x10_1).f2))).setCell ⟨gb270,3,none⟩ (.int .i64 ((rd_T27 l0 x10_1).f3))).setCell ⟨gb270,4,none⟩ (.int .i64 ((rd_T27 l0 x10_1).f4))).setCell ⟨gb270,5,none⟩ (.slice A269_5 ((rd_T27 l0 x10_1).f5).length c269_5))):=⟨by repeat (first|(with_reducible first|exact HB.out|apply zza|apply zzb|apply zzc|refine zzd ?_ GE270.out)|exact HB.out)⟩
            (try clear BK270)
            (try clear HB);generalize ((((((w22.setCell ⟨gb270,0,none⟩ (.bool ((rd_T27 l0 x10_1).f0))).setCell ⟨gb270,1,none⟩ (.bool ((rd_T27 l0 x10_1).f1))).setCell ⟨gb270,2,none⟩ (.int .i64 ((rd_T27 l0 x10_1).f2))).setCell ⟨gb270,3,none⟩ (.int .i64 ((rd_T27 l0 x10_1).f3))).setCell ⟨gb270,4,none⟩ (.int .i64 ((rd_T27 l0 x10_1).f4))).setCell ⟨gb270,5,none⟩ (.slice A269_5 ((rd_T27 l0 x10_1).f5).length c269_5))=w24 at n0_ n1_ ⊢;have BK270:=n0_;have HB:=n1_;clear n0_ n1_;have n0_:=zzm (zzg BK270.out);have n1_:=zzm (zzc HB.out);clear BK270 HB;have BK270:=n0_;have HB:=n1_;clear n0_ n1_;have p272 : 0≤((ji9):Int):=zzt;have q272:(ji9) < (l0.length:Int):=zzt;obtain ⟨ad272,A272_5,c272_5,e272,hx272_0,hx272_1,hx272_2,hx272_3,hx272_4,hx272_5,hl272_5,hi272_5⟩:=at_T27 HR0.out (ji9) p272 q272;have hw272_5:=hx272_5;have hw272_4:=hx272_4;have hw272_3:=hx272_3;have hw272_2:=hx272_2;have hw272_1:=hx272_1;have hw272_0:=hx272_0;obtain rfl:ad269=ad272:=(by injection e272);replace hx272_0:=zzx HB.out hx272_0;replace hx272_1:=zzx HB.out hx272_1;replace hx272_2:=zzx HB.out hx272_2;replace hx272_3:=zzx HB.out hx272_3;replace hx272_4:=zzx HB.out hx272_4;replace hx272_5:=zzx HB.out hx272_5;have HR272_5:=zzm hi272_5;have HC272_5:=zzm hl272_5;clear hi272_5 hl272_5;replace p272:=eq_true p272;replace q272:=eq_true q272;refine start_ (n:=18) (S:=fun w'=>w'.cell? ⟨gb270,0,none⟩=some (.bool ((rd_T27 l0 x10_1).f0))∧w'.cell? ⟨gb270,1,none⟩=some (.bool ((rd_T27 l0 x10_1).f1))∧w'.cell? ⟨gb270,2,none⟩=some (.int .i64 ((rd_T27 l0 x10_1).f2))∧w'.cell? ⟨gb270,3,none⟩=some (.int .i64 ((rd_T27 l0 x10_1).f3))∧w'.cell? ⟨gb270,4,none⟩=some (.int .i64 ((rd_T27 l0 x10_1).f4))∧w'.cell? ⟨gb270,5,none⟩=some (.slice A269_5 ((rd_T27 l0 x10_1).f5).length c269_5)∧w'.cell? (ad269.add (((ji9)).toNat * 6))=some (.bool ((rd_T27 l0 (ji9)).f0))∧w'.cell? ⟨(ad269.add (((ji9)).toNat * 6)).block,(ad269.add (((ji9)).toNat * 6)).off+1,none⟩=some (.bool ((rd_T27 l0 (ji9)).f1))∧w'.cell? ⟨(ad269.add (((ji9)).toNat * 6)).block,(ad269.add (((ji9)).toNat * 6)).off+2,none⟩=some (.int .i64 ((rd_T27 l0 (ji9)).f2))∧w'.cell? ⟨(ad269.add (((ji9)).toNat * 6)).block,(ad269.add (((ji9)).toNat * 6)).off+3,none⟩=some (.int .i64 ((rd_T27 l0 (ji9)).f3))∧w'.cell? ⟨(ad269.add (((ji9)).toNat * 6)).block,(ad269.add (((ji9)).toNat * 6)).off+4,none⟩=some (.int .i64 ((rd_T27 l0 (ji9)).f4))∧w'.cell? ⟨(ad269.add (((ji9)).toNat * 6)).block,(ad269.add (((ji9)).toNat * 6)).off+5,none⟩=some (.slice A272_5 ((rd_T27 l0 (ji9)).f5).length c272_5)) (ds:=[]) (zzB 18 0) (by kernel_rfl) rfl rfl ⟨(zzk BK270.out 0).trans rfl,(zzk BK270.out 1).trans rfl,(zzk BK270.out 2).trans rfl,(zzk BK270.out 3).trans rfl,(zzk BK270.out 4).trans rfl,(zzk BK270.out 5).trans rfl,(zzx HB.out hw272_0),(zzx HB.out hw272_1),(zzx HB.out hw272_2),(zzx HB.out hw272_3),(zzx HB.out hw272_4),(zzx HB.out hw272_5)⟩ (fun hHeld=>?_);refine with_tabW impl_LogValid.tab6 impl_LogValid.bits6 (fun HT_ HW_=>?_);generalize w24.drew=w25 at BK270 HB HR272_5 hx272_0 hx272_1 hx272_2 hx272_3 hx272_4 hx272_5 hHeld ⊢;refine take_ (i:=0) (N:=some 15) (v:=?_) (a':=?_) (zzB 18 1) rfl rfl (take_ofW HT_.out HW_.out (by kernel_rfl)) (fun _ _ _ h=>h) (Or.inl ⟨by rfl,?_⟩) hHeld ?_ ?_;rotate_left
            ·
             rintro w' ⟨s0,s1,s2,s3,s4,s5,s6,s7,s8,s9,s10,s11⟩;go_simp;with_reducible rfl
            rotate_left
            ·
             simp only [Act.put,zzq,zzr,zzs,i64_w,i32_w];rfl
            refine one_ (i:=1) (N:=some 16) (zzB 18 3) rfl rfl (one_of HT_.out (by kernel_rfl)) (by decide) (fun K hK=>?_);refine goes_ Try.func22 (by kernel_rfl) rfl #[.agg #[.bool ((rd_T27 l0 x10_1).f0),.bool ((rd_T27 l0 x10_1).f1),.int .i64 ((rd_T27 l0 x10_1).f2),.int .i64 ((rd_T27 l0 x10_1).f3),.int .i64 ((rd_T27 l0 x10_1).f4),.slice A269_5 ((rd_T27 l0 x10_1).f5).length c269_5]] (by rfl) rfl rfl zzM2 ?_;with_reducible refine (impl_BatchValid.calls k1 ((rd_T27 l0 x10_1).f0) ((rd_T27 l0 x10_1).f1) ((rd_T27 l0 x10_1).f2) ((rd_T27 l0 x10_1).f3) ((rd_T27 l0 x10_1).f4) _ _ ((rd_T27 l0 x10_1).f5) true _ ?side1 ?side2 A6.out).mono ?_
            (case side1=>repeat (first|exact (Kd.C_below HR269_5.out HB.out)|(with_reducible refine Kd.C_alloc ?_ _)|(with_reducible refine Kd.C_drewN ?_ _)|(with_reducible refine Kd.C_drew ?_)))
            (case side2=>exact HC269_5.out);rintro e w26 ⟨rfl,hb⟩;refine ⟨_,rfl,?_⟩;have n0_:=zzm (zzh (g:=gb270) (o:=.cells #[.bool ((rd_T27 l0 x10_1).f0),.bool ((rd_T27 l0 x10_1).f1),.int .i64 ((rd_T27 l0 x10_1).f2),.int .i64 ((rd_T27 l0 x10_1).f3),.int .i64 ((rd_T27 l0 x10_1).f4),.slice A269_5 ((rd_T27 l0 x10_1).f5).length c269_5] 27 (0,0)) (zzE BK270.out) hb);have n1_:=zzm (zzp zzh2 hb);clear BK270 HB;have BK270:=n0_;have HB:=n1_;clear n0_ n1_
            (try clear hb)
            (try clear hb2)
            (try clear hk)
            (try clear hi);refine hK.out _ _ ⟨(zzk BK270.out 0).trans rfl,(zzk BK270.out 1).trans rfl,(zzk BK270.out 2).trans rfl,(zzk BK270.out 3).trans rfl,(zzk BK270.out 4).trans rfl,(zzk BK270.out 5).trans rfl,(zzx HB.out hw272_0),(zzx HB.out hw272_1),(zzx HB.out hw272_2),(zzx HB.out hw272_3),(zzx HB.out hw272_4),(zzx HB.out hw272_5)⟩ (fun hHeld=>?_);clear hK K;refine norm_ (a':=?_) ?_ ?_;rotate_left
            ·
             show Act.put _ (some 16) _ = _;simp only [Act.put,zzq,zzr,zzs,i64_w,i32_w];rfl
            refine pure_ (i:=2) (N:=some 17) (v:=?_) (a':=?_) (zzB 18 7) rfl rfl (zzA2 HT_.out) (fun _ _ _ h=>h) (Or.inl ⟨by rfl,?_⟩) ?_ ?_;rotate_left
            ·
             intro w';go_simp;with_reducible rfl
            rotate_left
            ·
             simp only [Act.put,zzq,zzr,zzs,i64_w,i32_w];rfl
            refine pure_ (i:=3) (N:=some 18) (v:=?_) (a':=?_) (zzB 18 15) rfl rfl (zzA2 HT_.out) (fun _ _ _ h=>h) (Or.inl ⟨by rfl,?_⟩) ?_ ?_;rotate_left
            ·
             intro w';go_simp;with_reducible rfl
            rotate_left
            ·
             simp only [Act.put,zzq,zzr,zzs,i64_w,i32_w];rfl
            refine pure_ (i:=4) (N:=some 19) (v:=?_) (a':=?_) (zzB 18 31) rfl rfl (zzA2 HT_.out) (fun _ _ _ h=>h) (Or.inl ⟨by rfl,?_⟩) ?_ ?_;rotate_left
            ·
             intro w';go_simp;with_reducible rfl
            rotate_left
            ·
             simp only [Act.put,zzq,zzr,zzs,i64_w,i32_w];rfl
            refine pure_ (i:=5) (N:=some 20) (v:=?_) (a':=?_) (zzB 18 63) rfl rfl (zzA2 HT_.out) (fun _ _ _ h=>h) (Or.inl ⟨by rfl,?_⟩) ?_ ?_;rotate_left
            ·
             intro w';go_simp;with_reducible rfl
            rotate_left
            ·
             simp only [Act.put,zzq,zzr,zzs,i64_w,i32_w];rfl
            refine pure_ (i:=6) (N:=some 21) (v:=?_) (a':=?_) (zzB 18 127) rfl rfl (zzA2 HT_.out) (fun _ _ _ h=>h) (Or.inl ⟨by rfl,?_⟩) ?_ ?_;rotate_left
            ·
             intro w';go_simp;with_reducible rfl
            rotate_left
            ·
             simp only [Act.put,zzq,zzr,zzs,i64_w,i32_w];rfl
            refine pure_ (i:=7) (N:=some 22) (v:=?_) (a':=?_) (zzB 18 255) rfl rfl (zzA2 HT_.out) (fun _ _ _ h=>h) (Or.inl ⟨by rfl,?_⟩) ?_ ?_;rotate_left
            ·
             intro w';go_simp;with_reducible rfl
            rotate_left
            ·
             simp only [Act.put,zzq,zzr,zzs,i64_w,i32_w];rfl
            refine pure_ (i:=8) (N:=some 23) (v:=?_) (a':=?_) (zzB 18 511) rfl rfl (zzA2 HT_.out) (fun _ _ _ h=>h) (Or.inl ⟨by rfl,?_⟩) ?_ ?_;rotate_left
            ·
             intro w';go_simp;with_reducible rfl
            rotate_left
            ·
             simp only [Act.put,zzq,zzr,zzs,i64_w,i32_w];rfl
            refine pure_ (i:=9) (N:=some 24) (v:=?_) (a':=?_) (zzB 18 1023) rfl rfl (zzA2 HT_.out) (fun _ _ _ h=>h) (Or.inl ⟨by rfl,?_⟩) ?_ ?_;rotate_left
            ·
             intro w';go_simp;with_reducible rfl
            rotate_left
            ·
             simp only [Act.put,zzq,zzr,zzs,i64_w,i32_w];rfl
            refine pure_ (i:=10) (N:=some 25) (v:=?_) (a':=?_) (zzB 18 2047) rfl rfl (zzA2 HT_.out) (fun _ _ _ h=>h) (Or.inl ⟨by rfl,?_⟩) ?_ ?_;rotate_left
            ·
             intro w';go_simp;with_reducible rfl
            rotate_left
            ·
             simp only [Act.put,zzq,zzr,zzs,i64_w,i32_w];rfl
            refine take_ (i:=11) (N:=some 26) (v:=?_) (a':=?_) (zzB 18 4095) rfl rfl (take_ofW HT_.out HW_.out (by kernel_rfl)) (fun _ _ _ h=>h) (Or.inl ⟨by rfl,?_⟩) hHeld ?_ ?_;rotate_left
            ·
             rintro w' ⟨s0,s1,s2,s3,s4,s5,s6,s7,s8,s9,s10,s11⟩;go_simp;with_reducible rfl
            rotate_left
            ·
             simp only [Act.put,zzq,zzr,zzs,i64_w,i32_w];rfl
            refine take_ (i:=13) (N:=some 28) (v:=?_) (a':=?_) (zzB 18 12287) rfl rfl (take_ofW HT_.out HW_.out (by kernel_rfl)) (fun _ _ _ h=>h) (Or.inl ⟨by rfl,?_⟩) hHeld ?_ ?_;rotate_left
            ·
             rintro w' ⟨s0,s1,s2,s3,s4,s5,s6,s7,s8,s9,s10,s11⟩;go_simp;with_reducible rfl
            rotate_left
            ·
             simp only [Act.put,zzq,zzr,zzs,i64_w,i32_w];rfl
            refine one_ (i:=12) (N:=some 27) (zzB 18 16383) rfl rfl (one_of HT_.out (by kernel_rfl)) (by decide) (fun K hK=>?_);refine goes_ Try.func65 (by kernel_rfl) rfl #[.agg #[.bool ((rd_T27 l0 (ji9)).f0),.bool ((rd_T27 l0 (ji9)).f1),.int .i64 ((rd_T27 l0 (ji9)).f2),.int .i64 ((rd_T27 l0 (ji9)).f3),.int .i64 ((rd_T27 l0 (ji9)).f4),.slice A272_5 ((rd_T27 l0 (ji9)).f5).length c272_5]] (by rfl) rfl rfl (by (try simp only [map_toArray,map_cons,map_nil]);first|done|(simp only [hji9];rfl)|rfl|(simp only [length_drop,length_take];rfl)) ?_;with_reducible refine (impl_Batch_last.calls ((rd_T27 l0 (ji9)).f0) ((rd_T27 l0 (ji9)).f1) ((rd_T27 l0 (ji9)).f2) ((rd_T27 l0 (ji9)).f3) ((rd_T27 l0 (ji9)).f4) _ _ ((rd_T27 l0 (ji9)).f5) t273 _ ?side1 ?side2 A12.out).mono ?_
            (case side1=>repeat (first|exact (Kd.C_below HR272_5.out HB.out)|(with_reducible refine Kd.C_alloc ?_ _)|(with_reducible refine Kd.C_drewN ?_ _)|(with_reducible refine Kd.C_drew ?_)))
            (case side2=>exact HC272_5.out);rintro e w27 ⟨rfl,hb⟩;refine ⟨_,rfl,?_⟩;have n0_:=zzm (zzh (g:=gb270) (o:=.cells #[.bool ((rd_T27 l0 x10_1).f0),.bool ((rd_T27 l0 x10_1).f1),.int .i64 ((rd_T27 l0 x10_1).f2),.int .i64 ((rd_T27 l0 x10_1).f3),.int .i64 ((rd_T27 l0 x10_1).f4),.slice A269_5 ((rd_T27 l0 x10_1).f5).length c269_5] 27 (0,0)) (zzE BK270.out) hb);have n1_:=zzm (zzp zzh2 hb);clear BK270 HB;have BK270:=n0_;have HB:=n1_;clear n0_ n1_
            (try clear hb)
            (try clear hb2)
            (try clear hk)
            (try clear hi);refine hK.out _ _ ⟨(zzk BK270.out 0).trans rfl,(zzk BK270.out 1).trans rfl,(zzk BK270.out 2).trans rfl,(zzk BK270.out 3).trans rfl,(zzk BK270.out 4).trans rfl,(zzk BK270.out 5).trans rfl,(zzx HB.out hw272_0),(zzx HB.out hw272_1),(zzx HB.out hw272_2),(zzx HB.out hw272_3),(zzx HB.out hw272_4),(zzx HB.out hw272_5)⟩ (fun hHeld=>?_);clear hK K;refine norm_ (a':=?_) ?_ ?_;rotate_left
            ·
             show Act.put _ (some 27) _ = _;simp only [Act.put,zzq,zzr,zzs,i64_w,i32_w];rfl
            refine one_ (i:=14) (N:=some 29) (zzB 18 32767) rfl rfl (one_of HT_.out (by kernel_rfl)) (by decide) (fun K hK=>?_);refine goes_ Try.func63 (by kernel_rfl) rfl #[.agg #[.bool ((rd_T27 l0 x10_1).f0),.bool ((rd_T27 l0 x10_1).f1),.int .i64 ((rd_T27 l0 x10_1).f2),.int .i64 ((rd_T27 l0 x10_1).f3),.int .i64 ((rd_T27 l0 x10_1).f4),.slice A269_5 ((rd_T27 l0 x10_1).f5).length c269_5]] (by rfl) rfl rfl zzM2 ?_;with_reducible refine (impl_Batch_first.calls ((rd_T27 l0 x10_1).f0) ((rd_T27 l0 x10_1).f1) ((rd_T27 l0 x10_1).f2) ((rd_T27 l0 x10_1).f3) ((rd_T27 l0 x10_1).f4) _ _ ((rd_T27 l0 x10_1).f5) t274 _ ?side1 ?side2 A13.out).mono ?_
            (case side1=>repeat (first|exact (Kd.C_below HR269_5.out HB.out)|(with_reducible refine Kd.C_alloc ?_ _)|(with_reducible refine Kd.C_drewN ?_ _)|(with_reducible refine Kd.C_drew ?_)))
            (case side2=>exact HC269_5.out);rintro e w28 ⟨rfl,hb⟩;refine ⟨_,rfl,?_⟩;have n0_:=zzm (zzh (g:=gb270) (o:=.cells #[.bool ((rd_T27 l0 x10_1).f0),.bool ((rd_T27 l0 x10_1).f1),.int .i64 ((rd_T27 l0 x10_1).f2),.int .i64 ((rd_T27 l0 x10_1).f3),.int .i64 ((rd_T27 l0 x10_1).f4),.slice A269_5 ((rd_T27 l0 x10_1).f5).length c269_5] 27 (0,0)) (zzE BK270.out) hb);have n1_:=zzm (zzp zzh2 hb);clear BK270 HB;have BK270:=n0_;have HB:=n1_;clear n0_ n1_
            (try clear hb)
            (try clear hb2)
            (try clear hk)
            (try clear hi);refine hK.out _ _ ⟨(zzk BK270.out 0).trans rfl,(zzk BK270.out 1).trans rfl,(zzk BK270.out 2).trans rfl,(zzk BK270.out 3).trans rfl,(zzk BK270.out 4).trans rfl,(zzk BK270.out 5).trans rfl,(zzx HB.out hw272_0),(zzx HB.out hw272_1),(zzx HB.out hw272_2),(zzx HB.out hw272_3),(zzx HB.out hw272_4),(zzx HB.out hw272_5)⟩ (fun hHeld=>?_);clear hK K;refine norm_ (a':=?_) ?_ ?_;rotate_left
            ·
             show Act.put _ (some 29) _ = _;simp only [Act.put,zzq,zzr,zzs,i64_w,i32_w];rfl
            refine pure_ (i:=15) (N:=some 30) (v:=?_) (a':=?_) (zzB 18 65535) rfl rfl (zzA2 HT_.out) (fun _ _ _ h=>h) (Or.inl ⟨by rfl,?_⟩) ?_ ?_;rotate_left
            ·
             intro w';go_simp;with_reducible rfl
            rotate_left
            ·
             simp only [Act.put,zzq,zzr,zzs,i64_w,i32_w];rfl
            refine pure_ (i:=16) (N:=some 31) (v:=?_) (a':=?_) (zzB 18 131071) rfl rfl (zzA2 HT_.out) (fun _ _ _ h=>h) (Or.inl ⟨by rfl,?_⟩) ?_ ?_;rotate_left
            ·
             intro w';go_simp;with_reducible rfl
            rotate_left
            ·
             simp only [Act.put,zzq,zzr,zzs,i64_w,i32_w];rfl
            refine pure_ (i:=17) (N:=some 32) (v:=?_) (a':=?_) (zzB 18 262143) rfl rfl (zzA2 HT_.out) (fun _ _ _ h=>h) (Or.inl ⟨by rfl,?_⟩) ?_ ?_;rotate_left
            ·
             intro w';go_simp;with_reducible rfl
            rotate_left
            ·
             simp only [Act.put,zzq,zzr,zzs,i64_w,i32_w];rfl
            refine done_ (done_of HT_.out (by kernel_rfl)) ?_;try go_wp2
            go_roundg k1
            case measure=>have:=HK1.out;omega
            case rel=>exact ⟨(wrap64 (x10_1+1)),(by first|rfl|(simp;done)|(simp [*];done)),H',⟨by have:=HK1.out;omega⟩,⟨by repeat (first|(with_reducible first|exact HB.out|apply zza|apply zzb|apply zzc|refine zzd ?_ GE270.out)|exact HB.out)⟩⟩
          ·
           rw [if_neg c11] at H;exact absurd H (by simp)
         ·
          rw [if_neg c10] at H;exact absurd H (by simp)
        ·
         rw [if_neg c8] at H;have c8b0:decide (0 < x10_1)=false:=decide_eq_false c8;clear c8;have H':=zzm H;clear H;have p269 : 0≤(x10_1:Int):=zzt;have q269:x10_1 < (l0.length:Int):=zzt;obtain ⟨ad269,A269_5,c269_5,e269,hx269_0,hx269_1,hx269_2,hx269_3,hx269_4,hx269_5,hl269_5,hi269_5⟩:=at_T27 HR0.out x10_1 p269 q269;cases e269;replace hx269_0:=zzx HB.out hx269_0;replace hx269_1:=zzx HB.out hx269_1;replace hx269_2:=zzx HB.out hx269_2;replace hx269_3:=zzx HB.out hx269_3;replace hx269_4:=zzx HB.out hx269_4;replace hx269_5:=zzx HB.out hx269_5;have HR269_5:=zzm hi269_5;have HC269_5:=zzm hl269_5;clear hi269_5 hl269_5;replace p269:=eq_true p269;replace q269:=eq_true q269;try go_wp2_with (first|((with_reducible refine gate_dst (N:=4) rfl ?_);refine box_event ?hg (N:=4) ?hd (cs:=#[.bool false,.bool false,.int .i64 0,.int .i64 0,.int .i64 0,.slice none 0 0]) (t:=27) ?hr ?_;(case hd=>rfl);(case hg=>rfl);(case hr=>first|(go_simp;done)|(go_simp;rfl));intro gb270 hg w29 hbox hb;have n0_:=zzm (zzp zzh1 hb);have n1_:=zzm (hbox);have n2_:=zzm ((by rw [hg];exact (zzo zzh1):w.heap.size≤gb270));have n3_:=zzm ((by rw [hg];exact (zzo zzh1):w.heap.size≤gb270));clear HB;have HB:=n0_;have BK270:=n1_;have GW270:=n2_;have GE270:=n3_;clear n0_ n1_ n2_ n3_ hb hbox hg;obtain ⟨hcz30_0,hcz30_1,hcz30_2,hcz30_3,hcz30_4,hcz30_5,hfz30_0,hfz30_1,hfz30_2,hfz30_3,hfz30_4,hfz30_5⟩:=zzc6 BK270.out))
         have n0_:Aside0 (((((((w29.setCell ⟨gb270,0,none⟩ (.bool ((rd_T27 l0 x10_1).f0))).setCell ⟨gb270,1,none⟩ (.bool ((rd_T27 l0 x10_1).f1))).setCell ⟨gb270,2,none⟩ (.int .i64 ((rd_T27 l0 x10_1).f2))).setCell ⟨gb270,3,none⟩ (.int .i64 ((rd_T27 l0 x10_1).f3))).setCell ⟨gb270,4,none⟩ (.int .i64 ((rd_T27 l0 x10_1).f4))).setCell ⟨gb270,5,none⟩ (.slice A269_5 ((rd_T27 l0 x10_1).f5).length c269_5)).heap[gb270]? = some (.cells #[.bool ((rd_T27 l0 x10_1).f0),.bool ((rd_T27 l0 x10_1).f1),.int .i64 ((rd_T27 l0 x10_1).f2),.int .i64 ((rd_T27 l0 x10_1).f3),.int .i64 ((rd_T27 l0 x10_1).f4),.slice A269_5 ((rd_T27 l0 x10_1).f5).length c269_5] 27 (0,0))):=⟨by (with_reducible repeat (first|apply zzf|apply zzg|apply zze));refine zzi (cs:=#[.bool ((rd_T27 l0 x10_1).f0),.bool ((rd_T27 l0 x10_1).f1),.int .i64 ((rd_T27 l0 x10_1).f2),.int .i64 ((rd_T27 l0 x10_1).f3),.int .i64 ((rd_T27 l0 x10_1).f4),.slice none 0 0]) ?_ 5 _ rfl;(with_reducible repeat (first|apply zzf|apply zzg|apply zze));refine zzi (cs:=#[.bool ((rd_T27 l0 x10_1).f0),.bool ((rd_T27 l0 x10_1).f1),.int .i64 ((rd_T27 l0 x10_1).f2),.int .i64 ((rd_T27 l0 x10_1).f3),.int .i64 0,.slice none 0 0]) ?_ 4 _ rfl;(with_reducible repeat (first|apply zzf|apply zzg|apply zze));refine zzi (cs:=#[.bool ((rd_T27 l0 x10_1).f0),.bool ((rd_T27 l0 x10_1).f1),.int .i64 ((rd_T27 l0 x10_1).f2),.int .i64 0,.int .i64 0,.slice none 0 0]) ?_ 3 _ rfl;(with_reducible repeat (first|apply zzf|apply zzg|apply zze));refine zzi (cs:=#[.bool ((rd_T27 l0 x10_1).f0),.bool ((rd_T27 l0 x10_1).f1),.int .i64 0,.int .i64 0,.int .i64 0,.slice none 0 0]) ?_ 2 _ rfl;(with_reducible repeat (first|apply zzf|apply zzg|apply zze));refine zzi (cs:=#[.bool ((rd_T27 l0 x10_1).f0),.bool false,.int .i64 0,.int .i64 0,.int .i64 0,.slice none 0 0]) ?_ 1 _ rfl;(with_reducible repeat (first|apply zzf|apply zzg|apply zze));refine zzi (cs:=#[.bool false,.bool false,.int .i64 0,.int .i64 0,.int .i64 0,.slice none 0 0]) ?_ 0 _ rfl;(with_reducible repeat (first|apply zzf|apply zzg|apply zze));exact BK270.out⟩;have n1_:Aside0 (Below w.heap.size w ((((((w29.setCell ⟨gb270,0,none⟩ (.bool ((rd_T27 l0 x10_1).f0))).setCell ⟨gb270,1,none⟩ (.bool ((rd_T27 l0 x10_1).f1))).setCell ⟨gb270,2,none⟩ (.int .i64 ((rd_T27 l0 x10_1).f2))).setCell ⟨gb270,3,none⟩ (.int .i64 ((rd_T27 l0 x10_1).f3))).setCell ⟨gb270,4,none⟩ (.int .i64 ((rd_T27 l0 x10_1).f4))).setCell ⟨gb270,5,none⟩ (.slice A269_5 ((rd_T27 l0 x10_1).f5).length c269_5))):=⟨by repeat (first|(with_reducible first|exact HB.out|apply zza|apply zzb|apply zzc|refine zzd ?_ GE270.out)|exact HB.out)⟩
         (try clear BK270)
         (try clear HB);generalize ((((((w29.setCell ⟨gb270,0,none⟩ (.bool ((rd_T27 l0 x10_1).f0))).setCell ⟨gb270,1,none⟩ (.bool ((rd_T27 l0 x10_1).f1))).setCell ⟨gb270,2,none⟩ (.int .i64 ((rd_T27 l0 x10_1).f2))).setCell ⟨gb270,3,none⟩ (.int .i64 ((rd_T27 l0 x10_1).f3))).setCell ⟨gb270,4,none⟩ (.int .i64 ((rd_T27 l0 x10_1).f4))).setCell ⟨gb270,5,none⟩ (.slice A269_5 ((rd_T27 l0 x10_1).f5).length c269_5))=w31 at n0_ n1_ ⊢;have BK270:=n0_;have HB:=n1_;clear n0_ n1_;have n0_:=zzm (zzg BK270.out);have n1_:=zzm (zzc HB.out);clear BK270 HB;have BK270:=n0_;have HB:=n1_;clear n0_ n1_;refine start_ (n:=18) (S:=fun w'=>w'.cell? ⟨gb270,0,none⟩=some (.bool ((rd_T27 l0 x10_1).f0))∧w'.cell? ⟨gb270,1,none⟩=some (.bool ((rd_T27 l0 x10_1).f1))∧w'.cell? ⟨gb270,2,none⟩=some (.int .i64 ((rd_T27 l0 x10_1).f2))∧w'.cell? ⟨gb270,3,none⟩=some (.int .i64 ((rd_T27 l0 x10_1).f3))∧w'.cell? ⟨gb270,4,none⟩=some (.int .i64 ((rd_T27 l0 x10_1).f4))∧w'.cell? ⟨gb270,5,none⟩=some (.slice A269_5 ((rd_T27 l0 x10_1).f5).length c269_5)) (ds:=[]) (zzB 18 0) (by kernel_rfl) rfl rfl ⟨(zzk BK270.out 0).trans rfl,(zzk BK270.out 1).trans rfl,(zzk BK270.out 2).trans rfl,(zzk BK270.out 3).trans rfl,(zzk BK270.out 4).trans rfl,(zzk BK270.out 5).trans rfl⟩ (fun hHeld=>?_);refine with_tabW impl_LogValid.tab6 impl_LogValid.bits6 (fun HT_ HW_=>?_);generalize w31.drew=w32 at BK270 HB hHeld ⊢;refine take_ (i:=0) (N:=some 15) (v:=?_) (a':=?_) (zzB 18 1) rfl rfl (take_ofW HT_.out HW_.out (by kernel_rfl)) (fun _ _ _ h=>h) (Or.inl ⟨by rfl,?_⟩) hHeld ?_ ?_;rotate_left
         ·
          rintro w' ⟨s0,s1,s2,s3,s4,s5⟩;go_simp;with_reducible rfl
         rotate_left
         ·
          simp only [Act.put,zzq,zzr,zzs,i64_w,i32_w];rfl
         refine one_ (i:=1) (N:=some 16) (zzB 18 3) rfl rfl (one_of HT_.out (by kernel_rfl)) (by decide) (fun K hK=>?_);refine goes_ Try.func22 (by kernel_rfl) rfl #[.agg #[.bool ((rd_T27 l0 x10_1).f0),.bool ((rd_T27 l0 x10_1).f1),.int .i64 ((rd_T27 l0 x10_1).f2),.int .i64 ((rd_T27 l0 x10_1).f3),.int .i64 ((rd_T27 l0 x10_1).f4),.slice A269_5 ((rd_T27 l0 x10_1).f5).length c269_5]] (by rfl) rfl rfl zzM2 ?_;with_reducible refine (impl_BatchValid.calls k1 ((rd_T27 l0 x10_1).f0) ((rd_T27 l0 x10_1).f1) ((rd_T27 l0 x10_1).f2) ((rd_T27 l0 x10_1).f3) ((rd_T27 l0 x10_1).f4) _ _ ((rd_T27 l0 x10_1).f5) true _ ?side1 ?side2 A6.out).mono ?_
         (case side1=>repeat (first|exact (Kd.C_below HR269_5.out HB.out)|(with_reducible refine Kd.C_alloc ?_ _)|(with_reducible refine Kd.C_drewN ?_ _)|(with_reducible refine Kd.C_drew ?_)))
         (case side2=>exact HC269_5.out);rintro e w33 ⟨rfl,hb⟩;refine ⟨_,rfl,?_⟩;have n0_:=zzm (zzh (g:=gb270) (o:=.cells #[.bool ((rd_T27 l0 x10_1).f0),.bool ((rd_T27 l0 x10_1).f1),.int .i64 ((rd_T27 l0 x10_1).f2),.int .i64 ((rd_T27 l0 x10_1).f3),.int .i64 ((rd_T27 l0 x10_1).f4),.slice A269_5 ((rd_T27 l0 x10_1).f5).length c269_5] 27 (0,0)) (zzE BK270.out) hb);have n1_:=zzm (zzp zzh2 hb);clear BK270 HB;have BK270:=n0_;have HB:=n1_;clear n0_ n1_
         (try clear hb)
         (try clear hb2)
         (try clear hk)
         (try clear hi);refine hK.out _ _ ⟨(zzk BK270.out 0).trans rfl,(zzk BK270.out 1).trans rfl,(zzk BK270.out 2).trans rfl,(zzk BK270.out 3).trans rfl,(zzk BK270.out 4).trans rfl,(zzk BK270.out 5).trans rfl⟩ (fun hHeld=>?_);clear hK K;refine norm_ (a':=?_) ?_ ?_;rotate_left
         ·
          show Act.put _ (some 16) _ = _;simp only [Act.put,zzq,zzr,zzs,i64_w,i32_w];rfl
         refine pure_ (i:=2) (N:=some 17) (v:=?_) (a':=?_) (zzB 18 7) rfl rfl (zzA2 HT_.out) (fun _ _ _ h=>h) (Or.inl ⟨by rfl,?_⟩) ?_ ?_;rotate_left
         ·
          intro w';go_simp;with_reducible rfl
         rotate_left
         ·
          simp only [Act.put,zzq,zzr,zzs,i64_w,i32_w];rfl
         refine pure_ (i:=3) (N:=some 18) (v:=?_) (a':=?_) (zzB 18 15) rfl rfl (zzA2 HT_.out) (fun _ _ _ h=>h) (Or.inl ⟨by rfl,?_⟩) ?_ ?_;rotate_left
         ·
          intro w';go_simp;with_reducible rfl
         rotate_left
         ·
          simp only [Act.put,zzq,zzr,zzs,i64_w,i32_w];rfl
         refine pure_ (i:=4) (N:=some 19) (v:=?_) (a':=?_) (zzB 18 31) rfl rfl (zzA2 HT_.out) (fun _ _ _ h=>h) (Or.inl ⟨by rfl,?_⟩) ?_ ?_;rotate_left
         ·
          intro w';go_simp;with_reducible rfl
         rotate_left
         ·
          simp only [Act.put,zzq,zzr,zzs,i64_w,i32_w];rfl
         refine pure_ (i:=5) (N:=some 20) (v:=?_) (a':=?_) (zzB 18 63) rfl rfl (zzA2 HT_.out) (fun _ _ _ h=>h) (Or.inl ⟨by rfl,?_⟩) ?_ ?_;rotate_left
         ·
          intro w';go_simp;with_reducible rfl
         rotate_left
         ·
          simp only [Act.put,zzq,zzr,zzs,i64_w,i32_w];rfl
         refine pure_ (i:=6) (N:=some 21) (v:=?_) (a':=?_) (zzB 18 127) rfl rfl (zzA2 HT_.out) (fun _ _ _ h=>h) (Or.inl ⟨by rfl,?_⟩) ?_ ?_;rotate_left
         ·
          intro w';go_simp;with_reducible rfl
         rotate_left
         ·
          simp only [Act.put,zzq,zzr,zzs,i64_w,i32_w];rfl
         refine pure_ (i:=7) (N:=some 22) (v:=undef) (a':=?_) (zzB 18 255) rfl rfl (zzA2 HT_.out) (fun _ _ _ h=>h) (Or.inr ⟨by rfl,rfl⟩) ?_ ?_;rotate_left
         ·
          simp only [Act.put,zzq,zzr,zzs,i64_w,i32_w];rfl
         refine pure_ (i:=8) (N:=some 23) (v:=undef) (a':=?_) (zzB 18 511) rfl rfl (zzA2 HT_.out) (fun _ _ _ h=>h) (Or.inr ⟨by rfl,rfl⟩) ?_ ?_;rotate_left
         ·
          simp only [Act.put,zzq,zzr,zzs,i64_w,i32_w];rfl
         refine pure_ (i:=9) (N:=some 24) (v:=undef) (a':=?_) (zzB 18 1023) rfl rfl (zzA2 HT_.out) (fun _ _ _ h=>h) (Or.inr ⟨by rfl,rfl⟩) ?_ ?_;rotate_left
         ·
          simp only [Act.put,zzq,zzr,zzs,i64_w,i32_w];rfl
         refine pure_ (i:=10) (N:=some 25) (v:=undef) (a':=?_) (zzB 18 2047) rfl rfl (zzA2 HT_.out) (fun _ _ _ h=>h) (Or.inr ⟨by rfl,rfl⟩) ?_ ?_;rotate_left
         ·
          simp only [Act.put,zzq,zzr,zzs,i64_w,i32_w];rfl
         refine pure_ (i:=11) (N:=some 26) (v:=undef) (a':=?_) (zzB 18 4095) rfl rfl (zzA2 HT_.out) (fun _ _ _ h=>h) (Or.inr ⟨by rfl,rfl⟩) ?_ ?_;rotate_left
         ·
          simp only [Act.put,zzq,zzr,zzs,i64_w,i32_w];rfl
         refine pure_ (i:=12) (N:=some 27) (v:=undef) (a':=?_) (zzB 18 8191) rfl rfl (zzA2 HT_.out) (fun _ _ _ h=>h) (Or.inr ⟨by rfl,rfl⟩) ?_ ?_;rotate_left
         ·
          simp only [Act.put,zzq,zzr,zzs,i64_w,i32_w];rfl
         refine pure_ (i:=13) (N:=some 28) (v:=undef) (a':=?_) (zzB 18 16383) rfl rfl (zzA2 HT_.out) (fun _ _ _ h=>h) (Or.inr ⟨by rfl,rfl⟩) ?_ ?_;rotate_left
         ·
          simp only [Act.put,zzq,zzr,zzs,i64_w,i32_w];rfl
         refine pure_ (i:=14) (N:=some 29) (v:=undef) (a':=?_) (zzB 18 32767) rfl rfl (zzA2 HT_.out) (fun _ _ _ h=>h) (Or.inr ⟨by rfl,rfl⟩) ?_ ?_;rotate_left
         ·
          simp only [Act.put,zzq,zzr,zzs,i64_w,i32_w];rfl
         refine pure_ (i:=15) (N:=some 30) (v:=undef) (a':=?_) (zzB 18 65535) rfl rfl (zzA2 HT_.out) (fun _ _ _ h=>h) (Or.inr ⟨by rfl,rfl⟩) ?_ ?_;rotate_left
         ·
          simp only [Act.put,zzq,zzr,zzs,i64_w,i32_w];rfl
         refine pure_ (i:=16) (N:=some 31) (v:=?_) (a':=?_) (zzB 18 131071) rfl rfl (zzA2 HT_.out) (fun _ _ _ h=>h) (Or.inl ⟨by rfl,?_⟩) ?_ ?_;rotate_left
         ·
          intro w';go_simp;with_reducible rfl
         rotate_left
         ·
          simp only [Act.put,zzq,zzr,zzs,i64_w,i32_w];rfl
         refine pure_ (i:=17) (N:=some 32) (v:=?_) (a':=?_) (zzB 18 262143) rfl rfl (zzA2 HT_.out) (fun _ _ _ h=>h) (Or.inl ⟨by rfl,?_⟩) ?_ ?_;rotate_left
         ·
          intro w';go_simp;with_reducible rfl
         rotate_left
         ·
          simp only [Act.put,zzq,zzr,zzs,i64_w,i32_w];rfl
         refine done_ (done_of HT_.out (by kernel_rfl)) ?_;try go_wp2
         go_roundg k1
         case measure=>have:=HK1.out;omega
         case rel=>exact ⟨(wrap64 (x10_1+1)),(by first|rfl|(simp;done)|(simp [*];done)),H',⟨by have:=HK1.out;omega⟩,⟨by repeat (first|(with_reducible first|exact HB.out|apply zza|apply zzb|apply zzc|refine zzd ?_ GE270.out)|exact HB.out)⟩⟩
       ·
        replace c7:=Bool.eq_false_iff.mpr c7;subst c7;have H1:(some false)=some r:=by rw [if_neg (show ¬ (false=true) by decide)] at H;exact H
        clear H;have H:=H1;clear H1;obtain rfl:=Option.some.inj H;have p269 : 0≤(x10_1:Int):=zzt;have q269:x10_1 < (l0.length:Int):=zzt;obtain ⟨ad269,A269_5,c269_5,e269,hx269_0,hx269_1,hx269_2,hx269_3,hx269_4,hx269_5,hl269_5,hi269_5⟩:=at_T27 HR0.out x10_1 p269 q269;cases e269;replace hx269_0:=zzx HB.out hx269_0;replace hx269_1:=zzx HB.out hx269_1;replace hx269_2:=zzx HB.out hx269_2;replace hx269_3:=zzx HB.out hx269_3;replace hx269_4:=zzx HB.out hx269_4;replace hx269_5:=zzx HB.out hx269_5;have HR269_5:=zzm hi269_5;have HC269_5:=zzm hl269_5;clear hi269_5 hl269_5;replace p269:=eq_true p269;replace q269:=eq_true q269;try go_wp2_with (first|((with_reducible refine gate_dst (N:=4) rfl ?_);refine box_event ?hg (N:=4) ?hd (cs:=#[.bool false,.bool false,.int .i64 0,.int .i64 0,.int .i64 0,.slice none 0 0]) (t:=27) ?hr ?_;(case hd=>rfl);(case hg=>rfl);(case hr=>first|(go_simp;done)|(go_simp;rfl));intro gb270 hg w34 hbox hb;have n0_:=zzm (zzp zzh1 hb);have n1_:=zzm (hbox);have n2_:=zzm ((by rw [hg];exact (zzo zzh1):w.heap.size≤gb270));have n3_:=zzm ((by rw [hg];exact (zzo zzh1):w.heap.size≤gb270));clear HB;have HB:=n0_;have BK270:=n1_;have GW270:=n2_;have GE270:=n3_;clear n0_ n1_ n2_ n3_ hb hbox hg;obtain ⟨hcz35_0,hcz35_1,hcz35_2,hcz35_3,hcz35_4,hcz35_5,hfz35_0,hfz35_1,hfz35_2,hfz35_3,hfz35_4,hfz35_5⟩:=zzc6 BK270.out))
        have n0_:Aside0 (((((((w34.setCell ⟨gb270,0,none⟩ (.bool ((rd_T27 l0 x10_1).f0))).setCell ⟨gb270,1,none⟩ (.bool ((rd_T27 l0 x10_1).f1))).setCell ⟨gb270,2,none⟩ (.int .i64 ((rd_T27 l0 x10_1).f2))).setCell ⟨gb270,3,none⟩ (.int .i64 ((rd_T27 l0 x10_1).f3))).setCell ⟨gb270,4,none⟩ (.int .i64 ((rd_T27 l0 x10_1).f4))).setCell ⟨gb270,5,none⟩ (.slice A269_5 ((rd_T27 l0 x10_1).f5).length c269_5)).heap[gb270]? = some (.cells #[.bool ((rd_T27 l0 x10_1).f0),.bool ((rd_T27 l0 x10_1).f1),.int .i64 ((rd_T27 l0 x10_1).f2),.int .i64 ((rd_T27 l0 x10_1).f3),.int .i64 ((rd_T27 l0 x10_1).f4),.slice A269_5 ((rd_T27 l0 x10_1).f5).length c269_5] 27 (0,0))):=⟨by (with_reducible repeat (first|apply zzf|apply zzg|apply zze));refine zzi (cs:=#[.bool ((rd_T27 l0 x10_1).f0),.bool ((rd_T27 l0 x10_1).f1),.int .i64 ((rd_T27 l0 x10_1).f2),.int .i64 ((rd_T27 l0 x10_1).f3),.int .i64 ((rd_T27 l0 x10_1).f4),.slice none 0 0]) ?_ 5 _ rfl;(with_reducible repeat (first|apply zzf|apply zzg|apply zze));refine zzi (cs:=#[.bool ((rd_T27 l0 x10_1).f0),.bool ((rd_T27 l0 x10_1).f1),.int .i64 ((rd_T27 l0 x10_1).f2),.int .i64 ((rd_T27 l0 x10_1).f3),.int .i64 0,.slice none 0 0]) ?_ 4 _ rfl;(with_reducible repeat (first|apply zzf|apply zzg|apply zze));refine zzi (cs:=#[.bool ((rd_T27 l0 x10_1).f0),.bool ((rd_T27 l0 x10_1).f1),.int .i64 ((rd_T27 l0 x10_1).f2),.int .i64 0,.int .i64 0,.slice none 0 0]) ?_ 3 _ rfl;(with_reducible repeat (first|apply zzf|apply zzg|apply zze));refine zzi (cs:=#[.bool ((rd_T27 l0 x10_1).f0),.bool ((rd_T27 l0 x10_1).f1),.int .i64 0,.int .i64 0,.int .i64 0,.slice none 0 0]) ?_ 2 _ rfl;(with_reducible repeat (first|apply zzf|apply zzg|apply zze));refine zzi (cs:=#[.bool ((rd_T27 l0 x10_1).f0),.bool false,.int .i64 0,.int .i64 0,.int .i64 0,.slice none 0 0]) ?_ 1 _ rfl;(with_reducible repeat (first|apply zzf|apply zzg|apply zze));refine zzi (cs:=#[.bool false,.bool false,.int .i64 0,.int .i64 0,.int .i64 0,.slice none 0 0]) ?_ 0 _ rfl;(with_reducible repeat (first|apply zzf|apply zzg|apply zze));exact BK270.out⟩;have n1_:Aside0 (Below w.heap.size w ((((((w34.setCell ⟨gb270,0,none⟩ (.bool ((rd_T27 l0 x10_1).f0))).setCell ⟨gb270,1,none⟩ (.bool ((rd_T27 l0 x10_1).f1))).setCell ⟨gb270,2,none⟩ (.int .i64 ((rd_T27 l0 x10_1).f2))).setCell ⟨gb270,3,none⟩ (.int .i64 ((rd_T27 l0 x10_1).f3))).setCell ⟨gb270,4,none⟩ (.int .i64 ((rd_T27 l0 x10_1).f4))).setCell ⟨gb270,5,none⟩ (.slice A269_5 ((rd_T27 l0 x10_1).f5).length c269_5))):=⟨by repeat (first|(with_reducible first|exact HB.out|apply zza|apply zzb|apply zzc|refine zzd ?_ GE270.out)|exact HB.out)⟩
        (try clear BK270)
        (try clear HB);generalize ((((((w34.setCell ⟨gb270,0,none⟩ (.bool ((rd_T27 l0 x10_1).f0))).setCell ⟨gb270,1,none⟩ (.bool ((rd_T27 l0 x10_1).f1))).setCell ⟨gb270,2,none⟩ (.int .i64 ((rd_T27 l0 x10_1).f2))).setCell ⟨gb270,3,none⟩ (.int .i64 ((rd_T27 l0 x10_1).f3))).setCell ⟨gb270,4,none⟩ (.int .i64 ((rd_T27 l0 x10_1).f4))).setCell ⟨gb270,5,none⟩ (.slice A269_5 ((rd_T27 l0 x10_1).f5).length c269_5))=w36 at n0_ n1_ ⊢;have BK270:=n0_;have HB:=n1_;clear n0_ n1_;have n0_:=zzm (zzg BK270.out);have n1_:=zzm (zzc HB.out);clear BK270 HB;have BK270:=n0_;have HB:=n1_;clear n0_ n1_;refine start_ (n:=18) (S:=fun w'=>w'.cell? ⟨gb270,0,none⟩=some (.bool ((rd_T27 l0 x10_1).f0))∧w'.cell? ⟨gb270,1,none⟩=some (.bool ((rd_T27 l0 x10_1).f1))∧w'.cell? ⟨gb270,2,none⟩=some (.int .i64 ((rd_T27 l0 x10_1).f2))∧w'.cell? ⟨gb270,3,none⟩=some (.int .i64 ((rd_T27 l0 x10_1).f3))∧w'.cell? ⟨gb270,4,none⟩=some (.int .i64 ((rd_T27 l0 x10_1).f4))∧w'.cell? ⟨gb270,5,none⟩=some (.slice A269_5 ((rd_T27 l0 x10_1).f5).length c269_5)) (ds:=[]) (zzB 18 0) (by kernel_rfl) rfl rfl ⟨(zzk BK270.out 0).trans rfl,(zzk BK270.out 1).trans rfl,(zzk BK270.out 2).trans rfl,(zzk BK270.out 3).trans rfl,(zzk BK270.out 4).trans rfl,(zzk BK270.out 5).trans rfl⟩ (fun hHeld=>?_);refine with_tabW impl_LogValid.tab6 impl_LogValid.bits6 (fun HT_ HW_=>?_);generalize w36.drew=w37 at BK270 HB hHeld ⊢;refine take_ (i:=0) (N:=some 15) (v:=?_) (a':=?_) (zzB 18 1) rfl rfl (take_ofW HT_.out HW_.out (by kernel_rfl)) (fun _ _ _ h=>h) (Or.inl ⟨by rfl,?_⟩) hHeld ?_ ?_;rotate_left
        ·
         rintro w' ⟨s0,s1,s2,s3,s4,s5⟩;go_simp;with_reducible rfl
        rotate_left
        ·
         simp only [Act.put,zzq,zzr,zzs,i64_w,i32_w];rfl
        refine one_ (i:=1) (N:=some 16) (zzB 18 3) rfl rfl (one_of HT_.out (by kernel_rfl)) (by decide) (fun K hK=>?_);refine goes_ Try.func22 (by kernel_rfl) rfl #[.agg #[.bool ((rd_T27 l0 x10_1).f0),.bool ((rd_T27 l0 x10_1).f1),.int .i64 ((rd_T27 l0 x10_1).f2),.int .i64 ((rd_T27 l0 x10_1).f3),.int .i64 ((rd_T27 l0 x10_1).f4),.slice A269_5 ((rd_T27 l0 x10_1).f5).length c269_5]] (by rfl) rfl rfl zzM2 ?_;with_reducible refine (impl_BatchValid.calls k1 ((rd_T27 l0 x10_1).f0) ((rd_T27 l0 x10_1).f1) ((rd_T27 l0 x10_1).f2) ((rd_T27 l0 x10_1).f3) ((rd_T27 l0 x10_1).f4) _ _ ((rd_T27 l0 x10_1).f5) false _ ?side1 ?side2 A6.out).mono ?_
        (case side1=>repeat (first|exact (Kd.C_below HR269_5.out HB.out)|(with_reducible refine Kd.C_alloc ?_ _)|(with_reducible refine Kd.C_drewN ?_ _)|(with_reducible refine Kd.C_drew ?_)))
        (case side2=>exact HC269_5.out);rintro e w38 ⟨rfl,hb⟩;refine ⟨_,rfl,?_⟩;have n0_:=zzm (zzh (g:=gb270) (o:=.cells #[.bool ((rd_T27 l0 x10_1).f0),.bool ((rd_T27 l0 x10_1).f1),.int .i64 ((rd_T27 l0 x10_1).f2),.int .i64 ((rd_T27 l0 x10_1).f3),.int .i64 ((rd_T27 l0 x10_1).f4),.slice A269_5 ((rd_T27 l0 x10_1).f5).length c269_5] 27 (0,0)) (zzE BK270.out) hb);have n1_:=zzm (zzp zzh2 hb);clear BK270 HB;have BK270:=n0_;have HB:=n1_;clear n0_ n1_
        (try clear hb)
        (try clear hb2)
        (try clear hk)
        (try clear hi);refine hK.out _ _ ⟨(zzk BK270.out 0).trans rfl,(zzk BK270.out 1).trans rfl,(zzk BK270.out 2).trans rfl,(zzk BK270.out 3).trans rfl,(zzk BK270.out 4).trans rfl,(zzk BK270.out 5).trans rfl⟩ (fun hHeld=>?_);clear hK K;refine norm_ (a':=?_) ?_ ?_;rotate_left
        ·
         show Act.put _ (some 16) _ = _;simp only [Act.put,zzq,zzr,zzs,i64_w,i32_w];rfl
        refine pure_ (i:=2) (N:=some 17) (v:=?_) (a':=?_) (zzB 18 7) rfl rfl (zzA2 HT_.out) (fun _ _ _ h=>h) (Or.inl ⟨by rfl,?_⟩) ?_ ?_;rotate_left
        ·
         intro w';go_simp;with_reducible rfl
        rotate_left
        ·
         simp only [Act.put,zzq,zzr,zzs,i64_w,i32_w];rfl
        refine pure_ (i:=3) (N:=some 18) (v:=?_) (a':=?_) (zzB 18 15) rfl rfl (zzA2 HT_.out) (fun _ _ _ h=>h) (Or.inl ⟨by rfl,?_⟩) ?_ ?_;rotate_left
        ·
         intro w';go_simp;with_reducible rfl
        rotate_left
        ·
         simp only [Act.put,zzq,zzr,zzs,i64_w,i32_w];rfl
        refine pure_ (i:=4) (N:=some 19) (v:=undef) (a':=?_) (zzB 18 31) rfl rfl (zzA2 HT_.out) (fun _ _ _ h=>h) (Or.inr ⟨by rfl,rfl⟩) ?_ ?_;rotate_left
        ·
         simp only [Act.put,zzq,zzr,zzs,i64_w,i32_w];rfl
        refine pure_ (i:=5) (N:=some 20) (v:=undef) (a':=?_) (zzB 18 63) rfl rfl (zzA2 HT_.out) (fun _ _ _ h=>h) (Or.inr ⟨by rfl,rfl⟩) ?_ ?_;rotate_left
        ·
         simp only [Act.put,zzq,zzr,zzs,i64_w,i32_w];rfl
        refine pure_ (i:=6) (N:=some 21) (v:=undef) (a':=?_) (zzB 18 127) rfl rfl (zzA2 HT_.out) (fun _ _ _ h=>h) (Or.inr ⟨by rfl,rfl⟩) ?_ ?_;rotate_left
        ·
         simp only [Act.put,zzq,zzr,zzs,i64_w,i32_w];rfl
        refine pure_ (i:=7) (N:=some 22) (v:=undef) (a':=?_) (zzB 18 255) rfl rfl (zzA2 HT_.out) (fun _ _ _ h=>h) (Or.inr ⟨by rfl,rfl⟩) ?_ ?_;rotate_left
        ·
         simp only [Act.put,zzq,zzr,zzs,i64_w,i32_w];rfl
        refine pure_ (i:=8) (N:=some 23) (v:=undef) (a':=?_) (zzB 18 511) rfl rfl (zzA2 HT_.out) (fun _ _ _ h=>h) (Or.inr ⟨by rfl,rfl⟩) ?_ ?_;rotate_left
        ·
         simp only [Act.put,zzq,zzr,zzs,i64_w,i32_w];rfl
        refine pure_ (i:=9) (N:=some 24) (v:=undef) (a':=?_) (zzB 18 1023) rfl rfl (zzA2 HT_.out) (fun _ _ _ h=>h) (Or.inr ⟨by rfl,rfl⟩) ?_ ?_;rotate_left
        ·
         simp only [Act.put,zzq,zzr,zzs,i64_w,i32_w];rfl
        refine pure_ (i:=10) (N:=some 25) (v:=undef) (a':=?_) (zzB 18 2047) rfl rfl (zzA2 HT_.out) (fun _ _ _ h=>h) (Or.inr ⟨by rfl,rfl⟩) ?_ ?_;rotate_left
        ·
         simp only [Act.put,zzq,zzr,zzs,i64_w,i32_w];rfl
        refine pure_ (i:=11) (N:=some 26) (v:=undef) (a':=?_) (zzB 18 4095) rfl rfl (zzA2 HT_.out) (fun _ _ _ h=>h) (Or.inr ⟨by rfl,rfl⟩) ?_ ?_;rotate_left
        ·
         simp only [Act.put,zzq,zzr,zzs,i64_w,i32_w];rfl
        refine pure_ (i:=12) (N:=some 27) (v:=undef) (a':=?_) (zzB 18 8191) rfl rfl (zzA2 HT_.out) (fun _ _ _ h=>h) (Or.inr ⟨by rfl,rfl⟩) ?_ ?_;rotate_left
        ·
         simp only [Act.put,zzq,zzr,zzs,i64_w,i32_w];rfl
        refine pure_ (i:=13) (N:=some 28) (v:=undef) (a':=?_) (zzB 18 16383) rfl rfl (zzA2 HT_.out) (fun _ _ _ h=>h) (Or.inr ⟨by rfl,rfl⟩) ?_ ?_;rotate_left
        ·
         simp only [Act.put,zzq,zzr,zzs,i64_w,i32_w];rfl
        refine pure_ (i:=14) (N:=some 29) (v:=undef) (a':=?_) (zzB 18 32767) rfl rfl (zzA2 HT_.out) (fun _ _ _ h=>h) (Or.inr ⟨by rfl,rfl⟩) ?_ ?_;rotate_left
        ·
         simp only [Act.put,zzq,zzr,zzs,i64_w,i32_w];rfl
        refine pure_ (i:=15) (N:=some 30) (v:=undef) (a':=?_) (zzB 18 65535) rfl rfl (zzA2 HT_.out) (fun _ _ _ h=>h) (Or.inr ⟨by rfl,rfl⟩) ?_ ?_;rotate_left
        ·
         simp only [Act.put,zzq,zzr,zzs,i64_w,i32_w];rfl
        refine pure_ (i:=16) (N:=some 31) (v:=undef) (a':=?_) (zzB 18 131071) rfl rfl (zzA2 HT_.out) (fun _ _ _ h=>h) (Or.inr ⟨by rfl,rfl⟩) ?_ ?_;rotate_left
        ·
         simp only [Act.put,zzq,zzr,zzs,i64_w,i32_w];rfl
        refine pure_ (i:=17) (N:=some 32) (v:=?_) (a':=?_) (zzB 18 262143) rfl rfl (zzA2 HT_.out) (fun _ _ _ h=>h) (Or.inl ⟨by rfl,?_⟩) ?_ ?_;rotate_left
        ·
         intro w';go_simp;with_reducible rfl
        rotate_left
        ·
         simp only [Act.put,zzq,zzr,zzs,i64_w,i32_w];rfl
        refine done_ (done_of HT_.out (by kernel_rfl)) ?_;try go_wp2
        go_ret;exact ⟨by first|rfl|(simp [errW_none,errW_some] <;> rfl)|(simp [*,errW_none,errW_some] <;> rfl),by repeat (first|(with_reducible first|exact HB.out|apply zza|apply zzb|apply zzc|refine zzd ?_ GE270.out)|exact HB.out)⟩
      ·
       rw [if_neg c5] at H;exact absurd H (by simp)
     ·
      rw [if_neg c4] at H;exact absurd H (by simp)
    ·
     rw [if_neg c3] at H;have c3b0:decide (x10_1 < (l0.length:Int))=false:=decide_eq_false c3;clear c3;obtain rfl:=Option.some.inj H;go_wp2;go_ret;exact ⟨by first|rfl|(simp [errW_none,errW_some] <;> rfl)|(simp [*,errW_none,errW_some] <;> rfl),zzh1⟩
def slices_Equal_int_int.l0:Nat→List Int→List Int→Int→Int→Option (Bool)
 | 0,_,_,_,_=>none
 | k+1,x0,x1,x12,x13=>if x13 < x12 then (if 0≤x13 then (if x13 < (x0.length:Int) then (if x13 < (x1.length:Int) then (if (rd x0 x13)=(rd x1 x13) then (slices_Equal_int_int.l0 k x0 x1 x12 (wrap64 (x13+1))) else (some false)) else (none)) else (none)) else (none)) else (some true)
def slices_Equal_int_int.f (k:Nat) (l0:List Int) (l1:List Int):Option (Bool):=if (l0.length:Int)=(l1.length:Int) then (slices_Equal_int_int.l0 k l0 l1 (l0.length:Int) 0) else (some false)
set_option maxHeartbeats 8000000 in
set_option maxRecDepth 100000 in
theorem slices_Equal_int_int.calls (k:Nat) (A0:Option Addr) (c0:Nat) (l0:List Int) (A1:Option Addr) (c1:Nat) (l1:List Int) (r:Bool) (w:World) (hr0:Kd.C (Kd.int .i64) w A0 l0.length l0) (hc0:l0.length≤c0) (hr1:Kd.C (Kd.int .i64) w A1 l1.length l1) (hc1:l1.length≤c1) (h:slices_Equal_int_int.f k l0 l1=some r) :
  Calls Try.prog 105 #[.slice A0 l0.length c0,.slice A1 l1.length c1] w fun e w'=>e = .returned (.bool r)∧Drawn0 w w':=by
 have HR0:=zzm hr0;have HC0:=zzm hc0;clear hr0 hc0;have HR1:=zzm hr1;have HC1:=zzm hc1;clear hr1 hc1;have H:(if (l0.length:Int)=(l1.length:Int) then (slices_Equal_int_int.l0 k l0 l1 (l0.length:Int) 0) else (some false))=some r:=h;clear h;by_cases c3:(l0.length:Int)=(l1.length:Int)
 ·
  rw [if_pos c3] at H;have c3b0:((l0.length:Int)==(l1.length:Int))=true:=beq_iff_eq.mpr c3;have c3b1:((l0.length:Int) != (l1.length:Int))=false:=bne_eq_false_iff_eq.mpr c3;have c3b2:(l0.length==l1.length)=true:=by first|simpa using c3|(simp at c3 ⊢;omega)
  clear c3;have H':=zzm H;clear H;go_enter Try.func105,Try.ntmps105;go_wp2;repeat (go_quiet (fail);try go_wp2)
  go_loopg [13] k (fun kq v13 w'=>∃ (x13_1:Int),v13 = .int .i64 x13_1∧Aside0 (slices_Equal_int_int.l0 kq l0 l1 (l0.length:Int) x13_1=some r)∧Aside0 (kq≤k)∧Drawn0 w w')
  case atStart=>exact ⟨(0),(by first|rfl|(simp;done)|(simp [*];done)),H',⟨Nat.le_refl _⟩,by repeat (first|exact Drawn0.refl _|apply Drawn0.step)⟩
  case round=>
   clear H';try clear c1
   try clear p2
   try clear c3
   try clear c3b0
   try clear c3b1
   try clear c3b2
   obtain ⟨x13_1,rfl,HA,HK1,⟨m1,rfl⟩⟩:=hrel;cases gk with
   | zero=>exact absurd HA.out (by simp [slices_Equal_int_int.l0])
   | succ k1=>
    have H:=HA.out;clear HA;simp only [slices_Equal_int_int.l0] at H;by_cases c4:x13_1 < (l0.length:Int)
    ·
     rw [if_pos c4] at H;have c4b0:decide (x13_1 < (l0.length:Int))=true:=decide_eq_true c4;clear c4;by_cases c5 : 0≤x13_1
     ·
      rw [if_pos c5] at H;have c5b0:decide (0≤x13_1)=true:=decide_eq_true c5;clear c5;by_cases c6:x13_1 < (l0.length:Int)
      ·
       rw [if_pos c6] at H;have c6b0:decide (x13_1 < (l0.length:Int))=true:=decide_eq_true c6;clear c6;by_cases c7:x13_1 < (l1.length:Int)
       ·
        rw [if_pos c7] at H;have c7b0:decide (x13_1 < (l1.length:Int))=true:=decide_eq_true c7;clear c7;by_cases c8:(rd l0 x13_1)=(rd l1 x13_1)
        ·
         rw [if_pos c8] at H;have c8b0:((rd l0 x13_1)==(rd l1 x13_1))=true:=beq_iff_eq.mpr c8;have c8b1:((rd l0 x13_1) != (rd l1 x13_1))=false:=bne_eq_false_iff_eq.mpr c8;clear c8;have H':=zzm H;clear H;have p278 : 0≤(x13_1:Int):=zzt;have q278:x13_1 < (l0.length:Int):=zzt;obtain ⟨ad278,e278,hx278_0⟩:=Kd.at_int HR0.out x13_1 p278 q278;cases e278;replace p278:=eq_true p278;replace q278:=eq_true q278;have p279 : 0≤(x13_1:Int):=zzt;have q279:x13_1 < (l1.length:Int):=zzt;obtain ⟨ad279,e279,hx279_0⟩:=Kd.at_int HR1.out x13_1 p279 q279;cases e279;replace p279:=eq_true p279;replace q279:=eq_true q279;go_wp2;repeat (go_quiet (fail);try go_wp2)
         go_roundg k1
         case measure=>have:=HK1.out;omega
         case rel=>exact ⟨(wrap64 (x13_1+1)),(by first|rfl|(simp;done)|(simp [*];done)),H',⟨by have:=HK1.out;omega⟩,by repeat (first|exact Drawn0.refl _|apply Drawn0.step)⟩
        ·
         rw [if_neg c8] at H;have c8b0:((rd l0 x13_1)==(rd l1 x13_1))=false:=beq_eq_false_iff_ne.mpr c8;have c8b1:((rd l0 x13_1) != (rd l1 x13_1))=true:=bne_iff_ne.mpr c8;obtain rfl:=Option.some.inj H;have p278 : 0≤(x13_1:Int):=zzt;have q278:x13_1 < (l0.length:Int):=zzt;obtain ⟨ad278,e278,hx278_0⟩:=Kd.at_int HR0.out x13_1 p278 q278;cases e278;replace p278:=eq_true p278;replace q278:=eq_true q278;have p279 : 0≤(x13_1:Int):=zzt;have q279:x13_1 < (l1.length:Int):=zzt;obtain ⟨ad279,e279,hx279_0⟩:=Kd.at_int HR1.out x13_1 p279 q279;cases e279;replace p279:=eq_true p279;replace q279:=eq_true q279;go_wp2;repeat (go_quiet (fail);try go_wp2)
         go_ret;exact ⟨by first|rfl|(simp;done)|(simp [*];done),by repeat (first|exact Drawn0.refl _|apply Drawn0.step)⟩
       ·
        rw [if_neg c7] at H;exact absurd H (by simp)
      ·
       rw [if_neg c6] at H;exact absurd H (by simp)
     ·
      rw [if_neg c5] at H;exact absurd H (by simp)
    ·
     rw [if_neg c4] at H;have c4b0:decide (x13_1 < (l0.length:Int))=false:=decide_eq_false c4;clear c4;obtain rfl:=Option.some.inj H;go_wp2;repeat (go_quiet (fail);try go_wp2)
     go_ret;exact ⟨by first|rfl|(simp;done)|(simp [*];done),by repeat (first|exact Drawn0.refl _|apply Drawn0.step)⟩
 ·
  rw [if_neg c3] at H;have c3b0:((l0.length:Int)==(l1.length:Int))=false:=beq_eq_false_iff_ne.mpr c3;have c3b1:((l0.length:Int) != (l1.length:Int))=true:=bne_iff_ne.mpr c3;have c3b2:(l0.length==l1.length)=false:=by first|simpa using c3|(simp at c3 ⊢;omega)
  obtain rfl:=Option.some.inj H;go_enter Try.func105,Try.ntmps105;go_wp2;repeat (go_quiet (fail);try go_wp2)
  go_ret;exact ⟨by first|rfl|(simp;done)|(simp [*];done),by repeat (first|exact Drawn0.refl _|apply Drawn0.step)⟩
def impl_Batch_tells.f (k:Nat) (a0_0:Bool) (a0_1:Bool) (a0_2:Int) (a0_3:Int) (a0_4:Int) (l0_5:List (S34)):Option (Bool):=if 0 < (l0_5.length:Int) then ((slices_Equal_int_int.f k ((rd_T34 l0_5 0).f5) (([1]:List Int))).bind fun t285=>(some t285)) else (none)
set_option maxHeartbeats 8000000 in
set_option maxRecDepth 100000 in
theorem impl_Batch_tells.calls (k:Nat) (a0_0:Bool) (a0_1:Bool) (a0_2:Int) (a0_3:Int) (a0_4:Int) (A0_5:Option Addr) (c0_5:Nat) (l0_5:List (S34)) (r:Bool) (w:World) (hr0_5:Kd.C k34 w A0_5 l0_5.length l0_5) (hc0_5:l0_5.length≤c0_5) (h:impl_Batch_tells.f k a0_0 a0_1 a0_2 a0_3 a0_4 l0_5=some r) :
  Calls Try.prog 92 #[.agg #[.bool a0_0,.bool a0_1,.int .i64 a0_2,.int .i64 a0_3,.int .i64 a0_4,.slice A0_5 l0_5.length c0_5]] w fun e w'=>e = .returned (.bool r)∧Below w.heap.size w w':=by
 have hu27:=Try.underlying27;have HR0_5:=zzm hr0_5;have HC0_5:=zzm hc0_5;clear hr0_5 hc0_5;have HB:=zzm (Below.refl w.heap.size w);have H:(if 0 < (l0_5.length:Int) then ((slices_Equal_int_int.f k ((rd_T34 l0_5 0).f5) (([1]:List Int))).bind fun t285=>(some t285)) else (none))=some r:=h;clear h;by_cases c2 : 0 < (l0_5.length:Int)
 ·
  rw [if_pos c2] at H;have c2b0:decide (0 < (l0_5.length:Int))=true:=decide_eq_true c2;have c2b1:decide (0 < l0_5.length)=true:=decide_eq_true (by omega);clear c2;obtain ⟨y282,hy282⟩:∃ y_:List Int,y_=(([1]:List Int)):=⟨_,rfl⟩;replace H:((slices_Equal_int_int.f k ((rd_T34 l0_5 0).f5) y282).bind fun t285=>(some t285))=some r:=by first|(rw [hy282];with_reducible exact H)|(have H2_:=(Option.bind_some _ _).symm.trans H;rw [hy282];with_reducible exact H2_)|(have H2_:=(Option.bind_some _ _).symm.trans H;with_reducible exact H2_)|with_reducible exact H|(rw [hy282];exact H)|exact H
  have Ny282:=zzm hy282;clear hy282;replace H:=Option.bind_eq_some_iff.mp H;obtain ⟨t285,A30,H⟩:=H;replace H:(some t285)=some r:=H;have A3:=zzm A30;clear A30;obtain rfl:=Option.some.inj H;go_enter Try.func92,Try.ntmps92;go_wp2_with (first|((with_reducible refine gate_dst (N:=1) rfl ?_);refine box_event ?hg (N:=1) ?hd (cs:=#[.bool a0_0,.bool a0_1,.int .i64 a0_2,.int .i64 a0_3,.int .i64 a0_4,.slice A0_5 l0_5.length c0_5]) (t:=27) ?hr ?_;(case hd=>rfl);(case hg=>rfl);(case hr=>first|(go_simp;done)|(go_simp;rfl));intro gb280 hg w4 hbox hb;have n0_:=zzm (zzp zzh1 hb);have n1_:=zzm (hbox);have n2_:=zzm ((by rw [hg];exact (zzo zzh1):w.heap.size≤gb280));have n3_:=zzm ((by rw [hg];exact (zzo zzh1):w.heap.size≤gb280));clear HB;have HB:=n0_;have BK280:=n1_;have GW280:=n2_;have GE280:=n3_;clear n0_ n1_ n2_ n3_ hb hbox hg;obtain ⟨hcz5_0,hcz5_1,hcz5_2,hcz5_3,hcz5_4,hcz5_5,hfz5_0,hfz5_1,hfz5_2,hfz5_3,hfz5_4,hfz5_5⟩:=zzc6 BK280.out;have p281 : 0≤(0:Int):=(by omega);have q281 : 0 < (l0_5.length:Int):=zzt;obtain ⟨ad281,A281_3,c281_3,A281_5,c281_5,e281,hx281_0,hx281_1,hx281_2,hx281_3,hx281_4,hx281_5,hl281_3,hi281_3,hl281_5,hi281_5⟩:=at_T34 HR0_5.out 0 p281 q281;cases e281;have qi281:(0 < l0_5.length)=True:=eq_true (by omega);(try rw [show ((0:Int)).toNat=0 from rfl] at hx281_0);(try rw [show 0 * 6=0 from rfl] at hx281_0);(try rw [Addr.add_zero'] at hx281_0);(try rw [show ((0:Int)).toNat=0 from rfl] at hx281_1);(try rw [show 0 * 6=0 from rfl] at hx281_1);(try rw [Addr.add_zero'] at hx281_1);(try rw [show ((0:Int)).toNat=0 from rfl] at hx281_2);(try rw [show 0 * 6=0 from rfl] at hx281_2);(try rw [Addr.add_zero'] at hx281_2);(try rw [show ((0:Int)).toNat=0 from rfl] at hx281_3);(try rw [show 0 * 6=0 from rfl] at hx281_3);(try rw [Addr.add_zero'] at hx281_3);(try rw [show ((0:Int)).toNat=0 from rfl] at hx281_4);(try rw [show 0 * 6=0 from rfl] at hx281_4);(try rw [Addr.add_zero'] at hx281_4);(try rw [show ((0:Int)).toNat=0 from rfl] at hx281_5);(try rw [show 0 * 6=0 from rfl] at hx281_5);(try rw [Addr.add_zero'] at hx281_5);replace hx281_0:=zzx HB.out hx281_0;replace hx281_1:=zzx HB.out hx281_1;replace hx281_2:=zzx HB.out hx281_2;replace hx281_3:=zzx HB.out hx281_3;replace hx281_4:=zzx HB.out hx281_4;replace hx281_5:=zzx HB.out hx281_5;have HR281_3:=zzm hi281_3;have HC281_3:=zzm hl281_3;clear hi281_3 hl281_3;have HR281_5:=zzm hi281_5;have HC281_5:=zzm hl281_5;clear hi281_5 hl281_5;replace p281:=eq_true p281;replace q281:=eq_true q281)|((with_reducible refine gate_dst (N:=8) rfl ?_);refine Kd.R_lit (Kd.int .i64) _ 3 ?hg (N:=8) ?hd (xs:=([1]:List Int)) (inner:=[.int .i64 1]) (ok:=fun _=>True) (okp:=fun _=>True) ?hr ?hp (fun _ hk=>hk) trivial (Below.refl _ _) (Nat.le_refl _) (by simp) ?_;(case hd=>rfl);(case hg=>rfl);(case hr=>first|(go_simp;done)|(go_simp;rfl));(case hp=>exact (Reps.one (show Kd.M (Kd.int .i64) _ _ _ 1 [.int .i64 1] from rfl) (Reps.none _ _)));intro v283 w6 ho7 hb hg_ hnew_;clear hg_ hnew_;(first|rw [← Ny282.out] at ho7|(simp only [Int.reduceToNat] at ho7;rw [← Ny282.out] at ho7));have n0_:=zzm (Kd.R_lower ho7 (zzo zzh2));have n1_:=zzm (zzh (g:=gb280) (o:=.cells #[.bool a0_0,.bool a0_1,.int .i64 a0_2,.int .i64 a0_3,.int .i64 a0_4,.slice (some ad281) l0_5.length c0_5] 27 (0,0)) (zzE BK280.out) hb);have n2_:=zzm (zzp zzh2 hb);clear BK280 HB;have HO284:=n0_;have BK280:=n1_;have HB:=n2_;clear n0_ n1_ n2_ hb ho7;obtain ⟨Ao8,co8,eo8⟩:=Kd.R_slice HO284.out;subst eo8)|((with_reducible refine gate_callee (f:=105) rfl ?_);refine goesL_ (some 9) rfl rfl Try.func105 (by kernel_rfl) rfl #[.slice A281_5 ((rd_T34 l0_5 0).f5).length c281_5,.slice Ao8 y282.length co8] rfl zzM2 ?_;(with_reducible refine (slices_Equal_int_int.calls k _ _ ((rd_T34 l0_5 0).f5) _ _ y282 t285 _ ?side1 ?side2 ?side3 ?side4 A3.out).mono ?_);(case side1=>repeat (first|exact (Kd.C_below HR281_5.out HB.out)|(with_reducible refine Kd.C_alloc ?_ _)|(with_reducible refine Kd.C_drewN ?_ _)|(with_reducible refine Kd.C_drew ?_)));(case side2=>exact HC281_5.out);(case side3=>repeat (first|exact (Kd.R_reads' HO284.out).2.2|(with_reducible refine Kd.C_alloc ?_ _)|(with_reducible refine Kd.C_drewN ?_ _)|(with_reducible refine Kd.C_drew ?_)));(case side4=>exact (Kd.R_reads' HO284.out).2.1);rintro e w' ⟨rfl,⟨nd,rfl⟩⟩;refine ⟨_,rfl,?_⟩));go_ret;exact ⟨by first|rfl|(simp [errW_none,errW_some] <;> rfl)|(simp [*,errW_none,errW_some] <;> rfl),by repeat (first|(with_reducible first|exact HB.out|apply zza|apply zzb|apply zzc|refine zzd ?_ GE280.out)|exact HB.out)⟩
 ·
  rw [if_neg c2] at H;exact absurd H (by simp)
end Go.Proofs.Yticpnjhkdfdkkaa.U
