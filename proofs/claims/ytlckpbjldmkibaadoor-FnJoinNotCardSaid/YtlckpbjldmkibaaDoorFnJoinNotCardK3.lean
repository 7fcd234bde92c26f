/- The law FnJoinNotCard holds (part 4 of 8; merged by pack2.py). -/
import Derived.Lib.SliceRun
import Derived.Test.YtlckpbjldmkibaaDoorFnJoinNotCardK2
set_option maxRecDepth 1000000
open List (setIfInBounds_toArray set_cons_zero set_cons_succ map_toArray map_cons map_nil length_drop length_take)
namespace Go.Proofs.YtlckpbjldmkibaaDoor.T
open Go.RowKit Go.Proofs.YtlckpbjldmkibaaDoorW.PrintWords Go.Proofs.YtlckpbjldmkibaaDoorW.PrintLast Go.Proofs.YtlckpbjldmkibaaDoorW.PrintMore
attribute [local go_sem] max2_int max_two
set_option linter.unusedVariables false
set_option linter.unusedSimpArgs false
def Qp.f (a0:Int) (a1:Int) (a2:Int):Option (Bool):=if a0 ≥ a1 then (some (decide (a0≤a2))) else (some false)
set_option maxHeartbeats 8000000 in
theorem Qp.calls (a0:Int) (a1:Int) (a2:Int) (r:Bool) (w:World) (h:Qp.f a0 a1 a2=some r) :
  Calls Tryd.prog 19 #[.int .i64 a0,.int .i64 a1,.int .i64 a2] w fun e w'=>e = .returned (.bool r)∧Drawn0 w w':=by
 have H:(if a0 ≥ a1 then (some (decide (a0≤a2))) else (some false))=some r:=h;clear h;by_cases c4:a0 ≥ a1
 ·
  rw [if_pos c4] at H;have c4b0:decide (a1≤a0)=true:=decide_eq_true c4;clear c4;obtain rfl:=Option.some.inj H;go_enter Tryd.func19,Tryd.ntmps19;go_wp2;go_ret;exact ⟨by first|rfl|(simp;done)|(simp [*];done),by repeat (first|exact Drawn0.refl _|apply Drawn0.step)⟩
 ·
  rw [if_neg c4] at H;have c4b0:decide (a1≤a0)=false:=decide_eq_false c4;clear c4;obtain rfl:=Option.some.inj H;go_enter Tryd.func19,Tryd.ntmps19;go_wp2;go_ret;exact ⟨by first|rfl|(simp;done)|(simp [*];done),by repeat (first|exact Drawn0.refl _|apply Drawn0.step)⟩
def Rd.f (a0:Int):Option (Bool):=(Qp.f a0 0 254).bind fun t246=>(some t246)
set_option maxHeartbeats 8000000 in
theorem Rd.calls (a0:Int) (r:Bool) (w:World) (h:Rd.f a0=some r) :
  Calls Tryd.prog 18 #[.int .i64 a0] w fun e w'=>e = .returned (.bool r)∧Drawn0 w w':=by
 have H:((Qp.f a0 0 254).bind fun a1=>(some a1))=some r:=h;clear h;obtain ⟨a1,A2,H⟩:=zzG H;obtain rfl:=Option.some.inj H;go_enter Tryd.func18,Tryd.ntmps18;go_wp2_with (first|((with_reducible refine gate_callee (f:=19) rfl ?_);refine goesL_ (some 4) rfl rfl Tryd.func19 (by kernel_rfl) rfl #[.int .i64 a0,.int .i64 0,.int .i64 254] rfl zzM2 ?_;(with_reducible refine (Qp.calls a0 0 254 a1 _ A2.out).mono ?_);rintro e w' ⟨rfl,⟨nd,rfl⟩⟩;refine ⟨_,rfl,?_⟩));go_ret;exact ⟨by first|rfl|(simp;done)|(simp [*];done),by repeat (first|exact Drawn0.refl _|apply Drawn0.step)⟩
def Qz.f (a0:Int) (a1:Int):Option (Bool):=(Qp.f a0 0 99999).bind fun t247=>(if t247=true then ((Qp.f a1 0 99999).bind fun t248=>(some t248)) else (some false))
set_option maxHeartbeats 8000000 in
theorem Qz.calls (a0:Int) (a1:Int) (r:Bool) (w:World) (h:Qz.f a0 a1=some r) :
  Calls Tryd.prog 30 #[.int .i64 a0,.int .i64 a1] w fun e w'=>e = .returned (.bool r)∧Drawn0 w w':=by
 have H:((Qp.f a0 0 99999).bind fun a2=>(if a2=true then ((Qp.f a1 0 99999).bind fun a3=>(some a3)) else (some false)))=some r:=h;clear h;obtain ⟨a2,A3,H⟩:=zzG H;by_cases c4:a2=true
 ·
  subst c4;replace H:=zzIt H;obtain ⟨a3,A5,H⟩:=zzG H;obtain rfl:=Option.some.inj H;go_enter Tryd.func30,Tryd.ntmps30;go_wp2_with (first|((with_reducible refine gate_callee (f:=19) rfl ?_);refine goesL_ (some 6) rfl rfl Tryd.func19 (by kernel_rfl) rfl #[.int .i64 a0,.int .i64 0,.int .i64 99999] rfl zzM2 ?_;(with_reducible refine (Qp.calls a0 0 99999 true _ A3.out).mono ?_);rintro e w' ⟨rfl,⟨nd,rfl⟩⟩;refine ⟨_,rfl,?_⟩)|(go_at_call 19;(with_reducible refine (Qp.calls a1 0 99999 a3 _ A5.out).mono ?_);rintro e w' ⟨rfl,⟨nd,rfl⟩⟩));go_ret;exact ⟨by first|rfl|(simp;done)|(simp [*];done),by repeat (first|exact Drawn0.refl _|apply Drawn0.step)⟩
 ·
  replace c4:=Bool.eq_false_iff.mpr c4;subst c4;replace H:=zzIf H;obtain rfl:=Option.some.inj H;go_enter Tryd.func30,Tryd.ntmps30;go_wp2_with (first|((with_reducible refine gate_callee (f:=19) rfl ?_);refine goesL_ (some 6) rfl rfl Tryd.func19 (by kernel_rfl) rfl #[.int .i64 a0,.int .i64 0,.int .i64 99999] rfl zzM2 ?_;(with_reducible refine (Qp.calls a0 0 99999 false _ A3.out).mono ?_);rintro e w' ⟨rfl,⟨nd,rfl⟩⟩;refine ⟨_,rfl,?_⟩));go_ret;exact ⟨by first|rfl|(simp;done)|(simp [*];done),by repeat (first|exact Drawn0.refl _|apply Drawn0.step)⟩
def Rj.f (a0:Int):Option (Bool):=if a0 ≥ 0 then (some (decide (a0≤255))) else (some false)
set_option maxHeartbeats 8000000 in
theorem Rj.calls (a0:Int) (r:Bool) (w:World) (h:Rj.f a0=some r) :
  Calls Tryd.prog 39 #[.int .i64 a0] w fun e w'=>e = .returned (.bool r)∧Drawn0 w w':=by
 have H:(if a0 ≥ 0 then (some (decide (a0≤255))) else (some false))=some r:=h;clear h;by_cases c2:a0 ≥ 0
 ·
  rw [if_pos c2] at H;have c2b0:decide (0≤a0)=true:=decide_eq_true c2;clear c2;obtain rfl:=Option.some.inj H;go_enter Tryd.func39,Tryd.ntmps39;go_wp2;go_ret;exact ⟨by first|rfl|(simp;done)|(simp [*];done),by repeat (first|exact Drawn0.refl _|apply Drawn0.step)⟩
 ·
  rw [if_neg c2] at H;have c2b0:decide (0≤a0)=false:=decide_eq_false c2;clear c2;obtain rfl:=Option.some.inj H;go_enter Tryd.func39,Tryd.ntmps39;go_wp2;go_ret;exact ⟨by first|rfl|(simp;done)|(simp [*];done),by repeat (first|exact Drawn0.refl _|apply Drawn0.step)⟩
def Qt.l0:Nat→List Int→Int→Int→Option (Bool)
 | 0,_,_,_=>none
 | k+1,x5,x6,x7=>if x7 < x6 then (if 0≤x7 then (if x7 < (x5.length:Int) then ((Rj.f (rd x5 x7)).bind fun t250=>(if t250=true then (Qt.l0 k x5 x6 (wrap64 (x7+1))) else (some false))) else (none)) else (none)) else (some true)
def Qt.f (k:Nat) (l0:List Int):Option (Bool):=Qt.l0 k l0 (l0.length:Int) 0
set_option maxHeartbeats 8000000 in
theorem Qt.calls (k:Nat) (A0:Option Addr) (c0:Nat) (l0:List Int) (r:Bool) (w:World) (a6:Kd.C (Kd.int .i64) w A0 l0.length l0) (a7:l0.length≤c0) (h:Qt.f k l0=some r) :
  Calls Tryd.prog 36 #[.slice A0 l0.length c0] w fun e w'=>e = .returned (.bool r)∧Drawn0 w w':=by
 have a8:=zzm a6;have b3:=zzm a7;clear a6 a7;have H:(Qt.l0 k l0 (l0.length:Int) 0)=some r:=h;clear h;have H':=zzm H;clear H;go_enter Tryd.func36,Tryd.ntmps36;go_wp2;go_loopg [7] k (fun kq v7 w'=>∃ (a0:Int),v7 = .int .i64 a0∧Aside0 (Qt.l0 kq l0 (l0.length:Int) a0=some r)∧Aside0 (kq≤k)∧Drawn0 w w')
 case atStart=>exact ⟨(0),(by first|rfl|(simp;done)|(simp [*];done)),H',⟨Nat.le_refl _⟩,by repeat (first|exact Drawn0.refl _|apply Drawn0.step)⟩
 case round=>
  clear H';obtain ⟨a0,rfl,HA,HK1,⟨m1,rfl⟩⟩:=hrel;cases gk with
  | zero=>exact absurd HA.out (by simp [Qt.l0])
  | succ k1=>
   have H:=HA.out;clear HA;simp only [Qt.l0] at H;by_cases c2:a0 < (l0.length:Int)
   ·
    rw [if_pos c2] at H;have a9:decide (a0 < (l0.length:Int))=true:=decide_eq_true c2;clear c2;by_cases c3 : 0≤a0
    ·
     rw [if_pos c3] at H;have b1:decide (0≤a0)=true:=decide_eq_true c3;clear c3;by_cases c4:a0 < (l0.length:Int)
     ·
      rw [if_pos c4] at H;have b2:decide (a0 < (l0.length:Int))=true:=decide_eq_true c4;clear c4;obtain ⟨b0,A5,H⟩:=zzG H;by_cases c6:b0=true
      ·
       subst c6;replace H:=zzIt H;have H':=zzm H;clear H;have a1 : 0≤(a0:Int):=zzt;have a2:a0 < (l0.length:Int):=zzt;obtain ⟨a5,a3,a4⟩:=Kd.at_int a8.out a0 a1 a2;cases a3;replace a1:=eq_true a1;replace a2:=eq_true a2;go_wp2_with (first|((with_reducible refine gate_callee (f:=39) rfl ?_);refine goesL_ (some 12) rfl rfl Tryd.func39 (by kernel_rfl) rfl #[.int .i64 (rd l0 a0)] rfl zzM2 ?_;(with_reducible refine (Rj.calls (rd l0 a0) true _ A5.out).mono ?_);rintro e w' ⟨rfl,⟨nd,rfl⟩⟩;refine ⟨_,rfl,?_⟩));go_roundg k1
       case measure=>have:=HK1.out;omega
       case rel=>exact ⟨(wrap64 (a0+1)),(by first|rfl|(simp;done)|(simp [*];done)),H',⟨by have:=HK1.out;omega⟩,by repeat (first|exact Drawn0.refl _|apply Drawn0.step)⟩
      ·
       replace c6:=Bool.eq_false_iff.mpr c6;subst c6;replace H:=zzIf H;obtain rfl:=Option.some.inj H;have a1 : 0≤(a0:Int):=zzt;have a2:a0 < (l0.length:Int):=zzt;obtain ⟨a5,a3,a4⟩:=Kd.at_int a8.out a0 a1 a2;cases a3;replace a1:=eq_true a1;replace a2:=eq_true a2;go_wp2_with (first|((with_reducible refine gate_callee (f:=39) rfl ?_);refine goesL_ (some 12) rfl rfl Tryd.func39 (by kernel_rfl) rfl #[.int .i64 (rd l0 a0)] rfl zzM2 ?_;(with_reducible refine (Rj.calls (rd l0 a0) false _ A5.out).mono ?_);rintro e w' ⟨rfl,⟨nd,rfl⟩⟩;refine ⟨_,rfl,?_⟩));go_ret;exact ⟨by first|rfl|(simp;done)|(simp [*];done),by repeat (first|exact Drawn0.refl _|apply Drawn0.step)⟩
     ·
      rw [if_neg c4] at H;exact absurd H (by simp)
    ·
     rw [if_neg c3] at H;exact absurd H (by simp)
   ·
    rw [if_neg c2] at H;have a9:decide (a0 < (l0.length:Int))=false:=decide_eq_false c2;clear c2;obtain rfl:=Option.some.inj H;go_wp2;go_ret;exact ⟨by first|rfl|(simp;done)|(simp [*];done),by repeat (first|exact Drawn0.refl _|apply Drawn0.step)⟩
def Qw.f (k:Nat) (a0:Bool) (l1:List Int):Option (Bool):=if a0=true then (if (l1.length:Int)≤12 then ((Qt.f k l1).bind fun t251=>(some t251)) else (some false)) else (some ((l1.length:Int)==0))
set_option maxHeartbeats 8000000 in
theorem Qw.calls (k:Nat) (a0:Bool) (A1:Option Addr) (c1:Nat) (l1:List Int) (r:Bool) (w:World) (a2:Kd.C (Kd.int .i64) w A1 l1.length l1) (a3:l1.length≤c1) (h:Qw.f k a0 l1=some r) :
  Calls Tryd.prog 31 #[.bool a0,.slice A1 l1.length c1] w fun e w'=>e = .returned (.bool r)∧Drawn0 w w':=by
 have a6:=zzm a2;have a7:=zzm a3;clear a2 a3;have H:(if a0=true then (if (l1.length:Int)≤12 then ((Qt.f k l1).bind fun a1=>(some a1)) else (some false)) else (some ((l1.length:Int)==0)))=some r:=h;clear h;by_cases c3:a0=true
 ·
  subst c3;replace H:=zzIt H;by_cases c4:(l1.length:Int)≤12
  ·
   rw [if_pos c4] at H;have a4:decide ((l1.length:Int)≤12)=true:=decide_eq_true c4;have a5:decide (l1.length≤12)=true:=decide_eq_true (by omega);clear c4;obtain ⟨a1,A5,H⟩:=zzG H;obtain rfl:=Option.some.inj H;go_enter Tryd.func31,Tryd.ntmps31;go_wp2_with (first|(go_at_call 36;(with_reducible refine (Qt.calls k _ _ l1 a1 _ ?side1 ?side2 A5.out).mono ?_);(case side1=>repeat (first|exact a6.out|(with_reducible refine Kd.C_alloc ?_ _)|(with_reducible refine Kd.C_drewN ?_ _)|(with_reducible refine Kd.C_drew ?_)));(case side2=>exact a7.out);rintro e w' ⟨rfl,⟨nd,rfl⟩⟩));go_ret;exact ⟨by first|rfl|(simp;done)|(simp [*];done),by repeat (first|exact Drawn0.refl _|apply Drawn0.step)⟩
  ·
   rw [if_neg c4] at H;have a4:decide ((l1.length:Int)≤12)=false:=decide_eq_false c4;have a5:decide (l1.length≤12)=false:=decide_eq_false (by omega);clear c4;obtain rfl:=Option.some.inj H;go_enter Tryd.func31,Tryd.ntmps31;go_wp2;go_ret;exact ⟨by first|rfl|(simp;done)|(simp [*];done),by repeat (first|exact Drawn0.refl _|apply Drawn0.step)⟩
 ·
  replace c3:=Bool.eq_false_iff.mpr c3;subst c3;replace H:=zzIf H;obtain rfl:=Option.some.inj H;go_enter Tryd.func31,Tryd.ntmps31;go_wp2;go_ret;exact ⟨by first|rfl|(simp;done)|(simp [*];done),by repeat (first|exact Drawn0.refl _|apply Drawn0.step)⟩
def Qy.f (k:Nat) (a0_0:Int) (a0_1:Int) (a0_2:Bool) (l0_3:List Int) (a0_4:Bool) (l0_5:List Int):Option (Bool):=(Qz.f a0_0 a0_1).bind fun t253=>(if t253=true then ((Qw.f k a0_2 l0_3).bind fun t254=>(if t254=true then ((Qw.f k a0_4 l0_5).bind fun t255=>(some t255)) else (some false))) else (some false))
set_option maxHeartbeats 8000000 in
theorem Qy.calls (k:Nat) (a0:Int) (a1:Int) (a5:Bool) (b2:Option Addr) (b3:Nat) (a2:List Int) (a6:Bool) (b4:Option Addr) (b5:Nat) (a4:List Int) (r:Bool) (w:World) (b9:Kd.C (Kd.int .i64) w b2 a2.length a2) (c0:a2.length≤b3) (c1:Kd.C (Kd.int .i64) w b4 a4.length a4) (c2:a4.length≤b5) (h:Qy.f k a0 a1 a5 a2 a6 a4=some r) :
  Calls Tryd.prog 20 #[.agg #[.int .i64 a0,.int .i64 a1,.bool a5,.slice b2 a2.length b3,.bool a6,.slice b4 a4.length b5]] w fun e w'=>e = .returned (.bool r)∧Below w.heap.size w w':=by
 have hu40:=Tryd.underlying40;have c4:=zzm b9;have c7:=zzm c0;clear b9 c0;have d0:=zzm c1;have d1:=zzm c2;clear c1 c2;have HB:=zzm (Below.refl w.heap.size w);have H:((Qz.f a0 a1).bind fun b6=>(if b6=true then ((Qw.f k a5 a2).bind fun b7=>(if b7=true then ((Qw.f k a6 a4).bind fun b8=>(some b8)) else (some false))) else (some false)))=some r:=h;clear h;obtain ⟨b6,A2,H⟩:=zzG H;by_cases c3:b6=true
 ·
  subst c3;replace H:=zzIt H;obtain ⟨b7,A4,H⟩:=zzG H;by_cases c5:b7=true
  ·
   subst c5;replace H:=zzIt H;obtain ⟨b8,A6,H⟩:=zzG H;obtain rfl:=Option.some.inj H;go_enter Tryd.func20,Tryd.ntmps20;go_wp2_with (first|((with_reducible refine gate_dst (N:=1) rfl ?_);refine box_event ?hg (N:=1) ?hd (cs:=#[.int .i64 a0,.int .i64 a1,.bool a5,.slice b2 a2.length b3,.bool a6,.slice b4 a4.length b5]) (t:=40) ?hr ?_;(case hd=>rfl);(case hg=>rfl);(case hr=>first|(go_simp;done)|(go_simp;rfl));intro a3 hg w7 hbox hb;have a8:=zzm (zzp zzh1 hb);have a9:=zzm (hbox);have b0:=zzm ((by rw [hg];exact (zzo zzh1):w.heap.size≤a3));have b1:=zzm ((by rw [hg];exact (zzo zzh1):w.heap.size≤a3));clear HB;have HB:=a8;have a7:=a9;have c8:=b0;have c9:=b1;clear a8 a9 b0 b1 hb hbox hg;obtain ⟨g6,g7,g8,g9,h0,h1,h2,h3,h4,h5,h6,h7⟩:=zzc6 a7.out)|((with_reducible refine gate_callee (f:=30) rfl ?_);refine goesL_ (some 7) rfl rfl Tryd.func30 (by kernel_rfl) rfl #[.int .i64 a0,.int .i64 a1] rfl zzM2 ?_;(with_reducible refine (Qz.calls a0 a1 true _ A2.out).mono ?_);rintro e w' ⟨rfl,⟨nd,rfl⟩⟩;refine ⟨_,rfl,?_⟩)|(go_at_call 31;(with_reducible refine (Qw.calls k a5 _ _ a2 true _ ?side1 ?side2 A4.out).mono ?_);(case side1=>repeat (first|exact (Kd.C_below c4.out zzh2)|(with_reducible refine Kd.C_alloc ?_ _)|(with_reducible refine Kd.C_drewN ?_ _)|(with_reducible refine Kd.C_drew ?_)));(case side2=>exact c7.out);rintro e w' ⟨rfl,⟨nd,rfl⟩⟩)|(go_at_call 31;(with_reducible refine (Qw.calls k a6 _ _ a4 b8 _ ?side1 ?side2 A6.out).mono ?_);(case side1=>repeat (first|exact (Kd.C_below d0.out zzh2)|(with_reducible refine Kd.C_alloc ?_ _)|(with_reducible refine Kd.C_drewN ?_ _)|(with_reducible refine Kd.C_drew ?_)));(case side2=>exact d1.out);rintro e w' ⟨rfl,⟨nd,rfl⟩⟩));go_ret;exact ⟨zzR,zzh3⟩
  ·
   replace c5:=Bool.eq_false_iff.mpr c5;subst c5;replace H:=zzIf H;obtain rfl:=Option.some.inj H;go_enter Tryd.func20,Tryd.ntmps20;go_wp2_with (first|((with_reducible refine gate_dst (N:=1) rfl ?_);refine box_event ?hg (N:=1) ?hd (cs:=#[.int .i64 a0,.int .i64 a1,.bool a5,.slice b2 a2.length b3,.bool a6,.slice b4 a4.length b5]) (t:=40) ?hr ?_;(case hd=>rfl);(case hg=>rfl);(case hr=>first|(go_simp;done)|(go_simp;rfl));intro a3 hg w9 hbox hb;have a8:=zzm (zzp zzh1 hb);have a9:=zzm (hbox);have b0:=zzm ((by rw [hg];exact (zzo zzh1):w.heap.size≤a3));have b1:=zzm ((by rw [hg];exact (zzo zzh1):w.heap.size≤a3));clear HB;have HB:=a8;have a7:=a9;have c8:=b0;have c9:=b1;clear a8 a9 b0 b1 hb hbox hg;obtain ⟨d2,d3,d4,d5,d6,d7,d8,d9,e0,e1,e2,e3⟩:=zzc6 a7.out)|((with_reducible refine gate_callee (f:=30) rfl ?_);refine goesL_ (some 7) rfl rfl Tryd.func30 (by kernel_rfl) rfl #[.int .i64 a0,.int .i64 a1] rfl zzM2 ?_;(with_reducible refine (Qz.calls a0 a1 true _ A2.out).mono ?_);rintro e w' ⟨rfl,⟨nd,rfl⟩⟩;refine ⟨_,rfl,?_⟩)|(go_at_call 31;(with_reducible refine (Qw.calls k a5 _ _ a2 false _ ?side1 ?side2 A4.out).mono ?_);(case side1=>repeat (first|exact (Kd.C_below c4.out zzh2)|(with_reducible refine Kd.C_alloc ?_ _)|(with_reducible refine Kd.C_drewN ?_ _)|(with_reducible refine Kd.C_drew ?_)));(case side2=>exact c7.out);rintro e w' ⟨rfl,⟨nd,rfl⟩⟩));go_ret;exact ⟨zzR,zzh3⟩
 ·
  replace c3:=Bool.eq_false_iff.mpr c3;subst c3;replace H:=zzIf H;obtain rfl:=Option.some.inj H;go_enter Tryd.func20,Tryd.ntmps20;go_wp2_with (first|((with_reducible refine gate_dst (N:=1) rfl ?_);refine box_event ?hg (N:=1) ?hd (cs:=#[.int .i64 a0,.int .i64 a1,.bool a5,.slice b2 a2.length b3,.bool a6,.slice b4 a4.length b5]) (t:=40) ?hr ?_;(case hd=>rfl);(case hg=>rfl);(case hr=>first|(go_simp;done)|(go_simp;rfl));intro a3 hg h8 hbox hb;have a8:=zzm (zzp zzh1 hb);have a9:=zzm (hbox);have b0:=zzm ((by rw [hg];exact (zzo zzh1):w.heap.size≤a3));have b1:=zzm ((by rw [hg];exact (zzo zzh1):w.heap.size≤a3));clear HB;have HB:=a8;have a7:=a9;have c8:=b0;have c9:=b1;clear a8 a9 b0 b1 hb hbox hg;obtain ⟨e4,e5,e6,e7,e8,e9,g0,g1,g2,g3,g4,g5⟩:=zzc6 a7.out)|((with_reducible refine gate_callee (f:=30) rfl ?_);refine goesL_ (some 7) rfl rfl Tryd.func30 (by kernel_rfl) rfl #[.int .i64 a0,.int .i64 a1] rfl zzM2 ?_;(with_reducible refine (Qz.calls a0 a1 false _ A2.out).mono ?_);rintro e w' ⟨rfl,⟨nd,rfl⟩⟩;refine ⟨_,rfl,?_⟩));go_ret;exact ⟨zzR,zzh3⟩
mutual
def Qd.j0:Nat→Bool→Bool→Int→Int→Int→List (S40)→Option (Bool)
 | 0,_,_,_,_,_,_=>none
 | k+1,x257000,x257001,x257002,x257003,x257004,x257005=>(Qp.f (x257005.length:Int) 1 6).bind fun t260=>(if t260=true then (if x257001=true then (Qd.j1 k ((x257005.length:Int) != 1) x257000 x257001 x257002 x257003 x257004 x257005) else (Qd.j1 k false x257000 x257001 x257002 x257003 x257004 x257005)) else (Qd.j1 k true x257000 x257001 x257002 x257003 x257004 x257005))
def Qd.j1:Nat→Bool→Bool→Bool→Int→Int→Int→List (S40)→Option (Bool)
 | 0,_,_,_,_,_,_,_=>none
 | k+1,x50,x257000,x257001,x257002,x257003,x257004,x257005=>if x50=true then (some false) else (Qd.l0 k x257005 (x257005.length:Int) 0 x257000 x257001 x257002 x257003 x257004 x257005)
def Qd.l0:Nat→List (S40)→Int→Int→Bool→Bool→Int→Int→Int→List (S40)→Option (Bool)
 | 0,_,_,_,_,_,_,_,_,_=>none
 | k+1,x52,x53,x54,x257000,x257001,x257002,x257003,x257004,x257005=>if x54 < x53 then (if 0≤x54 then (if x54 < (x52.length:Int) then ((Qy.f k ((Qb x52 x54).f0) ((Qb x52 x54).f1) ((Qb x52 x54).f2) ((Qb x52 x54).f3) ((Qb x52 x54).f4) ((Qb x52 x54).f5)).bind fun t263=>(if t263=true then (if x54 > 0 then (if 0≤(wrap64 (x54 - 1)) then (if (wrap64 (x54 - 1)) < (x257005.length:Int) then (if ((Qb x257005 (wrap64 (x54 - 1))).f0) ≥ ((Qb x52 x54).f0) then (some false) else (Qd.l0 k x52 x53 (wrap64 (x54+1)) x257000 x257001 x257002 x257003 x257004 x257005)) else (none)) else (none)) else (Qd.l0 k x52 x53 (wrap64 (x54+1)) x257000 x257001 x257002 x257003 x257004 x257005)) else (some false))) else (none)) else (none)) else (some true)
end
def Qd.f (k:Nat) (a0_0:Bool) (a0_1:Bool) (a0_2:Int) (a0_3:Int) (a0_4:Int) (l0_5:List (S40)):Option (Bool):=if a0_2=255 then (if a0_3=0 then (if a0_4=0 then (if a0_1=true then (some false) else (Qd.j0 k a0_0 a0_1 a0_2 a0_3 a0_4 l0_5)) else (some false)) else (some false)) else ((Rd.f a0_2).bind fun t257=>(if t257=true then ((Qp.f a0_3 0 99).bind fun t258=>(if t258=true then ((Qp.f a0_4 0 9999).bind fun t259=>(if t259=true then (Qd.j0 k a0_0 a0_1 a0_2 a0_3 a0_4 l0_5) else (some false))) else (some false))) else (some false)))
def Qd.T11:Bool×List (List Nat×List Nat):=(true,[([],[]),([0],[0]),([1],[1]),([2,1],[2]),([3],[3]),([4,3],[3,4]),([5,3,3],[3,5]),([6],[6]),([7,6],[6,7]),([6],[6]),([9,6],[6,9]),([8,10,6],[6,8,10]),([11,6],[6,11]),([12,6],[6,12]),([6],[6]),([14,6],[6,14]),([13,15,6],[6,13,15]),([6,16,3],[3,6,16]),([3,17],[3,17])])
def Qd.B11:List Nat:=[0,1,3,7,15,31,63,127,255,127,639,2047,4095,8191,127,16511,65535,131071,262143]
theorem Qd.tab11:rtab .any (opsOf Tryd.f9 11)=Qd.T11:=by kernel_rfl
theorem Qd.bits11:waitsOk Qd.T11.2 Qd.B11=true:=by kernel_rfl
set_option maxHeartbeats 8000000 in
theorem Qd.calls (k:Nat) (c4:Bool) (c0:Bool) (b4:Int) (b8:Int) (b9:Int) (j8:Option Addr) (d0:Nat) (a1:List (S40)) (r:Bool) (w:World) (D0:Kd.C k40 w j8 a1.length a1) (D1:a1.length≤d0) (h:Qd.f k c4 c0 b4 b8 b9 a1=some r) :
  Calls Tryd.prog 9 #[.agg #[.bool c4,.bool c0,.int .i64 b4,.int .i64 b8,.int .i64 b9,.slice j8 a1.length d0]] w fun e w'=>e = .returned (.bool r)∧Below w.heap.size w w':=by
 have hu25:=Tryd.underlying25;have hu40:=Tryd.underlying40;have j3:=zzm D0;have M2:=zzm D1;clear D0 D1;have HB:=zzm (Below.refl w.heap.size w);have H:(if b4=255 then (if b8=0 then (if b9=0 then (if c0=true then (some false) else (Qd.j0 k c4 c0 b4 b8 b9 a1)) else (some false)) else (some false)) else ((Rd.f b4).bind fun C5=>(if C5=true then ((Qp.f b8 0 99).bind fun C6=>(if C6=true then ((Qp.f b9 0 9999).bind fun C7=>(if C7=true then (Qd.j0 k c4 c0 b4 b8 b9 a1) else (some false))) else (some false))) else (some false))))=some r:=h;clear h;have F6:=zzm H;clear H;go_enter Tryd.func9,Tryd.ntmps9;go_upto_if 7 with (first|((with_reducible refine gate_dst (N:=1) rfl ?_);(try (refine gate_guard (by rfl) ?_;dsimp only));refine box_event ?hg (N:=1) ?hd (cs:=#[.bool c4,.bool c0,.int .i64 b4,.int .i64 b8,.int .i64 b9,.slice j8 a1.length d0]) (t:=25) ?hr ?_;(case hd=>rfl);(case hg=>rfl);(case hr=>first|(go_simp;done)|(go_simp;rfl));intro b0 hg w3 hbox hb;have b5:=zzm (zzp zzh1 hb);have b6:=zzm (hbox);have b7:=zzm ((by rw [hg];exact (zzo zzh1):w.heap.size≤b0));have g5:=zzm ((by rw [hg];exact (zzo zzh1):w.heap.size≤b0));clear HB;have HB:=b5;have a3:=b6;have M3:=b7;have M4:=g5;clear b5 b6 b7 g5 hb hbox hg;obtain ⟨s8,s9,t0,t1,t2,t3,t4,t5,t6,t7,t8,t9⟩:=zzc6 a3.out))
 (try simp only [Act.put,zzq,zzr,zzs]);go_cut [] (fun wc=>∃ (kq:Nat),Aside0 (Qd.j0 kq c4 c0 b4 b8 b9 a1=some r)∧Aside0 (kq≤k)∧Aside0 (wc.heap[b0]? = some (.cells #[.bool c4,.bool c0,.int .i64 b4,.int .i64 b8,.int .i64 b9,(.slice j8 a1.length d0)] 25 (0,0)))∧Aside0 (Below w.heap.size w wc))
 case first=>
  have H:=F6.out;clear F6;by_cases c5:b4=255
  ·
   rw [if_pos c5] at H;obtain ⟨h7,B1⟩:=zzQ c5;clear c5
   (first|rw [h7]|(simp only [i64_w,i32_w];rw [h7])|skip);by_cases c6:b8=0
   ·
    rw [if_pos c6] at H;obtain ⟨B2,B7⟩:=zzQ c6;clear c6;by_cases c7:b9=0
    ·
     rw [if_pos c7] at H;obtain ⟨B8,B9⟩:=zzQ c7;clear c7;by_cases c8:c0=true
     ·
      subst c8;replace H:=zzIt H;obtain rfl:=Option.some.inj H;obtain ⟨v0,v1,v2,v3,v4,v5,v6,v7,v8,v9,w0,w1⟩:=zzc6 a3.out;go_wp2;go_ret;exact ⟨zzR,zzh3⟩
     ·
      replace c8:=Bool.eq_false_iff.mpr c8;subst c8;replace H:=zzIf H;have H':=zzm H;clear H;obtain ⟨j9,k0,k1,k2,k4,k5,k6,k7,k8,k9,l1,l2⟩:=zzc6 a3.out;go_wp2;go_meet
      case rel=>exact ⟨_,H',⟨by first|omega|exact Nat.le_refl _⟩,⟨zzE a3.out⟩,⟨zzh3⟩⟩
    ·
     rw [if_neg c7] at H;obtain ⟨B8,B9⟩:=zzY c7;obtain rfl:=Option.some.inj H;obtain ⟨l3,l4,l5,l6,l7,l8,l9,m0,m1,m2,m3,m4⟩:=zzc6 a3.out;go_wp2;go_ret;exact ⟨zzR,zzh3⟩
   ·
    rw [if_neg c6] at H;obtain ⟨B2,B7⟩:=zzY c6;obtain rfl:=Option.some.inj H;obtain ⟨m5,m6,m7,m8,m9,n0,n1,n2,n3,n4,n5,n6⟩:=zzc6 a3.out;go_wp2;go_ret;exact ⟨zzR,zzh3⟩
  ·
   rw [if_neg c5] at H;obtain ⟨h7,B1⟩:=zzY c5
   (first|rw [h7]|(simp only [i64_w,i32_w];rw [h7])|skip);obtain ⟨C5,D2,H⟩:=zzG H;by_cases w2:C5=true
   ·
    subst w2;replace H:=zzIt H;obtain ⟨C6,F7,H⟩:=zzG H;by_cases w4:C6=true
    ·
     subst w4;replace H:=zzIt H;obtain ⟨C7,G3,H⟩:=zzG H;by_cases w5:C7=true
     ·
      subst w5;replace H:=zzIt H;have H':=zzm H;clear H;obtain ⟨n7,n8,n9,o0,o1,o2,o3,o4,o5,o6,o7,o8⟩:=zzc6 a3.out;go_wp2_with (first|((with_reducible refine gate_callee (f:=18) rfl ?_);refine goesL_ (some 22) rfl rfl Tryd.func18 (by kernel_rfl) rfl #[.int .i64 b4] rfl zzM2 ?_;(with_reducible refine (Rd.calls b4 true _ D2.out).mono ?_);rintro e w' ⟨rfl,⟨nd,rfl⟩⟩;refine ⟨_,rfl,?_⟩)|(go_at_call 19;(with_reducible refine (Qp.calls b8 0 99 true _ F7.out).mono ?_);rintro e w' ⟨rfl,⟨nd,rfl⟩⟩)|(go_at_call 19;(with_reducible refine (Qp.calls b9 0 9999 true _ G3.out).mono ?_);rintro e w' ⟨rfl,⟨nd,rfl⟩⟩));go_meet
      case rel=>exact ⟨_,H',⟨by first|omega|exact Nat.le_refl _⟩,⟨zzE a3.out⟩,⟨zzh3⟩⟩
     ·
      replace w5:=Bool.eq_false_iff.mpr w5;subst w5;replace H:=zzIf H;obtain rfl:=Option.some.inj H;obtain ⟨o9,p0,p1,p3,p4,p5,p6,p7,p8,p9,q0,q1⟩:=zzc6 a3.out;go_wp2_with (first|((with_reducible refine gate_callee (f:=18) rfl ?_);refine goesL_ (some 22) rfl rfl Tryd.func18 (by kernel_rfl) rfl #[.int .i64 b4] rfl zzM2 ?_;(with_reducible refine (Rd.calls b4 true _ D2.out).mono ?_);rintro e w' ⟨rfl,⟨nd,rfl⟩⟩;refine ⟨_,rfl,?_⟩)|(go_at_call 19;(with_reducible refine (Qp.calls b8 0 99 true _ F7.out).mono ?_);rintro e w' ⟨rfl,⟨nd,rfl⟩⟩)|(go_at_call 19;(with_reducible refine (Qp.calls b9 0 9999 false _ G3.out).mono ?_);rintro e w' ⟨rfl,⟨nd,rfl⟩⟩));go_ret;exact ⟨zzR,zzh3⟩
    ·
     replace w4:=Bool.eq_false_iff.mpr w4;subst w4;replace H:=zzIf H;obtain rfl:=Option.some.inj H;obtain ⟨q2,q3,q4,q5,q6,q7,q8,q9,r0,r1,r2,r3⟩:=zzc6 a3.out;go_wp2_with (first|((with_reducible refine gate_callee (f:=18) rfl ?_);refine goesL_ (some 22) rfl rfl Tryd.func18 (by kernel_rfl) rfl #[.int .i64 b4] rfl zzM2 ?_;(with_reducible refine (Rd.calls b4 true _ D2.out).mono ?_);rintro e w' ⟨rfl,⟨nd,rfl⟩⟩;refine ⟨_,rfl,?_⟩)|(go_at_call 19;(with_reducible refine (Qp.calls b8 0 99 false _ F7.out).mono ?_);rintro e w' ⟨rfl,⟨nd,rfl⟩⟩));go_ret;exact ⟨zzR,zzh3⟩
   ·
    replace w2:=Bool.eq_false_iff.mpr w2;subst w2;replace H:=zzIf H;obtain rfl:=Option.some.inj H;obtain ⟨r4,r5,r6,r7,r8,r9,s0,s1,s2,s3,s4,s5⟩:=zzc6 a3.out;go_wp2_with (first|((with_reducible refine gate_callee (f:=18) rfl ?_);refine goesL_ (some 22) rfl rfl Tryd.func18 (by kernel_rfl) rfl #[.int .i64 b4] rfl zzM2 ?_;(with_reducible refine (Rd.calls b4 false _ D2.out).mono ?_);rintro e w' ⟨rfl,⟨nd,rfl⟩⟩;refine ⟨_,rfl,?_⟩));go_ret;exact ⟨zzR,zzh3⟩
 case rest=>
  clear F6;try clear c1
  try clear p2
  try clear c5
  try clear h7
  try clear B1
  try clear c6
  try clear B2
  try clear B7
  try clear c7
  try clear B8
  try clear B9
  try clear c8
  try clear c9
  try clear w2
  try clear w4
  try clear w5
  try clear j9
  try clear k0
  try clear k1
  try clear k2
  try clear k4
  try clear k5
  try clear l3
  try clear l4
  try clear l5
  try clear l6
  try clear l7
  try clear l8
  try clear m5
  try clear m6
  try clear m7
  try clear m8
  try clear m9
  try clear n0
  try clear n7
  try clear n8
  try clear n9
  try clear o0
  try clear o1
  try clear o2
  try clear o9
  try clear p0
  try clear p1
  try clear p3
  try clear p4
  try clear p5
  try clear q2
  try clear q3
  try clear q4
  try clear q5
  try clear q6
  try clear q7
  try clear r4
  try clear r5
  try clear r6
  try clear r7
  try clear r8
  try clear r9
  try clear s8
  try clear s9
  try clear t0
  try clear t1
  try clear t2
  try clear t3
  try clear v0
  try clear v1
  try clear v2
  try clear v3
  try clear v4
  try clear v5
  try clear k6
  try clear k7
  try clear k8
  try clear k9
  try clear l1
  try clear l2
  try clear l9
  try clear m0
  try clear m1
  try clear m2
  try clear m3
  try clear m4
  try clear n1
  try clear n2
  try clear n3
  try clear n4
  try clear n5
  try clear n6
  try clear o3
  try clear o4
  try clear o5
  try clear o6
  try clear o7
  try clear o8
  try clear p6
  try clear p7
  try clear p8
  try clear p9
  try clear q0
  try clear q1
  try clear q8
  try clear q9
  try clear r0
  try clear r1
  try clear r2
  try clear r3
  try clear s0
  try clear s1
  try clear s2
  try clear s3
  try clear s4
  try clear s5
  try clear t4
  try clear t5
  try clear t6
  try clear t7
  try clear t8
  try clear t9
  try clear v6
  try clear v7
  try clear v8
  try clear v9
  try clear w0
  try clear w1
  obtain ⟨kq,HA,HJ1,a3,HB⟩:=hcut;cases kq with
  | zero=>exact absurd HA.out (by simp [Qd.j0])
  | succ L4=>
   have H:=HA.out;clear HA;simp only [Qd.j0] at H;have C8:=zzm H;clear H;go_upto_region 6 with (fail);go_cut [50] (fun L5 wc=>∃ (kq:Nat) (j7:Bool),L5 = .bool j7∧Aside0 (Qd.j1 kq j7 c4 c0 b4 b8 b9 a1=some r)∧Aside0 (kq≤L4)∧Aside0 (wc.heap[b0]? = some (.cells #[.bool c4,.bool c0,.int .i64 b4,.int .i64 b8,.int .i64 b9,(.slice j8 a1.length d0)] 25 (0,0)))∧Aside0 (Below w.heap.size w wc))
   case first=>
    have H:=C8.out;clear C8;obtain ⟨G4,F8,H⟩:=zzG H;by_cases x0:G4=true
    ·
     subst x0;replace H:=zzIt H;by_cases x1:c0=true
     ·
      subst x1;replace H:=zzIt H;have H':=zzm H;clear H;obtain ⟨x2,x3,x4,x5,x6,x7,x8,x9,y0,y1,y2,y3⟩:=zzc6 a3.out;go_wp2_with (first|((with_reducible refine gate_callee (f:=19) rfl ?_);refine goesL_ (some 39) rfl rfl Tryd.func19 (by kernel_rfl) rfl #[.int .i64 (a1.length:Int),.int .i64 1,.int .i64 6] rfl zzM2 ?_;(with_reducible refine (Qp.calls (a1.length:Int) 1 6 true _ F8.out).mono ?_);rintro e w' ⟨rfl,⟨nd,rfl⟩⟩;refine ⟨_,rfl,?_⟩));go_meet
      case rel=>exact ⟨_,(((a1.length:Int) != 1)),(by first|rfl|(simp;done)|(simp [*];done)),H',⟨by have:=HJ1.out;first|omega|exact Nat.le_refl _⟩,⟨zzE a3.out⟩,⟨zzh3⟩⟩
     ·
      replace x1:=Bool.eq_false_iff.mpr x1;subst x1;replace H:=zzIf H;have H':=zzm H;clear H;obtain ⟨y4,y5,y6,y7,y8,y9,z0,z1,z2,z3,z4,z5⟩:=zzc6 a3.out;go_wp2_with (first|((with_reducible refine gate_callee (f:=19) rfl ?_);refine goesL_ (some 39) rfl rfl Tryd.func19 (by kernel_rfl) rfl #[.int .i64 (a1.length:Int),.int .i64 1,.int .i64 6] rfl zzM2 ?_;(with_reducible refine (Qp.calls (a1.length:Int) 1 6 true _ F8.out).mono ?_);rintro e w' ⟨rfl,⟨nd,rfl⟩⟩;refine ⟨_,rfl,?_⟩));go_meet
      case rel=>exact ⟨_,(false),(by first|rfl|(simp;done)|(simp [*];done)),H',⟨by have:=HJ1.out;first|omega|exact Nat.le_refl _⟩,⟨zzE a3.out⟩,⟨zzh3⟩⟩
    ·
     replace x0:=Bool.eq_false_iff.mpr x0;subst x0;replace H:=zzIf H;have H':=zzm H;clear H;obtain ⟨z6,z7,z8,z9,A0,A1,A2,A3,A4,A5,A6,A7⟩:=zzc6 a3.out;go_wp2_with (first|((with_reducible refine gate_callee (f:=19) rfl ?_);refine goesL_ (some 39) rfl rfl Tryd.func19 (by kernel_rfl) rfl #[.int .i64 (a1.length:Int),.int .i64 1,.int .i64 6] rfl zzM2 ?_;(with_reducible refine (Qp.calls (a1.length:Int) 1 6 false _ F8.out).mono ?_);rintro e w' ⟨rfl,⟨nd,rfl⟩⟩;refine ⟨_,rfl,?_⟩));go_meet
     case rel=>exact ⟨_,(true),(by first|rfl|(simp;done)|(simp [*];done)),H',⟨by have:=HJ1.out;first|omega|exact Nat.le_refl _⟩,⟨zzE a3.out⟩,⟨zzh3⟩⟩
   case rest=>
    clear C8;try clear c1
    try clear c2
    try clear p2
    try clear c5
    try clear h7
    try clear B1
    try clear c6
    try clear B2
    try clear B7
    try clear c7
    try clear B8
    try clear B9
    try clear c8
    try clear c9
    try clear w2
    try clear w4
    try clear w5
    try clear L6
    try clear x0
    try clear x1
    try clear j9
    try clear k0
    try clear k1
    try clear k2
    try clear k4
    try clear k5
    try clear l3
    try clear l4
    try clear l5
    try clear l6
    try clear l7
    try clear l8
    try clear m5
    try clear m6
    try clear m7
    try clear m8
    try clear m9
    try clear n0
    try clear n7
    try clear n8
    try clear n9
    try clear o0
    try clear o1
    try clear o2
    try clear o9
    try clear p0
    try clear p1
    try clear p3
    try clear p4
    try clear p5
    try clear q2
    try clear q3
    try clear q4
    try clear q5
    try clear q6
    try clear q7
    try clear r4
    try clear r5
    try clear r6
    try clear r7
    try clear r8
    try clear r9
    try clear x2
    try clear x3
    try clear x4
    try clear x5
    try clear x6
    try clear x7
    try clear y4
    try clear y5
    try clear y6
    try clear y7
    try clear y8
    try clear y9
    try clear z6
    try clear z7
    try clear z8
    try clear z9
    try clear A0
    try clear A1
    try clear s8
    try clear s9
    try clear t0
    try clear t1
    try clear t2
    try clear t3
    try clear v0
    try clear v1
    try clear v2
    try clear v3
    try clear v4
    try clear v5
    try clear k6
    try clear k7
    try clear k8
    try clear k9
    try clear l1
    try clear l2
    try clear l9
    try clear m0
    try clear m1
    try clear m2
    try clear m3
    try clear m4
    try clear n1
    try clear n2
    try clear n3
    try clear n4
    try clear n5
    try clear n6
    try clear o3
    try clear o4
    try clear o5
    try clear o6
    try clear o7
    try clear o8
    try clear p6
    try clear p7
    try clear p8
    try clear p9
    try clear q0
    try clear q1
    try clear q8
    try clear q9
    try clear r0
    try clear r1
    try clear r2
    try clear r3
    try clear s0
    try clear s1
    try clear s2
    try clear s3
    try clear s4
    try clear s5
    try clear x8
    try clear x9
    try clear y0
    try clear y1
    try clear y2
    try clear y3
    try clear z0
    try clear z1
    try clear z2
    try clear z3
    try clear z4
    try clear z5
    try clear A2
    try clear A3
    try clear A4
    try clear A5
    try clear A6
    try clear A7
    try clear t4
    try clear t5
    try clear t6
    try clear t7
    try clear t8
    try clear t9
    try clear v6
    try clear v7
    try clear v8
    try clear v9
    try clear w0
    try clear w1
    try clear p2
    obtain ⟨kq,j7,rfl,HA,HJ22,a3,HB⟩:=hcut;cases kq with
    | zero=>exact absurd HA.out (by simp [Qd.j1])
    | succ F9=>
     have H:=HA.out;clear HA;simp only [Qd.j1] at H;by_cases C3:j7=true
     ·
      subst C3;replace H:=zzIt H;obtain rfl:=Option.some.inj H;go_wp2;go_ret;exact ⟨zzR,zzh3⟩
     ·
      replace C3:=Bool.eq_false_iff.mpr C3;subst C3;replace H:=zzIf H;have H':=zzm H;clear H;obtain ⟨E2,E3,E4,E5,E6,E7,E8,E9,F0,F1,F2,F3⟩:=zzc6 a3.out;go_wp2;go_loopg [54] F9 (fun kq L7 w'=>∃ (a0:Int),L7 = .int .i64 a0∧Aside0 (Qd.l0 kq a1 (a1.length:Int) a0 c4 c0 b4 b8 b9 a1=some r)∧Aside0 (kq≤F9)∧Aside0 (w'.heap[b0]? = some (.cells #[.bool c4,.bool c0,.int .i64 b4,.int .i64 b8,.int .i64 b9,(.slice j8 a1.length d0)] 25 (0,0)))∧Aside0 (Below w.heap.size w w'))
      case atStart=>exact ⟨(0),(by first|rfl|(simp;done)|(simp [*];done)),H',⟨Nat.le_refl _⟩,⟨zzE a3.out⟩,⟨zzh3⟩⟩
      case round=>
       clear H';try clear c1
       try clear c2
       try clear p2
       try clear c3
       try clear c5
       try clear h7
       try clear B1
       try clear c6
       try clear B2
       try clear B7
       try clear c7
       try clear B8
       try clear B9
       try clear c8
       try clear c9
       try clear w2
       try clear w4
       try clear w5
       try clear L6
       try clear x0
       try clear x1
       try clear C3
       try clear j9
       try clear k0
       try clear k1
       try clear k2
       try clear k4
       try clear k5
       try clear l3
       try clear l4
       try clear l5
       try clear l6
       try clear l7
       try clear l8
       try clear m5
       try clear m6
       try clear m7
       try clear m8
       try clear m9
       try clear n0
       try clear n7
       try clear n8
       try clear n9
       try clear o0
       try clear o1
       try clear o2
       try clear o9
       try clear p0
       try clear p1
       try clear p3
       try clear p4
       try clear p5
       try clear q2
       try clear q3
       try clear q4
       try clear q5
       try clear q6
       try clear q7
       try clear r4
       try clear r5
       try clear r6
       try clear r7
       try clear r8
       try clear r9
       try clear x2
       try clear x3
       try clear x4
       try clear x5
       try clear x6
       try clear x7
       try clear y4
       try clear y5
       try clear y6
       try clear y7
       try clear y8
       try clear y9
       try clear z6
       try clear z7
       try clear z8
       try clear z9
       try clear A0
       try clear A1
       try clear E2
       try clear E3
       try clear E4
       try clear E5
       try clear E6
       try clear E7
       try clear s8
       try clear s9
       try clear t0
       try clear t1
       try clear t2
       try clear t3
       try clear v0
       try clear v1
       try clear v2
       try clear v3
       try clear v4
       try clear v5
       try clear k6
       try clear k7
       try clear k8
       try clear k9
       try clear l1
       try clear l2
       try clear l9
       try clear m0
       try clear m1
       try clear m2
       try clear m3
       try clear m4
       try clear n1
       try clear n2
       try clear n3
       try clear n4
       try clear n5
       try clear n6
       try clear o3
       try clear o4
       try clear o5
       try clear o6
       try clear o7
       try clear o8
       try clear p6
       try clear p7
       try clear p8
       try clear p9
       try clear q0
       try clear q1
       try clear q8
       try clear q9
       try clear r0
       try clear r1
       try clear r2
       try clear r3
       try clear s0
       try clear s1
       try clear s2
       try clear s3
       try clear s4
       try clear s5
       try clear x8
       try clear x9
       try clear y0
       try clear y1
       try clear y2
       try clear y3
       try clear z0
       try clear z1
       try clear z2
       try clear z3
       try clear z4
       try clear z5
       try clear A2
       try clear A3
       try clear A4
       try clear A5
       try clear A6
       try clear A7
       try clear E8
       try clear E9
       try clear F0
       try clear F1
       try clear F2
       try clear F3
       try clear t4
       try clear t5
       try clear t6
       try clear t7
       try clear t8
       try clear t9
       try clear v6
       try clear v7
       try clear v8
       try clear v9
       try clear w0
       try clear w1
       try clear p2
       obtain ⟨a0,rfl,HA,HK3,a3,HB⟩:=hrel;cases gk with
       | zero=>exact absurd HA.out (by simp [Qd.l0])
       | succ k3=>
        have H:=HA.out;clear HA;simp only [Qd.l0] at H;by_cases A8:a0 < (a1.length:Int)
        ·
         rw [if_pos A8] at H;have G0:decide (a0 < (a1.length:Int))=true:=decide_eq_true A8;clear A8;by_cases D3 : 0≤a0
         ·
          rw [if_pos D3] at H;have M5:decide (0≤a0)=true:=decide_eq_true D3;clear D3;by_cases D4:a0 < (a1.length:Int)
          ·
           rw [if_pos D4] at H;have M6:decide (a0 < (a1.length:Int))=true:=decide_eq_true D4;clear D4;obtain ⟨G5,C4,H⟩:=zzG H;by_cases D5:G5=true
           ·
            subst D5;replace H:=zzIt H;by_cases A9:a0 > 0
            ·
             rw [if_pos A9] at H;have G1:decide (0 < a0)=true:=decide_eq_true A9;clear A9;obtain ⟨b3,hji38⟩:∃ j_:Int,(wrap64 (a0 - 1))=j_:=⟨_,rfl⟩;replace H:(if 0≤(b3) then (if (b3) < (a1.length:Int) then (if ((Qb a1 (b3)).f0) ≥ ((Qb a1 a0).f0) then (some false) else (Qd.l0 k3 a1 (a1.length:Int) (wrap64 (a0+1)) c4 c0 b4 b8 b9 a1)) else (none)) else (none))=some r:=by first|(rw [hji38] at H;exact H)|(simp only [hji38] at H ⊢;exact H)
             (try rw [hji38] at C4);have hji38w:(IntKind.i64.wrap (a0 - 1))=b3:=(i64_w _).trans hji38;by_cases D6 : 0≤(b3)
             ·
              rw [if_pos D6] at H;have M7:decide (0≤(b3))=true:=decide_eq_true D6;clear D6;by_cases D7:(b3) < (a1.length:Int)
              ·
               rw [if_pos D7] at H;have M8:decide ((b3) < (a1.length:Int))=true:=decide_eq_true D7;clear D7;by_cases B0:((Qb a1 (b3)).f0) ≥ ((Qb a1 a0).f0)
               ·
                rw [if_pos B0] at H;have G2:decide (((Qb a1 a0).f0)≤((Qb a1 (b3)).f0))=true:=decide_eq_true B0;clear B0;obtain rfl:=Option.some.inj H;have e9 : 0≤(a0:Int):=zzt;have g0:a0 < (a1.length:Int):=zzt;obtain ⟨a9,a6,a7,b1,b2,j4,d2,d3,d4,d5,d6,d7,d8,d9,e0,e1⟩:=Rg j3.out a0 e9 g0;cases j4;replace d2:=zzx HB.out d2;replace d3:=zzx HB.out d3;replace d4:=zzx HB.out d4;replace d5:=zzx HB.out d5;replace d6:=zzx HB.out d6;replace d7:=zzx HB.out d7;have g1:=zzm d9;have g2:=zzm d8;clear d9 d8;have g3:=zzm e1;have g4:=zzm e0;clear e1 e0;replace e9:=eq_true e9;replace g0:=eq_true g0;try go_wp2_with (first|((with_reducible refine gate_dst (N:=4) rfl ?_);(try (refine gate_guard (by rfl) ?_;dsimp only));refine box_event ?hg (N:=4) ?hd (cs:=#[.int .i64 0,.int .i64 0,.bool false,.slice none 0 0,.bool false,.slice none 0 0]) (t:=40) ?hr ?_;(case hd=>rfl);(case hg=>rfl);(case hr=>first|(go_simp;done)|(go_simp;rfl));intro a2 hg D8 hbox hb;have b5:=zzm (zzh (g:=b0) (o:=.cells #[.bool c4,.bool c0,.int .i64 b4,.int .i64 b8,.int .i64 b9,.slice (some a9) a1.length d0] 25 (0,0)) (zzE a3.out) hb);have b6:=zzm (zzp zzh2 hb);have b7:=zzm (hbox);have g5:=zzm ((by rw [hg];exact (zzo zzh2):w.heap.size≤a2));have h8:=zzm ((by rw [hg];exact (zzo zzh2):w.heap.size≤a2));have h9:=zzm ((by rw [hg];exact Nat.ne_of_lt (blk_lt (g:=b0) (o:=.cells #[.bool c4,.bool c0,.int .i64 b4,.int .i64 b8,.int .i64 b9,.slice (some a9) a1.length d0] 25 (0,0)) (zzE a3.out)):b0≠a2));have j2:=zzm ((by rw [hg];exact Nat.ne_of_gt (blk_lt (g:=b0) (o:=.cells #[.bool c4,.bool c0,.int .i64 b4,.int .i64 b8,.int .i64 b9,.slice (some a9) a1.length d0] 25 (0,0)) (zzE a3.out)):a2≠b0));clear a3 HB;have a3:=b5;have HB:=b6;have a4:=b7;have C0:=g5;have C1:=h8;have a5:=h9;have e2:=j2;clear b5 b6 b7 g5 h8 h9 j2 hb hbox hg;have M9:=e2.out;have N0:=a5.out;obtain ⟨G6,G7,G8,G9,H0,H1,H2,H3,H4,H5,H6,H7⟩:=zzc6 a4.out))
                have b5:Aside0 (((((((D8.setCell ⟨a2,0,none⟩ (.int .i64 ((Qb a1 a0).f0))).setCell ⟨a2,1,none⟩ (.int .i64 ((Qb a1 a0).f1))).setCell ⟨a2,2,none⟩ (.bool ((Qb a1 a0).f2))).setCell ⟨a2,3,none⟩ (.slice a6 ((Qb a1 a0).f3).length a7)).setCell ⟨a2,4,none⟩ (.bool ((Qb a1 a0).f4))).setCell ⟨a2,5,none⟩ (.slice b1 ((Qb a1 a0).f5).length b2)).heap[b0]? = some (.cells #[.bool c4,.bool c0,.int .i64 b4,.int .i64 b8,.int .i64 b9,.slice (some a9) a1.length d0] 25 (0,0))):=⟨by (with_reducible repeat (first|apply zzf|apply zzg|apply zze));refine zzj ?_ a5.out _;(with_reducible repeat (first|apply zzf|apply zzg|apply zze));refine zzj ?_ a5.out _;(with_reducible repeat (first|apply zzf|apply zzg|apply zze));refine zzj ?_ a5.out _;(with_reducible repeat (first|apply zzf|apply zzg|apply zze));refine zzj ?_ a5.out _;(with_reducible repeat (first|apply zzf|apply zzg|apply zze));refine zzj ?_ a5.out _;(with_reducible repeat (first|apply zzf|apply zzg|apply zze));refine zzj ?_ a5.out _;(with_reducible repeat (first|apply zzf|apply zzg|apply zze));exact a3.out⟩;have b6:Aside0 (((((((D8.setCell ⟨a2,0,none⟩ (.int .i64 ((Qb a1 a0).f0))).setCell ⟨a2,1,none⟩ (.int .i64 ((Qb a1 a0).f1))).setCell ⟨a2,2,none⟩ (.bool ((Qb a1 a0).f2))).setCell ⟨a2,3,none⟩ (.slice a6 ((Qb a1 a0).f3).length a7)).setCell ⟨a2,4,none⟩ (.bool ((Qb a1 a0).f4))).setCell ⟨a2,5,none⟩ (.slice b1 ((Qb a1 a0).f5).length b2)).heap[a2]? = some (.cells #[.int .i64 ((Qb a1 a0).f0),.int .i64 ((Qb a1 a0).f1),.bool ((Qb a1 a0).f2),.slice a6 ((Qb a1 a0).f3).length a7,.bool ((Qb a1 a0).f4),.slice b1 ((Qb a1 a0).f5).length b2] 40 (0,0))):=⟨by (with_reducible repeat (first|apply zzf|apply zzg|apply zze));refine zzi (cs:=#[.int .i64 ((Qb a1 a0).f0),.int .i64 ((Qb a1 a0).f1),.bool ((Qb a1 a0).f2),.slice a6 ((Qb a1 a0).f3).length a7,.bool ((Qb a1 a0).f4),.slice none 0 0]) ?_ 5 _ rfl;refine zzi (cs:=#[.int .i64 ((Qb a1 a0).f0),.int .i64 ((Qb a1 a0).f1),.bool ((Qb a1 a0).f2),.slice a6 ((Qb a1 a0).f3).length a7,.bool false,.slice none 0 0]) ?_ 4 _ rfl;refine zzi (cs:=#[.int .i64 ((Qb a1 a0).f0),.int .i64 ((Qb a1 a0).f1),.bool ((Qb a1 a0).f2),.slice none 0 0,.bool false,.slice none 0 0]) ?_ 3 _ rfl;refine zzi (cs:=#[.int .i64 ((Qb a1 a0).f0),.int .i64 ((Qb a1 a0).f1),.bool false,.slice none 0 0,.bool false,.slice none 0 0]) ?_ 2 _ rfl;refine zzi (cs:=#[.int .i64 ((Qb a1 a0).f0),.int .i64 0,.bool false,.slice none 0 0,.bool false,.slice none 0 0]) ?_ 1 _ rfl;refine zzi (cs:=#[.int .i64 0,.int .i64 0,.bool false,.slice none 0 0,.bool false,.slice none 0 0]) ?_ 0 _ rfl;(with_reducible repeat (first|apply zzf|apply zzg|apply zze));exact a4.out⟩;have b7:Aside0 (Below w.heap.size w ((((((D8.setCell ⟨a2,0,none⟩ (.int .i64 ((Qb a1 a0).f0))).setCell ⟨a2,1,none⟩ (.int .i64 ((Qb a1 a0).f1))).setCell ⟨a2,2,none⟩ (.bool ((Qb a1 a0).f2))).setCell ⟨a2,3,none⟩ (.slice a6 ((Qb a1 a0).f3).length a7)).setCell ⟨a2,4,none⟩ (.bool ((Qb a1 a0).f4))).setCell ⟨a2,5,none⟩ (.slice b1 ((Qb a1 a0).f5).length b2))):=⟨zzh3⟩
                (try clear a3)
                (try clear a4)
                (try clear HB);generalize ((((((D8.setCell ⟨a2,0,none⟩ (.int .i64 ((Qb a1 a0).f0))).setCell ⟨a2,1,none⟩ (.int .i64 ((Qb a1 a0).f1))).setCell ⟨a2,2,none⟩ (.bool ((Qb a1 a0).f2))).setCell ⟨a2,3,none⟩ (.slice a6 ((Qb a1 a0).f3).length a7)).setCell ⟨a2,4,none⟩ (.bool ((Qb a1 a0).f4))).setCell ⟨a2,5,none⟩ (.slice b1 ((Qb a1 a0).f5).length b2))=L8 at b5 b6 b7 ⊢;have a3:=b5;have a4:=b6;have HB:=b7;clear b5 b6 b7;have b5:=zzm (zzg a3.out);have b6:=zzm (zzg a4.out);have b7:=zzm (zzc HB.out);clear a3 a4 HB;have a3:=b5;have a4:=b6;have HB:=b7;clear b5 b6 b7;have j5 : 0≤((b3):Int):=zzt;have j6:(b3) < (a1.length:Int):=zzt;obtain ⟨C2,w6,w7,w8,w9,C9,e3,e4,e5,e6,e7,e8,g6,g7,g8,g9⟩:=Rg j3.out (b3) j5 j6;have h0:=e8;have h1:=e7;have h2:=e6;have h3:=e5;have h4:=e4;have h5:=e3;obtain rfl:a9=C2:=(by injection C9);replace e3:=zzx HB.out e3;replace e4:=zzx HB.out e4;replace e5:=zzx HB.out e5;replace e6:=zzx HB.out e6;replace e7:=zzx HB.out e7;replace e8:=zzx HB.out e8;have s6:=zzm g7;have F4:=zzm g6;clear g7 g6;have s7:=zzm g9;have F5:=zzm g8;clear g9 g8;replace j5:=eq_true j5;replace j6:=eq_true j6;refine start_ (n:=19) (S:=fun w'=>w'.cell? ⟨a2,0,none⟩=some (.int .i64 ((Qb a1 a0).f0))∧w'.cell? ⟨a2,1,none⟩=some (.int .i64 ((Qb a1 a0).f1))∧w'.cell? ⟨a2,2,none⟩=some (.bool ((Qb a1 a0).f2))∧w'.cell? ⟨a2,3,none⟩=some (.slice a6 ((Qb a1 a0).f3).length a7)∧w'.cell? ⟨a2,4,none⟩=some (.bool ((Qb a1 a0).f4))∧w'.cell? ⟨a2,5,none⟩=some (.slice b1 ((Qb a1 a0).f5).length b2)∧w'.cell? ⟨b0,0,none⟩=some (.bool c4)∧w'.cell? ⟨b0,1,none⟩=some (.bool c0)∧w'.cell? ⟨b0,2,none⟩=some (.int .i64 b4)∧w'.cell? ⟨b0,3,none⟩=some (.int .i64 b8)∧w'.cell? ⟨b0,4,none⟩=some (.int .i64 b9)∧w'.cell? ⟨b0,5,none⟩=some (.slice (some a9) a1.length d0)∧w'.cell? (a9.add (((b3)).toNat * 6))=some (.int .i64 ((Qb a1 (b3)).f0))∧w'.cell? ⟨(a9.add (((b3)).toNat * 6)).block,(a9.add (((b3)).toNat * 6)).off+1,none⟩=some (.int .i64 ((Qb a1 (b3)).f1))∧w'.cell? ⟨(a9.add (((b3)).toNat * 6)).block,(a9.add (((b3)).toNat * 6)).off+2,none⟩=some (.bool ((Qb a1 (b3)).f2))∧w'.cell? ⟨(a9.add (((b3)).toNat * 6)).block,(a9.add (((b3)).toNat * 6)).off+3,none⟩=some (.slice w6 ((Qb a1 (b3)).f3).length w7)∧w'.cell? ⟨(a9.add (((b3)).toNat * 6)).block,(a9.add (((b3)).toNat * 6)).off+4,none⟩=some (.bool ((Qb a1 (b3)).f4))∧w'.cell? ⟨(a9.add (((b3)).toNat * 6)).block,(a9.add (((b3)).toNat * 6)).off+5,none⟩=some (.slice w8 ((Qb a1 (b3)).f5).length w9)) (ds:=[]) (zzB 19 0) (by kernel_rfl) rfl rfl ⟨(zzk a4.out 0).trans rfl,(zzk a4.out 1).trans rfl,(zzk a4.out 2).trans rfl,(zzk a4.out 3).trans rfl,(zzk a4.out 4).trans rfl,(zzk a4.out 5).trans rfl,(zzk a3.out 0).trans rfl,(zzk a3.out 1).trans rfl,(zzk a3.out 2).trans rfl,(zzk a3.out 3).trans rfl,(zzk a3.out 4).trans rfl,(zzk a3.out 5).trans rfl,(zzx HB.out h5 :),(zzx HB.out h4 :),(zzx HB.out h3 :),(zzx HB.out h2 :),(zzx HB.out h1 :),(zzx HB.out h0 :)⟩ (fun d1=>?_);refine with_tabW Qd.tab11 Qd.bits11 (fun a8 h6=>?_);generalize L8.drew=N7 at a3 a4 HB s6 s7 e3 e4 e5 e6 e7 e8 d1 ⊢;refine zzT 0 59 19 1 a8 h6 d1 ?_
                refine one_ (i:=1) (N:=some 60) (zzB 19 3) rfl rfl (one_of a8.out (by kernel_rfl)) (by decide) (fun K hK=>?_);refine goes_ Tryd.func20 (by kernel_rfl) rfl #[.agg #[.int .i64 ((Qb a1 a0).f0),.int .i64 ((Qb a1 a0).f1),.bool ((Qb a1 a0).f2),.slice a6 ((Qb a1 a0).f3).length a7,.bool ((Qb a1 a0).f4),.slice b1 ((Qb a1 a0).f5).length b2]] (by rfl) rfl rfl zzM2 ?_;with_reducible refine (Qy.calls k3 ((Qb a1 a0).f0) ((Qb a1 a0).f1) ((Qb a1 a0).f2) _ _ ((Qb a1 a0).f3) ((Qb a1 a0).f4) _ _ ((Qb a1 a0).f5) true _ ?side1 ?side2 ?side3 ?side4 C4.out).mono ?_
                (case side1=>exact zzcb g1 HB)
                (case side2=>exact g2.out)
                (case side3=>exact zzcb g3 HB)
                (case side4=>exact g4.out);rintro e N8 ⟨rfl,hb⟩;refine ⟨_,rfl,?_⟩;have b5:=zzm (zzh (g:=b0) (o:=.cells #[.bool c4,.bool c0,.int .i64 b4,.int .i64 b8,.int .i64 b9,.slice (some a9) a1.length d0] 25 (0,0)) (zzE a3.out) hb);have b6:=zzm (zzh (g:=a2) (o:=.cells #[.int .i64 ((Qb a1 a0).f0),.int .i64 ((Qb a1 a0).f1),.bool ((Qb a1 a0).f2),.slice a6 ((Qb a1 a0).f3).length a7,.bool ((Qb a1 a0).f4),.slice b1 ((Qb a1 a0).f5).length b2] 40 (0,0)) (zzE a4.out) hb);have b7:=zzm (zzp zzh2 hb);clear a3 a4 HB;have a3:=b5;have a4:=b6;have HB:=b7;clear b5 b6 b7
                (try clear hb)
                (try clear hb2)
                (try clear hk)
                (try clear hi);refine hK.out _ _ ⟨(zzk a4.out 0).trans rfl,(zzk a4.out 1).trans rfl,(zzk a4.out 2).trans rfl,(zzk a4.out 3).trans rfl,(zzk a4.out 4).trans rfl,(zzk a4.out 5).trans rfl,(zzk a3.out 0).trans rfl,(zzk a3.out 1).trans rfl,(zzk a3.out 2).trans rfl,(zzk a3.out 3).trans rfl,(zzk a3.out 4).trans rfl,(zzk a3.out 5).trans rfl,(zzx HB.out h5 :),(zzx HB.out h4 :),(zzx HB.out h3 :),(zzx HB.out h2 :),(zzx HB.out h1 :),(zzx HB.out h0 :)⟩ (fun d1=>?_);clear hK K;refine zzO 60 ?_
                refine zzP 2 61 19 7 a8 ?_
                refine zzP 3 62 19 15 a8 ?_
                refine zzP 4 63 19 31 a8 ?_
                refine zzP 5 64 19 63 a8 ?_
                refine zzP 6 65 19 127 a8 ?_
                refine zzP 7 66 19 255 a8 ?_
                refine zzP 9 68 19 767 a8 ?_
                refine zzP 10 69 19 1791 a8 ?_
                refine zzP 14 73 19 18175 a8 ?_
                refine zzT 8 67 19 18431 a8 h6 d1 ?_
                refine zzP 11 70 19 20479 a8 ?_
                refine zzP 12 71 19 24575 a8 ?_
                refine zzT 13 72 19 32767 a8 h6 d1 ?_
                refine zzT 15 74 19 65535 a8 h6 d1 ?_
                refine zzP 16 75 19 131071 a8 ?_
                refine zzP 17 76 19 262143 a8 ?_
                refine zzP 18 77 19 524287 a8 ?_
                refine done_ (done_of a8.out (by kernel_rfl)) ?_;try go_wp2
                go_ret;exact ⟨by first|rfl|(simp [errW_none,errW_some] <;> rfl)|(simp only [← hji38];first|rfl|(simp [errW_none,errW_some] <;> rfl))|(simp [*,errW_none,errW_some] <;> rfl),zzh3⟩
               ·
                rw [if_neg B0] at H;have G2:decide (((Qb a1 a0).f0)≤((Qb a1 (b3)).f0))=false:=decide_eq_false B0;clear B0;have H':=zzm H;clear H;have e9 : 0≤(a0:Int):=zzt;have g0:a0 < (a1.length:Int):=zzt;obtain ⟨a9,a6,a7,b1,b2,j4,d2,d3,d4,d5,d6,d7,d8,d9,e0,e1⟩:=Rg j3.out a0 e9 g0;cases j4;replace d2:=zzx HB.out d2;replace d3:=zzx HB.out d3;replace d4:=zzx HB.out d4;replace d5:=zzx HB.out d5;replace d6:=zzx HB.out d6;replace d7:=zzx HB.out d7;have g1:=zzm d9;have g2:=zzm d8;clear d9 d8;have g3:=zzm e1;have g4:=zzm e0;clear e1 e0;replace e9:=eq_true e9;replace g0:=eq_true g0;try go_wp2_with (first|((with_reducible refine gate_dst (N:=4) rfl ?_);(try (refine gate_guard (by rfl) ?_;dsimp only));refine box_event ?hg (N:=4) ?hd (cs:=#[.int .i64 0,.int .i64 0,.bool false,.slice none 0 0,.bool false,.slice none 0 0]) (t:=40) ?hr ?_;(case hd=>rfl);(case hg=>rfl);(case hr=>first|(go_simp;done)|(go_simp;rfl));intro a2 hg D9 hbox hb;have b5:=zzm (zzh (g:=b0) (o:=.cells #[.bool c4,.bool c0,.int .i64 b4,.int .i64 b8,.int .i64 b9,.slice (some a9) a1.length d0] 25 (0,0)) (zzE a3.out) hb);have b6:=zzm (zzp zzh2 hb);have b7:=zzm (hbox);have g5:=zzm ((by rw [hg];exact (zzo zzh2):w.heap.size≤a2));have h8:=zzm ((by rw [hg];exact (zzo zzh2):w.heap.size≤a2));have h9:=zzm ((by rw [hg];exact Nat.ne_of_lt (blk_lt (g:=b0) (o:=.cells #[.bool c4,.bool c0,.int .i64 b4,.int .i64 b8,.int .i64 b9,.slice (some a9) a1.length d0] 25 (0,0)) (zzE a3.out)):b0≠a2));have j2:=zzm ((by rw [hg];exact Nat.ne_of_gt (blk_lt (g:=b0) (o:=.cells #[.bool c4,.bool c0,.int .i64 b4,.int .i64 b8,.int .i64 b9,.slice (some a9) a1.length d0] 25 (0,0)) (zzE a3.out)):a2≠b0));clear a3 HB;have a3:=b5;have HB:=b6;have a4:=b7;have C0:=g5;have C1:=h8;have a5:=h9;have e2:=j2;clear b5 b6 b7 g5 h8 h9 j2 hb hbox hg;have N1:=e2.out;have N2:=a5.out;obtain ⟨H8,H9,I0,I1,I2,I3,I4,I5,I6,I7,I8,I9⟩:=zzc6 a4.out))
                have b5:Aside0 (((((((D9.setCell ⟨a2,0,none⟩ (.int .i64 ((Qb a1 a0).f0))).setCell ⟨a2,1,none⟩ (.int .i64 ((Qb a1 a0).f1))).setCell ⟨a2,2,none⟩ (.bool ((Qb a1 a0).f2))).setCell ⟨a2,3,none⟩ (.slice a6 ((Qb a1 a0).f3).length a7)).setCell ⟨a2,4,none⟩ (.bool ((Qb a1 a0).f4))).setCell ⟨a2,5,none⟩ (.slice b1 ((Qb a1 a0).f5).length b2)).heap[b0]? = some (.cells #[.bool c4,.bool c0,.int .i64 b4,.int .i64 b8,.int .i64 b9,.slice (some a9) a1.length d0] 25 (0,0))):=⟨by (with_reducible repeat (first|apply zzf|apply zzg|apply zze));refine zzj ?_ a5.out _;(with_reducible repeat (first|apply zzf|apply zzg|apply zze));refine zzj ?_ a5.out _;(with_reducible repeat (first|apply zzf|apply zzg|apply zze));refine zzj ?_ a5.out _;(with_reducible repeat (first|apply zzf|apply zzg|apply zze));refine zzj ?_ a5.out _;(with_reducible repeat (first|apply zzf|apply zzg|apply zze));refine zzj ?_ a5.out _;(with_reducible repeat (first|apply zzf|apply zzg|apply zze));refine zzj ?_ a5.out _;(with_reducible repeat (first|apply zzf|apply zzg|apply zze));exact a3.out⟩;have b6:Aside0 (((((((D9.setCell ⟨a2,0,none⟩ (.int .i64 ((Qb a1 a0).f0))).setCell ⟨a2,1,none⟩ (.int .i64 ((Qb a1 a0).f1))).setCell ⟨a2,2,none⟩ (.bool ((Qb a1 a0).f2))).setCell ⟨a2,3,none⟩ (.slice a6 ((Qb a1 a0).f3).length a7)).setCell ⟨a2,4,none⟩ (.bool ((Qb a1 a0).f4))).setCell ⟨a2,5,none⟩ (.slice b1 ((Qb a1 a0).f5).length b2)).heap[a2]? = some (.cells #[.int .i64 ((Qb a1 a0).f0),.int .i64 ((Qb a1 a0).f1),.bool ((Qb a1 a0).f2),.slice a6 ((Qb a1 a0).f3).length a7,.bool ((Qb a1 a0).f4),.slice b1 ((Qb a1 a0).f5).length b2] 40 (0,0))):=⟨by (with_reducible repeat (first|apply zzf|apply zzg|apply zze));refine zzi (cs:=#[.int .i64 ((Qb a1 a0).f0),.int .i64 ((Qb a1 a0).f1),.bool ((Qb a1 a0).f2),.slice a6 ((Qb a1 a0).f3).length a7,.bool ((Qb a1 a0).f4),.slice none 0 0]) ?_ 5 _ rfl;refine zzi (cs:=#[.int .i64 ((Qb a1 a0).f0),.int .i64 ((Qb a1 a0).f1),.bool ((Qb a1 a0).f2),.slice a6 ((Qb a1 a0).f3).length a7,.bool false,.slice none 0 0]) ?_ 4 _ rfl;refine zzi (cs:=#[.int .i64 ((Qb a1 a0).f0),.int .i64 ((Qb a1 a0).f1),.bool ((Qb a1 a0).f2),.slice none 0 0,.bool false,.slice none 0 0]) ?_ 3 _ rfl;refine zzi (cs:=#[.int .i64 ((Qb a1 a0).f0),.int .i64 ((Qb a1 a0).f1),.bool false,.slice none 0 0,.bool false,.slice none 0 0]) ?_ 2 _ rfl;refine zzi (cs:=#[.int .i64 ((Qb a1 a0).f0),.int .i64 0,.bool false,.slice none 0 0,.bool false,.slice none 0 0]) ?_ 1 _ rfl;refine zzi (cs:=#[.int .i64 0,.int .i64 0,.bool false,.slice none 0 0,.bool false,.slice none 0 0]) ?_ 0 _ rfl;(with_reducible repeat (first|apply zzf|apply zzg|apply zze));exact a4.out⟩;have b7:Aside0 (Below w.heap.size w ((((((D9.setCell ⟨a2,0,none⟩ (.int .i64 ((Qb a1 a0).f0))).setCell ⟨a2,1,none⟩ (.int .i64 ((Qb a1 a0).f1))).setCell ⟨a2,2,none⟩ (.bool ((Qb a1 a0).f2))).setCell ⟨a2,3,none⟩ (.slice a6 ((Qb a1 a0).f3).length a7)).setCell ⟨a2,4,none⟩ (.bool ((Qb a1 a0).f4))).setCell ⟨a2,5,none⟩ (.slice b1 ((Qb a1 a0).f5).length b2))):=⟨zzh3⟩
                (try clear a3)
                (try clear a4)
                (try clear HB);generalize ((((((D9.setCell ⟨a2,0,none⟩ (.int .i64 ((Qb a1 a0).f0))).setCell ⟨a2,1,none⟩ (.int .i64 ((Qb a1 a0).f1))).setCell ⟨a2,2,none⟩ (.bool ((Qb a1 a0).f2))).setCell ⟨a2,3,none⟩ (.slice a6 ((Qb a1 a0).f3).length a7)).setCell ⟨a2,4,none⟩ (.bool ((Qb a1 a0).f4))).setCell ⟨a2,5,none⟩ (.slice b1 ((Qb a1 a0).f5).length b2))=L9 at b5 b6 b7 ⊢;have a3:=b5;have a4:=b6;have HB:=b7;clear b5 b6 b7;have b5:=zzm (zzg a3.out);have b6:=zzm (zzg a4.out);have b7:=zzm (zzc HB.out);clear a3 a4 HB;have a3:=b5;have a4:=b6;have HB:=b7;clear b5 b6 b7;have j5 : 0≤((b3):Int):=zzt;have j6:(b3) < (a1.length:Int):=zzt;obtain ⟨C2,w6,w7,w8,w9,C9,e3,e4,e5,e6,e7,e8,g6,g7,g8,g9⟩:=Rg j3.out (b3) j5 j6;have h0:=e8;have h1:=e7;have h2:=e6;have h3:=e5;have h4:=e4;have h5:=e3;obtain rfl:a9=C2:=(by injection C9);replace e3:=zzx HB.out e3;replace e4:=zzx HB.out e4;replace e5:=zzx HB.out e5;replace e6:=zzx HB.out e6;replace e7:=zzx HB.out e7;replace e8:=zzx HB.out e8;have s6:=zzm g7;have F4:=zzm g6;clear g7 g6;have s7:=zzm g9;have F5:=zzm g8;clear g9 g8;replace j5:=eq_true j5;replace j6:=eq_true j6;refine start_ (n:=19) (S:=fun w'=>w'.cell? ⟨a2,0,none⟩=some (.int .i64 ((Qb a1 a0).f0))∧w'.cell? ⟨a2,1,none⟩=some (.int .i64 ((Qb a1 a0).f1))∧w'.cell? ⟨a2,2,none⟩=some (.bool ((Qb a1 a0).f2))∧w'.cell? ⟨a2,3,none⟩=some (.slice a6 ((Qb a1 a0).f3).length a7)∧w'.cell? ⟨a2,4,none⟩=some (.bool ((Qb a1 a0).f4))∧w'.cell? ⟨a2,5,none⟩=some (.slice b1 ((Qb a1 a0).f5).length b2)∧w'.cell? ⟨b0,0,none⟩=some (.bool c4)∧w'.cell? ⟨b0,1,none⟩=some (.bool c0)∧w'.cell? ⟨b0,2,none⟩=some (.int .i64 b4)∧w'.cell? ⟨b0,3,none⟩=some (.int .i64 b8)∧w'.cell? ⟨b0,4,none⟩=some (.int .i64 b9)∧w'.cell? ⟨b0,5,none⟩=some (.slice (some a9) a1.length d0)∧w'.cell? (a9.add (((b3)).toNat * 6))=some (.int .i64 ((Qb a1 (b3)).f0))∧w'.cell? ⟨(a9.add (((b3)).toNat * 6)).block,(a9.add (((b3)).toNat * 6)).off+1,none⟩=some (.int .i64 ((Qb a1 (b3)).f1))∧w'.cell? ⟨(a9.add (((b3)).toNat * 6)).block,(a9.add (((b3)).toNat * 6)).off+2,none⟩=some (.bool ((Qb a1 (b3)).f2))∧w'.cell? ⟨(a9.add (((b3)).toNat * 6)).block,(a9.add (((b3)).toNat * 6)).off+3,none⟩=some (.slice w6 ((Qb a1 (b3)).f3).length w7)∧w'.cell? ⟨(a9.add (((b3)).toNat * 6)).block,(a9.add (((b3)).toNat * 6)).off+4,none⟩=some (.bool ((Qb a1 (b3)).f4))∧w'.cell? ⟨(a9.add (((b3)).toNat * 6)).block,(a9.add (((b3)).toNat * 6)).off+5,none⟩=some (.slice w8 ((Qb a1 (b3)).f5).length w9)) (ds:=[]) (zzB 19 0) (by kernel_rfl) rfl rfl ⟨(zzk a4.out 0).trans rfl,(zzk a4.out 1).trans rfl,(zzk a4.out 2).trans rfl,(zzk a4.out 3).trans rfl,(zzk a4.out 4).trans rfl,(zzk a4.out 5).trans rfl,(zzk a3.out 0).trans rfl,(zzk a3.out 1).trans rfl,(zzk a3.out 2).trans rfl,(zzk a3.out 3).trans rfl,(zzk a3.out 4).trans rfl,(zzk a3.out 5).trans rfl,(zzx HB.out h5 :),(zzx HB.out h4 :),(zzx HB.out h3 :),(zzx HB.out h2 :),(zzx HB.out h1 :),(zzx HB.out h0 :)⟩ (fun d1=>?_);refine with_tabW Qd.tab11 Qd.bits11 (fun a8 h6=>?_);generalize L9.drew=N9 at a3 a4 HB s6 s7 e3 e4 e5 e6 e7 e8 d1 ⊢;refine zzT 0 59 19 1 a8 h6 d1 ?_
                refine one_ (i:=1) (N:=some 60) (zzB 19 3) rfl rfl (one_of a8.out (by kernel_rfl)) (by decide) (fun K hK=>?_);refine goes_ Tryd.func20 (by kernel_rfl) rfl #[.agg #[.int .i64 ((Qb a1 a0).f0),.int .i64 ((Qb a1 a0).f1),.bool ((Qb a1 a0).f2),.slice a6 ((Qb a1 a0).f3).length a7,.bool ((Qb a1 a0).f4),.slice b1 ((Qb a1 a0).f5).length b2]] (by rfl) rfl rfl zzM2 ?_;with_reducible refine (Qy.calls k3 ((Qb a1 a0).f0) ((Qb a1 a0).f1) ((Qb a1 a0).f2) _ _ ((Qb a1 a0).f3) ((Qb a1 a0).f4) _ _ ((Qb a1 a0).f5) true _ ?side1 ?side2 ?side3 ?side4 C4.out).mono ?_
                (case side1=>exact zzcb g1 HB)
                (case side2=>exact g2.out)
                (case side3=>exact zzcb g3 HB)
                (case side4=>exact g4.out);rintro e O0 ⟨rfl,hb⟩;refine ⟨_,rfl,?_⟩;have b5:=zzm (zzh (g:=b0) (o:=.cells #[.bool c4,.bool c0,.int .i64 b4,.int .i64 b8,.int .i64 b9,.slice (some a9) a1.length d0] 25 (0,0)) (zzE a3.out) hb);have b6:=zzm (zzh (g:=a2) (o:=.cells #[.int .i64 ((Qb a1 a0).f0),.int .i64 ((Qb a1 a0).f1),.bool ((Qb a1 a0).f2),.slice a6 ((Qb a1 a0).f3).length a7,.bool ((Qb a1 a0).f4),.slice b1 ((Qb a1 a0).f5).length b2] 40 (0,0)) (zzE a4.out) hb);have b7:=zzm (zzp zzh2 hb);clear a3 a4 HB;have a3:=b5;have a4:=b6;have HB:=b7;clear b5 b6 b7
                (try clear hb)
                (try clear hb2)
                (try clear hk)
                (try clear hi);refine hK.out _ _ ⟨(zzk a4.out 0).trans rfl,(zzk a4.out 1).trans rfl,(zzk a4.out 2).trans rfl,(zzk a4.out 3).trans rfl,(zzk a4.out 4).trans rfl,(zzk a4.out 5).trans rfl,(zzk a3.out 0).trans rfl,(zzk a3.out 1).trans rfl,(zzk a3.out 2).trans rfl,(zzk a3.out 3).trans rfl,(zzk a3.out 4).trans rfl,(zzk a3.out 5).trans rfl,(zzx HB.out h5 :),(zzx HB.out h4 :),(zzx HB.out h3 :),(zzx HB.out h2 :),(zzx HB.out h1 :),(zzx HB.out h0 :)⟩ (fun d1=>?_);clear hK K;refine zzO 60 ?_
                refine zzP 2 61 19 7 a8 ?_
                refine zzP 3 62 19 15 a8 ?_
                refine zzP 4 63 19 31 a8 ?_
                refine zzP 5 64 19 63 a8 ?_
                refine zzP 6 65 19 127 a8 ?_
                refine zzP 7 66 19 255 a8 ?_
                refine zzP 9 68 19 767 a8 ?_
                refine zzP 10 69 19 1791 a8 ?_
                refine zzP 14 73 19 18175 a8 ?_
                refine zzT 8 67 19 18431 a8 h6 d1 ?_
                refine zzP 11 70 19 20479 a8 ?_
                refine zzP 12 71 19 24575 a8 ?_
                refine zzT 13 72 19 32767 a8 h6 d1 ?_
                refine zzT 15 74 19 65535 a8 h6 d1 ?_
                refine zzP 16 75 19 131071 a8 ?_
                refine zzP 17 76 19 262143 a8 ?_
                refine zzP 18 77 19 524287 a8 ?_
                refine done_ (done_of a8.out (by kernel_rfl)) ?_;try go_wp2
                go_roundg k3
                case measure=>have:=HJ1.out;have:=HJ22.out;have:=HK3.out;omega
                case rel=>exact ⟨(wrap64 (a0+1)),(by first|rfl|(simp;done)|(simp [*];done)),H',⟨by have:=HJ1.out;have:=HJ22.out;have:=HK3.out;omega⟩,⟨zzE a3.out⟩,⟨zzh3⟩⟩
              ·
               rw [if_neg D7] at H;exact absurd H (by simp)
             ·
              rw [if_neg D6] at H;exact absurd H (by simp)
            ·
             rw [if_neg A9] at H;have G1:decide (0 < a0)=false:=decide_eq_false A9;clear A9;have H':=zzm H;clear H;have e9 : 0≤(a0:Int):=zzt;have g0:a0 < (a1.length:Int):=zzt;obtain ⟨a9,a6,a7,b1,b2,j4,d2,d3,d4,d5,d6,d7,d8,d9,e0,e1⟩:=Rg j3.out a0 e9 g0;cases j4;replace d2:=zzx HB.out d2;replace d3:=zzx HB.out d3;replace d4:=zzx HB.out d4;replace d5:=zzx HB.out d5;replace d6:=zzx HB.out d6;replace d7:=zzx HB.out d7;have g1:=zzm d9;have g2:=zzm d8;clear d9 d8;have g3:=zzm e1;have g4:=zzm e0;clear e1 e0;replace e9:=eq_true e9;replace g0:=eq_true g0;try go_wp2_with (first|((with_reducible refine gate_dst (N:=4) rfl ?_);(try (refine gate_guard (by rfl) ?_;dsimp only));refine box_event ?hg (N:=4) ?hd (cs:=#[.int .i64 0,.int .i64 0,.bool false,.slice none 0 0,.bool false,.slice none 0 0]) (t:=40) ?hr ?_;(case hd=>rfl);(case hg=>rfl);(case hr=>first|(go_simp;done)|(go_simp;rfl));intro a2 hg E0 hbox hb;have b5:=zzm (zzh (g:=b0) (o:=.cells #[.bool c4,.bool c0,.int .i64 b4,.int .i64 b8,.int .i64 b9,.slice (some a9) a1.length d0] 25 (0,0)) (zzE a3.out) hb);have b6:=zzm (zzp zzh2 hb);have b7:=zzm (hbox);have g5:=zzm ((by rw [hg];exact (zzo zzh2):w.heap.size≤a2));have h8:=zzm ((by rw [hg];exact (zzo zzh2):w.heap.size≤a2));have h9:=zzm ((by rw [hg];exact Nat.ne_of_lt (blk_lt (g:=b0) (o:=.cells #[.bool c4,.bool c0,.int .i64 b4,.int .i64 b8,.int .i64 b9,.slice (some a9) a1.length d0] 25 (0,0)) (zzE a3.out)):b0≠a2));have j2:=zzm ((by rw [hg];exact Nat.ne_of_gt (blk_lt (g:=b0) (o:=.cells #[.bool c4,.bool c0,.int .i64 b4,.int .i64 b8,.int .i64 b9,.slice (some a9) a1.length d0] 25 (0,0)) (zzE a3.out)):a2≠b0));clear a3 HB;have a3:=b5;have HB:=b6;have a4:=b7;have C0:=g5;have C1:=h8;have a5:=h9;have e2:=j2;clear b5 b6 b7 g5 h8 h9 j2 hb hbox hg;have N3:=e2.out;have N4:=a5.out;obtain ⟨J0,J1,J2,J3,J4,J5,J6,J7,J8,J9,K0,K1⟩:=zzc6 a4.out))
             have b5:Aside0 (((((((E0.setCell ⟨a2,0,none⟩ (.int .i64 ((Qb a1 a0).f0))).setCell ⟨a2,1,none⟩ (.int .i64 ((Qb a1 a0).f1))).setCell ⟨a2,2,none⟩ (.bool ((Qb a1 a0).f2))).setCell ⟨a2,3,none⟩ (.slice a6 ((Qb a1 a0).f3).length a7)).setCell ⟨a2,4,none⟩ (.bool ((Qb a1 a0).f4))).setCell ⟨a2,5,none⟩ (.slice b1 ((Qb a1 a0).f5).length b2)).heap[b0]? = some (.cells #[.bool c4,.bool c0,.int .i64 b4,.int .i64 b8,.int .i64 b9,.slice (some a9) a1.length d0] 25 (0,0))):=⟨by (with_reducible repeat (first|apply zzf|apply zzg|apply zze));refine zzj ?_ a5.out _;(with_reducible repeat (first|apply zzf|apply zzg|apply zze));refine zzj ?_ a5.out _;(with_reducible repeat (first|apply zzf|apply zzg|apply zze));refine zzj ?_ a5.out _;(with_reducible repeat (first|apply zzf|apply zzg|apply zze));refine zzj ?_ a5.out _;(with_reducible repeat (first|apply zzf|apply zzg|apply zze));refine zzj ?_ a5.out _;(with_reducible repeat (first|apply zzf|apply zzg|apply zze));refine zzj ?_ a5.out _;(with_reducible repeat (first|apply zzf|apply zzg|apply zze));exact a3.out⟩;have b6:Aside0 (((((((E0.setCell ⟨a2,0,none⟩ (.int .i64 ((Qb a1 a0).f0))).setCell ⟨a2,1,none⟩ (.int .i64 ((Qb a1 a0).f1))).setCell ⟨a2,2,none⟩ (.bool ((Qb a1 a0).f2))).setCell ⟨a2,3,none⟩ (.slice a6 ((Qb a1 a0).f3).length a7)).setCell ⟨a2,4,none⟩ (.bool ((Qb a1 a0).f4))).setCell ⟨a2,5,none⟩ (.slice b1 ((Qb a1 a0).f5).length b2)).heap[a2]? = some (.cells #[.int .i64 ((Qb a1 a0).f0),.int .i64 ((Qb a1 a0).f1),.bool ((Qb a1 a0).f2),.slice a6 ((Qb a1 a0).f3).length a7,.bool ((Qb a1 a0).f4),.slice b1 ((Qb a1 a0).f5).length b2] 40 (0,0))):=⟨by (with_reducible repeat (first|apply zzf|apply zzg|apply zze));refine zzi (cs:=#[.int .i64 ((Qb a1 a0).f0),.int .i64 ((Qb a1 a0).f1),.bool ((Qb a1 a0).f2),.slice a6 ((Qb a1 a0).f3).length a7,.bool ((Qb a1 a0).f4),.slice none 0 0]) ?_ 5 _ rfl;refine zzi (cs:=#[.int .i64 ((Qb a1 a0).f0),.int .i64 ((Qb a1 a0).f1),.bool ((Qb a1 a0).f2),.slice a6 ((Qb a1 a0).f3).length a7,.bool false,.slice none 0 0]) ?_ 4 _ rfl;refine zzi (cs:=#[.int .i64 ((Qb a1 a0).f0),.int .i64 ((Qb a1 a0).f1),.bool ((Qb a1 a0).f2),.slice none 0 0,.bool false,.slice none 0 0]) ?_ 3 _ rfl;refine zzi (cs:=#[.int .i64 ((Qb a1 a0).f0),.int .i64 ((Qb a1 a0).f1),.bool false,.slice none 0 0,.bool false,.slice none 0 0]) ?_ 2 _ rfl;refine zzi (cs:=#[.int .i64 ((Qb a1 a0).f0),.int .i64 0,.bool false,.slice none 0 0,.bool false,.slice none 0 0]) ?_ 1 _ rfl;refine zzi (cs:=#[.int .i64 0,.int .i64 0,.bool false,.slice none 0 0,.bool false,.slice none 0 0]) ?_ 0 _ rfl;(with_reducible repeat (first|apply zzf|apply zzg|apply zze));exact a4.out⟩;have b7:Aside0 (Below w.heap.size w ((((((E0.setCell ⟨a2,0,none⟩ (.int .i64 ((Qb a1 a0).f0))).setCell ⟨a2,1,none⟩ (.int .i64 ((Qb a1 a0).f1))).setCell ⟨a2,2,none⟩ (.bool ((Qb a1 a0).f2))).setCell ⟨a2,3,none⟩ (.slice a6 ((Qb a1 a0).f3).length a7)).setCell ⟨a2,4,none⟩ (.bool ((Qb a1 a0).f4))).setCell ⟨a2,5,none⟩ (.slice b1 ((Qb a1 a0).f5).length b2))):=⟨zzh3⟩
             (try clear a3)
             (try clear a4)
             (try clear HB);generalize ((((((E0.setCell ⟨a2,0,none⟩ (.int .i64 ((Qb a1 a0).f0))).setCell ⟨a2,1,none⟩ (.int .i64 ((Qb a1 a0).f1))).setCell ⟨a2,2,none⟩ (.bool ((Qb a1 a0).f2))).setCell ⟨a2,3,none⟩ (.slice a6 ((Qb a1 a0).f3).length a7)).setCell ⟨a2,4,none⟩ (.bool ((Qb a1 a0).f4))).setCell ⟨a2,5,none⟩ (.slice b1 ((Qb a1 a0).f5).length b2))=M0 at b5 b6 b7 ⊢;have a3:=b5;have a4:=b6;have HB:=b7;clear b5 b6 b7;have b5:=zzm (zzg a3.out);have b6:=zzm (zzg a4.out);have b7:=zzm (zzc HB.out);clear a3 a4 HB;have a3:=b5;have a4:=b6;have HB:=b7;clear b5 b6 b7;refine start_ (n:=19) (S:=fun w'=>w'.cell? ⟨a2,0,none⟩=some (.int .i64 ((Qb a1 a0).f0))∧w'.cell? ⟨a2,1,none⟩=some (.int .i64 ((Qb a1 a0).f1))∧w'.cell? ⟨a2,2,none⟩=some (.bool ((Qb a1 a0).f2))∧w'.cell? ⟨a2,3,none⟩=some (.slice a6 ((Qb a1 a0).f3).length a7)∧w'.cell? ⟨a2,4,none⟩=some (.bool ((Qb a1 a0).f4))∧w'.cell? ⟨a2,5,none⟩=some (.slice b1 ((Qb a1 a0).f5).length b2)) (ds:=[]) (zzB 19 0) (by kernel_rfl) rfl rfl ⟨(zzk a4.out 0).trans rfl,(zzk a4.out 1).trans rfl,(zzk a4.out 2).trans rfl,(zzk a4.out 3).trans rfl,(zzk a4.out 4).trans rfl,(zzk a4.out 5).trans rfl⟩ (fun d1=>?_);refine with_tabW Qd.tab11 Qd.bits11 (fun a8 h6=>?_);generalize M0.drew=O1 at a3 a4 HB d1 ⊢;refine zzT 0 59 19 1 a8 h6 d1 ?_
             refine one_ (i:=1) (N:=some 60) (zzB 19 3) rfl rfl (one_of a8.out (by kernel_rfl)) (by decide) (fun K hK=>?_);refine goes_ Tryd.func20 (by kernel_rfl) rfl #[.agg #[.int .i64 ((Qb a1 a0).f0),.int .i64 ((Qb a1 a0).f1),.bool ((Qb a1 a0).f2),.slice a6 ((Qb a1 a0).f3).length a7,.bool ((Qb a1 a0).f4),.slice b1 ((Qb a1 a0).f5).length b2]] (by rfl) rfl rfl zzM2 ?_;with_reducible refine (Qy.calls k3 ((Qb a1 a0).f0) ((Qb a1 a0).f1) ((Qb a1 a0).f2) _ _ ((Qb a1 a0).f3) ((Qb a1 a0).f4) _ _ ((Qb a1 a0).f5) true _ ?side1 ?side2 ?side3 ?side4 C4.out).mono ?_
             (case side1=>exact zzcb g1 HB)
             (case side2=>exact g2.out)
             (case side3=>exact zzcb g3 HB)
             (case side4=>exact g4.out);rintro e O2 ⟨rfl,hb⟩;refine ⟨_,rfl,?_⟩;have b5:=zzm (zzh (g:=b0) (o:=.cells #[.bool c4,.bool c0,.int .i64 b4,.int .i64 b8,.int .i64 b9,.slice (some a9) a1.length d0] 25 (0,0)) (zzE a3.out) hb);have b6:=zzm (zzh (g:=a2) (o:=.cells #[.int .i64 ((Qb a1 a0).f0),.int .i64 ((Qb a1 a0).f1),.bool ((Qb a1 a0).f2),.slice a6 ((Qb a1 a0).f3).length a7,.bool ((Qb a1 a0).f4),.slice b1 ((Qb a1 a0).f5).length b2] 40 (0,0)) (zzE a4.out) hb);have b7:=zzm (zzp zzh2 hb);clear a3 a4 HB;have a3:=b5;have a4:=b6;have HB:=b7;clear b5 b6 b7
             (try clear hb)
             (try clear hb2)
             (try clear hk)
             (try clear hi);refine hK.out _ _ ⟨(zzk a4.out 0).trans rfl,(zzk a4.out 1).trans rfl,(zzk a4.out 2).trans rfl,(zzk a4.out 3).trans rfl,(zzk a4.out 4).trans rfl,(zzk a4.out 5).trans rfl⟩ (fun d1=>?_);clear hK K;refine zzO 60 ?_
             refine zzP 2 61 19 7 a8 ?_
             refine zzP 3 62 19 15 a8 ?_
             refine zzP 4 63 19 31 a8 ?_
             refine zzP 5 64 19 63 a8 ?_
             refine zzP 6 65 19 127 a8 ?_
             refine zzU 7 66 19 255 a8 ?_
             refine zzU 8 67 19 511 a8 ?_
             refine zzU 9 68 19 1023 a8 ?_
             refine zzU 10 69 19 2047 a8 ?_
             refine zzU 11 70 19 4095 a8 ?_
             refine zzU 12 71 19 8191 a8 ?_
             refine zzU 13 72 19 16383 a8 ?_
             refine zzU 14 73 19 32767 a8 ?_
             refine zzU 15 74 19 65535 a8 ?_
             refine zzU 16 75 19 131071 a8 ?_
             refine zzP 17 76 19 262143 a8 ?_
             refine zzP 18 77 19 524287 a8 ?_
             refine done_ (done_of a8.out (by kernel_rfl)) ?_;try go_wp2
             go_roundg k3
             case measure=>have:=HJ1.out;have:=HJ22.out;have:=HK3.out;omega
             case rel=>exact ⟨(wrap64 (a0+1)),(by first|rfl|(simp;done)|(simp [*];done)),H',⟨by have:=HJ1.out;have:=HJ22.out;have:=HK3.out;omega⟩,⟨zzE a3.out⟩,⟨zzh3⟩⟩
           ·
            replace D5:=Bool.eq_false_iff.mpr D5;subst D5;replace H:=zzIf H;obtain rfl:=Option.some.inj H;have e9 : 0≤(a0:Int):=zzt;have g0:a0 < (a1.length:Int):=zzt;obtain ⟨a9,a6,a7,b1,b2,j4,d2,d3,d4,d5,d6,d7,d8,d9,e0,e1⟩:=Rg j3.out a0 e9 g0;cases j4;replace d2:=zzx HB.out d2;replace d3:=zzx HB.out d3;replace d4:=zzx HB.out d4;replace d5:=zzx HB.out d5;replace d6:=zzx HB.out d6;replace d7:=zzx HB.out d7;have g1:=zzm d9;have g2:=zzm d8;clear d9 d8;have g3:=zzm e1;have g4:=zzm e0;clear e1 e0;replace e9:=eq_true e9;replace g0:=eq_true g0;try go_wp2_with (first|((with_reducible refine gate_dst (N:=4) rfl ?_);(try (refine gate_guard (by rfl) ?_;dsimp only));refine box_event ?hg (N:=4) ?hd (cs:=#[.int .i64 0,.int .i64 0,.bool false,.slice none 0 0,.bool false,.slice none 0 0]) (t:=40) ?hr ?_;(case hd=>rfl);(case hg=>rfl);(case hr=>first|(go_simp;done)|(go_simp;rfl));intro a2 hg E1 hbox hb;have b5:=zzm (zzh (g:=b0) (o:=.cells #[.bool c4,.bool c0,.int .i64 b4,.int .i64 b8,.int .i64 b9,.slice (some a9) a1.length d0] 25 (0,0)) (zzE a3.out) hb);have b6:=zzm (zzp zzh2 hb);have b7:=zzm (hbox);have g5:=zzm ((by rw [hg];exact (zzo zzh2):w.heap.size≤a2));have h8:=zzm ((by rw [hg];exact (zzo zzh2):w.heap.size≤a2));have h9:=zzm ((by rw [hg];exact Nat.ne_of_lt (blk_lt (g:=b0) (o:=.cells #[.bool c4,.bool c0,.int .i64 b4,.int .i64 b8,.int .i64 b9,.slice (some a9) a1.length d0] 25 (0,0)) (zzE a3.out)):b0≠a2));have j2:=zzm ((by rw [hg];exact Nat.ne_of_gt (blk_lt (g:=b0) (o:=.cells #[.bool c4,.bool c0,.int .i64 b4,.int .i64 b8,.int .i64 b9,.slice (some a9) a1.length d0] 25 (0,0)) (zzE a3.out)):a2≠b0));clear a3 HB;have a3:=b5;have HB:=b6;have a4:=b7;have C0:=g5;have C1:=h8;have a5:=h9;have e2:=j2;clear b5 b6 b7 g5 h8 h9 j2 hb hbox hg;have N5:=e2.out;have N6:=a5.out;obtain ⟨K2,K3,K4,K5,K6,K7,K8,K9,L0,L1,L2,L3⟩:=zzc6 a4.out))
            have b5:Aside0 (((((((E1.setCell ⟨a2,0,none⟩ (.int .i64 ((Qb a1 a0).f0))).setCell ⟨a2,1,none⟩ (.int .i64 ((Qb a1 a0).f1))).setCell ⟨a2,2,none⟩ (.bool ((Qb a1 a0).f2))).setCell ⟨a2,3,none⟩ (.slice a6 ((Qb a1 a0).f3).length a7)).setCell ⟨a2,4,none⟩ (.bool ((Qb a1 a0).f4))).setCell ⟨a2,5,none⟩ (.slice b1 ((Qb a1 a0).f5).length b2)).heap[b0]? = some (.cells #[.bool c4,.bool c0,.int .i64 b4,.int .i64 b8,.int .i64 b9,.slice (some a9) a1.length d0] 25 (0,0))):=⟨by (with_reducible repeat (first|apply zzf|apply zzg|apply zze));refine zzj ?_ a5.out _;(with_reducible repeat (first|apply zzf|apply zzg|apply zze));refine zzj ?_ a5.out _;(with_reducible repeat (first|apply zzf|apply zzg|apply zze));refine zzj ?_ a5.out _;(with_reducible repeat (first|apply zzf|apply zzg|apply zze));refine zzj ?_ a5.out _;(with_reducible repeat (first|apply zzf|apply zzg|apply zze));refine zzj ?_ a5.out _;(with_reducible repeat (first|apply zzf|apply zzg|apply zze));refine zzj ?_ a5.out _;(with_reducible repeat (first|apply zzf|apply zzg|apply zze));exact a3.out⟩;have b6:Aside0 (((((((E1.setCell ⟨a2,0,none⟩ (.int .i64 ((Qb a1 a0).f0))).setCell ⟨a2,1,none⟩ (.int .i64 ((Qb a1 a0).f1))).setCell ⟨a2,2,none⟩ (.bool ((Qb a1 a0).f2))).setCell ⟨a2,3,none⟩ (.slice a6 ((Qb a1 a0).f3).length a7)).setCell ⟨a2,4,none⟩ (.bool ((Qb a1 a0).f4))).setCell ⟨a2,5,none⟩ (.slice b1 ((Qb a1 a0).f5).length b2)).heap[a2]? = some (.cells #[.int .i64 ((Qb a1 a0).f0),.int .i64 ((Qb a1 a0).f1),.bool ((Qb a1 a0).f2),.slice a6 ((Qb a1 a0).f3).length a7,.bool ((Qb a1 a0).f4),.slice b1 ((Qb a1 a0).f5).length b2] 40 (0,0))):=⟨by (with_reducible repeat (first|apply zzf|apply zzg|apply zze));refine zzi (cs:=#[.int .i64 ((Qb a1 a0).f0),.int .i64 ((Qb a1 a0).f1),.bool ((Qb a1 a0).f2),.slice a6 ((Qb a1 a0).f3).length a7,.bool ((Qb a1 a0).f4),.slice none 0 0]) ?_ 5 _ rfl;refine zzi (cs:=#[.int .i64 ((Qb a1 a0).f0),.int .i64 ((Qb a1 a0).f1),.bool ((Qb a1 a0).f2),.slice a6 ((Qb a1 a0).f3).length a7,.bool false,.slice none 0 0]) ?_ 4 _ rfl;refine zzi (cs:=#[.int .i64 ((Qb a1 a0).f0),.int .i64 ((Qb a1 a0).f1),.bool ((Qb a1 a0).f2),.slice none 0 0,.bool false,.slice none 0 0]) ?_ 3 _ rfl;refine zzi (cs:=#[.int .i64 ((Qb a1 a0).f0),.int .i64 ((Qb a1 a0).f1),.bool false,.slice none 0 0,.bool false,.slice none 0 0]) ?_ 2 _ rfl;refine zzi (cs:=#[.int .i64 ((Qb a1 a0).f0),.int .i64 0,.bool false,.slice none 0 0,.bool false,.slice none 0 0]) ?_ 1 _ rfl;refine zzi (cs:=#[.int .i64 0,.int .i64 0,.bool false,.slice none 0 0,.bool false,.slice none 0 0]) ?_ 0 _ rfl;(with_reducible repeat (first|apply zzf|apply zzg|apply zze));exact a4.out⟩;have b7:Aside0 (Below w.heap.size w ((((((E1.setCell ⟨a2,0,none⟩ (.int .i64 ((Qb a1 a0).f0))).setCell ⟨a2,1,none⟩ (.int .i64 ((Qb a1 a0).f1))).setCell ⟨a2,2,none⟩ (.bool ((Qb a1 a0).f2))).setCell ⟨a2,3,none⟩ (.slice a6 ((Qb a1 a0).f3).length a7)).setCell ⟨a2,4,none⟩ (.bool ((Qb a1 a0).f4))).setCell ⟨a2,5,none⟩ (.slice b1 ((Qb a1 a0).f5).length b2))):=⟨zzh3⟩
            (try clear a3)
            (try clear a4)
            (try clear HB);generalize ((((((E1.setCell ⟨a2,0,none⟩ (.int .i64 ((Qb a1 a0).f0))).setCell ⟨a2,1,none⟩ (.int .i64 ((Qb a1 a0).f1))).setCell ⟨a2,2,none⟩ (.bool ((Qb a1 a0).f2))).setCell ⟨a2,3,none⟩ (.slice a6 ((Qb a1 a0).f3).length a7)).setCell ⟨a2,4,none⟩ (.bool ((Qb a1 a0).f4))).setCell ⟨a2,5,none⟩ (.slice b1 ((Qb a1 a0).f5).length b2))=M1 at b5 b6 b7 ⊢;have a3:=b5;have a4:=b6;have HB:=b7;clear b5 b6 b7;have b5:=zzm (zzg a3.out);have b6:=zzm (zzg a4.out);have b7:=zzm (zzc HB.out);clear a3 a4 HB;have a3:=b5;have a4:=b6;have HB:=b7;clear b5 b6 b7;refine start_ (n:=19) (S:=fun w'=>w'.cell? ⟨a2,0,none⟩=some (.int .i64 ((Qb a1 a0).f0))∧w'.cell? ⟨a2,1,none⟩=some (.int .i64 ((Qb a1 a0).f1))∧w'.cell? ⟨a2,2,none⟩=some (.bool ((Qb a1 a0).f2))∧w'.cell? ⟨a2,3,none⟩=some (.slice a6 ((Qb a1 a0).f3).length a7)∧w'.cell? ⟨a2,4,none⟩=some (.bool ((Qb a1 a0).f4))∧w'.cell? ⟨a2,5,none⟩=some (.slice b1 ((Qb a1 a0).f5).length b2)) (ds:=[]) (zzB 19 0) (by kernel_rfl) rfl rfl ⟨(zzk a4.out 0).trans rfl,(zzk a4.out 1).trans rfl,(zzk a4.out 2).trans rfl,(zzk a4.out 3).trans rfl,(zzk a4.out 4).trans rfl,(zzk a4.out 5).trans rfl⟩ (fun d1=>?_);refine with_tabW Qd.tab11 Qd.bits11 (fun a8 h6=>?_);generalize M1.drew=O3 at a3 a4 HB d1 ⊢;refine zzT 0 59 19 1 a8 h6 d1 ?_
            refine one_ (i:=1) (N:=some 60) (zzB 19 3) rfl rfl (one_of a8.out (by kernel_rfl)) (by decide) (fun K hK=>?_);refine goes_ Tryd.func20 (by kernel_rfl) rfl #[.agg #[.int .i64 ((Qb a1 a0).f0),.int .i64 ((Qb a1 a0).f1),.bool ((Qb a1 a0).f2),.slice a6 ((Qb a1 a0).f3).length a7,.bool ((Qb a1 a0).f4),.slice b1 ((Qb a1 a0).f5).length b2]] (by rfl) rfl rfl zzM2 ?_;with_reducible refine (Qy.calls k3 ((Qb a1 a0).f0) ((Qb a1 a0).f1) ((Qb a1 a0).f2) _ _ ((Qb a1 a0).f3) ((Qb a1 a0).f4) _ _ ((Qb a1 a0).f5) false _ ?side1 ?side2 ?side3 ?side4 C4.out).mono ?_
            (case side1=>exact zzcb g1 HB)
            (case side2=>exact g2.out)
            (case side3=>exact zzcb g3 HB)
            (case side4=>exact g4.out);rintro e O4 ⟨rfl,hb⟩;refine ⟨_,rfl,?_⟩;have b5:=zzm (zzh (g:=b0) (o:=.cells #[.bool c4,.bool c0,.int .i64 b4,.int .i64 b8,.int .i64 b9,.slice (some a9) a1.length d0] 25 (0,0)) (zzE a3.out) hb);have b6:=zzm (zzh (g:=a2) (o:=.cells #[.int .i64 ((Qb a1 a0).f0),.int .i64 ((Qb a1 a0).f1),.bool ((Qb a1 a0).f2),.slice a6 ((Qb a1 a0).f3).length a7,.bool ((Qb a1 a0).f4),.slice b1 ((Qb a1 a0).f5).length b2] 40 (0,0)) (zzE a4.out) hb);have b7:=zzm (zzp zzh2 hb);clear a3 a4 HB;have a3:=b5;have a4:=b6;have HB:=b7;clear b5 b6 b7
            (try clear hb)
            (try clear hb2)
            (try clear hk)
            (try clear hi);refine hK.out _ _ ⟨(zzk a4.out 0).trans rfl,(zzk a4.out 1).trans rfl,(zzk a4.out 2).trans rfl,(zzk a4.out 3).trans rfl,(zzk a4.out 4).trans rfl,(zzk a4.out 5).trans rfl⟩ (fun d1=>?_);clear hK K;refine zzO 60 ?_
            refine zzP 2 61 19 7 a8 ?_
            refine zzP 3 62 19 15 a8 ?_
            refine zzU 4 63 19 31 a8 ?_
            refine zzU 5 64 19 63 a8 ?_
            refine zzU 6 65 19 127 a8 ?_
            refine zzU 7 66 19 255 a8 ?_
            refine zzU 8 67 19 511 a8 ?_
            refine zzU 9 68 19 1023 a8 ?_
            refine zzU 10 69 19 2047 a8 ?_
            refine zzU 11 70 19 4095 a8 ?_
            refine zzU 12 71 19 8191 a8 ?_
            refine zzU 13 72 19 16383 a8 ?_
            refine zzU 14 73 19 32767 a8 ?_
            refine zzU 15 74 19 65535 a8 ?_
            refine zzU 16 75 19 131071 a8 ?_
            refine zzU 17 76 19 262143 a8 ?_
            refine zzP 18 77 19 524287 a8 ?_
            refine done_ (done_of a8.out (by kernel_rfl)) ?_;try go_wp2
            go_ret;exact ⟨zzR,zzh3⟩
          ·
           rw [if_neg D4] at H;exact absurd H (by simp)
         ·
          rw [if_neg D3] at H;exact absurd H (by simp)
        ·
         rw [if_neg A8] at H;have G0:decide (a0 < (a1.length:Int))=false:=decide_eq_false A8;clear A8;obtain rfl:=Option.some.inj H;go_wp2;go_ret;exact ⟨zzR,zzh3⟩
section
variable {P:Program} {ops:Array Oper} {rest:List Oper} {o:Oper} {a:Act} {W:World} {Q:Exit→Act→World→Prop} {Kc:Act→World→Prop} {α:Type}
theorem run_make0 (t:TypeId) (x y:Operand) (ho:o.op = .makeSlice t x y) (n:Int) (hx:a.eval x = .int .i64 0) (hy:a.eval y = .int .i64 n) {e sz:Nat}
  (ht:P.underlying t=some (.slice e)) (z:Value) (bytes:Nat) (hinfo:(P.info? e).map (fun i=>(i.zero,i.size,i.bytes))=some (some z,sz,bytes)) (hb0 : 0 < bytes) (h0 : 0≤n) (hl:n.toNat * bytes≤281474976710656) :
  (execOp a.eval o).run P W = .ok (.value (.slice (some ⟨W.heap.size,0,none⟩) 0 n.toNat)) (W.alloc (.cells (madeCells z.cells (n.toNat * sz)) e)):=by
 obtain ⟨m,rfl⟩:=Int.eq_ofNat_of_zero_le h0;simp only [Int.toNat_natCast] at hl ⊢;obtain ⟨i0,hi,hzz⟩:=Option.map_eq_some_iff.1 hinfo;simp only [Prod.mk.injEq] at hzz;obtain ⟨hz0,hz1,hz2⟩:=hzz;have hm:m≤281474976710656:=Nat.le_trans (Nat.le_mul_of_pos_right _ hb0) hl;have hr:=run_make (P:=P) W t e i0 z ht hi hz0 .i64 .i64 0 (m:Int) (by omega) (by omega)
  (by
   have h3:((i0.bytes * m:Nat):Int)≤281474976710656:=by rw [hz2,Nat.mul_comm];omega
   rwa [Int.natCast_mul] at h3) (by omega)
 simp only [Int.toNat_natCast,Int.toNat_zero] at hr;rw [hz1] at hr;simp [execOp,ho,hx,hy,hr]
theorem made0_R (d:Kd α) (e base m:Nat) (z:Value) {ok:Nat→Prop} (hfresh:ok W.heap.size) (hbase:base≤W.heap.size) (hm:m≤9223372036854775807) :
  d.R e (W.alloc (.cells (madeCells z.cells (m * d.sz)) e)) base ok (.slice (some ⟨W.heap.size,0,none⟩) 0 m) []:=by
 refine ⟨fun k hk=>?_,[],?_,by simp,fun j p hj=>by simp at hj⟩
 ·
  have:W.heap.size=k:=by simpa [Value.ownBlock] using hk
  subst this;exact hfresh
 ·
  have h2:=own_take (World.ownsRow_lit (base:=base) (e:=e) (size:=d.sz) W (madeCells z.cells (m * d.sz)) m hbase (by simpa [maxLen] using hm) (by simp [size_madeCells])) (Nat.zero_le m);simpa using h2
theorem rmake0_R (d:Kd α) {w0:World} (base e:Nat) (hgd:o.guard=none) {N:Tmp} (_hd:o.dst=some N) (t:TypeId) (x y:Operand) (ho:o.op = .makeSlice t x y) (n:Int) (hx:a.eval x = .int .i64 0) (hy:a.eval y = .int .i64 n)
  (ht:P.underlying t=some (.slice e)) (z:Value) (bytes:Nat) (hinfo:(P.info? e).map (fun i=>(i.zero,i.size,i.bytes))=some (some z,d.sz,bytes)) (hs0 : 0 < d.sz) (hb0 : 0 < bytes)
  {ok:Nat→Prop} (hfresh:ok W.heap.size) (h0 : 0≤n) (hl:n.toNat * bytes≤281474976710656) (HB:Below base w0 W) (hbase:base≤W.heap.size)
  (h:∀ v1 w1,d.R e w1 base ok v1 []→Below base w0 w1→W.grownBy w1 none→(∃ b,v1.ownBlock=some b∧W.heap.size≤b)→wpList P ops Q rest (a.put o.dst v1) w1):wpList P ops Q (o::rest) a W:=
 Kd.event_run hgd (run_make0 t x y ho n hx hy ht z bytes hinfo hb0 h0 hl) (h _ _ (made0_R d e base _ z hfresh hbase (by have:=Nat.le_mul_of_pos_right n.toNat hb0;omega)) (HB.alloc hbase _) (World.grownBy_alloc W _ none) ⟨W.heap.size,by simp [Value.ownBlock],Nat.le_refl _⟩)
theorem rmake0_S (d:Kd α) {w0:World} (base e:Nat) (hgd:o.guard=none) {N:Tmp} (_hd:o.dst=some N) (t:TypeId) (x y:Operand) (ho:o.op = .makeSlice t x y) (n:Int) (hx:a.eval x = .int .i64 0) (hy:a.eval y = .int .i64 n)
  (ht:P.underlying t=some (.slice e)) (z:Value) (bytes:Nat) (hinfo:(P.info? e).map (fun i=>(i.zero,i.size,i.bytes))=some (some z,d.sz,bytes)) (hs0 : 0 < d.sz) (hb0 : 0 < bytes)
  {ok:Nat→Prop} (hfresh:ok W.heap.size) (h0 : 0≤n) (hl:n.toNat * bytes≤281474976710656) (HB:Below base w0 W) (hbase:base≤W.heap.size)
  (h:∀ v1 w1,Kd.S d e w1 base ok v1 []→Below base w0 w1→W.grownBy w1 none→(∃ b,v1.ownBlock=some b∧W.heap.size≤b)→wpList P ops Q rest (a.put o.dst v1) w1):wpList P ops Q (o::rest) a W:=
 rmake0_R (Kd.bare d) base e hgd _hd t x y ho n hx hy ht z bytes hinfo hs0 hb0 hfresh h0 hl HB hbase (fun v1 w1 hr=>h v1 w1 (Kd.S_bare (xs:=[]) hr))
end
def slices_Clone_int_int.f (l0:List Int):Option (List Int):=if l0.length < 8796093022208 then some l0 else none
set_option maxHeartbeats 8000000 in
theorem slices_Clone_int_int.calls (A0:Option Addr) (c0:Nat) (l0:List (Int)) (r:List (Int)) (w:World) (a0:Kd.C (Kd.int .i64) w A0 l0.length l0) (a1:l0.length≤c0) (h:slices_Clone_int_int.f l0=some r) :
  Calls Tryd.prog 37 #[.slice A0 l0.length c0] w fun e w'=>∃ a2:Value,e = .returned (a2)∧Kd.R (Kd.int .i64) 3 w' w.heap.size (fun _=>True) a2 r∧Below w.heap.size w w':=by
 unfold slices_Clone_int_int.f at h;by_cases hlt:l0.length < 8796093022208
 ·
  rw [if_pos hlt] at h;obtain rfl:=Option.some.inj h;have LM:=zzm hlt;clear hlt h;have a3:=zzm a0;have a7:=zzm a1;clear a0 a1;have HB:=zzm (Below.refl w.heap.size w);have a8:∀ (w:World) (a:Option Addr) (n c n' c' : Nat),(binOp .eql 38 (.slice a n c) (.slice none n' c')).run Tryd.prog w = .ok (.bool a.isNone) w:=fun w a n c n' c'=>Lib.run_eql_slice_nil w _ _ a n c n' c' Tryd.underlying38;cases A0 with
  | none=>
   have hl:l0 = []:=by
    cases l0 with
    | nil=>rfl
    | cons a l=>
     obtain ⟨ad,e,_⟩:=a3.out.2.2 (by simp);cases e
   subst hl;go_enter Tryd.func37,Tryd.ntmps37;go_wp2;go_ret;exact ⟨_,rfl,Kd.R_nil _ _ _ _ _,HB.out⟩
  | some ad=>
   obtain ⟨y,hy⟩:∃ y:List Int,y = []:=⟨_,rfl⟩;have Ny:=zzm hy;clear hy;go_enter Tryd.func37,Tryd.ntmps37;go_wp2_with (first
    | ((with_reducible refine gate_dst (N:=5) rfl ?_);refine Kd.R_lit (Kd.int .i64) _ 3 ?hg (N:=5) ?hd (xs:=([]:List (Int))) (inner:=[]) (ok:=fun _=>True) (okp:=fun _=>True) ?hr ?hp (fun _ hk=>hk) trivial (Below.refl _ _) (Nat.le_refl _) (by simp) ?_;(case hd=>rfl);(case hg=>rfl);(case hr=>first|(go_simp;done)|(go_simp;rfl));(case hp=>exact (Reps.none _ _));intro v1 w1 ho1 hb hg_ hnew_;clear hg_ hnew_;rw [← Ny.out] at ho1;have a4:=zzm (zzp HB.out hb);have a5:=zzm ho1;clear HB;have HB:=a4;have HO:=a5;clear a4 a5 hb ho1)
    | ((with_reducible refine gate_dst (N:=7) rfl ?_);refine Kd.R_append_rows (Kd.int .i64) (w0:=w) w.heap.size rfl (.tmp 5) (.tmp 6) 38 3 (.int .i64 0) 8 rfl Tryd.underlying38 info3 rfl (by decide) (by omega) v1 y l0 _ _ _ (fun _=>True) (fun _=>False) rfl rfl ?aO ?aR (fun _ _ h=>h) (fun _ h=>h.elim) ?aF ?aB ?aS ?aL ?_;(case aR=>exact (Kd.C_below a3.out HB.out));(case aB=>exact HB.out);(case aF=>exact fun _ _=>trivial);(case aO=>exact HO.out);(case aS=>exact HB.out.size);(case aL=>have:=LM.out;rw [Ny.out];simp only [List.length_nil];omega);intro v2 w2 ho2 hb2 hg2 hat2;rw [Ny.out,List.nil_append] at ho2;have a6:=zzm ho2;have HB2:=zzm hb2;clear ho2 hb2 hg2 hat2))
   go_ret;exact ⟨_,rfl,a6.out,HB2.out⟩
 ·
  rw [if_neg hlt] at h;cases h
def Rb.f (a0_0:Int) (a0_1:Int) (a0_2:Bool) (l0_3:List Int) (a0_4:Bool) (l0_5:List Int):Option (Int×Int×Bool×List Int×Bool×List Int):=(slices_Clone_int_int.f l0_3).bind fun t267=>((slices_Clone_int_int.f l0_5).bind fun t270=>(some (a0_0,a0_1,a0_2,t267,a0_4,t270)))
set_option maxHeartbeats 8000000 in
theorem Rb.calls (a2:Int) (a3:Int) (a5:Bool) (b3:Option Addr) (b4:Nat) (a7:List Int) (a8:Bool) (b1:Option Addr) (b2:Nat) (a6:List Int) (r1:Int) (r2:Int) (r3:Bool) (r4:List Int) (r5:Bool) (r6:List Int) (w:World) (c9:Kd.C (Kd.int .i64) w b3 a7.length a7) (d0:a7.length≤b4) (d1:Kd.C (Kd.int .i64) w b1 a6.length a6) (d2:a6.length≤b2) (h:Rb.f a2 a3 a5 a7 a8 a6=some (r1,r2,r3,r4,r5,r6)) :
  Calls Tryd.prog 34 #[.agg #[.int .i64 a2,.int .i64 a3,.bool a5,.slice b3 a7.length b4,.bool a8,.slice b1 a6.length b2]] w fun e w'=>∃ d4 d5:Value,e = .returned (.agg #[.int .i64 r1,.int .i64 r2,.bool r3,d4,.bool r5,d5])∧Kd.R (Kd.int .i64) 3 w' w.heap.size (fun k_=>some k_≠(d5:Value).ownBlock) d4 r4∧Kd.R (Kd.int .i64) 3 w' w.heap.size (fun k_=>some k_≠(d4:Value).ownBlock) d5 r6∧Below w.heap.size w w':=by
 have hu40:=Tryd.underlying40;have d6:=zzm c9;have d7:=zzm d0;clear c9 d0;have d8:=zzm d1;have d9:=zzm d2;clear d1 d2;have HB:=zzm (Below.refl w.heap.size w);have H:((slices_Clone_int_int.f a7).bind fun b0=>((slices_Clone_int_int.f a6).bind fun b5=>(some (a2,a3,a5,b0,a8,b5))))=some (r1,r2,r3,r4,r5,r6):=h;clear h;obtain ⟨b0,A2,H⟩:=zzG H;obtain ⟨b5,A3,H⟩:=zzG H;simp only [Option.some.injEq,Prod.mk.injEq] at H;obtain ⟨rfl,rfl,rfl,rfl,rfl,rfl⟩:=H;go_enter Tryd.func34,Tryd.ntmps34;go_wp2_with (first|((with_reducible refine gate_dst (N:=1) rfl ?_);refine box_event ?hg (N:=1) ?hd (cs:=#[.int .i64 a2,.int .i64 a3,.bool a5,.slice b3 a7.length b4,.bool a8,.slice b1 a6.length b2]) (t:=40) ?hr ?_;(case hd=>rfl);(case hg=>rfl);(case hr=>first|(go_simp;done)|(go_simp;rfl));intro a4 hg w4 hbox hb;have b6:=zzm (zzp zzh1 hb);have b7:=zzm (hbox);have b8:=zzm ((by rw [hg];exact (zzo zzh1):w.heap.size≤a4));have b9:=zzm ((by rw [hg];exact (zzo zzh1):w.heap.size≤a4));clear HB;have HB:=b6;have a1:=b7;have l3:=b8;have l4:=b9;clear b6 b7 b8 b9 hb hbox hg)|((with_reducible refine gate_dst (N:=2) rfl ?_);refine box_event ?hg (N:=2) ?hd (cs:=#[.int .i64 0,.int .i64 0,.bool false,.slice none 0 0,.bool false,.slice none 0 0]) (t:=40) ?hr ?_;(case hd=>rfl);(case hg=>rfl);(case hr=>first|(go_simp;done)|(go_simp;rfl));intro a0 hg w5 hbox hb;have b6:=zzm (zzh (g:=a4) (o:=.cells #[.int .i64 a2,.int .i64 a3,.bool a5,.slice b3 a7.length b4,.bool a8,.slice b1 a6.length b2] 40 (0,0)) (zzE a1.out) hb);have b7:=zzm (zzp zzh2 hb);have b8:=zzm (hbox);have b9:=zzm ((by rw [hg];exact (zzo zzh2):w.heap.size≤a0));have c7:=zzm ((by rw [hg];exact (zzo zzh2):w.heap.size≤a0));have e0:=zzm ((by rw [hg];exact Nat.ne_of_lt (blk_lt (g:=a4) (o:=.cells #[.int .i64 a2,.int .i64 a3,.bool a5,.slice b3 a7.length b4,.bool a8,.slice b1 a6.length b2] 40 (0,0)) (zzE a1.out)):a4≠a0));have e1:=zzm ((by rw [hg];exact Nat.ne_of_gt (blk_lt (g:=a4) (o:=.cells #[.int .i64 a2,.int .i64 a3,.bool a5,.slice b3 a7.length b4,.bool a8,.slice b1 a6.length b2] 40 (0,0)) (zzE a1.out)):a0≠a4));clear a1 HB;have a1:=b6;have HB:=b7;have a9:=b8;have l5:=b9;have l6:=c7;have c8:=e0;have c0:=e1;clear b6 b7 b8 b9 c7 e0 e1 hb hbox hg;have l7:=c8.out;have l8:=c0.out;obtain ⟨k0,k1,k2,k3,k4,k5,k6,k7,k8,k9,l1,l2⟩:=zzc6 a1.out)|((with_reducible refine gate_callee (f:=37) rfl ?_);refine goesL_ (some 5) rfl rfl Tryd.func37 (by kernel_rfl) rfl #[.slice b3 a7.length b4] rfl zzM2 ?_;(with_reducible refine (slices_Clone_int_int.calls _ _ a7 b0 _ ?side1 ?side2 A2.out).mono ?_);(case side1=>exact zzcb d6 HB);(case side2=>exact d7.out);rintro e w8 ⟨l9,rfl,ho0,hb⟩;refine ⟨_,rfl,?_⟩;have b6:=zzm (Kd.R_lower ho0 (zzo zzh2));have b7:=zzm (zzh (g:=a4) (o:=.cells #[.int .i64 a2,.int .i64 a3,.bool a5,.slice b3 a7.length b4,.bool a8,.slice b1 a6.length b2] 40 (0,0)) (zzE a1.out) hb);have b8:=zzm (zzh (g:=a0) (o:=.cells #[.int .i64 0,.int .i64 0,.bool false,.slice none 0 0,.bool false,.slice none 0 0] 40 (0,0)) (zzE a9.out) hb);have b9:=zzm (zzp zzh2 hb);clear a1 a9 HB;have c1:=b6;have a1:=b7;have a9:=b8;have HB:=b9;clear b6 b7 b8 b9;(try clear hb);(try clear hb2);(try clear hk);(try clear hi);(try clear ho0);obtain ⟨c2,c3,eo9⟩:=Kd.R_slice c1.out;subst eo9;obtain ⟨e2,e3,e4,e5,e6,e7,e8,e9,g0,g1,g2,g3⟩:=zzc6 a1.out)|((with_reducible refine gate_callee (f:=37) rfl ?_);refine goesL_ (some 9) rfl rfl Tryd.func37 (by kernel_rfl) rfl #[.slice b1 a6.length b2] rfl zzM2 ?_;(with_reducible refine (slices_Clone_int_int.calls _ _ a6 b5 _ ?side1 ?side2 A3.out).mono ?_);(case side1=>exact Kd.C_below d8.out zzh2);(case side2=>exact d9.out);rintro e m1 ⟨m0,rfl,ho0,hb⟩;refine ⟨_,rfl,?_⟩;have b6:=zzm (Kd.R_elder' (by (with_reducible repeat (first|apply Kd.R_alloc|apply Kd.R_drewN|apply Kd.R_drew));exact (Kd.R_mono (Kd.R_far (p:=⟨a4,3,none⟩) (Kd.R_types c1.out a1.out (by decide)) (fun _ hk=>hk.2) (.slice c2 b0.length c3)) (fun _ h_=>h_.1))) (Kd.R_base ho0) hb);have b7:=zzm (Kd.R_lower (Kd.R_new' ho0 (Kd.R_lt (by (with_reducible repeat (first|apply Kd.R_alloc|apply Kd.R_drewN|apply Kd.R_drew));exact (Kd.R_mono (Kd.R_far (p:=⟨a4,3,none⟩) (Kd.R_types c1.out a1.out (by decide)) (fun _ hk=>hk.2) (.slice c2 b0.length c3)) (fun _ h_=>h_.1))))) (zzo zzh2));have b8:=zzm (zzh (g:=a4) (o:=.cells #[.int .i64 a2,.int .i64 a3,.bool a5,.slice c2 b0.length c3,.bool a8,.slice b1 a6.length b2] 40 (0,0)) (by (with_reducible repeat (first|apply zzf|apply zzg|apply zze));refine zzi (cs:=#[.int .i64 a2,.int .i64 a3,.bool a5,.slice b3 a7.length b4,.bool a8,.slice b1 a6.length b2]) ?_ 3 _ rfl;(with_reducible repeat (first|apply zzf|apply zzg|apply zze));exact a1.out) hb);have b9:=zzm (zzh (g:=a0) (o:=.cells #[.int .i64 0,.int .i64 0,.bool false,.slice none 0 0,.bool false,.slice none 0 0] 40 (0,0)) (by (with_reducible repeat (first|apply zzf|apply zzg|apply zze));refine zzj ?_ c0.out _;(with_reducible repeat (first|apply zzf|apply zzg|apply zze));exact a9.out) hb);have c7:=zzm (zzp zzh2 hb);clear c1 a1 a9 HB;have c1:=b6;have d3:=b7;have a1:=b8;have a9:=b9;have HB:=c7;clear b6 b7 b8 b9 c7;(try clear hb);(try clear hb2);(try clear hk);(try clear hi);(try clear ho0);obtain ⟨c4,c5,eo12⟩:=Kd.R_slice d3.out;subst eo12;obtain ⟨g4,g5,g6,g7,g8,g9,h0,h1,h2,h3,h4,h5⟩:=zzc6 a1.out;obtain ⟨h6,h7,h8,h9,j2,j3,j4,j5,j6,j7,j8,j9⟩:=zzc6 a9.out));refine bodyPost_ret (results_cell_row rfl _ _ a0 40 #[.int .i64 a2,.int .i64 a3,.bool a5,.slice c2 b0.length c3,.bool a8,.slice c4 b5.length c5] (0,0) _ rfl (by (with_reducible repeat (first|apply zzf|apply zzg|apply zze));refine zzi (cs:=#[.int .i64 a2,.int .i64 a3,.bool a5,.slice c2 b0.length c3,.bool a8,.slice none 0 0]) ?_ 5 _ rfl;refine zzi (cs:=#[.int .i64 a2,.int .i64 a3,.bool a5,.slice c2 b0.length c3,.bool false,.slice none 0 0]) ?_ 4 _ rfl;refine zzi (cs:=#[.int .i64 a2,.int .i64 a3,.bool a5,.slice none 0 0,.bool false,.slice none 0 0]) ?_ 3 _ rfl;refine zzi (cs:=#[.int .i64 a2,.int .i64 a3,.bool false,.slice none 0 0,.bool false,.slice none 0 0]) ?_ 2 _ rfl;refine zzi (cs:=#[.int .i64 a2,.int .i64 0,.bool false,.slice none 0 0,.bool false,.slice none 0 0]) ?_ 1 _ rfl;refine zzi (cs:=#[.int .i64 0,.int .i64 0,.bool false,.slice none 0 0,.bool false,.slice none 0 0]) ?_ 0 _ rfl;(with_reducible repeat (first|apply zzf|apply zzg|apply zze));refine zzj ?_ c0.out _;(with_reducible repeat (first|apply zzf|apply zzg|apply zze));exact a9.out) Tryd.underlying40 rfl (by kernel_rfl)) rfl ?_;exact ⟨_,_,zzR,by (with_reducible repeat (first|apply Kd.R_alloc|apply Kd.R_drewN|apply Kd.R_drew));exact Kd.R_mono (Kd.R_far (p:=⟨a0,5,none⟩) (Kd.R_far (p:=⟨a0,4,none⟩) (Kd.R_far (p:=⟨a0,3,none⟩) (Kd.R_far (p:=⟨a0,2,none⟩) (Kd.R_far (p:=⟨a0,1,none⟩) (Kd.R_far (p:=⟨a0,0,none⟩) (Kd.R_far (p:=⟨a4,5,none⟩) (Kd.R_types (Kd.R_types c1.out a1.out (by decide)) a9.out (by decide)) (fun _ hk=>hk.1.2) (.slice c4 b5.length c5)) (fun _ hk=>hk.2) (.int .i64 a2)) (fun _ hk=>hk.2) (.int .i64 a3)) (fun _ hk=>hk.2) (.bool a5)) (fun _ hk=>hk.2) (.slice c2 b0.length c3)) (fun _ hk=>hk.2) (.bool a8)) (fun _ hk=>hk.2) (.slice c4 b5.length c5)) (fun _ hk=>hk.1.1.2),by (with_reducible repeat (first|apply Kd.R_alloc|apply Kd.R_drewN|apply Kd.R_drew));exact Kd.R_mono (Kd.R_far (p:=⟨a0,5,none⟩) (Kd.R_far (p:=⟨a0,4,none⟩) (Kd.R_far (p:=⟨a0,3,none⟩) (Kd.R_far (p:=⟨a0,2,none⟩) (Kd.R_far (p:=⟨a0,1,none⟩) (Kd.R_far (p:=⟨a0,0,none⟩) (Kd.R_far (p:=⟨a4,5,none⟩) (Kd.R_types (Kd.R_types d3.out a1.out (by decide)) a9.out (by decide)) (fun _ hk=>hk.1.2) (.slice c4 b5.length c5)) (fun _ hk=>hk.2) (.int .i64 a2)) (fun _ hk=>hk.2) (.int .i64 a3)) (fun _ hk=>hk.2) (.bool a5)) (fun _ hk=>hk.2) (.slice c2 b0.length c3)) (fun _ hk=>hk.2) (.bool a8)) (fun _ hk=>hk.2) (.slice c4 b5.length c5)) (fun _ hk=>hk.1.1.2),zzh3⟩
def Qn.l0:Nat→List (S40)→List (S40)→Int→Int→Option ((List (S40)))
 | 0,_,_,_,_=>none
 | k+1,x3,x9,x10,x11=>if x11 < x10 then (if 0≤x11 then (if x11 < (x9.length:Int) then ((Rb.f ((Qb x9 x11).f0) ((Qb x9 x11).f1) ((Qb x9 x11).f2) ((Qb x9 x11).f3) ((Qb x9 x11).f4) ((Qb x9 x11).f5)).bind fun bt278=>(if x3.length < 1759218604441 then (Qn.l0 k (x3 ++ [(⟨bt278.1,bt278.2.1,bt278.2.2.1,bt278.2.2.2.1,bt278.2.2.2.2.1,bt278.2.2.2.2.2⟩:S40)]) x9 x10 (wrap64 (x11+1))) else (none))) else (none)) else (none)) else (some x3)
def Qn.f (k:Nat) (l0:List (S40)):Option ((List (S40))):=if 0≤(l0.length:Int) then (if ((l0.length:Int):Int).toNat≤3518437208883 then (Qn.l0 k (([]:List (S40))) l0 (l0.length:Int) 0) else (none)) else (none)
set_option maxHeartbeats 8000000 in
theorem Qn.calls (k:Nat) (A0:Option Addr) (c0:Nat) (l0:List (S40)) (r:List (S40)) (w:World) (g1:Kd.C k40 w A0 l0.length l0) (g2:l0.length≤c0) (h:Qn.f k l0=some r) :
  Calls Tryd.prog 24 #[.slice A0 l0.length c0] w fun e w'=>∃ g3:Value,e = .returned (g3)∧Kd.S k40 40 w' w.heap.size (fun _=>True) g3 r∧Below w.heap.size w w':=by
 have hu40:=Tryd.underlying40;have j5:=zzm g1;have k7:=zzm g2;clear g1 g2;have HB:=zzm (Below.refl w.heap.size w);have H:(if 0≤(l0.length:Int) then (if ((l0.length:Int):Int).toNat≤3518437208883 then (Qn.l0 k (([]:List (S40))) l0 (l0.length:Int) 0) else (none)) else (none))=some r:=h;clear h;by_cases c2 : 0≤(l0.length:Int)
 ·
  rw [if_pos c2] at H;have g5:=eq_true c2;have g6:decide (0≤(l0.length:Int))=true:=decide_eq_true c2;clear c2;by_cases c3:((l0.length:Int):Int).toNat≤3518437208883
  ·
   rw [if_pos c3] at H;have g7:=eq_true c3;have g8:decide (((l0.length:Int):Int).toNat≤3518437208883)=true:=decide_eq_true c3;clear c3;obtain ⟨y273,hy273⟩:∃ y_:List (S40),y_=(([]:List (S40))):=⟨_,rfl⟩;replace H:(Qn.l0 k y273 l0 (l0.length:Int) 0)=some r:=by first|(rw [hy273];with_reducible exact H)|(have H2_:=(Option.bind_some _ _).symm.trans H;rw [hy273];with_reducible exact H2_)|(have H2_:=(Option.bind_some _ _).symm.trans H;with_reducible exact H2_)|with_reducible exact H|(rw [hy273];exact H)|exact H
   have Ny273:=zzm hy273;clear hy273;have H':=zzm H;clear H;go_enter Tryd.func24,Tryd.ntmps24;go_wp2_with (first|((with_reducible refine gate_dst (N:=8) rfl ?_);refine rmake0_S k40 _ 40 rfl (N:=8) rfl 23 _ _ rfl (l0.length:Int) rfl rfl Tryd.underlying23 (.agg #[(.int .i64 0),(.int .i64 0),(.bool false),(.slice none 0 0),(.bool false),(.slice none 0 0)]) 80 info40 (by decide) (by omega) (ok:=fun _=>True) (trivial) (zzt) (Nat.le_trans (Nat.mul_le_mul_right _ (zzt:(l0.length:Int).toNat≤3518437208883)) (by omega)) (Below.refl _ _) (Nat.le_refl _) ?_;intro k0 w4 ho5 hb hg_ hnew_;clear hg_ hnew_;(first|rw [← Ny273.out] at ho5|(simp only [Int.reduceToNat] at ho5;rw [← Ny273.out] at ho5));have a6:=zzm (Kd.S_lower ho5 (zzo zzh1));have a7:=zzm (zzp zzh1 hb);clear HB;have e9:=a6;have HB:=a7;clear a6 a7 hb ho5));go_loopg [3,11] k (fun kq v3 j6 w'=>∃ (a8:List (S40)) (a0:Int),j6 = .int .i64 a0∧Aside0 (Qn.l0 kq a8 l0 (l0.length:Int) a0=some r)∧Aside0 (kq≤k)∧Aside0 (Kd.S k40 40 w' w.heap.size (fun _=>True) v3 a8)∧Aside0 (Below w.heap.size w w'))
   case atStart=>exact ⟨(y273),(0),(by first|rfl|(simp;done)|(simp [*];done)),H',⟨Nat.le_refl _⟩,⟨by (with_reducible repeat (first|apply Kd.S_alloc|apply Kd.S_drewN|apply Kd.S_drew));exact e9.out⟩,⟨zzh1⟩⟩
   case round=>
    clear H';try clear c2
    try clear g5
    try clear g6
    try clear p2
    try clear c3
    try clear g7
    try clear g8
    obtain ⟨a8,a0,rfl,HA,HK1,a3,HB⟩:=hrel;cases gk with
    | zero=>exact absurd HA.out (by simp [Qn.l0])
    | succ k1=>
     have H:=HA.out;clear HA;simp only [Qn.l0] at H;by_cases c6:a0 < (l0.length:Int)
     ·
      rw [if_pos c6] at H;have g9:decide (a0 < (l0.length:Int))=true:=decide_eq_true c6;clear c6;by_cases c7 : 0≤a0
      ·
       rw [if_pos c7] at H;have k2:decide (0≤a0)=true:=decide_eq_true c7;clear c7;by_cases c8:a0 < (l0.length:Int)
       ·
        rw [if_pos c8] at H;have k3:decide (a0 < (l0.length:Int))=true:=decide_eq_true c8;clear c8;replace H:=zzH H;obtain ⟨⟨b3,b4,b5,b1,b6,b2⟩,g4,H⟩:=H;replace H:(if a8.length < 1759218604441 then (Qn.l0 k1 (a8 ++ [(⟨b3,b4,b5,b1,b6,b2⟩:S40)]) l0 (l0.length:Int) (wrap64 (a0+1))) else (none))=some r:=H;have A9:=zzm g4;clear g4;by_cases e0:a8.length < 1759218604441
        ·
         rw [if_pos e0] at H;have LMc10:=zzm e0;clear e0;obtain ⟨y288,hy288⟩:∃ y_:List (S40),y_=(a8 ++ [(⟨b3,b4,b5,b1,b6,b2⟩:S40)]):=⟨_,rfl⟩;replace H:(Qn.l0 k1 y288 l0 (l0.length:Int) (wrap64 (a0+1)))=some r:=by first|(rw [hy288];with_reducible exact H)|(have H2_:=(Option.bind_some _ _).symm.trans H;rw [hy288];with_reducible exact H2_)|(have H2_:=(Option.bind_some _ _).symm.trans H;with_reducible exact H2_)|with_reducible exact H|(rw [hy288];exact H)|exact H
         have Ny288:=zzm hy288;clear hy288;have H':=zzm H;clear H;have d8 : 0≤(a0:Int):=zzt;have d9:a0 < (l0.length:Int):=zzt;obtain ⟨j7,a4,a5,a9,b0,h0,c1,c4,c5,c9,d0,d1,d2,d3,d4,d5⟩:=Rg j5.out a0 d8 d9;cases h0;replace c1:=zzx HB.out c1;replace c4:=zzx HB.out c4;replace c5:=zzx HB.out c5;replace c9:=zzx HB.out c9;replace d0:=zzx HB.out d0;replace d1:=zzx HB.out d1;have e1:=zzm d3;have e2:=zzm d2;clear d3 d2;have e3:=zzm d5;have e4:=zzm d4;clear d5 d4;replace d8:=eq_true d8;replace d9:=eq_true d9;go_wp2_with (first|((with_reducible refine gate_dst (N:=5) rfl ?_);refine box_event ?hg (N:=5) ?hd (cs:=#[.int .i64 0,.int .i64 0,.bool false,.slice none 0 0,.bool false,.slice none 0 0]) (t:=40) ?hr ?_;(case hd=>rfl);(case hg=>rfl);(case hr=>first|(go_simp;done)|(go_simp;rfl));intro a1 hg k8 hbox hb;have a6:=zzm (Kd.S_below (Kd.S_elderB (zzS a3.out) a1 (Nat.le_of_eq hg.symm)) hb);have a7:=zzm (zzp zzh1 hb);have b7:=zzm (hbox);have d6:=zzm ((by rw [hg];exact (zzo zzh1):w.heap.size≤a1));have d7:=zzm ((by rw [hg];exact (zzo zzh1):w.heap.size≤a1));clear a3 HB;have a3:=a6;have HB:=a7;have a2:=b7;have j8:=d6;have j9:=d7;clear a6 a7 b7 d6 d7 hb hbox hg;obtain ⟨h1,h2,h3,h4,h5,h6,h7,h8,h9,j2,j3,j4⟩:=zzc6 a2.out)|((with_reducible refine gate_callee (f:=34) rfl ?_);refine goesL_ (some 17) rfl rfl Tryd.func34 (by kernel_rfl) rfl #[.agg #[.int .i64 ((Qb l0 a0).f0),.int .i64 ((Qb l0 a0).f1),.bool ((Qb l0 a0).f2),.slice a4 ((Qb l0 a0).f3).length a5,.bool ((Qb l0 a0).f4),.slice a9 ((Qb l0 a0).f5).length b0]] rfl zzM2 ?_;(with_reducible refine (Rb.calls ((Qb l0 a0).f0) ((Qb l0 a0).f1) ((Qb l0 a0).f2) _ _ ((Qb l0 a0).f3) ((Qb l0 a0).f4) _ _ ((Qb l0 a0).f5) b3 b4 b5 b1 b6 b2 _ ?side1 ?side2 ?side3 ?side4 A9.out).mono ?_);(case side1=>exact Kd.C_below e1.out zzh2);(case side2=>exact e2.out);(case side3=>exact Kd.C_below e3.out zzh2);(case side4=>exact e4.out);rintro e k9 ⟨k4,k5,rfl,ho0,ho1,hb⟩;refine ⟨_,rfl,?_⟩;have a6:=zzm (Kd.S_mono (Kd.S_told (Kd.S_told (Kd.S_old (zzS ((Kd.S_mono (Kd.S_far (p:=⟨a1,5,none⟩) (Kd.S_far (p:=⟨a1,4,none⟩) (Kd.S_far (p:=⟨a1,3,none⟩) (Kd.S_far (p:=⟨a1,2,none⟩) (Kd.S_far (p:=⟨a1,1,none⟩) (Kd.S_far (p:=⟨a1,0,none⟩) (Kd.S_mono a3.out (fun k_ hk=>(⟨hk,hk.2⟩:_∧k_≠a1))) (fun _ hk=>hk.2) (.int .i64 ((Qb l0 a0).f0))) (fun _ hk=>hk.2) (.int .i64 ((Qb l0 a0).f1))) (fun _ hk=>hk.2) (.bool ((Qb l0 a0).f2))) (fun _ hk=>hk.2) (.slice a4 ((Qb l0 a0).f3).length a5)) (fun _ hk=>hk.2) (.bool ((Qb l0 a0).f4))) (fun _ hk=>hk.2) (.slice a9 ((Qb l0 a0).f5).length b0)) (fun _ h_=>h_.1)))) hb) (Kd.R_base ho0)) (Kd.R_base ho1)) (fun _ h_=>h_.1));have a7:=zzm (Kd.R_lower ho0 (zzo zzh2));have b7:=zzm (Kd.R_lower ho1 (zzo zzh2));have d6:=zzm (zzh (g:=a1) (o:=.cells #[.int .i64 ((Qb l0 a0).f0),.int .i64 ((Qb l0 a0).f1),.bool ((Qb l0 a0).f2),.slice a4 ((Qb l0 a0).f3).length a5,.bool ((Qb l0 a0).f4),.slice a9 ((Qb l0 a0).f5).length b0] 40 (0,0)) (by (with_reducible repeat (first|apply zzf|apply zzg|apply zze));refine zzi (cs:=#[.int .i64 ((Qb l0 a0).f0),.int .i64 ((Qb l0 a0).f1),.bool ((Qb l0 a0).f2),.slice a4 ((Qb l0 a0).f3).length a5,.bool ((Qb l0 a0).f4),.slice none 0 0]) ?_ 5 _ rfl;refine zzi (cs:=#[.int .i64 ((Qb l0 a0).f0),.int .i64 ((Qb l0 a0).f1),.bool ((Qb l0 a0).f2),.slice a4 ((Qb l0 a0).f3).length a5,.bool false,.slice none 0 0]) ?_ 4 _ rfl;refine zzi (cs:=#[.int .i64 ((Qb l0 a0).f0),.int .i64 ((Qb l0 a0).f1),.bool ((Qb l0 a0).f2),.slice none 0 0,.bool false,.slice none 0 0]) ?_ 3 _ rfl;refine zzi (cs:=#[.int .i64 ((Qb l0 a0).f0),.int .i64 ((Qb l0 a0).f1),.bool false,.slice none 0 0,.bool false,.slice none 0 0]) ?_ 2 _ rfl;refine zzi (cs:=#[.int .i64 ((Qb l0 a0).f0),.int .i64 0,.bool false,.slice none 0 0,.bool false,.slice none 0 0]) ?_ 1 _ rfl;refine zzi (cs:=#[.int .i64 0,.int .i64 0,.bool false,.slice none 0 0,.bool false,.slice none 0 0]) ?_ 0 _ rfl;(with_reducible repeat (first|apply zzf|apply zzg|apply zze));exact a2.out) hb);have d7:=zzm (zzp zzh2 hb);clear a3 a2 HB;have a3:=a6;have b8:=a7;have b9:=b7;have a2:=d6;have HB:=d7;clear a6 a7 b7 d6 d7;(try clear hb);(try clear hb2);(try clear hk);(try clear hi);(try clear ho0);(try clear ho1);obtain ⟨e5,e6,eo15⟩:=Kd.R_slice b8.out;subst eo15;obtain ⟨e7,e8,eo16⟩:=Kd.R_slice b9.out;subst eo16)|((with_reducible refine gate_builtin (b:=.append) (xs:=#[.tmp 15,.tmp 18]) rfl ?_);at_builtin;refine Kd.S_append k40 (w0:=w) w.heap.size rfl (.tmp 15) (.tmp 18) 23 40 (.agg #[(.int .i64 0),(.int .i64 0),(.bool false),(.slice none 0 0),(.bool false),(.slice none 0 0)]) 80 rfl Tryd.underlying23 info40 rfl (by decide) (by omega) u3 a8 (⟨b3,b4,b5,b1,b6,b2⟩:S40) [.int .i64 b3,.int .i64 b4,.bool b5,.slice e5 b1.length e6,.bool b6,.slice e7 b2.length e8] (fun k_=>k_≠a1) (fun k_=>some k_=(.slice e5 b1.length e6:Value).ownBlock∨some k_=(.slice e7 b2.length e8:Value).ownBlock) rfl rfl ?aP (fun k_ hk_=>hk_.elim (fun h_=>((Kd.R_mono (ok':=fun k_=>((fun k_=>k_≠a1)) k_∧some k_≠(u3:Value).ownBlock) (Kd.R_types (Kd.R_apart' (b8.out) (Kd.S_typed a3.out) (by decide)) a2.out (by decide)) (fun k_ hk=>⟨hk.2,hk.1.2⟩))).1 k_ h_.symm) (fun h_=>((Kd.R_mono (ok':=fun k_=>((fun k_=>k_≠a1)) k_∧some k_≠(u3:Value).ownBlock) (Kd.R_types (Kd.R_apart' (b9.out) (Kd.S_typed a3.out) (by decide)) a2.out (by decide)) (fun k_ hk=>⟨hk.2,hk.1.2⟩))).1 k_ h_.symm)) ?aF ?aO ?aB ?aS ?aL ?_;(case aP=>exact k40_mkM _ _ _ (⟨b3,b4,b5,b1,b6,b2⟩:S40) (Kd.R_mono (Kd.R_tight rfl (Kd.R_mono (ok':=fun k_=>((fun k_=>k_≠a1)) k_∧some k_≠(u3:Value).ownBlock) (Kd.R_types (Kd.R_apart' (b8.out) (Kd.S_typed a3.out) (by decide)) a2.out (by decide)) (fun k_ hk=>⟨hk.2,hk.1.2⟩))) (fun _ h_=>Or.inl h_)) (Kd.R_mono (Kd.R_tight rfl (Kd.R_mono (ok':=fun k_=>((fun k_=>k_≠a1)) k_∧some k_≠(u3:Value).ownBlock) (Kd.R_types (Kd.R_apart' (b9.out) (Kd.S_typed a3.out) (by decide)) a2.out (by decide)) (fun k_ hk=>⟨hk.2,hk.1.2⟩))) (fun _ h_=>Or.inr (h_))));(case aB=>exact zzh2);(case aF=>exact (fun k_ hk=>Kd.freshB (g:=a1) (o:=.cells #[.int .i64 ((Qb l0 a0).f0),.int .i64 ((Qb l0 a0).f1),.bool ((Qb l0 a0).f2),.slice a4 ((Qb l0 a0).f3).length a5,.bool ((Qb l0 a0).f4),.slice a9 ((Qb l0 a0).f5).length b0] 40 (0,0)) (zzE a2.out) k_ hk));(case aO=>exact (zzS (Kd.S_mono a3.out (fun k_ hk=>⟨hk.1.1.2,fun e_=>e_.elim (fun h_=>hk.1.2 h_) (fun h_=>hk.2 h_)⟩))));(case aS=>exact (zzo zzh2));(case aL=>have:=LMc10.out;omega);intro k6 l1 ho hb hg hat;rw [← Ny288.out] at ho;have a6:=zzm (blk_grown (g:=a1) (o:=.cells #[.int .i64 ((Qb l0 a0).f0),.int .i64 ((Qb l0 a0).f1),.bool ((Qb l0 a0).f2),.slice a4 ((Qb l0 a0).f3).length a5,.bool ((Qb l0 a0).f4),.slice a9 ((Qb l0 a0).f5).length b0] 40 (0,0)) (zzE a2.out) hg (Kd.S_away a3.out (fun _ hk=>hk.1.1.2)));have a7:=zzm (hb);have b7:=zzm (ho);clear a2 HB a3 b8 b9;have a2:=a6;have HB:=a7;have g0:=b7;clear a6 a7 b7 ho hb hg hat));go_roundg k1
         case measure=>have:=HK1.out;omega
         case rel=>exact ⟨(y288),(wrap64 (a0+1)),(by first|rfl|(simp;done)|(simp [*];done)),H',⟨by have:=HK1.out;omega⟩,⟨by (with_reducible repeat (first|apply Kd.S_alloc|apply Kd.S_drewN|apply Kd.S_drew));exact Kd.S_mono g0.out (fun _ hk=>trivial)⟩,⟨zzh3⟩⟩
        ·
         rw [if_neg e0] at H;exact absurd H (by simp)
       ·
        rw [if_neg c8] at H;exact absurd H (by simp)
      ·
       rw [if_neg c7] at H;exact absurd H (by simp)
     ·
      rw [if_neg c6] at H;have g9:decide (a0 < (l0.length:Int))=false:=decide_eq_false c6;clear c6;obtain rfl:=Option.some.inj H;go_wp2;go_ret;exact ⟨_,zzR,by (with_reducible repeat (first|apply Kd.S_alloc|apply Kd.S_drewN|apply Kd.S_drew));exact a3.out,zzh1⟩
  ·
   rw [if_neg c3] at H;exact absurd H (by simp)
 ·
  rw [if_neg c2] at H;exact absurd H (by simp)
def Ra.f (k:Nat) (a0_0:Bool) (a0_1:Bool) (a0_2:Int) (a0_3:Int) (a0_4:Int) (l0_5:List (S40)):Option (Bool×Bool×Int×Int×Int×(List (S40))):=(Qn.f k l0_5).bind fun t293=>(some (a0_0,a0_1,a0_2,a0_3,a0_4,t293))
set_option maxHeartbeats 8000000 in
theorem Ra.calls (k:Nat) (a1:Bool) (a2:Bool) (a4:Int) (a6:Int) (a8:Int) (a9:Option Addr) (b0:Nat) (a5:List (S40)) (r1:Bool) (r2:Bool) (r3:Int) (r4:Int) (r5:Int) (r6:List (S40)) (w:World) (b9:Kd.C k40 w a9 a5.length a5) (c0:a5.length≤b0) (h:Ra.f k a1 a2 a4 a6 a8 a5=some (r1,r2,r3,r4,r5,r6)) :
  Calls Tryd.prog 23 #[.agg #[.bool a1,.bool a2,.int .i64 a4,.int .i64 a6,.int .i64 a8,.slice a9 a5.length b0]] w fun e w'=>∃ c7:Value,e = .returned (.agg #[.bool r1,.bool r2,.int .i64 r3,.int .i64 r4,.int .i64 r5,c7])∧Kd.S k40 40 w' w.heap.size (fun _=>True) c7 r6∧Below w.heap.size w w':=by
 have hu25:=Tryd.underlying25;have c4:=zzm b9;have c5:=zzm c0;clear b9 c0;have HB:=zzm (Below.refl w.heap.size w);have H:((Qn.f k a5).bind fun b2=>(some (a1,a2,a4,a6,a8,b2)))=some (r1,r2,r3,r4,r5,r6):=h;clear h;obtain ⟨b2,A2,H⟩:=zzG H;simp only [Option.some.injEq,Prod.mk.injEq] at H;obtain ⟨rfl,rfl,rfl,rfl,rfl,rfl⟩:=H;go_enter Tryd.func23,Tryd.ntmps23;go_wp2_with (first|((with_reducible refine gate_dst (N:=1) rfl ?_);refine box_event ?hg (N:=1) ?hd (cs:=#[.bool a1,.bool a2,.int .i64 a4,.int .i64 a6,.int .i64 a8,.slice a9 a5.length b0]) (t:=25) ?hr ?_;(case hd=>rfl);(case hg=>rfl);(case hr=>first|(go_simp;done)|(go_simp;rfl));intro a7 hg w3 hbox hb;have b3:=zzm (zzp zzh1 hb);have b4:=zzm (hbox);have b5:=zzm ((by rw [hg];exact (zzo zzh1):w.heap.size≤a7));have b6:=zzm ((by rw [hg];exact (zzo zzh1):w.heap.size≤a7));clear HB;have HB:=b3;have a3:=b4;have h7:=b5;have h8:=b6;clear b3 b4 b5 b6 hb hbox hg)|((with_reducible refine gate_dst (N:=2) rfl ?_);refine box_event ?hg (N:=2) ?hd (cs:=#[.bool false,.bool false,.int .i64 0,.int .i64 0,.int .i64 0,.slice none 0 0]) (t:=25) ?hr ?_;(case hd=>rfl);(case hg=>rfl);(case hr=>first|(go_simp;done)|(go_simp;rfl));intro a0 hg w4 hbox hb;have b3:=zzm (zzh (g:=a7) (o:=.cells #[.bool a1,.bool a2,.int .i64 a4,.int .i64 a6,.int .i64 a8,.slice a9 a5.length b0] 25 (0,0)) (zzE a3.out) hb);have b4:=zzm (zzp zzh2 hb);have b5:=zzm (hbox);have b6:=zzm ((by rw [hg];exact (zzo zzh2):w.heap.size≤a0));have c8:=zzm ((by rw [hg];exact (zzo zzh2):w.heap.size≤a0));have c9:=zzm ((by rw [hg];exact Nat.ne_of_lt (blk_lt (g:=a7) (o:=.cells #[.bool a1,.bool a2,.int .i64 a4,.int .i64 a6,.int .i64 a8,.slice a9 a5.length b0] 25 (0,0)) (zzE a3.out)):a7≠a0));have d0:=zzm ((by rw [hg];exact Nat.ne_of_gt (blk_lt (g:=a7) (o:=.cells #[.bool a1,.bool a2,.int .i64 a4,.int .i64 a6,.int .i64 a8,.slice a9 a5.length b0] 25 (0,0)) (zzE a3.out)):a0≠a7));clear a3 HB;have a3:=b3;have HB:=b4;have b1:=b5;have h9:=b6;have j2:=c8;have b8:=c9;have b7:=d0;clear b3 b4 b5 b6 c8 c9 d0 hb hbox hg;have j3:=b8.out;have j4:=b7.out;obtain ⟨e3,e4,e5,e6,e7,e8,e9,g0,g1,g2,g3,g4⟩:=zzc6 a3.out)|((with_reducible refine gate_callee (f:=24) rfl ?_);refine goesL_ (some 5) rfl rfl Tryd.func24 (by kernel_rfl) rfl #[.slice a9 a5.length b0] rfl zzM2 ?_;(with_reducible refine (Qn.calls k _ _ a5 b2 _ ?side1 ?side2 A2.out).mono ?_);(case side1=>exact zzcb c4 HB);(case side2=>exact c5.out);rintro e w7 ⟨j5,rfl,ho0,hb⟩;refine ⟨_,rfl,?_⟩;have b3:=zzm (Kd.S_lower ho0 (zzo zzh2));have b4:=zzm (zzh (g:=a7) (o:=.cells #[.bool a1,.bool a2,.int .i64 a4,.int .i64 a6,.int .i64 a8,.slice a9 a5.length b0] 25 (0,0)) (zzE a3.out) hb);have b5:=zzm (zzh (g:=a0) (o:=.cells #[.bool false,.bool false,.int .i64 0,.int .i64 0,.int .i64 0,.slice none 0 0] 25 (0,0)) (zzE b1.out) hb);have b6:=zzm (zzp zzh2 hb);clear a3 b1 HB;have c1:=b3;have a3:=b4;have b1:=b5;have HB:=b6;clear b3 b4 b5 b6;(try clear hb);(try clear hb2);(try clear hk);(try clear hi);(try clear ho0);obtain ⟨c2,c3,eo8⟩:=Kd.S_slice c1.out;subst eo8;obtain ⟨g5,g6,g7,g8,g9,h0,h1,h2,h3,h4,h5,h6⟩:=zzc6 a3.out;obtain ⟨d1,d2,d3,d4,d5,d6,d7,d8,d9,e0,e1,e2⟩:=zzc6 b1.out));refine bodyPost_ret (results_cell_row rfl _ _ a0 25 #[.bool a1,.bool a2,.int .i64 a4,.int .i64 a6,.int .i64 a8,.slice c2 b2.length c3] (0,0) _ rfl (by (with_reducible repeat (first|apply zzf|apply zzg|apply zze));refine zzi (cs:=#[.bool a1,.bool a2,.int .i64 a4,.int .i64 a6,.int .i64 a8,.slice none 0 0]) ?_ 5 _ rfl;refine zzi (cs:=#[.bool a1,.bool a2,.int .i64 a4,.int .i64 a6,.int .i64 0,.slice none 0 0]) ?_ 4 _ rfl;refine zzi (cs:=#[.bool a1,.bool a2,.int .i64 a4,.int .i64 0,.int .i64 0,.slice none 0 0]) ?_ 3 _ rfl;refine zzi (cs:=#[.bool a1,.bool a2,.int .i64 0,.int .i64 0,.int .i64 0,.slice none 0 0]) ?_ 2 _ rfl;refine zzi (cs:=#[.bool a1,.bool false,.int .i64 0,.int .i64 0,.int .i64 0,.slice none 0 0]) ?_ 1 _ rfl;refine zzi (cs:=#[.bool false,.bool false,.int .i64 0,.int .i64 0,.int .i64 0,.slice none 0 0]) ?_ 0 _ rfl;(with_reducible repeat (first|apply zzf|apply zzg|apply zze));refine zzj ?_ b7.out _;(with_reducible repeat (first|apply zzf|apply zzg|apply zze));exact b1.out) Tryd.underlying25 rfl (by kernel_rfl)) rfl ?_;exact ⟨_,zzR,by (with_reducible repeat (first|apply Kd.S_alloc|apply Kd.S_drewN|apply Kd.S_drew));exact Kd.S_mono (Kd.S_far (p:=⟨a0,5,none⟩) (Kd.S_far (p:=⟨a0,4,none⟩) (Kd.S_far (p:=⟨a0,3,none⟩) (Kd.S_far (p:=⟨a0,2,none⟩) (Kd.S_far (p:=⟨a0,1,none⟩) (Kd.S_far (p:=⟨a0,0,none⟩) (Kd.S_far (p:=⟨a7,5,none⟩) (Kd.S_types (Kd.S_types c1.out a3.out (by decide)) b1.out (by decide)) (fun _ hk=>hk.1.2) (.slice c2 b2.length c3)) (fun _ hk=>hk.2) (.bool a1)) (fun _ hk=>hk.2) (.bool a2)) (fun _ hk=>hk.2) (.int .i64 a4)) (fun _ hk=>hk.2) (.int .i64 a6)) (fun _ hk=>hk.2) (.int .i64 a8)) (fun _ hk=>hk.2) (.slice c2 b2.length c3)) (fun _ hk=>trivial),zzh3⟩
def errV (p0:Addr) (b:Bool):Value:=if b=true then .iface 82 (.pointer (some p0)) else .nilIface
theorem glob {w w' : World} {a:Addr} {v:Value} (h:w.cell? a=some v) (hb:Below w.heap.size w w'):w'.cell? a=some v:=(hb.cell (zzn w _ h)).trans h
theorem gz {w:World} {v:Value} {g:Nat} (h:w.cell? ⟨0,0,none⟩=some v) (hg:w.heap.size≤g):(0:Nat)≠g:=by
 have h0 : 0 < w.heap.size:=zzn w _ h;omega
def Qg.j0:Nat→Bool→Bool→Bool→Int→Int→Int→List (S40)→Bool→Bool→Int→Int→Int→List (S40)→Option (Bool×Bool×Int×Int×Int×(List (S40))×Bool)
 | 0,_,_,_,_,_,_,_,_,_,_,_,_,_=>none
 | k+1,x31,x297000,x297001,x297002,x297003,x297004,x297005,x298000,x298001,x298002,x298003,x298004,x298005=>if x31=true then (some (false,false,0,0,0,([]:List (S40)),true)) else ((Ra.f k x297000 x297001 x297002 x297003 x297004 x297005).bind fun bt301=>((Qn.f k x298005).bind fun t310=>(if bt301.2.2.2.2.2.length+t310.length < 1759218604441 then ((some (bt301.2.2.2.2.2++t310:List (S40))).bind fun y313=>((Qd.f k bt301.1 bt301.2.1 bt301.2.2.1 bt301.2.2.2.1 bt301.2.2.2.2.1 y313).bind fun t316=>(if t316=true then (some (bt301.1,bt301.2.1,bt301.2.2.1,bt301.2.2.2.1,bt301.2.2.2.2.1,y313,false)) else (some (false,false,0,0,0,([]:List (S40)),true))))) else (none))))
def Qg.f (k:Nat) (a0_0:Bool) (a0_1:Bool) (a0_2:Int) (a0_3:Int) (a0_4:Int) (l0_5:List (S40)) (a1_0:Bool) (a1_1:Bool) (a1_2:Int) (a1_3:Int) (a1_4:Int) (l1_5:List (S40)):Option (Bool×Bool×Int×Int×Int×(List (S40))×Bool):=(Qd.f k a0_0 a0_1 a0_2 a0_3 a0_4 l0_5).bind fun t299=>(if t299=true then ((Qd.f k a1_0 a1_1 a1_2 a1_3 a1_4 l1_5).bind fun t300=>(if t300=true then (if a0_2=255 then (if a1_2=255 then (Qg.j0 k (a0_0 != a1_0) a0_0 a0_1 a0_2 a0_3 a0_4 l0_5 a1_0 a1_1 a1_2 a1_3 a1_4 l1_5) else (Qg.j0 k true a0_0 a0_1 a0_2 a0_3 a0_4 l0_5 a1_0 a1_1 a1_2 a1_3 a1_4 l1_5)) else (Qg.j0 k true a0_0 a0_1 a0_2 a0_3 a0_4 l0_5 a1_0 a1_1 a1_2 a1_3 a1_4 l1_5)) else (Qg.j0 k true a0_0 a0_1 a0_2 a0_3 a0_4 l0_5 a1_0 a1_1 a1_2 a1_3 a1_4 l1_5))) else (Qg.j0 k true a0_0 a0_1 a0_2 a0_3 a0_4 l0_5 a1_0 a1_1 a1_2 a1_3 a1_4 l1_5))
def Qg.T4:Bool×List (List Nat×List Nat):=(true,[([],[]),([0],[0]),([],[]),([2],[2]),([3],[3]),([1,4,4],[1,4]),([0,1,2,3,4,5],[]),([6,5,5,0,1,2,3,4,5],[5,6])])
def Qg.B4:List Nat:=[0,1,0,4,12,31,63,127]
theorem Qg.tab4:rtab .any (opsOf Tryd.f14 4)=Qg.T4:=by kernel_rfl
theorem Qg.bits4:waitsOk Qg.T4.2 Qg.B4=true:=by kernel_rfl
set_option maxHeartbeats 8000000 in
theorem Qg.calls (p0:Addr) (k:Nat) (a9:Bool) (b5:Bool) (b0:Int) (b6:Int) (b7:Int) (d8:Option Addr) (d9:Nat) (a8:List (S40)) (d0:Bool) (d4:Bool) (d1:Int) (d5:Int) (d6:Int) (e5:Option Addr) (e6:Nat) (b8:List (S40)) (r1:Bool) (r2:Bool) (r3:Int) (r4:Int) (r5:Int) (r6:List (S40)) (r7:Bool) (w:World) (l8:Kd.C k40 w d8 a8.length a8) (l9:a8.length≤d9) (m0:Kd.C k40 w e5 b8.length b8) (m1:b8.length≤e6) (hg0:w.cell? ⟨0,0,none⟩=some (errV p0 true)) (h:Qg.f k a9 b5 b0 b6 b7 a8 d0 d4 d1 d5 d6 b8=some (r1,r2,r3,r4,r5,r6,r7)) :
  Calls Tryd.prog 14 #[.agg #[.bool a9,.bool b5,.int .i64 b0,.int .i64 b6,.int .i64 b7,.slice d8 a8.length d9],.agg #[.bool d0,.bool d4,.int .i64 d1,.int .i64 d5,.int .i64 d6,.slice e5 b8.length e6]] w fun e w'=>∃ H0:Value,e = .returned (.tuple #[.agg #[.bool r1,.bool r2,.int .i64 r3,.int .i64 r4,.int .i64 r5,H0],errV p0 r7])∧Kd.N k40 40 w' w.heap.size (fun k_=>(w.heap.size≤k_)) H0 r6∧Below w.heap.size w w':=by
 have HG0:=zzm hg0;clear hg0;have hu25:=Tryd.underlying25;have h5:=zzm l8;have h6:=zzm l9;clear l8 l9;have h9:=zzm m0;have j2:=zzm m1;clear m0 m1;have HB:=zzm (Below.refl w.heap.size w);have H:((Qd.f k a9 b5 b0 b6 b7 a8).bind fun l6=>(if l6=true then ((Qd.f k d0 d4 d1 d5 d6 b8).bind fun l7=>(if l7=true then (if b0=255 then (if d1=255 then (Qg.j0 k (a9 != d0) a9 b5 b0 b6 b7 a8 d0 d4 d1 d5 d6 b8) else (Qg.j0 k true a9 b5 b0 b6 b7 a8 d0 d4 d1 d5 d6 b8)) else (Qg.j0 k true a9 b5 b0 b6 b7 a8 d0 d4 d1 d5 d6 b8)) else (Qg.j0 k true a9 b5 b0 b6 b7 a8 d0 d4 d1 d5 d6 b8))) else (Qg.j0 k true a9 b5 b0 b6 b7 a8 d0 d4 d1 d5 d6 b8)))=some (r1,r2,r3,r4,r5,r6,r7):=h;clear h;have G6:=zzm H;clear H;go_enter Tryd.func14,Tryd.ntmps14;go_upto_region 1 with (first|((with_reducible refine gate_dst (N:=2) rfl ?_);refine box_event ?hg (N:=2) ?hd (cs:=#[.bool a9,.bool b5,.int .i64 b0,.int .i64 b6,.int .i64 b7,.slice d8 a8.length d9]) (t:=25) ?hr ?_;(case hd=>rfl);(case hg=>rfl);(case hr=>first|(go_simp;done)|(go_simp;rfl));intro a7 hg w4 hbox hb;have b1:=zzm (zzp zzh1 hb);have b2:=zzm (hbox);have b3:=zzm ((by rw [hg];exact (zzo zzh1):w.heap.size≤a7));have b4:=zzm ((by rw [hg];exact (zzo zzh1):w.heap.size≤a7));clear HB;have HB:=b1;have a3:=b2;have aAc:=b3;have aAd:=b4;clear b1 b2 b3 b4 hb hbox hg)|((with_reducible refine gate_dst (N:=3) rfl ?_);refine box_event ?hg (N:=3) ?hd (cs:=#[.bool d0,.bool d4,.int .i64 d1,.int .i64 d5,.int .i64 d6,.slice e5 b8.length e6]) (t:=25) ?hr ?_;(case hd=>rfl);(case hg=>rfl);(case hr=>first|(go_simp;done)|(go_simp;rfl));intro a6 hg w5 hbox hb;have b1:=zzm (zzh (g:=a7) (o:=.cells #[.bool a9,.bool b5,.int .i64 b0,.int .i64 b6,.int .i64 b7,.slice d8 a8.length d9] 25 (0,0)) (zzE a3.out) hb);have b2:=zzm (zzp zzh2 hb);have b3:=zzm (hbox);have b4:=zzm ((by rw [hg];exact (zzo zzh2):w.heap.size≤a6));have e9:=zzm ((by rw [hg];exact (zzo zzh2):w.heap.size≤a6));have g0:=zzm ((by rw [hg];exact Nat.ne_of_lt (blk_lt (g:=a7) (o:=.cells #[.bool a9,.bool b5,.int .i64 b0,.int .i64 b6,.int .i64 b7,.slice d8 a8.length d9] 25 (0,0)) (zzE a3.out)):a7≠a6));have g4:=zzm ((by rw [hg];exact Nat.ne_of_gt (blk_lt (g:=a7) (o:=.cells #[.bool a9,.bool b5,.int .i64 b0,.int .i64 b6,.int .i64 b7,.slice d8 a8.length d9] 25 (0,0)) (zzE a3.out)):a6≠a7));clear a3 HB;have a3:=b1;have HB:=b2;have a1:=b3;have aAe:=b4;have aAf:=e9;have h0:=g0;have h1:=g4;clear b1 b2 b3 b4 e9 g0 g4 hb hbox hg)|((with_reducible refine gate_dst (N:=4) rfl ?_);refine box_event ?hg (N:=4) ?hd (cs:=#[.bool false,.bool false,.int .i64 0,.int .i64 0,.int .i64 0,.slice none 0 0]) (t:=25) ?hr ?_;(case hd=>rfl);(case hg=>rfl);(case hr=>first|(go_simp;done)|(go_simp;rfl));intro a5 hg w6 hbox hb;have b1:=zzm (zzh (g:=a7) (o:=.cells #[.bool a9,.bool b5,.int .i64 b0,.int .i64 b6,.int .i64 b7,.slice d8 a8.length d9] 25 (0,0)) (zzE a3.out) hb);have b2:=zzm (zzh (g:=a6) (o:=.cells #[.bool d0,.bool d4,.int .i64 d1,.int .i64 d5,.int .i64 d6,.slice e5 b8.length e6] 25 (0,0)) (zzE a1.out) hb);have b3:=zzm (zzp zzh2 hb);have b4:=zzm (hbox);have e9:=zzm ((by rw [hg];exact (zzo zzh2):w.heap.size≤a5));have g0:=zzm ((by rw [hg];exact (zzo zzh2):w.heap.size≤a5));have g4:=zzm ((by rw [hg];exact Nat.ne_of_lt (blk_lt (g:=a7) (o:=.cells #[.bool a9,.bool b5,.int .i64 b0,.int .i64 b6,.int .i64 b7,.slice d8 a8.length d9] 25 (0,0)) (zzE a3.out)):a7≠a5));have j9:=zzm ((by rw [hg];exact Nat.ne_of_gt (blk_lt (g:=a7) (o:=.cells #[.bool a9,.bool b5,.int .i64 b0,.int .i64 b6,.int .i64 b7,.slice d8 a8.length d9] 25 (0,0)) (zzE a3.out)):a5≠a7));have k0:=zzm ((by rw [hg];exact Nat.ne_of_lt (blk_lt (g:=a6) (o:=.cells #[.bool d0,.bool d4,.int .i64 d1,.int .i64 d5,.int .i64 d6,.slice e5 b8.length e6] 25 (0,0)) (zzE a1.out)):a6≠a5));have k1:=zzm ((by rw [hg];exact Nat.ne_of_gt (blk_lt (g:=a6) (o:=.cells #[.bool d0,.bool d4,.int .i64 d1,.int .i64 d5,.int .i64 d6,.slice e5 b8.length e6] 25 (0,0)) (zzE a1.out)):a5≠a6));clear a3 a1 HB;have a3:=b1;have a1:=b2;have HB:=b3;have a2:=b4;have aAg:=e9;have aAh:=g0;have e1:=g4;have e2:=j9;have e7:=k0;have e8:=k1;clear b1 b2 b3 b4 e9 g0 g4 j9 k0 k1 hb hbox hg))
 (try simp only [Act.put,zzq,zzr,zzs]);go_cut [31] (fun Z0 wc=>∃ (kq:Nat) (k2:Bool),Z0 = .bool k2∧Aside0 (Qg.j0 kq k2 a9 b5 b0 b6 b7 a8 d0 d4 d1 d5 d6 b8=some (r1,r2,r3,r4,r5,r6,r7))∧Aside0 (kq≤k)∧Aside0 (wc.heap[a7]? = some (.cells #[.bool a9,.bool b5,.int .i64 b0,.int .i64 b6,.int .i64 b7,(.slice d8 a8.length d9)] 25 (0,0)))∧Aside0 (wc.heap[a6]? = some (.cells #[.bool d0,.bool d4,.int .i64 d1,.int .i64 d5,.int .i64 d6,(.slice e5 b8.length e6)] 25 (0,0)))∧Aside0 (wc.heap[a5]? = some (.cells #[.bool false,.bool false,.int .i64 0,.int .i64 0,.int .i64 0,(.slice none 0 0)] 25 (0,0)))∧Aside0 (Below w.heap.size w wc))
 case first=>
  have H:=G6.out;clear G6;obtain ⟨l6,A7,H⟩:=zzG H;by_cases c8:l6=true
  ·
   subst c8;replace H:=zzIt H;obtain ⟨l7,A9,H⟩:=zzG H;by_cases l4:l7=true
   ·
    subst l4;replace H:=zzIt H;by_cases l1:b0=255
    ·
     rw [if_pos l1] at H;obtain ⟨j3,m2⟩:=zzQ l1;clear l1
     (first|rw [j3]|(simp only [i64_w,i32_w];rw [j3])|skip);by_cases l2:d1=255
     ·
      rw [if_pos l2] at H;obtain ⟨m3,m4⟩:=zzQ l2;clear l2;have H':=zzm H;clear H;have aAi:=h0.out;have aAj:=h1.out;have aAk:=e1.out;have aAl:=e2.out;obtain ⟨m8,m9,n0,n1,n2,n3,n4,n5,n6,n7,n8,n9⟩:=zzc6 a3.out;go_wp2_with (first|((with_reducible refine gate_callee (f:=9) rfl ?_);refine goesL_ (some 8) rfl rfl Tryd.func9 (by kernel_rfl) rfl #[.agg #[.bool a9,.bool b5,.int .i64 b0,.int .i64 b6,.int .i64 b7,.slice d8 a8.length d9]] rfl zzM2 ?_;(with_reducible refine (Qd.calls k a9 b5 b0 b6 b7 _ _ a8 true _ ?side1 ?side2 A7.out).mono ?_);(case side1=>exact zzcb h5 HB);(case side2=>exact h6.out);rintro e aDf ⟨rfl,hb⟩;refine ⟨_,rfl,?_⟩;have b1:=zzm (zzh (g:=a7) (o:=.cells #[.bool a9,.bool b5,.int .i64 b0,.int .i64 b6,.int .i64 b7,.slice d8 a8.length d9] 25 (0,0)) (zzE a3.out) hb);have b2:=zzm (zzh (g:=a6) (o:=.cells #[.bool d0,.bool d4,.int .i64 d1,.int .i64 d5,.int .i64 d6,.slice e5 b8.length e6] 25 (0,0)) (zzE a1.out) hb);have b3:=zzm (zzh (g:=a5) (o:=.cells #[.bool false,.bool false,.int .i64 0,.int .i64 0,.int .i64 0,.slice none 0 0] 25 (0,0)) (zzE a2.out) hb);have b4:=zzm (zzp zzh2 hb);clear a3 a1 a2 HB;have a3:=b1;have a1:=b2;have a2:=b3;have HB:=b4;clear b1 b2 b3 b4;(try clear hb);(try clear hb2);(try clear hk);(try clear hi);have aAm:=e7.out;have aAn:=e8.out;obtain ⟨o0,o1,o2,o3,o4,o5,o6,o7,o8,o9,p1,p3⟩:=zzc6 a1.out)|(go_at_call 9;(with_reducible refine (Qd.calls k d0 d4 d1 d5 d6 _ _ b8 true _ ?side1 ?side2 A9.out).mono ?_);(case side1=>exact zzcb h9 HB);(case side2=>exact j2.out);rintro e aDg ⟨rfl,hb⟩;have b1:=zzm (zzh (g:=a7) (o:=.cells #[.bool a9,.bool b5,.int .i64 b0,.int .i64 b6,.int .i64 b7,.slice d8 a8.length d9] 25 (0,0)) (zzE a3.out) hb);have b2:=zzm (zzh (g:=a6) (o:=.cells #[.bool d0,.bool d4,.int .i64 d1,.int .i64 d5,.int .i64 d6,.slice e5 b8.length e6] 25 (0,0)) (zzE a1.out) hb);have b3:=zzm (zzh (g:=a5) (o:=.cells #[.bool false,.bool false,.int .i64 0,.int .i64 0,.int .i64 0,.slice none 0 0] 25 (0,0)) (zzE a2.out) hb);have b4:=zzm (zzp zzh2 hb);clear a3 a1 a2 HB;have a3:=b1;have a1:=b2;have a2:=b3;have HB:=b4;clear b1 b2 b3 b4;(try clear hb);(try clear hb2);(try clear hk);(try clear hi);obtain ⟨p4,p5,p6,p7,p8,p9,q0,q1,q2,q3,q4,q5⟩:=zzc6 a3.out;obtain ⟨q6,q7,q8,q9,r0,r8,r9,s0,s1,s2,s3,s4⟩:=zzc6 a1.out));go_meet
      case rel=>exact ⟨_,((a9 != d0)),(by first|rfl|(simp;done)|(simp [*];done)),H',⟨by first|omega|exact Nat.le_refl _⟩,⟨zzE a3.out⟩,⟨zzE a1.out⟩,⟨zzE a2.out⟩,⟨zzh3⟩⟩
     ·
      rw [if_neg l2] at H;obtain ⟨m3,m4⟩:=zzY l2;have H':=zzm H;clear H;have aAo:=h0.out;have aAp:=h1.out;have aAq:=e1.out;have aAr:=e2.out;obtain ⟨s5,s6,s7,s8,s9,t0,t1,t2,t3,t4,t5,t6⟩:=zzc6 a3.out;go_wp2_with (first|((with_reducible refine gate_callee (f:=9) rfl ?_);refine goesL_ (some 8) rfl rfl Tryd.func9 (by kernel_rfl) rfl #[.agg #[.bool a9,.bool b5,.int .i64 b0,.int .i64 b6,.int .i64 b7,.slice d8 a8.length d9]] rfl zzM2 ?_;(with_reducible refine (Qd.calls k a9 b5 b0 b6 b7 _ _ a8 true _ ?side1 ?side2 A7.out).mono ?_);(case side1=>exact zzcb h5 HB);(case side2=>exact h6.out);rintro e aDh ⟨rfl,hb⟩;refine ⟨_,rfl,?_⟩;have b1:=zzm (zzh (g:=a7) (o:=.cells #[.bool a9,.bool b5,.int .i64 b0,.int .i64 b6,.int .i64 b7,.slice d8 a8.length d9] 25 (0,0)) (zzE a3.out) hb);have b2:=zzm (zzh (g:=a6) (o:=.cells #[.bool d0,.bool d4,.int .i64 d1,.int .i64 d5,.int .i64 d6,.slice e5 b8.length e6] 25 (0,0)) (zzE a1.out) hb);have b3:=zzm (zzh (g:=a5) (o:=.cells #[.bool false,.bool false,.int .i64 0,.int .i64 0,.int .i64 0,.slice none 0 0] 25 (0,0)) (zzE a2.out) hb);have b4:=zzm (zzp zzh2 hb);clear a3 a1 a2 HB;have a3:=b1;have a1:=b2;have a2:=b3;have HB:=b4;clear b1 b2 b3 b4;(try clear hb);(try clear hb2);(try clear hk);(try clear hi);have aAs:=e7.out;have aAt:=e8.out;obtain ⟨t7,t8,t9,v0,v1,v2,v3,v4,v5,v6,v7,v8⟩:=zzc6 a1.out)|(go_at_call 9;(with_reducible refine (Qd.calls k d0 d4 d1 d5 d6 _ _ b8 true _ ?side1 ?side2 A9.out).mono ?_);(case side1=>exact zzcb h9 HB);(case side2=>exact j2.out);rintro e aDi ⟨rfl,hb⟩;have b1:=zzm (zzh (g:=a7) (o:=.cells #[.bool a9,.bool b5,.int .i64 b0,.int .i64 b6,.int .i64 b7,.slice d8 a8.length d9] 25 (0,0)) (zzE a3.out) hb);have b2:=zzm (zzh (g:=a6) (o:=.cells #[.bool d0,.bool d4,.int .i64 d1,.int .i64 d5,.int .i64 d6,.slice e5 b8.length e6] 25 (0,0)) (zzE a1.out) hb);have b3:=zzm (zzh (g:=a5) (o:=.cells #[.bool false,.bool false,.int .i64 0,.int .i64 0,.int .i64 0,.slice none 0 0] 25 (0,0)) (zzE a2.out) hb);have b4:=zzm (zzp zzh2 hb);clear a3 a1 a2 HB;have a3:=b1;have a1:=b2;have a2:=b3;have HB:=b4;clear b1 b2 b3 b4;(try clear hb);(try clear hb2);(try clear hk);(try clear hi);obtain ⟨v9,w2,w3,w7,w8,w9,x0,x1,x2,x3,x4,x5⟩:=zzc6 a3.out;obtain ⟨x6,x7,x8,x9,y0,y1,y2,y3,y4,y5,y6,y7⟩:=zzc6 a1.out));go_meet
      case rel=>exact ⟨_,(true),(by first|rfl|(simp;done)|(simp [*];done)),H',⟨by first|omega|exact Nat.le_refl _⟩,⟨zzE a3.out⟩,⟨zzE a1.out⟩,⟨zzE a2.out⟩,⟨zzh3⟩⟩
    ·
     rw [if_neg l1] at H;obtain ⟨j3,m2⟩:=zzY l1
     (first|rw [j3]|(simp only [i64_w,i32_w];rw [j3])|skip);have H':=zzm H;clear H;have aAu:=h0.out;have aAv:=h1.out;have aAw:=e1.out;have aAx:=e2.out;obtain ⟨y8,y9,z0,z1,z2,z3,z4,z5,z6,z7,z8,z9⟩:=zzc6 a3.out;go_wp2_with (first|((with_reducible refine gate_callee (f:=9) rfl ?_);refine goesL_ (some 8) rfl rfl Tryd.func9 (by kernel_rfl) rfl #[.agg #[.bool a9,.bool b5,.int .i64 b0,.int .i64 b6,.int .i64 b7,.slice d8 a8.length d9]] rfl zzM2 ?_;(with_reducible refine (Qd.calls k a9 b5 b0 b6 b7 _ _ a8 true _ ?side1 ?side2 A7.out).mono ?_);(case side1=>exact zzcb h5 HB);(case side2=>exact h6.out);rintro e aDj ⟨rfl,hb⟩;refine ⟨_,rfl,?_⟩;have b1:=zzm (zzh (g:=a7) (o:=.cells #[.bool a9,.bool b5,.int .i64 b0,.int .i64 b6,.int .i64 b7,.slice d8 a8.length d9] 25 (0,0)) (zzE a3.out) hb);have b2:=zzm (zzh (g:=a6) (o:=.cells #[.bool d0,.bool d4,.int .i64 d1,.int .i64 d5,.int .i64 d6,.slice e5 b8.length e6] 25 (0,0)) (zzE a1.out) hb);have b3:=zzm (zzh (g:=a5) (o:=.cells #[.bool false,.bool false,.int .i64 0,.int .i64 0,.int .i64 0,.slice none 0 0] 25 (0,0)) (zzE a2.out) hb);have b4:=zzm (zzp zzh2 hb);clear a3 a1 a2 HB;have a3:=b1;have a1:=b2;have a2:=b3;have HB:=b4;clear b1 b2 b3 b4;(try clear hb);(try clear hb2);(try clear hk);(try clear hi);have aAy:=e7.out;have aAz:=e8.out;obtain ⟨A0,A1,A2,A3,A4,A5,A6,A8,B0,B1,B2,B7⟩:=zzc6 a1.out)|(go_at_call 9;(with_reducible refine (Qd.calls k d0 d4 d1 d5 d6 _ _ b8 true _ ?side1 ?side2 A9.out).mono ?_);(case side1=>exact zzcb h9 HB);(case side2=>exact j2.out);rintro e aDk ⟨rfl,hb⟩;have b1:=zzm (zzh (g:=a7) (o:=.cells #[.bool a9,.bool b5,.int .i64 b0,.int .i64 b6,.int .i64 b7,.slice d8 a8.length d9] 25 (0,0)) (zzE a3.out) hb);have b2:=zzm (zzh (g:=a6) (o:=.cells #[.bool d0,.bool d4,.int .i64 d1,.int .i64 d5,.int .i64 d6,.slice e5 b8.length e6] 25 (0,0)) (zzE a1.out) hb);have b3:=zzm (zzh (g:=a5) (o:=.cells #[.bool false,.bool false,.int .i64 0,.int .i64 0,.int .i64 0,.slice none 0 0] 25 (0,0)) (zzE a2.out) hb);have b4:=zzm (zzp zzh2 hb);clear a3 a1 a2 HB;have a3:=b1;have a1:=b2;have a2:=b3;have HB:=b4;clear b1 b2 b3 b4;(try clear hb);(try clear hb2);(try clear hk);(try clear hi);obtain ⟨B8,B9,C0,C1,C2,C3,C4,C5,C6,C7,C8,C9⟩:=zzc6 a3.out));go_meet
     case rel=>exact ⟨_,(true),(by first|rfl|(simp;done)|(simp [*];done)),H',⟨by first|omega|exact Nat.le_refl _⟩,⟨zzE a3.out⟩,⟨zzE a1.out⟩,⟨zzE a2.out⟩,⟨zzh3⟩⟩
   ·
    replace l4:=Bool.eq_false_iff.mpr l4;subst l4;replace H:=zzIf H;have H':=zzm H;clear H;have aBa:=h0.out;have aBb:=h1.out;have aBc:=e1.out;have aBd:=e2.out;obtain ⟨D0,D1,D2,D3,D4,D5,D6,D7,D8,D9,E0,E1⟩:=zzc6 a3.out;go_wp2_with (first|((with_reducible refine gate_callee (f:=9) rfl ?_);refine goesL_ (some 8) rfl rfl Tryd.func9 (by kernel_rfl) rfl #[.agg #[.bool a9,.bool b5,.int .i64 b0,.int .i64 b6,.int .i64 b7,.slice d8 a8.length d9]] rfl zzM2 ?_;(with_reducible refine (Qd.calls k a9 b5 b0 b6 b7 _ _ a8 true _ ?side1 ?side2 A7.out).mono ?_);(case side1=>exact zzcb h5 HB);(case side2=>exact h6.out);rintro e aDl ⟨rfl,hb⟩;refine ⟨_,rfl,?_⟩;have b1:=zzm (zzh (g:=a7) (o:=.cells #[.bool a9,.bool b5,.int .i64 b0,.int .i64 b6,.int .i64 b7,.slice d8 a8.length d9] 25 (0,0)) (zzE a3.out) hb);have b2:=zzm (zzh (g:=a6) (o:=.cells #[.bool d0,.bool d4,.int .i64 d1,.int .i64 d5,.int .i64 d6,.slice e5 b8.length e6] 25 (0,0)) (zzE a1.out) hb);have b3:=zzm (zzh (g:=a5) (o:=.cells #[.bool false,.bool false,.int .i64 0,.int .i64 0,.int .i64 0,.slice none 0 0] 25 (0,0)) (zzE a2.out) hb);have b4:=zzm (zzp zzh2 hb);clear a3 a1 a2 HB;have a3:=b1;have a1:=b2;have a2:=b3;have HB:=b4;clear b1 b2 b3 b4;(try clear hb);(try clear hb2);(try clear hk);(try clear hi);have aBe:=e7.out;have aBf:=e8.out;obtain ⟨E2,E3,E4,E5,E6,E7,E8,E9,F0,F1,F2,F3⟩:=zzc6 a1.out)|(go_at_call 9;(with_reducible refine (Qd.calls k d0 d4 d1 d5 d6 _ _ b8 false _ ?side1 ?side2 A9.out).mono ?_);(case side1=>exact zzcb h9 HB);(case side2=>exact j2.out);rintro e aDm ⟨rfl,hb⟩;have b1:=zzm (zzh (g:=a7) (o:=.cells #[.bool a9,.bool b5,.int .i64 b0,.int .i64 b6,.int .i64 b7,.slice d8 a8.length d9] 25 (0,0)) (zzE a3.out) hb);have b2:=zzm (zzh (g:=a6) (o:=.cells #[.bool d0,.bool d4,.int .i64 d1,.int .i64 d5,.int .i64 d6,.slice e5 b8.length e6] 25 (0,0)) (zzE a1.out) hb);have b3:=zzm (zzh (g:=a5) (o:=.cells #[.bool false,.bool false,.int .i64 0,.int .i64 0,.int .i64 0,.slice none 0 0] 25 (0,0)) (zzE a2.out) hb);have b4:=zzm (zzp zzh2 hb);clear a3 a1 a2 HB;have a3:=b1;have a1:=b2;have a2:=b3;have HB:=b4;clear b1 b2 b3 b4;(try clear hb);(try clear hb2);(try clear hk);(try clear hi)));go_meet
    case rel=>exact ⟨_,(true),(by first|rfl|(simp;done)|(simp [*];done)),H',⟨by first|omega|exact Nat.le_refl _⟩,⟨zzE a3.out⟩,⟨zzE a1.out⟩,⟨zzE a2.out⟩,⟨zzh3⟩⟩
  ·
   replace c8:=Bool.eq_false_iff.mpr c8;subst c8;replace H:=zzIf H;have H':=zzm H;clear H;have aBg:=h0.out;have aBh:=h1.out;have aBi:=e1.out;have aBj:=e2.out;obtain ⟨F4,F5,F6,F7,F8,F9,G0,G1,G2,G3,G4,G5⟩:=zzc6 a3.out;go_wp2_with (first|((with_reducible refine gate_callee (f:=9) rfl ?_);refine goesL_ (some 8) rfl rfl Tryd.func9 (by kernel_rfl) rfl #[.agg #[.bool a9,.bool b5,.int .i64 b0,.int .i64 b6,.int .i64 b7,.slice d8 a8.length d9]] rfl zzM2 ?_;(with_reducible refine (Qd.calls k a9 b5 b0 b6 b7 _ _ a8 false _ ?side1 ?side2 A7.out).mono ?_);(case side1=>exact zzcb h5 HB);(case side2=>exact h6.out);rintro e aDn ⟨rfl,hb⟩;refine ⟨_,rfl,?_⟩;have b1:=zzm (zzh (g:=a7) (o:=.cells #[.bool a9,.bool b5,.int .i64 b0,.int .i64 b6,.int .i64 b7,.slice d8 a8.length d9] 25 (0,0)) (zzE a3.out) hb);have b2:=zzm (zzh (g:=a6) (o:=.cells #[.bool d0,.bool d4,.int .i64 d1,.int .i64 d5,.int .i64 d6,.slice e5 b8.length e6] 25 (0,0)) (zzE a1.out) hb);have b3:=zzm (zzh (g:=a5) (o:=.cells #[.bool false,.bool false,.int .i64 0,.int .i64 0,.int .i64 0,.slice none 0 0] 25 (0,0)) (zzE a2.out) hb);have b4:=zzm (zzp zzh2 hb);clear a3 a1 a2 HB;have a3:=b1;have a1:=b2;have a2:=b3;have HB:=b4;clear b1 b2 b3 b4;(try clear hb);(try clear hb2);(try clear hk);(try clear hi)));go_meet
   case rel=>exact ⟨_,(true),(by first|rfl|(simp;done)|(simp [*];done)),H',⟨by first|omega|exact Nat.le_refl _⟩,⟨zzE a3.out⟩,⟨zzE a1.out⟩,⟨zzE a2.out⟩,⟨zzh3⟩⟩
 case rest=>
  clear G6;try clear c1
  try clear c2
  try clear p2
  try clear c3
  try clear c4
  try clear c8
  try clear c9
  try clear l4
  try clear l1
  try clear j3
  try clear m2
  try clear l2
  try clear m3
  try clear m4
  try clear aDo
  try clear aDp
  try clear aDq
  try clear aDr
  try clear aDs
  try clear aDt
  try clear aDu
  try clear aDv
  try clear aDw
  try clear aDx
  try clear aDy
  try clear aDz
  try clear aEa
  try clear aEb
  try clear m8
  try clear m9
  try clear n0
  try clear n1
  try clear n2
  try clear n3
  try clear o0
  try clear o1
  try clear o2
  try clear o3
  try clear o4
  try clear o5
  try clear p4
  try clear p5
  try clear p6
  try clear p7
  try clear p8
  try clear p9
  try clear q6
  try clear q7
  try clear q8
  try clear q9
  try clear r0
  try clear r8
  try clear s5
  try clear s6
  try clear s7
  try clear s8
  try clear s9
  try clear t0
  try clear t7
  try clear t8
  try clear t9
  try clear v0
  try clear v1
  try clear v2
  try clear v9
  try clear w2
  try clear w3
  try clear w7
  try clear w8
  try clear w9
  try clear x6
  try clear x7
  try clear x8
  try clear x9
  try clear y0
  try clear y1
  try clear y8
  try clear y9
  try clear z0
  try clear z1
  try clear z2
  try clear z3
  try clear A0
  try clear A1
  try clear A2
  try clear A3
  try clear A4
  try clear A5
  try clear B8
  try clear B9
  try clear C0
  try clear C1
  try clear C2
  try clear C3
  try clear D0
  try clear D1
  try clear D2
  try clear D3
  try clear D4
  try clear D5
  try clear E2
  try clear E3
  try clear E4
  try clear E5
  try clear E6
  try clear E7
  try clear F4
  try clear F5
  try clear F6
  try clear F7
  try clear F8
  try clear F9
  try clear n4
  try clear n5
  try clear n6
  try clear n7
  try clear n8
  try clear n9
  try clear o6
  try clear o7
  try clear o8
  try clear o9
  try clear p1
  try clear p3
  try clear q0
  try clear q1
  try clear q2
  try clear q3
  try clear q4
  try clear q5
  try clear r9
  try clear s0
  try clear s1
  try clear s2
  try clear s3
  try clear s4
  try clear t1
  try clear t2
  try clear t3
  try clear t4
  try clear t5
  try clear t6
  try clear v3
  try clear v4
  try clear v5
  try clear v6
  try clear v7
  try clear v8
  try clear x0
  try clear x1
  try clear x2
  try clear x3
  try clear x4
  try clear x5
  try clear y2
  try clear y3
  try clear y4
  try clear y5
  try clear y6
  try clear y7
  try clear z4
  try clear z5
  try clear z6
  try clear z7
  try clear z8
  try clear z9
  try clear A6
  try clear A8
  try clear B0
  try clear B1
  try clear B2
  try clear B7
  try clear C4
  try clear C5
  try clear C6
  try clear C7
  try clear C8
  try clear C9
  try clear D6
  try clear D7
  try clear D8
  try clear D9
  try clear E0
  try clear E1
  try clear E8
  try clear E9
  try clear F0
  try clear F1
  try clear F2
  try clear F3
  try clear G0
  try clear G1
  try clear G2
  try clear G3
  try clear G4
  try clear G5
  obtain ⟨kq,k2,rfl,HA,HJ2,a3,a1,a2,HB⟩:=hcut;cases kq with
  | zero=>exact absurd HA.out (by simp [Qg.j0])
  | succ j6=>
   have H:=HA.out;clear HA;simp only [Qg.j0] at H;by_cases m5:k2=true
   ·
    subst m5;replace H:=zzIt H;simp only [Option.some.injEq,Prod.mk.injEq] at H;obtain ⟨rfl,rfl,rfl,rfl,rfl,rfl,rfl⟩:=H;try go_wp2
    have b1:=zzm (zzg a3.out);have b2:=zzm (zzg a1.out);have b3:=zzm (zzg a2.out);have b4:=zzm (zzc HB.out);clear a3 a1 a2 HB;have a3:=b1;have a1:=b2;have a2:=b3;have HB:=b4;clear b1 b2 b3 b4;refine start_ (n:=4) (S:=fun w'=>w'.cell? ⟨0,0,none⟩=some (errV p0 true)) (ds:=[]) #[false,false,false,false] (by kernel_rfl) rfl rfl (glob HG0.out zzh1) (fun g3=>?_);generalize wc.drew=l3 at a3 a1 a2 HB g3 ⊢;refine pure_ (i:=0) (N:=some 32) (v:=?_) (a':=?_) #[true,false,false,false] rfl rfl (by kernel_rfl) (fun _ _ _ h=>h) (Or.inl ⟨by rfl,?_⟩) ?_ ?_;rotate_left
    ·
     intro w';go_simp;with_reducible rfl
    rotate_left
    ·
     simp only [zzJ];rfl
    refine take_ (i:=1) (N:=some 33) (v:=?_) (a':=?_) #[true,true,false,false] rfl rfl (by kernel_rfl) (fun _ _ _ h=>h) (Or.inl ⟨by rfl,?_⟩) g3 ?_ ?_;rotate_left
    ·
     intro w' hs_;go_simp;with_reducible rfl
    rotate_left
    ·
     simp only [zzJ];rfl
    refine one_ (i:=2) (N:=none) #[true,true,true,false] rfl rfl (by kernel_rfl) (by decide) (fun K hK=>?_);have aCu:l3.cell? ⟨a5,0,none⟩=some (.bool false):=(zzk a2.out 0).trans rfl;have aBk:=zzl a2.out 0;have N2:=e1.out;have N3:=e7.out;have N4:=e2.out;have N5:=e8.out;have aCv:l3.cell? ⟨a5,1,none⟩=some (.bool false):=(zzk a2.out 1).trans rfl;have aBl:=zzl a2.out 1;have N6:=e1.out;have N7:=e7.out;have N8:=e2.out;have N9:=e8.out;have aCw:l3.cell? ⟨a5,2,none⟩=some (.int .i64 0):=(zzk a2.out 2).trans rfl;have aBm:=zzl a2.out 2;have O0:=e1.out;have O1:=e7.out;have O2:=e2.out;have O3:=e8.out;have aCx:l3.cell? ⟨a5,3,none⟩=some (.int .i64 0):=(zzk a2.out 3).trans rfl;have aBn:=zzl a2.out 3;have O4:=e1.out;have O5:=e7.out;have O6:=e2.out;have O7:=e8.out;have aCy:l3.cell? ⟨a5,4,none⟩=some (.int .i64 0):=(zzk a2.out 4).trans rfl;have aBo:=zzl a2.out 4;have O8:=e1.out;have O9:=e7.out;have P0:=e2.out;have P1:=e8.out;have aCz:l3.cell? ⟨a5,5,none⟩=some (.slice none 0 0):=(zzk a2.out 5).trans rfl;have aBp:=zzl a2.out 5;have P2:=e1.out;have P3:=e7.out;have P4:=e2.out;have P5:=e8.out;refine skip_ (w1:=?_) (by rfl) rfl ?_ ?_;rotate_left
    ·
     go_simp;rfl
    refine hK.out _ _ (glob HG0.out zzh2) (fun g3=>?_);clear hK K;refine pure_ (i:=3) (N:=some 5) (v:=?_) (a':=?_) #[true,true,true,true] rfl rfl (by kernel_rfl) (fun _ _ _ h=>h) (Or.inl ⟨by rfl,?_⟩) ?_ ?_;rotate_left
    ·
     intro w';go_simp;with_reducible rfl
    rotate_left
    ·
     simp only [zzJ];rfl
    refine done_ (by kernel_rfl) ?_;try go_wp2
    refine bodyPost_ret (results_ct rfl _ _ a5 25 #[.bool false,.bool false,.int .i64 0,.int .i64 0,.int .i64 0,.slice none 0 0] (0,0) _ rfl (by (with_reducible repeat (first|apply zzf|apply zzg|apply zze));refine zzi (cs:=#[.bool false,.bool false,.int .i64 0,.int .i64 0,.int .i64 0,.slice none 0 0]) ?_ 5 _ rfl;refine zzi (cs:=#[.bool false,.bool false,.int .i64 0,.int .i64 0,.int .i64 0,.slice none 0 0]) ?_ 4 _ rfl;refine zzi (cs:=#[.bool false,.bool false,.int .i64 0,.int .i64 0,.int .i64 0,.slice none 0 0]) ?_ 3 _ rfl;refine zzi (cs:=#[.bool false,.bool false,.int .i64 0,.int .i64 0,.int .i64 0,.slice none 0 0]) ?_ 2 _ rfl;refine zzi (cs:=#[.bool false,.bool false,.int .i64 0,.int .i64 0,.int .i64 0,.slice none 0 0]) ?_ 1 _ rfl;refine zzi (cs:=#[.bool false,.bool false,.int .i64 0,.int .i64 0,.int .i64 0,.slice none 0 0]) ?_ 0 _ rfl;(with_reducible repeat (first|apply zzf|apply zzg|apply zze));exact a2.out) Tryd.underlying25 rfl (by kernel_rfl)) rfl ?_;exact ⟨_,zzR,by first|exact Kd.S_nil _ _ _ _ _|exact Kd.N_nil _ _ _ _ _|exact Kd.V_nil _ _ _ _ _|exact Kd.Q_nil _ _ _ _ _|exact Kd.R_nil _ _ _ _ _,zzh3⟩
   ·
    replace m5:=Bool.eq_false_iff.mpr m5;subst m5;replace H:=zzIf H;replace H:=zzH H;obtain ⟨⟨b9,c5,d2,d7,e0,d3⟩,G7,H⟩:=H;replace H:((Qn.f j6 b8).bind fun h7=>(if d3.length+h7.length < 1759218604441 then ((some (d3++h7:List (S40))).bind fun y313=>((Qd.f j6 b9 c5 d2 d7 e0 y313).bind fun k3=>(if k3=true then (some (b9,c5,d2,d7,e0,y313,false)) else (some (false,false,0,0,0,([]:List (S40)),true))))) else (none)))=some (r1,r2,r3,r4,r5,r6,r7):=H;have H1:=zzm G7;clear G7;obtain ⟨h7,H2,H⟩:=zzG H;by_cases m6:d3.length+h7.length < 1759218604441
    ·
     rw [if_pos m6] at H;have LMc60:=zzm m6;clear m6;obtain ⟨y313,hy313⟩:∃ y_:List (S40),y_=(d3++h7):=⟨_,rfl⟩;replace H:((Qd.f j6 b9 c5 d2 d7 e0 y313).bind fun k3=>(if k3=true then (some (b9,c5,d2,d7,e0,y313,false)) else (some (false,false,0,0,0,([]:List (S40)),true))))=some (r1,r2,r3,r4,r5,r6,r7):=by first|(rw [hy313];with_reducible exact H)|(have H2_:=(Option.bind_some _ _).symm.trans H;rw [hy313];with_reducible exact H2_)|(have H2_:=(Option.bind_some _ _).symm.trans H;with_reducible exact H2_)|with_reducible exact H|(rw [hy313];exact H)|exact H
     have Ny313:=zzm hy313;clear hy313;obtain ⟨k3,H3,H⟩:=zzG H;by_cases m7:k3=true
     ·
      subst m7;replace H:=zzIt H;simp only [Option.some.injEq,Prod.mk.injEq] at H;obtain ⟨rfl,rfl,rfl,rfl,rfl,rfl,rfl⟩:=H;have aBq:=h0.out;have aBr:=h1.out;have aBs:=e1.out;have aBt:=e2.out;obtain ⟨P6,P7,P8,P9,Q0,Q1,Q2,Q3,Q4,Q5,Q6,Q7⟩:=zzc6 a3.out;try go_wp2_with (first|((with_reducible refine gate_callee (f:=23) rfl ?_);refine goesL_ (some 35) rfl rfl Tryd.func23 (by kernel_rfl) rfl #[.agg #[.bool a9,.bool b5,.int .i64 b0,.int .i64 b6,.int .i64 b7,.slice d8 a8.length d9]] rfl zzM2 ?_;(with_reducible refine (Ra.calls j6 a9 b5 b0 b6 b7 _ _ a8 b9 c5 d2 d7 e0 d3 _ ?side1 ?side2 H1.out).mono ?_);(case side1=>exact zzcb h5 HB);(case side2=>exact h6.out);rintro e aEc ⟨H4,rfl,ho0,hb⟩;refine ⟨_,rfl,?_⟩;have b1:=zzm (Kd.N_lower (Kd.N_mono (ok':=fun k_=>(w.heap.size≤k_)∧k_≠a7∧k_≠a6∧k_≠a5) (Kd.S_N (Kd.S_bound ho0)) (fun k_ hk_=>⟨(Nat.le_trans (zzo zzh2) hk_.2.1),(Kd.freshB (g:=a7) (o:=.cells #[.bool a9,.bool b5,.int .i64 b0,.int .i64 b6,.int .i64 b7,.slice d8 a8.length d9] 25 (0,0)) (zzE a3.out) k_ hk_.2.1),(Kd.freshB (g:=a6) (o:=.cells #[.bool d0,.bool d4,.int .i64 d1,.int .i64 d5,.int .i64 d6,.slice e5 b8.length e6] 25 (0,0)) (zzE a1.out) k_ hk_.2.1),(Kd.freshB (g:=a5) (o:=.cells #[.bool false,.bool false,.int .i64 0,.int .i64 0,.int .i64 0,.slice none 0 0] 25 (0,0)) (zzE a2.out) k_ hk_.2.1)⟩)) (zzo zzh2));have b2:=zzm (zzh (g:=a7) (o:=.cells #[.bool a9,.bool b5,.int .i64 b0,.int .i64 b6,.int .i64 b7,.slice d8 a8.length d9] 25 (0,0)) (zzE a3.out) hb);have b3:=zzm (zzh (g:=a6) (o:=.cells #[.bool d0,.bool d4,.int .i64 d1,.int .i64 d5,.int .i64 d6,.slice e5 b8.length e6] 25 (0,0)) (zzE a1.out) hb);have b4:=zzm (zzh (g:=a5) (o:=.cells #[.bool false,.bool false,.int .i64 0,.int .i64 0,.int .i64 0,.slice none 0 0] 25 (0,0)) (zzE a2.out) hb);have e9:=zzm (zzp zzh2 hb);clear a3 a1 a2 HB;have c7:=b1;have a3:=b2;have a1:=b3;have a2:=b4;have HB:=e9;clear b1 b2 b3 b4 e9;(try clear hb);(try clear hb2);(try clear hk);(try clear hi);(try clear ho0))|((with_reducible refine gate_dst (N:=6) rfl ?_);refine box_event ?hg (N:=6) ?hd (cs:=#[.bool false,.bool false,.int .i64 0,.int .i64 0,.int .i64 0,.slice none 0 0]) (t:=25) ?hr ?_;(case hd=>rfl);(case hg=>rfl);(case hr=>first|(go_simp;done)|(go_simp;rfl));intro a0 hg k4 hbox hb;have b1:=zzm (Kd.N_below (Kd.N_elderB (zzN c7.out) a0 (Nat.le_of_eq hg.symm)) hb);have b2:=zzm (zzh (g:=a7) (o:=.cells #[.bool a9,.bool b5,.int .i64 b0,.int .i64 b6,.int .i64 b7,.slice d8 a8.length d9] 25 (0,0)) (zzE a3.out) hb);have b3:=zzm (zzh (g:=a6) (o:=.cells #[.bool d0,.bool d4,.int .i64 d1,.int .i64 d5,.int .i64 d6,.slice e5 b8.length e6] 25 (0,0)) (zzE a1.out) hb);have b4:=zzm (zzh (g:=a5) (o:=.cells #[.bool false,.bool false,.int .i64 0,.int .i64 0,.int .i64 0,.slice none 0 0] 25 (0,0)) (zzE a2.out) hb);have e9:=zzm (zzp zzh2 hb);have g0:=zzm (hbox);have g4:=zzm ((by rw [hg];exact (zzo zzh2):w.heap.size≤a0));have j9:=zzm ((by rw [hg];exact (zzo zzh2):w.heap.size≤a0));have k0:=zzm ((by rw [hg];exact Nat.ne_of_lt (blk_lt (g:=a7) (o:=.cells #[.bool a9,.bool b5,.int .i64 b0,.int .i64 b6,.int .i64 b7,.slice d8 a8.length d9] 25 (0,0)) (zzE a3.out)):a7≠a0));have k1:=zzm ((by rw [hg];exact Nat.ne_of_gt (blk_lt (g:=a7) (o:=.cells #[.bool a9,.bool b5,.int .i64 b0,.int .i64 b6,.int .i64 b7,.slice d8 a8.length d9] 25 (0,0)) (zzE a3.out)):a0≠a7));have k5:=zzm ((by rw [hg];exact Nat.ne_of_lt (blk_lt (g:=a6) (o:=.cells #[.bool d0,.bool d4,.int .i64 d1,.int .i64 d5,.int .i64 d6,.slice e5 b8.length e6] 25 (0,0)) (zzE a1.out)):a6≠a0));have k6:=zzm ((by rw [hg];exact Nat.ne_of_gt (blk_lt (g:=a6) (o:=.cells #[.bool d0,.bool d4,.int .i64 d1,.int .i64 d5,.int .i64 d6,.slice e5 b8.length e6] 25 (0,0)) (zzE a1.out)):a0≠a6));have k7:=zzm ((by rw [hg];exact Nat.ne_of_lt (blk_lt (g:=a5) (o:=.cells #[.bool false,.bool false,.int .i64 0,.int .i64 0,.int .i64 0,.slice none 0 0] 25 (0,0)) (zzE a2.out)):a5≠a0));have k8:=zzm ((by rw [hg];exact Nat.ne_of_gt (blk_lt (g:=a5) (o:=.cells #[.bool false,.bool false,.int .i64 0,.int .i64 0,.int .i64 0,.slice none 0 0] 25 (0,0)) (zzE a2.out)):a0≠a5));clear c7 a3 a1 a2 HB;have c7:=b1;have a3:=b2;have a1:=b3;have a2:=b4;have HB:=e9;have a4:=g0;have G8:=g4;have G9:=j9;have e3:=k0;have h3:=k1;have e4:=k5;have h4:=k6;have c0:=k7;have g2:=k8;clear b1 b2 b3 b4 e9 g0 g4 j9 k0 k1 k5 k6 k7 k8 hb hbox hg;have aBu:=h3.out;have aBv:=e3.out;have aBw:=h4.out;have aBx:=e4.out;have aBy:=g2.out;have aBz:=c0.out;obtain ⟨Q8,Q9,R0,R1,R2,R3,R4,R5,R6,R7,R8,R9⟩:=zzc6 a4.out;obtain ⟨g6,g7,eo72⟩:=Kd.N_slice c7.out;subst eo72))
      have b1:Aside0 (Kd.N k40 40 ((((((k4.setCell ⟨a0,0,none⟩ (.bool b9)).setCell ⟨a0,1,none⟩ (.bool c5)).setCell ⟨a0,2,none⟩ (.int .i64 d2)).setCell ⟨a0,3,none⟩ (.int .i64 d7)).setCell ⟨a0,4,none⟩ (.int .i64 e0)).setCell ⟨a0,5,none⟩ (.slice g6 d3.length g7)) w.heap.size (fun k_=>(w.heap.size≤k_)∧k_≠a7∧k_≠a6∧k_≠a5∧k_≠a0) (.slice g6 d3.length g7) d3):=⟨by (with_reducible repeat (first|apply Kd.N_alloc|apply Kd.N_drewN|apply Kd.N_drew));exact Kd.N_mono (Kd.N_far (p:=⟨a0,5,none⟩) (Kd.N_far (p:=⟨a0,4,none⟩) (Kd.N_far (p:=⟨a0,3,none⟩) (Kd.N_far (p:=⟨a0,2,none⟩) (Kd.N_far (p:=⟨a0,1,none⟩) (Kd.N_far (p:=⟨a0,0,none⟩) (Kd.N_mono c7.out (fun k_ hk=>(⟨hk,hk.2⟩:_∧k_≠a0))) (fun _ hk=>hk.2) (.bool b9)) (fun _ hk=>hk.2) (.bool c5)) (fun _ hk=>hk.2) (.int .i64 d2)) (fun _ hk=>hk.2) (.int .i64 d7)) (fun _ hk=>hk.2) (.int .i64 e0)) (fun _ hk=>hk.2) (.slice g6 d3.length g7)) (fun _ hk=>⟨hk.1.1.1,⟨hk.1.1.2.1,⟨hk.1.1.2.2.1,⟨hk.1.1.2.2.2,hk.1.2⟩⟩⟩⟩)⟩;have b2:Aside0 (((((((k4.setCell ⟨a0,0,none⟩ (.bool b9)).setCell ⟨a0,1,none⟩ (.bool c5)).setCell ⟨a0,2,none⟩ (.int .i64 d2)).setCell ⟨a0,3,none⟩ (.int .i64 d7)).setCell ⟨a0,4,none⟩ (.int .i64 e0)).setCell ⟨a0,5,none⟩ (.slice g6 d3.length g7)).heap[a7]? = some (.cells #[.bool a9,.bool b5,.int .i64 b0,.int .i64 b6,.int .i64 b7,.slice d8 a8.length d9] 25 (0,0))):=⟨by (with_reducible repeat (first|apply zzf|apply zzg|apply zze));refine zzj ?_ e3.out _;(with_reducible repeat (first|apply zzf|apply zzg|apply zze));refine zzj ?_ e3.out _;(with_reducible repeat (first|apply zzf|apply zzg|apply zze));refine zzj ?_ e3.out _;(with_reducible repeat (first|apply zzf|apply zzg|apply zze));refine zzj ?_ e3.out _;(with_reducible repeat (first|apply zzf|apply zzg|apply zze));refine zzj ?_ e3.out _;(with_reducible repeat (first|apply zzf|apply zzg|apply zze));refine zzj ?_ e3.out _;(with_reducible repeat (first|apply zzf|apply zzg|apply zze));exact a3.out⟩;have b3:Aside0 (((((((k4.setCell ⟨a0,0,none⟩ (.bool b9)).setCell ⟨a0,1,none⟩ (.bool c5)).setCell ⟨a0,2,none⟩ (.int .i64 d2)).setCell ⟨a0,3,none⟩ (.int .i64 d7)).setCell ⟨a0,4,none⟩ (.int .i64 e0)).setCell ⟨a0,5,none⟩ (.slice g6 d3.length g7)).heap[a6]? = some (.cells #[.bool d0,.bool d4,.int .i64 d1,.int .i64 d5,.int .i64 d6,.slice e5 b8.length e6] 25 (0,0))):=⟨by (with_reducible repeat (first|apply zzf|apply zzg|apply zze));refine zzj ?_ e4.out _;(with_reducible repeat (first|apply zzf|apply zzg|apply zze));refine zzj ?_ e4.out _;(with_reducible repeat (first|apply zzf|apply zzg|apply zze));refine zzj ?_ e4.out _;(with_reducible repeat (first|apply zzf|apply zzg|apply zze));refine zzj ?_ e4.out _;(with_reducible repeat (first|apply zzf|apply zzg|apply zze));refine zzj ?_ e4.out _;(with_reducible repeat (first|apply zzf|apply zzg|apply zze));refine zzj ?_ e4.out _;(with_reducible repeat (first|apply zzf|apply zzg|apply zze));exact a1.out⟩;have b4:Aside0 (((((((k4.setCell ⟨a0,0,none⟩ (.bool b9)).setCell ⟨a0,1,none⟩ (.bool c5)).setCell ⟨a0,2,none⟩ (.int .i64 d2)).setCell ⟨a0,3,none⟩ (.int .i64 d7)).setCell ⟨a0,4,none⟩ (.int .i64 e0)).setCell ⟨a0,5,none⟩ (.slice g6 d3.length g7)).heap[a5]? = some (.cells #[.bool false,.bool false,.int .i64 0,.int .i64 0,.int .i64 0,.slice none 0 0] 25 (0,0))):=⟨by (with_reducible repeat (first|apply zzf|apply zzg|apply zze));refine zzj ?_ c0.out _;(with_reducible repeat (first|apply zzf|apply zzg|apply zze));refine zzj ?_ c0.out _;(with_reducible repeat (first|apply zzf|apply zzg|apply zze));refine zzj ?_ c0.out _;(with_reducible repeat (first|apply zzf|apply zzg|apply zze));refine zzj ?_ c0.out _;(with_reducible repeat (first|apply zzf|apply zzg|apply zze));refine zzj ?_ c0.out _;(with_reducible repeat (first|apply zzf|apply zzg|apply zze));refine zzj ?_ c0.out _;(with_reducible repeat (first|apply zzf|apply zzg|apply zze));exact a2.out⟩;have e9:Aside0 (((((((k4.setCell ⟨a0,0,none⟩ (.bool b9)).setCell ⟨a0,1,none⟩ (.bool c5)).setCell ⟨a0,2,none⟩ (.int .i64 d2)).setCell ⟨a0,3,none⟩ (.int .i64 d7)).setCell ⟨a0,4,none⟩ (.int .i64 e0)).setCell ⟨a0,5,none⟩ (.slice g6 d3.length g7)).heap[a0]? = some (.cells #[.bool b9,.bool c5,.int .i64 d2,.int .i64 d7,.int .i64 e0,.slice g6 d3.length g7] 25 (0,0))):=⟨by (with_reducible repeat (first|apply zzf|apply zzg|apply zze));refine zzi (cs:=#[.bool b9,.bool c5,.int .i64 d2,.int .i64 d7,.int .i64 e0,.slice none 0 0]) ?_ 5 _ rfl;refine zzi (cs:=#[.bool b9,.bool c5,.int .i64 d2,.int .i64 d7,.int .i64 0,.slice none 0 0]) ?_ 4 _ rfl;refine zzi (cs:=#[.bool b9,.bool c5,.int .i64 d2,.int .i64 0,.int .i64 0,.slice none 0 0]) ?_ 3 _ rfl;refine zzi (cs:=#[.bool b9,.bool c5,.int .i64 0,.int .i64 0,.int .i64 0,.slice none 0 0]) ?_ 2 _ rfl;refine zzi (cs:=#[.bool b9,.bool false,.int .i64 0,.int .i64 0,.int .i64 0,.slice none 0 0]) ?_ 1 _ rfl;refine zzi (cs:=#[.bool false,.bool false,.int .i64 0,.int .i64 0,.int .i64 0,.slice none 0 0]) ?_ 0 _ rfl;(with_reducible repeat (first|apply zzf|apply zzg|apply zze));exact a4.out⟩;have g0:Aside0 (Below w.heap.size w ((((((k4.setCell ⟨a0,0,none⟩ (.bool b9)).setCell ⟨a0,1,none⟩ (.bool c5)).setCell ⟨a0,2,none⟩ (.int .i64 d2)).setCell ⟨a0,3,none⟩ (.int .i64 d7)).setCell ⟨a0,4,none⟩ (.int .i64 e0)).setCell ⟨a0,5,none⟩ (.slice g6 d3.length g7))):=⟨zzh3⟩
      (try clear c7)
      (try clear a3)
      (try clear a1)
      (try clear a2)
      (try clear a4)
      (try clear HB);generalize ((((((k4.setCell ⟨a0,0,none⟩ (.bool b9)).setCell ⟨a0,1,none⟩ (.bool c5)).setCell ⟨a0,2,none⟩ (.int .i64 d2)).setCell ⟨a0,3,none⟩ (.int .i64 d7)).setCell ⟨a0,4,none⟩ (.int .i64 e0)).setCell ⟨a0,5,none⟩ (.slice g6 d3.length g7))=Z1 at b1 b2 b3 b4 e9 g0 ⊢;have c7:=b1;have a3:=b2;have a1:=b3;have a2:=b4;have a4:=e9;have HB:=g0;clear b1 b2 b3 b4 e9 g0;have b1:=zzm (Kd.N_drew c7.out);have b2:=zzm (zzg a3.out);have b3:=zzm (zzg a1.out);have b4:=zzm (zzg a2.out);have e9:=zzm (zzg a4.out);have g0:=zzm (zzc HB.out);clear c7 a3 a1 a2 a4 HB;have c7:=b1;have a3:=b2;have a1:=b3;have a2:=b4;have a4:=e9;have HB:=g0;clear b1 b2 b3 b4 e9 g0;refine start_ (n:=8) (S:=fun w'=>w'.cell? ⟨a0,0,none⟩=some (.bool b9)∧w'.cell? ⟨a0,1,none⟩=some (.bool c5)∧w'.cell? ⟨a0,2,none⟩=some (.int .i64 d2)∧w'.cell? ⟨a0,3,none⟩=some (.int .i64 d7)∧w'.cell? ⟨a0,4,none⟩=some (.int .i64 e0)∧w'.cell? ⟨a0,5,none⟩=some (.slice g6 d3.length g7)∧w'.cell? ⟨a6,0,none⟩=some (.bool d0)∧w'.cell? ⟨a6,1,none⟩=some (.bool d4)∧w'.cell? ⟨a6,2,none⟩=some (.int .i64 d1)∧w'.cell? ⟨a6,3,none⟩=some (.int .i64 d5)∧w'.cell? ⟨a6,4,none⟩=some (.int .i64 d6)∧w'.cell? ⟨a6,5,none⟩=some (.slice e5 b8.length e6)) (ds:=[7]) (zzB 8 0) (by kernel_rfl) rfl rfl ⟨(zzk a4.out 0).trans rfl,(zzk a4.out 1).trans rfl,(zzk a4.out 2).trans rfl,(zzk a4.out 3).trans rfl,(zzk a4.out 4).trans rfl,(zzk a4.out 5).trans rfl,(zzk a1.out 0).trans rfl,(zzk a1.out 1).trans rfl,(zzk a1.out 2).trans rfl,(zzk a1.out 3).trans rfl,(zzk a1.out 4).trans rfl,(zzk a1.out 5).trans rfl⟩ (fun g3=>?_);refine with_tabW Qg.tab4 Qg.bits4 (fun h2 l5=>?_);generalize Z1.drew=aEd at c7 a3 a1 a2 a4 HB g3 ⊢;refine zzP 0 36 8 1 h2 ?_
      refine zzP 2 38 8 5 h2 ?_
      refine zzT 1 37 8 7 h2 l5 g3 ?_
      refine zzT 3 39 8 15 h2 l5 g3 ?_
      refine one_ (i:=4) (N:=some 40) (zzB 8 31) rfl rfl (one_of h2.out (by kernel_rfl)) (by decide) (fun K hK=>?_);refine goes_ Tryd.func24 (by kernel_rfl) rfl #[.slice e5 b8.length e6] (by rfl) rfl rfl zzM2 ?_;with_reducible refine (Qn.calls j6 _ _ b8 h7 _ ?side1 ?side2 H2.out).mono ?_
      (case side1=>exact zzcb h9 HB)
      (case side2=>exact j2.out);rintro e aEe ⟨H5,rfl,ho0,hb⟩;refine ⟨_,rfl,?_⟩;have b1:=zzm (Kd.N_elder' (zzN c7.out) (by first|exact Kd.N_base ho0|exact Kd.S_base ho0|exact Kd.R_base ho0) hb);have b2:=zzm (Kd.N_lower (Kd.N_mono (ok':=fun k_=>(w.heap.size≤k_)∧some k_≠(.slice g6 d3.length g7:Value).ownBlock∧k_≠a7∧k_≠a6∧k_≠a5∧k_≠a0) (Kd.S_N (Kd.S_bound ho0)) (fun k_ hk_=>⟨(Nat.le_trans (zzo zzh2) hk_.2.1),(Kd.fresh' (Kd.N_lt (zzN c7.out)) k_ hk_.2.1),(Kd.freshB (g:=a7) (o:=.cells #[.bool a9,.bool b5,.int .i64 b0,.int .i64 b6,.int .i64 b7,.slice d8 a8.length d9] 25 (0,0)) (zzE a3.out) k_ hk_.2.1),(Kd.freshB (g:=a6) (o:=.cells #[.bool d0,.bool d4,.int .i64 d1,.int .i64 d5,.int .i64 d6,.slice e5 b8.length e6] 25 (0,0)) (zzE a1.out) k_ hk_.2.1),(Kd.freshB (g:=a5) (o:=.cells #[.bool false,.bool false,.int .i64 0,.int .i64 0,.int .i64 0,.slice none 0 0] 25 (0,0)) (zzE a2.out) k_ hk_.2.1),(Kd.freshB (g:=a0) (o:=.cells #[.bool b9,.bool c5,.int .i64 d2,.int .i64 d7,.int .i64 e0,.slice g6 d3.length g7] 25 (0,0)) (zzE a4.out) k_ hk_.2.1)⟩)) (zzo zzh2));have b3:=zzm (zzh (g:=a7) (o:=.cells #[.bool a9,.bool b5,.int .i64 b0,.int .i64 b6,.int .i64 b7,.slice d8 a8.length d9] 25 (0,0)) (zzE a3.out) hb);have b4:=zzm (zzh (g:=a6) (o:=.cells #[.bool d0,.bool d4,.int .i64 d1,.int .i64 d5,.int .i64 d6,.slice e5 b8.length e6] 25 (0,0)) (zzE a1.out) hb);have e9:=zzm (zzh (g:=a5) (o:=.cells #[.bool false,.bool false,.int .i64 0,.int .i64 0,.int .i64 0,.slice none 0 0] 25 (0,0)) (zzE a2.out) hb);have g0:=zzm (zzh (g:=a0) (o:=.cells #[.bool b9,.bool c5,.int .i64 d2,.int .i64 d7,.int .i64 e0,.slice g6 d3.length g7] 25 (0,0)) (zzE a4.out) hb);have g4:=zzm (zzp zzh2 hb);clear c7 a3 a1 a2 a4 HB;have c7:=b1;have g1:=b2;have a3:=b3;have a1:=b4;have a2:=e9;have a4:=g0;have HB:=g4;clear b1 b2 b3 b4 e9 g0 g4
      (try clear hb)
      (try clear hb2)
      (try clear hk)
      (try clear hi)
      (try clear ho0);obtain ⟨aDa,aDb,eo77⟩:=Kd.N_slice g1.out
      (first|subst eo77|(injection eo77 with f1_ f2_ f3_;have f4_:=f1_.symm;have f5_:=f3_.symm;clear f1_ f2_ f3_;subst f4_;subst f5_));refine hK.out _ _ ⟨(zzk a4.out 0).trans rfl,(zzk a4.out 1).trans rfl,(zzk a4.out 2).trans rfl,(zzk a4.out 3).trans rfl,(zzk a4.out 4).trans rfl,(zzk a4.out 5).trans rfl,(zzk a1.out 0).trans rfl,(zzk a1.out 1).trans rfl,(zzk a1.out 2).trans rfl,(zzk a1.out 3).trans rfl,(zzk a1.out 4).trans rfl,(zzk a1.out 5).trans rfl⟩ (fun g3=>?_);clear hK K;refine zzO 40 ?_
      refine one_ (i:=5) (N:=some 41) (zzB 8 63) rfl rfl (one_of h2.out (by kernel_rfl)) (by decide) (fun K hK=>?_);refine Kd.N_append_rows_step k40 (w0:=w) w.heap.size (by rfl) (.tmp 37) (.tmp 40) 23 40 (.agg #[(.int .i64 0),(.int .i64 0),(.bool false),(.slice none 0 0),(.bool false),(.slice none 0 0)]) 80 rfl Tryd.underlying23 info40 rfl (by decide) (by omega) (.slice g6 d3.length g7) d3 h7 _ _ _ (fun k_=>(w.heap.size≤k_)∧k_≠a7∧k_≠a6∧k_≠a5∧k_≠a0) (fun k_=>((fun k_=>(w.heap.size≤k_)∧k_≠a7∧k_≠a6∧k_≠a5∧k_≠a0)) k_∧some k_≠(.slice g6 d3.length g7:Value).ownBlock) rfl rfl ?aO ?aR (fun _ hk=>hk) ?aF ?aB ?aS ?aL ?_
      (case aR=>exact (by skip;exact Kd.N_F (Kd.N_mono (ok':=(fun k_=>((fun k_=>(w.heap.size≤k_)∧k_≠a7∧k_≠a6∧k_≠a5∧k_≠a0)) k_∧some k_≠(.slice g6 d3.length g7:Value).ownBlock)) (g1.out) (fun k_ hk=>⟨⟨hk.1,⟨hk.2.2.1,⟨hk.2.2.2.1,⟨hk.2.2.2.2.1,hk.2.2.2.2.2⟩⟩⟩⟩,hk.2.1⟩))))
      (case aB=>exact zzh2)
      (case aF=>exact (fun k_ hk=>⟨(Nat.le_trans (zzo zzh2) hk),Kd.freshB (g:=a7) (o:=.cells #[.bool a9,.bool b5,.int .i64 b0,.int .i64 b6,.int .i64 b7,.slice d8 a8.length d9] 25 (0,0)) (zzE a3.out) k_ hk,Kd.freshB (g:=a6) (o:=.cells #[.bool d0,.bool d4,.int .i64 d1,.int .i64 d5,.int .i64 d6,.slice e5 b8.length e6] 25 (0,0)) (zzE a1.out) k_ hk,Kd.freshB (g:=a5) (o:=.cells #[.bool false,.bool false,.int .i64 0,.int .i64 0,.int .i64 0,.slice none 0 0] 25 (0,0)) (zzE a2.out) k_ hk,Kd.freshB (g:=a0) (o:=.cells #[.bool b9,.bool c5,.int .i64 d2,.int .i64 d7,.int .i64 e0,.slice g6 d3.length g7] 25 (0,0)) (zzE a4.out) k_ hk⟩))
      (case aO=>exact (zzN (Kd.N_mono c7.out (fun _ hk=>⟨hk.1.1,⟨hk.1.2.1,⟨hk.1.2.2.1,⟨hk.1.2.2.2.1,hk.1.2.2.2.2⟩⟩⟩⟩))))
      (case aS=>exact (zzo zzh2))
      (case aL=>have:=LMc60.out;omega);intro H6 Z2 ho hb hg hat;rw [← Ny313.out] at ho;have b1:=zzm (blk_grown (g:=a7) (o:=.cells #[.bool a9,.bool b5,.int .i64 b0,.int .i64 b6,.int .i64 b7,.slice d8 a8.length d9] 25 (0,0)) (zzE a3.out) hg (Kd.N_ne c7.out a3.out (by decide)));have b2:=zzm (blk_grown (g:=a6) (o:=.cells #[.bool d0,.bool d4,.int .i64 d1,.int .i64 d5,.int .i64 d6,.slice e5 b8.length e6] 25 (0,0)) (zzE a1.out) hg (Kd.N_ne c7.out a1.out (by decide)));have b3:=zzm (blk_grown (g:=a5) (o:=.cells #[.bool false,.bool false,.int .i64 0,.int .i64 0,.int .i64 0,.slice none 0 0] 25 (0,0)) (zzE a2.out) hg (Kd.N_ne c7.out a2.out (by decide)));have b4:=zzm (blk_grown (g:=a0) (o:=.cells #[.bool b9,.bool c5,.int .i64 d2,.int .i64 d7,.int .i64 e0,.slice g6 d3.length g7] 25 (0,0)) (zzE a4.out) hg (Kd.N_ne c7.out a4.out (by decide)));have e9:=zzm (Kd.N_afterv (ok:=(fun k_=>(w.heap.size≤k_)∧k_≠a7∧k_≠a6∧k_≠a5∧k_≠a0)) (zzN (Kd.N_mono g1.out (fun _ hk=>⟨⟨hk.1,⟨hk.2.2.1,⟨hk.2.2.2.1,⟨hk.2.2.2.2.1,hk.2.2.2.2.2⟩⟩⟩⟩,hk.2.1⟩))) hg hat);have g0:=zzm (hb);have g4:=zzm (ho);clear a3 a1 a2 a4 g1 HB c7;have a3:=b1;have a1:=b2;have a2:=b3;have a4:=b4;have g1:=e9;have HB:=g0;have g5:=g4;clear b1 b2 b3 b4 e9 g0 g4;clear ho hb hg hat;obtain ⟨j5,h8,eo78⟩:=Kd.N_slice g5.out
      (first|subst eo78|(injection eo78 with f1_ f2_ f3_;have f4_:=f1_.symm;have f5_:=f3_.symm;clear f1_ f2_ f3_;subst f4_;subst f5_));refine hK.out _ _ ⟨(zzk a4.out 0).trans rfl,(zzk a4.out 1).trans rfl,(zzk a4.out 2).trans rfl,(zzk a4.out 3).trans rfl,(zzk a4.out 4).trans rfl,(zzk a4.out 5).trans rfl,(zzk a1.out 0).trans rfl,(zzk a1.out 1).trans rfl,(zzk a1.out 2).trans rfl,(zzk a1.out 3).trans rfl,(zzk a1.out 4).trans rfl,(zzk a1.out 5).trans rfl⟩ (fun g3=>?_);clear hK K;refine zzO 41 ?_
      refine zzP 6 42 8 127 h2 ?_
      refine last_ (i:=7) (N:=none) (zzB 8 255) rfl rfl (one_of h2.out (by kernel_rfl)) (by decide) (fun K hK=>?_);have aDc:Z2.cell? ⟨a0,5,none⟩=some (.slice g6 d3.length g7):=(zzk a4.out 5).trans rfl;have aCa:=zzl a4.out 5;have S0:=e3.out;have S1:=e4.out;have S2:=c0.out;have S3:=h3.out;have S4:=h4.out;have S5:=g2.out;refine skip_ (w1:=?_) (by rfl) rfl ?_ ?_;rotate_left
      ·
       go_simp;rfl
      refine hK.out _ _ ?_;clear hK K;refine done_ (done_of h2.out (by kernel_rfl)) ?_;obtain ⟨S6,S7,S8,S9,T0,T1,T2,T7,T8,T9,U0,U1⟩:=zzc6 a4.out;try go_wp2_with (first|((with_reducible refine gate_callee (f:=9) rfl ?_);refine goesL_ (some 44) rfl rfl Tryd.func9 (by kernel_rfl) rfl #[.agg #[.bool b9,.bool c5,.int .i64 d2,.int .i64 d7,.int .i64 e0,.slice j5 y313.length h8]] rfl zzM2 ?_;(with_reducible refine (Qd.calls j6 b9 c5 d2 d7 e0 _ _ y313 true _ ?side1 ?side2 H3.out).mono ?_);(case side1=>refine (Kd.N_reads' (e:=40) (base:=w.heap.size) (ok:=fun k_=>((w.heap.size≤k_)∧(k_≠a7∧(k_≠a6∧(k_≠a5∧k_≠a0))))) (n:=y313.length) (c:=h8) ?_).2.2;exact (zzN ((Kd.N_mono (Kd.N_far (p:=⟨a0,5,none⟩) (Kd.N_mono g5.out (fun k_ hk=>(⟨hk,hk.2.2.2.2⟩:_∧k_≠a0))) (fun _ hk=>hk.2) (.slice j5 y313.length h8)) (fun _ h_=>h_.1)))));(case side2=>exact (Kd.N_reads' g5.out).2.1);rintro e aEf ⟨rfl,hb⟩;refine ⟨_,rfl,?_⟩;have b1:=zzm (Kd.N_below (zzN ((Kd.N_mono (Kd.N_far (p:=⟨a0,5,none⟩) (Kd.N_mono g1.out (fun k_ hk=>(⟨hk,hk.1.2.2.2.2⟩:_∧k_≠a0))) (fun _ hk=>hk.2) (.slice j5 y313.length h8)) (fun _ h_=>h_.1)))) hb);have b2:=zzm (Kd.N_below (zzN ((Kd.N_mono (Kd.N_far (p:=⟨a0,5,none⟩) (Kd.N_mono g5.out (fun k_ hk=>(⟨hk,hk.2.2.2.2⟩:_∧k_≠a0))) (fun _ hk=>hk.2) (.slice j5 y313.length h8)) (fun _ h_=>h_.1)))) hb);have b3:=zzm (zzh (g:=a7) (o:=.cells #[.bool a9,.bool b5,.int .i64 b0,.int .i64 b6,.int .i64 b7,.slice d8 a8.length d9] 25 (0,0)) (by (with_reducible repeat (first|apply zzf|apply zzg|apply zze));refine zzj ?_ e3.out _;(with_reducible repeat (first|apply zzf|apply zzg|apply zze));exact a3.out) hb);have b4:=zzm (zzh (g:=a6) (o:=.cells #[.bool d0,.bool d4,.int .i64 d1,.int .i64 d5,.int .i64 d6,.slice e5 b8.length e6] 25 (0,0)) (by (with_reducible repeat (first|apply zzf|apply zzg|apply zze));refine zzj ?_ e4.out _;(with_reducible repeat (first|apply zzf|apply zzg|apply zze));exact a1.out) hb);have e9:=zzm (zzh (g:=a5) (o:=.cells #[.bool false,.bool false,.int .i64 0,.int .i64 0,.int .i64 0,.slice none 0 0] 25 (0,0)) (by (with_reducible repeat (first|apply zzf|apply zzg|apply zze));refine zzj ?_ c0.out _;(with_reducible repeat (first|apply zzf|apply zzg|apply zze));exact a2.out) hb);have g0:=zzm (zzh (g:=a0) (o:=.cells #[.bool b9,.bool c5,.int .i64 d2,.int .i64 d7,.int .i64 e0,.slice j5 y313.length h8] 25 (0,0)) (by (with_reducible repeat (first|apply zzf|apply zzg|apply zze));refine zzi (cs:=#[.bool b9,.bool c5,.int .i64 d2,.int .i64 d7,.int .i64 e0,.slice g6 d3.length g7]) ?_ 5 _ rfl;(with_reducible repeat (first|apply zzf|apply zzg|apply zze));exact a4.out) hb);have g4:=zzm (zzp zzh2 hb);clear g1 g5 a3 a1 a2 a4 HB;have g1:=b1;have g5:=b2;have a3:=b3;have a1:=b4;have a2:=e9;have a4:=g0;have HB:=g4;clear b1 b2 b3 b4 e9 g0 g4;(try clear hb);(try clear hb2);(try clear hk);(try clear hi);obtain ⟨U2,U3,U4,U5,U6,U7,U8,U9,V0,V1,V2,V3⟩:=zzc6 a4.out;have aCb:=e8.out;have aCc:=e7.out;obtain ⟨V4,V5,V6,V7,V8,V9,W0,W1,W2,W3,W4,W5⟩:=zzc6 a2.out))
      refine bodyPost_ret (results_ct rfl _ _ a5 25 #[.bool b9,.bool c5,.int .i64 d2,.int .i64 d7,.int .i64 e0,.slice j5 y313.length h8] (0,0) _ rfl (by (with_reducible repeat (first|apply zzf|apply zzg|apply zze));refine zzi (cs:=#[.bool b9,.bool c5,.int .i64 d2,.int .i64 d7,.int .i64 e0,.slice none 0 0]) ?_ 5 _ rfl;refine zzi (cs:=#[.bool b9,.bool c5,.int .i64 d2,.int .i64 d7,.int .i64 0,.slice none 0 0]) ?_ 4 _ rfl;refine zzi (cs:=#[.bool b9,.bool c5,.int .i64 d2,.int .i64 0,.int .i64 0,.slice none 0 0]) ?_ 3 _ rfl;refine zzi (cs:=#[.bool b9,.bool c5,.int .i64 0,.int .i64 0,.int .i64 0,.slice none 0 0]) ?_ 2 _ rfl;refine zzi (cs:=#[.bool b9,.bool false,.int .i64 0,.int .i64 0,.int .i64 0,.slice none 0 0]) ?_ 1 _ rfl;refine zzi (cs:=#[.bool false,.bool false,.int .i64 0,.int .i64 0,.int .i64 0,.slice none 0 0]) ?_ 0 _ rfl;(with_reducible repeat (first|apply zzf|apply zzg|apply zze));exact a2.out) Tryd.underlying25 rfl (by kernel_rfl)) rfl ?_;exact ⟨_,zzR,by (with_reducible repeat (first|apply Kd.N_alloc|apply Kd.N_drewN|apply Kd.N_drew));exact Kd.N_mono (Kd.N_far (p:=⟨a5,5,none⟩) (Kd.N_far (p:=⟨a5,4,none⟩) (Kd.N_far (p:=⟨a5,3,none⟩) (Kd.N_far (p:=⟨a5,2,none⟩) (Kd.N_far (p:=⟨a5,1,none⟩) (Kd.N_far (p:=⟨a5,0,none⟩) (Kd.N_mono g5.out (fun k_ hk=>(⟨hk,hk.2.2.2.1⟩:_∧k_≠a5))) (fun _ hk=>hk.2) (.bool b9)) (fun _ hk=>hk.2) (.bool c5)) (fun _ hk=>hk.2) (.int .i64 d2)) (fun _ hk=>hk.2) (.int .i64 d7)) (fun _ hk=>hk.2) (.int .i64 e0)) (fun _ hk=>hk.2) (.slice j5 y313.length h8)) (fun _ hk=>hk.1.1),zzh3⟩
     ·
      replace m7:=Bool.eq_false_iff.mpr m7;subst m7;replace H:=zzIf H;simp only [Option.some.injEq,Prod.mk.injEq] at H;obtain ⟨rfl,rfl,rfl,rfl,rfl,rfl,rfl⟩:=H;have aCd:=h0.out;have aCe:=h1.out;have aCf:=e1.out;have aCg:=e2.out;obtain ⟨W6,W7,W8,W9,X0,X1,X2,X3,X4,X5,X6,X7⟩:=zzc6 a3.out;try go_wp2_with (first|((with_reducible refine gate_callee (f:=23) rfl ?_);refine goesL_ (some 35) rfl rfl Tryd.func23 (by kernel_rfl) rfl #[.agg #[.bool a9,.bool b5,.int .i64 b0,.int .i64 b6,.int .i64 b7,.slice d8 a8.length d9]] rfl zzM2 ?_;(with_reducible refine (Ra.calls j6 a9 b5 b0 b6 b7 _ _ a8 b9 c5 d2 d7 e0 d3 _ ?side1 ?side2 H1.out).mono ?_);(case side1=>exact zzcb h5 HB);(case side2=>exact h6.out);rintro e aEg ⟨H4,rfl,ho0,hb⟩;refine ⟨_,rfl,?_⟩;have b1:=zzm (Kd.N_lower (Kd.N_mono (ok':=fun k_=>(w.heap.size≤k_)∧k_≠a7∧k_≠a6∧k_≠a5) (Kd.S_N (Kd.S_bound ho0)) (fun k_ hk_=>⟨(Nat.le_trans (zzo zzh2) hk_.2.1),(Kd.freshB (g:=a7) (o:=.cells #[.bool a9,.bool b5,.int .i64 b0,.int .i64 b6,.int .i64 b7,.slice d8 a8.length d9] 25 (0,0)) (zzE a3.out) k_ hk_.2.1),(Kd.freshB (g:=a6) (o:=.cells #[.bool d0,.bool d4,.int .i64 d1,.int .i64 d5,.int .i64 d6,.slice e5 b8.length e6] 25 (0,0)) (zzE a1.out) k_ hk_.2.1),(Kd.freshB (g:=a5) (o:=.cells #[.bool false,.bool false,.int .i64 0,.int .i64 0,.int .i64 0,.slice none 0 0] 25 (0,0)) (zzE a2.out) k_ hk_.2.1)⟩)) (zzo zzh2));have b2:=zzm (zzh (g:=a7) (o:=.cells #[.bool a9,.bool b5,.int .i64 b0,.int .i64 b6,.int .i64 b7,.slice d8 a8.length d9] 25 (0,0)) (zzE a3.out) hb);have b3:=zzm (zzh (g:=a6) (o:=.cells #[.bool d0,.bool d4,.int .i64 d1,.int .i64 d5,.int .i64 d6,.slice e5 b8.length e6] 25 (0,0)) (zzE a1.out) hb);have b4:=zzm (zzh (g:=a5) (o:=.cells #[.bool false,.bool false,.int .i64 0,.int .i64 0,.int .i64 0,.slice none 0 0] 25 (0,0)) (zzE a2.out) hb);have e9:=zzm (zzp zzh2 hb);clear a3 a1 a2 HB;have c7:=b1;have a3:=b2;have a1:=b3;have a2:=b4;have HB:=e9;clear b1 b2 b3 b4 e9;(try clear hb);(try clear hb2);(try clear hk);(try clear hi);(try clear ho0))|((with_reducible refine gate_dst (N:=6) rfl ?_);refine box_event ?hg (N:=6) ?hd (cs:=#[.bool false,.bool false,.int .i64 0,.int .i64 0,.int .i64 0,.slice none 0 0]) (t:=25) ?hr ?_;(case hd=>rfl);(case hg=>rfl);(case hr=>first|(go_simp;done)|(go_simp;rfl));intro a0 hg k9 hbox hb;have b1:=zzm (Kd.N_below (Kd.N_elderB (zzN c7.out) a0 (Nat.le_of_eq hg.symm)) hb);have b2:=zzm (zzh (g:=a7) (o:=.cells #[.bool a9,.bool b5,.int .i64 b0,.int .i64 b6,.int .i64 b7,.slice d8 a8.length d9] 25 (0,0)) (zzE a3.out) hb);have b3:=zzm (zzh (g:=a6) (o:=.cells #[.bool d0,.bool d4,.int .i64 d1,.int .i64 d5,.int .i64 d6,.slice e5 b8.length e6] 25 (0,0)) (zzE a1.out) hb);have b4:=zzm (zzh (g:=a5) (o:=.cells #[.bool false,.bool false,.int .i64 0,.int .i64 0,.int .i64 0,.slice none 0 0] 25 (0,0)) (zzE a2.out) hb);have e9:=zzm (zzp zzh2 hb);have g0:=zzm (hbox);have g4:=zzm ((by rw [hg];exact (zzo zzh2):w.heap.size≤a0));have j9:=zzm ((by rw [hg];exact (zzo zzh2):w.heap.size≤a0));have k0:=zzm ((by rw [hg];exact Nat.ne_of_lt (blk_lt (g:=a7) (o:=.cells #[.bool a9,.bool b5,.int .i64 b0,.int .i64 b6,.int .i64 b7,.slice d8 a8.length d9] 25 (0,0)) (zzE a3.out)):a7≠a0));have k1:=zzm ((by rw [hg];exact Nat.ne_of_gt (blk_lt (g:=a7) (o:=.cells #[.bool a9,.bool b5,.int .i64 b0,.int .i64 b6,.int .i64 b7,.slice d8 a8.length d9] 25 (0,0)) (zzE a3.out)):a0≠a7));have k5:=zzm ((by rw [hg];exact Nat.ne_of_lt (blk_lt (g:=a6) (o:=.cells #[.bool d0,.bool d4,.int .i64 d1,.int .i64 d5,.int .i64 d6,.slice e5 b8.length e6] 25 (0,0)) (zzE a1.out)):a6≠a0));have k6:=zzm ((by rw [hg];exact Nat.ne_of_gt (blk_lt (g:=a6) (o:=.cells #[.bool d0,.bool d4,.int .i64 d1,.int .i64 d5,.int .i64 d6,.slice e5 b8.length e6] 25 (0,0)) (zzE a1.out)):a0≠a6));have k7:=zzm ((by rw [hg];exact Nat.ne_of_lt (blk_lt (g:=a5) (o:=.cells #[.bool false,.bool false,.int .i64 0,.int .i64 0,.int .i64 0,.slice none 0 0] 25 (0,0)) (zzE a2.out)):a5≠a0));have k8:=zzm ((by rw [hg];exact Nat.ne_of_gt (blk_lt (g:=a5) (o:=.cells #[.bool false,.bool false,.int .i64 0,.int .i64 0,.int .i64 0,.slice none 0 0] 25 (0,0)) (zzE a2.out)):a0≠a5));clear c7 a3 a1 a2 HB;have c7:=b1;have a3:=b2;have a1:=b3;have a2:=b4;have HB:=e9;have a4:=g0;have G8:=g4;have G9:=j9;have e3:=k0;have h3:=k1;have e4:=k5;have h4:=k6;have c0:=k7;have g2:=k8;clear b1 b2 b3 b4 e9 g0 g4 j9 k0 k1 k5 k6 k7 k8 hb hbox hg;have aCh:=h3.out;have aCi:=e3.out;have aCj:=h4.out;have aCk:=e4.out;have aCl:=g2.out;have aCm:=c0.out;obtain ⟨X8,X9,Y0,Y1,Y2,Y3,Y4,Y5,Y6,Y7,Y8,Y9⟩:=zzc6 a4.out;obtain ⟨g8,g9,eo94⟩:=Kd.N_slice c7.out;subst eo94))
      have b1:Aside0 (Kd.N k40 40 ((((((k9.setCell ⟨a0,0,none⟩ (.bool b9)).setCell ⟨a0,1,none⟩ (.bool c5)).setCell ⟨a0,2,none⟩ (.int .i64 d2)).setCell ⟨a0,3,none⟩ (.int .i64 d7)).setCell ⟨a0,4,none⟩ (.int .i64 e0)).setCell ⟨a0,5,none⟩ (.slice g8 d3.length g9)) w.heap.size (fun k_=>(w.heap.size≤k_)∧k_≠a7∧k_≠a6∧k_≠a5∧k_≠a0) (.slice g8 d3.length g9) d3):=⟨by (with_reducible repeat (first|apply Kd.N_alloc|apply Kd.N_drewN|apply Kd.N_drew));exact Kd.N_mono (Kd.N_far (p:=⟨a0,5,none⟩) (Kd.N_far (p:=⟨a0,4,none⟩) (Kd.N_far (p:=⟨a0,3,none⟩) (Kd.N_far (p:=⟨a0,2,none⟩) (Kd.N_far (p:=⟨a0,1,none⟩) (Kd.N_far (p:=⟨a0,0,none⟩) (Kd.N_mono c7.out (fun k_ hk=>(⟨hk,hk.2⟩:_∧k_≠a0))) (fun _ hk=>hk.2) (.bool b9)) (fun _ hk=>hk.2) (.bool c5)) (fun _ hk=>hk.2) (.int .i64 d2)) (fun _ hk=>hk.2) (.int .i64 d7)) (fun _ hk=>hk.2) (.int .i64 e0)) (fun _ hk=>hk.2) (.slice g8 d3.length g9)) (fun _ hk=>⟨hk.1.1.1,⟨hk.1.1.2.1,⟨hk.1.1.2.2.1,⟨hk.1.1.2.2.2,hk.1.2⟩⟩⟩⟩)⟩;have b2:Aside0 (((((((k9.setCell ⟨a0,0,none⟩ (.bool b9)).setCell ⟨a0,1,none⟩ (.bool c5)).setCell ⟨a0,2,none⟩ (.int .i64 d2)).setCell ⟨a0,3,none⟩ (.int .i64 d7)).setCell ⟨a0,4,none⟩ (.int .i64 e0)).setCell ⟨a0,5,none⟩ (.slice g8 d3.length g9)).heap[a7]? = some (.cells #[.bool a9,.bool b5,.int .i64 b0,.int .i64 b6,.int .i64 b7,.slice d8 a8.length d9] 25 (0,0))):=⟨by (with_reducible repeat (first|apply zzf|apply zzg|apply zze));refine zzj ?_ e3.out _;(with_reducible repeat (first|apply zzf|apply zzg|apply zze));refine zzj ?_ e3.out _;(with_reducible repeat (first|apply zzf|apply zzg|apply zze));refine zzj ?_ e3.out _;(with_reducible repeat (first|apply zzf|apply zzg|apply zze));refine zzj ?_ e3.out _;(with_reducible repeat (first|apply zzf|apply zzg|apply zze));refine zzj ?_ e3.out _;(with_reducible repeat (first|apply zzf|apply zzg|apply zze));refine zzj ?_ e3.out _;(with_reducible repeat (first|apply zzf|apply zzg|apply zze));exact a3.out⟩;have b3:Aside0 (((((((k9.setCell ⟨a0,0,none⟩ (.bool b9)).setCell ⟨a0,1,none⟩ (.bool c5)).setCell ⟨a0,2,none⟩ (.int .i64 d2)).setCell ⟨a0,3,none⟩ (.int .i64 d7)).setCell ⟨a0,4,none⟩ (.int .i64 e0)).setCell ⟨a0,5,none⟩ (.slice g8 d3.length g9)).heap[a6]? = some (.cells #[.bool d0,.bool d4,.int .i64 d1,.int .i64 d5,.int .i64 d6,.slice e5 b8.length e6] 25 (0,0))):=⟨by (with_reducible repeat (first|apply zzf|apply zzg|apply zze));refine zzj ?_ e4.out _;(with_reducible repeat (first|apply zzf|apply zzg|apply zze));refine zzj ?_ e4.out _;(with_reducible repeat (first|apply zzf|apply zzg|apply zze));refine zzj ?_ e4.out _;(with_reducible repeat (first|apply zzf|apply zzg|apply zze));refine zzj ?_ e4.out _;(with_reducible repeat (first|apply zzf|apply zzg|apply zze));refine zzj ?_ e4.out _;(with_reducible repeat (first|apply zzf|apply zzg|apply zze));refine zzj ?_ e4.out _;(with_reducible repeat (first|apply zzf|apply zzg|apply zze));exact a1.out⟩;have b4:Aside0 (((((((k9.setCell ⟨a0,0,none⟩ (.bool b9)).setCell ⟨a0,1,none⟩ (.bool c5)).setCell ⟨a0,2,none⟩ (.int .i64 d2)).setCell ⟨a0,3,none⟩ (.int .i64 d7)).setCell ⟨a0,4,none⟩ (.int .i64 e0)).setCell ⟨a0,5,none⟩ (.slice g8 d3.length g9)).heap[a5]? = some (.cells #[.bool false,.bool false,.int .i64 0,.int .i64 0,.int .i64 0,.slice none 0 0] 25 (0,0))):=⟨by (with_reducible repeat (first|apply zzf|apply zzg|apply zze));refine zzj ?_ c0.out _;(with_reducible repeat (first|apply zzf|apply zzg|apply zze));refine zzj ?_ c0.out _;(with_reducible repeat (first|apply zzf|apply zzg|apply zze));refine zzj ?_ c0.out _;(with_reducible repeat (first|apply zzf|apply zzg|apply zze));refine zzj ?_ c0.out _;(with_reducible repeat (first|apply zzf|apply zzg|apply zze));refine zzj ?_ c0.out _;(with_reducible repeat (first|apply zzf|apply zzg|apply zze));refine zzj ?_ c0.out _;(with_reducible repeat (first|apply zzf|apply zzg|apply zze));exact a2.out⟩;have e9:Aside0 (((((((k9.setCell ⟨a0,0,none⟩ (.bool b9)).setCell ⟨a0,1,none⟩ (.bool c5)).setCell ⟨a0,2,none⟩ (.int .i64 d2)).setCell ⟨a0,3,none⟩ (.int .i64 d7)).setCell ⟨a0,4,none⟩ (.int .i64 e0)).setCell ⟨a0,5,none⟩ (.slice g8 d3.length g9)).heap[a0]? = some (.cells #[.bool b9,.bool c5,.int .i64 d2,.int .i64 d7,.int .i64 e0,.slice g8 d3.length g9] 25 (0,0))):=⟨by (with_reducible repeat (first|apply zzf|apply zzg|apply zze));refine zzi (cs:=#[.bool b9,.bool c5,.int .i64 d2,.int .i64 d7,.int .i64 e0,.slice none 0 0]) ?_ 5 _ rfl;refine zzi (cs:=#[.bool b9,.bool c5,.int .i64 d2,.int .i64 d7,.int .i64 0,.slice none 0 0]) ?_ 4 _ rfl;refine zzi (cs:=#[.bool b9,.bool c5,.int .i64 d2,.int .i64 0,.int .i64 0,.slice none 0 0]) ?_ 3 _ rfl;refine zzi (cs:=#[.bool b9,.bool c5,.int .i64 0,.int .i64 0,.int .i64 0,.slice none 0 0]) ?_ 2 _ rfl;refine zzi (cs:=#[.bool b9,.bool false,.int .i64 0,.int .i64 0,.int .i64 0,.slice none 0 0]) ?_ 1 _ rfl;refine zzi (cs:=#[.bool false,.bool false,.int .i64 0,.int .i64 0,.int .i64 0,.slice none 0 0]) ?_ 0 _ rfl;(with_reducible repeat (first|apply zzf|apply zzg|apply zze));exact a4.out⟩;have g0:Aside0 (Below w.heap.size w ((((((k9.setCell ⟨a0,0,none⟩ (.bool b9)).setCell ⟨a0,1,none⟩ (.bool c5)).setCell ⟨a0,2,none⟩ (.int .i64 d2)).setCell ⟨a0,3,none⟩ (.int .i64 d7)).setCell ⟨a0,4,none⟩ (.int .i64 e0)).setCell ⟨a0,5,none⟩ (.slice g8 d3.length g9))):=⟨zzh3⟩
      (try clear c7)
      (try clear a3)
      (try clear a1)
      (try clear a2)
      (try clear a4)
      (try clear HB);generalize ((((((k9.setCell ⟨a0,0,none⟩ (.bool b9)).setCell ⟨a0,1,none⟩ (.bool c5)).setCell ⟨a0,2,none⟩ (.int .i64 d2)).setCell ⟨a0,3,none⟩ (.int .i64 d7)).setCell ⟨a0,4,none⟩ (.int .i64 e0)).setCell ⟨a0,5,none⟩ (.slice g8 d3.length g9))=Z3 at b1 b2 b3 b4 e9 g0 ⊢;have c7:=b1;have a3:=b2;have a1:=b3;have a2:=b4;have a4:=e9;have HB:=g0;clear b1 b2 b3 b4 e9 g0;have b1:=zzm (Kd.N_drew c7.out);have b2:=zzm (zzg a3.out);have b3:=zzm (zzg a1.out);have b4:=zzm (zzg a2.out);have e9:=zzm (zzg a4.out);have g0:=zzm (zzc HB.out);clear c7 a3 a1 a2 a4 HB;have c7:=b1;have a3:=b2;have a1:=b3;have a2:=b4;have a4:=e9;have HB:=g0;clear b1 b2 b3 b4 e9 g0;refine start_ (n:=8) (S:=fun w'=>w'.cell? ⟨a0,0,none⟩=some (.bool b9)∧w'.cell? ⟨a0,1,none⟩=some (.bool c5)∧w'.cell? ⟨a0,2,none⟩=some (.int .i64 d2)∧w'.cell? ⟨a0,3,none⟩=some (.int .i64 d7)∧w'.cell? ⟨a0,4,none⟩=some (.int .i64 e0)∧w'.cell? ⟨a0,5,none⟩=some (.slice g8 d3.length g9)∧w'.cell? ⟨a6,0,none⟩=some (.bool d0)∧w'.cell? ⟨a6,1,none⟩=some (.bool d4)∧w'.cell? ⟨a6,2,none⟩=some (.int .i64 d1)∧w'.cell? ⟨a6,3,none⟩=some (.int .i64 d5)∧w'.cell? ⟨a6,4,none⟩=some (.int .i64 d6)∧w'.cell? ⟨a6,5,none⟩=some (.slice e5 b8.length e6)) (ds:=[7]) (zzB 8 0) (by kernel_rfl) rfl rfl ⟨(zzk a4.out 0).trans rfl,(zzk a4.out 1).trans rfl,(zzk a4.out 2).trans rfl,(zzk a4.out 3).trans rfl,(zzk a4.out 4).trans rfl,(zzk a4.out 5).trans rfl,(zzk a1.out 0).trans rfl,(zzk a1.out 1).trans rfl,(zzk a1.out 2).trans rfl,(zzk a1.out 3).trans rfl,(zzk a1.out 4).trans rfl,(zzk a1.out 5).trans rfl⟩ (fun g3=>?_);refine with_tabW Qg.tab4 Qg.bits4 (fun h2 l5=>?_);generalize Z3.drew=aEh at c7 a3 a1 a2 a4 HB g3 ⊢;refine zzP 0 36 8 1 h2 ?_
      refine zzP 2 38 8 5 h2 ?_
      refine zzT 1 37 8 7 h2 l5 g3 ?_
      refine zzT 3 39 8 15 h2 l5 g3 ?_
      refine one_ (i:=4) (N:=some 40) (zzB 8 31) rfl rfl (one_of h2.out (by kernel_rfl)) (by decide) (fun K hK=>?_);refine goes_ Tryd.func24 (by kernel_rfl) rfl #[.slice e5 b8.length e6] (by rfl) rfl rfl zzM2 ?_;with_reducible refine (Qn.calls j6 _ _ b8 h7 _ ?side1 ?side2 H2.out).mono ?_
      (case side1=>exact zzcb h9 HB)
      (case side2=>exact j2.out);rintro e aEi ⟨H5,rfl,ho0,hb⟩;refine ⟨_,rfl,?_⟩;have b1:=zzm (Kd.N_elder' (zzN c7.out) (by first|exact Kd.N_base ho0|exact Kd.S_base ho0|exact Kd.R_base ho0) hb);have b2:=zzm (Kd.N_lower (Kd.N_mono (ok':=fun k_=>(w.heap.size≤k_)∧some k_≠(.slice g8 d3.length g9:Value).ownBlock∧k_≠a7∧k_≠a6∧k_≠a5∧k_≠a0) (Kd.S_N (Kd.S_bound ho0)) (fun k_ hk_=>⟨(Nat.le_trans (zzo zzh2) hk_.2.1),(Kd.fresh' (Kd.N_lt (zzN c7.out)) k_ hk_.2.1),(Kd.freshB (g:=a7) (o:=.cells #[.bool a9,.bool b5,.int .i64 b0,.int .i64 b6,.int .i64 b7,.slice d8 a8.length d9] 25 (0,0)) (zzE a3.out) k_ hk_.2.1),(Kd.freshB (g:=a6) (o:=.cells #[.bool d0,.bool d4,.int .i64 d1,.int .i64 d5,.int .i64 d6,.slice e5 b8.length e6] 25 (0,0)) (zzE a1.out) k_ hk_.2.1),(Kd.freshB (g:=a5) (o:=.cells #[.bool false,.bool false,.int .i64 0,.int .i64 0,.int .i64 0,.slice none 0 0] 25 (0,0)) (zzE a2.out) k_ hk_.2.1),(Kd.freshB (g:=a0) (o:=.cells #[.bool b9,.bool c5,.int .i64 d2,.int .i64 d7,.int .i64 e0,.slice g8 d3.length g9] 25 (0,0)) (zzE a4.out) k_ hk_.2.1)⟩)) (zzo zzh2));have b3:=zzm (zzh (g:=a7) (o:=.cells #[.bool a9,.bool b5,.int .i64 b0,.int .i64 b6,.int .i64 b7,.slice d8 a8.length d9] 25 (0,0)) (zzE a3.out) hb);have b4:=zzm (zzh (g:=a6) (o:=.cells #[.bool d0,.bool d4,.int .i64 d1,.int .i64 d5,.int .i64 d6,.slice e5 b8.length e6] 25 (0,0)) (zzE a1.out) hb);have e9:=zzm (zzh (g:=a5) (o:=.cells #[.bool false,.bool false,.int .i64 0,.int .i64 0,.int .i64 0,.slice none 0 0] 25 (0,0)) (zzE a2.out) hb);have g0:=zzm (zzh (g:=a0) (o:=.cells #[.bool b9,.bool c5,.int .i64 d2,.int .i64 d7,.int .i64 e0,.slice g8 d3.length g9] 25 (0,0)) (zzE a4.out) hb);have g4:=zzm (zzp zzh2 hb);clear c7 a3 a1 a2 a4 HB;have c7:=b1;have g1:=b2;have a3:=b3;have a1:=b4;have a2:=e9;have a4:=g0;have HB:=g4;clear b1 b2 b3 b4 e9 g0 g4
      (try clear hb)
      (try clear hb2)
      (try clear hk)
      (try clear hi)
      (try clear ho0);obtain ⟨aDd,aDe,eo99⟩:=Kd.N_slice g1.out
      (first|subst eo99|(injection eo99 with f1_ f2_ f3_;have f4_:=f1_.symm;have f5_:=f3_.symm;clear f1_ f2_ f3_;subst f4_;subst f5_));refine hK.out _ _ ⟨(zzk a4.out 0).trans rfl,(zzk a4.out 1).trans rfl,(zzk a4.out 2).trans rfl,(zzk a4.out 3).trans rfl,(zzk a4.out 4).trans rfl,(zzk a4.out 5).trans rfl,(zzk a1.out 0).trans rfl,(zzk a1.out 1).trans rfl,(zzk a1.out 2).trans rfl,(zzk a1.out 3).trans rfl,(zzk a1.out 4).trans rfl,(zzk a1.out 5).trans rfl⟩ (fun g3=>?_);clear hK K;refine zzO 40 ?_
      refine one_ (i:=5) (N:=some 41) (zzB 8 63) rfl rfl (one_of h2.out (by kernel_rfl)) (by decide) (fun K hK=>?_);refine Kd.N_append_rows_step k40 (w0:=w) w.heap.size (by rfl) (.tmp 37) (.tmp 40) 23 40 (.agg #[(.int .i64 0),(.int .i64 0),(.bool false),(.slice none 0 0),(.bool false),(.slice none 0 0)]) 80 rfl Tryd.underlying23 info40 rfl (by decide) (by omega) (.slice g8 d3.length g9) d3 h7 _ _ _ (fun k_=>(w.heap.size≤k_)∧k_≠a7∧k_≠a6∧k_≠a5∧k_≠a0) (fun k_=>((fun k_=>(w.heap.size≤k_)∧k_≠a7∧k_≠a6∧k_≠a5∧k_≠a0)) k_∧some k_≠(.slice g8 d3.length g9:Value).ownBlock) rfl rfl ?aO ?aR (fun _ hk=>hk) ?aF ?aB ?aS ?aL ?_
      (case aR=>exact (by skip;exact Kd.N_F (Kd.N_mono (ok':=(fun k_=>((fun k_=>(w.heap.size≤k_)∧k_≠a7∧k_≠a6∧k_≠a5∧k_≠a0)) k_∧some k_≠(.slice g8 d3.length g9:Value).ownBlock)) (g1.out) (fun k_ hk=>⟨⟨hk.1,⟨hk.2.2.1,⟨hk.2.2.2.1,⟨hk.2.2.2.2.1,hk.2.2.2.2.2⟩⟩⟩⟩,hk.2.1⟩))))
      (case aB=>exact zzh2)
      (case aF=>exact (fun k_ hk=>⟨(Nat.le_trans (zzo zzh2) hk),Kd.freshB (g:=a7) (o:=.cells #[.bool a9,.bool b5,.int .i64 b0,.int .i64 b6,.int .i64 b7,.slice d8 a8.length d9] 25 (0,0)) (zzE a3.out) k_ hk,Kd.freshB (g:=a6) (o:=.cells #[.bool d0,.bool d4,.int .i64 d1,.int .i64 d5,.int .i64 d6,.slice e5 b8.length e6] 25 (0,0)) (zzE a1.out) k_ hk,Kd.freshB (g:=a5) (o:=.cells #[.bool false,.bool false,.int .i64 0,.int .i64 0,.int .i64 0,.slice none 0 0] 25 (0,0)) (zzE a2.out) k_ hk,Kd.freshB (g:=a0) (o:=.cells #[.bool b9,.bool c5,.int .i64 d2,.int .i64 d7,.int .i64 e0,.slice g8 d3.length g9] 25 (0,0)) (zzE a4.out) k_ hk⟩))
      (case aO=>exact (zzN (Kd.N_mono c7.out (fun _ hk=>⟨hk.1.1,⟨hk.1.2.1,⟨hk.1.2.2.1,⟨hk.1.2.2.2.1,hk.1.2.2.2.2⟩⟩⟩⟩))))
      (case aS=>exact (zzo zzh2))
      (case aL=>have:=LMc60.out;omega);intro H6 Z4 ho hb hg hat;rw [← Ny313.out] at ho;have b1:=zzm (blk_grown (g:=a7) (o:=.cells #[.bool a9,.bool b5,.int .i64 b0,.int .i64 b6,.int .i64 b7,.slice d8 a8.length d9] 25 (0,0)) (zzE a3.out) hg (Kd.N_ne c7.out a3.out (by decide)));have b2:=zzm (blk_grown (g:=a6) (o:=.cells #[.bool d0,.bool d4,.int .i64 d1,.int .i64 d5,.int .i64 d6,.slice e5 b8.length e6] 25 (0,0)) (zzE a1.out) hg (Kd.N_ne c7.out a1.out (by decide)));have b3:=zzm (blk_grown (g:=a5) (o:=.cells #[.bool false,.bool false,.int .i64 0,.int .i64 0,.int .i64 0,.slice none 0 0] 25 (0,0)) (zzE a2.out) hg (Kd.N_ne c7.out a2.out (by decide)));have b4:=zzm (blk_grown (g:=a0) (o:=.cells #[.bool b9,.bool c5,.int .i64 d2,.int .i64 d7,.int .i64 e0,.slice g8 d3.length g9] 25 (0,0)) (zzE a4.out) hg (Kd.N_ne c7.out a4.out (by decide)));have e9:=zzm (Kd.N_afterv (ok:=(fun k_=>(w.heap.size≤k_)∧k_≠a7∧k_≠a6∧k_≠a5∧k_≠a0)) (zzN (Kd.N_mono g1.out (fun _ hk=>⟨⟨hk.1,⟨hk.2.2.1,⟨hk.2.2.2.1,⟨hk.2.2.2.2.1,hk.2.2.2.2.2⟩⟩⟩⟩,hk.2.1⟩))) hg hat);have g0:=zzm (hb);have g4:=zzm (ho);clear a3 a1 a2 a4 g1 HB c7;have a3:=b1;have a1:=b2;have a2:=b3;have a4:=b4;have g1:=e9;have HB:=g0;have g5:=g4;clear b1 b2 b3 b4 e9 g0 g4;clear ho hb hg hat;obtain ⟨j7,j4,eo100⟩:=Kd.N_slice g5.out
      (first|subst eo100|(injection eo100 with f1_ f2_ f3_;have f4_:=f1_.symm;have f5_:=f3_.symm;clear f1_ f2_ f3_;subst f4_;subst f5_));refine hK.out _ _ ⟨(zzk a4.out 0).trans rfl,(zzk a4.out 1).trans rfl,(zzk a4.out 2).trans rfl,(zzk a4.out 3).trans rfl,(zzk a4.out 4).trans rfl,(zzk a4.out 5).trans rfl,(zzk a1.out 0).trans rfl,(zzk a1.out 1).trans rfl,(zzk a1.out 2).trans rfl,(zzk a1.out 3).trans rfl,(zzk a1.out 4).trans rfl,(zzk a1.out 5).trans rfl⟩ (fun g3=>?_);clear hK K;refine zzO 41 ?_
      refine zzP 6 42 8 127 h2 ?_
      refine last_ (i:=7) (N:=none) (zzB 8 255) rfl rfl (one_of h2.out (by kernel_rfl)) (by decide) (fun K hK=>?_);have aCn:Z4.cell? ⟨a0,5,none⟩=some (.slice g8 d3.length g9):=(zzk a4.out 5).trans rfl;have Z5:=zzl a4.out 5;have H7:=e3.out;have H8:=e4.out;have H9:=c0.out;have I0:=h3.out;have I1:=h4.out;have I2:=g2.out;refine skip_ (w1:=?_) (by rfl) rfl ?_ ?_;rotate_left
      ·
       go_simp;rfl
      refine hK.out _ _ ?_;clear hK K;refine done_ (done_of h2.out (by kernel_rfl)) ?_;obtain ⟨I3,I4,I5,I6,I7,I8,I9,J0,J1,J2,J3,J4⟩:=zzc6 a4.out;try go_wp2_with (first|((with_reducible refine gate_callee (f:=9) rfl ?_);refine goesL_ (some 44) rfl rfl Tryd.func9 (by kernel_rfl) rfl #[.agg #[.bool b9,.bool c5,.int .i64 d2,.int .i64 d7,.int .i64 e0,.slice j7 y313.length j4]] rfl zzM2 ?_;(with_reducible refine (Qd.calls j6 b9 c5 d2 d7 e0 _ _ y313 false _ ?side1 ?side2 H3.out).mono ?_);(case side1=>refine (Kd.N_reads' (e:=40) (base:=w.heap.size) (ok:=fun k_=>((w.heap.size≤k_)∧(k_≠a7∧(k_≠a6∧(k_≠a5∧k_≠a0))))) (n:=y313.length) (c:=j4) ?_).2.2;exact (zzN ((Kd.N_mono (Kd.N_far (p:=⟨a0,5,none⟩) (Kd.N_mono g5.out (fun k_ hk=>(⟨hk,hk.2.2.2.2⟩:_∧k_≠a0))) (fun _ hk=>hk.2) (.slice j7 y313.length j4)) (fun _ h_=>h_.1)))));(case side2=>exact (Kd.N_reads' g5.out).2.1);rintro e J5 ⟨rfl,hb⟩;refine ⟨_,rfl,?_⟩;have b1:=zzm (Kd.N_below (zzN ((Kd.N_mono (Kd.N_far (p:=⟨a0,5,none⟩) (Kd.N_mono g1.out (fun k_ hk=>(⟨hk,hk.1.2.2.2.2⟩:_∧k_≠a0))) (fun _ hk=>hk.2) (.slice j7 y313.length j4)) (fun _ h_=>h_.1)))) hb);have b2:=zzm (Kd.N_below (zzN ((Kd.N_mono (Kd.N_far (p:=⟨a0,5,none⟩) (Kd.N_mono g5.out (fun k_ hk=>(⟨hk,hk.2.2.2.2⟩:_∧k_≠a0))) (fun _ hk=>hk.2) (.slice j7 y313.length j4)) (fun _ h_=>h_.1)))) hb);have b3:=zzm (zzh (g:=a7) (o:=.cells #[.bool a9,.bool b5,.int .i64 b0,.int .i64 b6,.int .i64 b7,.slice d8 a8.length d9] 25 (0,0)) (by (with_reducible repeat (first|apply zzf|apply zzg|apply zze));refine zzj ?_ e3.out _;(with_reducible repeat (first|apply zzf|apply zzg|apply zze));exact a3.out) hb);have b4:=zzm (zzh (g:=a6) (o:=.cells #[.bool d0,.bool d4,.int .i64 d1,.int .i64 d5,.int .i64 d6,.slice e5 b8.length e6] 25 (0,0)) (by (with_reducible repeat (first|apply zzf|apply zzg|apply zze));refine zzj ?_ e4.out _;(with_reducible repeat (first|apply zzf|apply zzg|apply zze));exact a1.out) hb);have e9:=zzm (zzh (g:=a5) (o:=.cells #[.bool false,.bool false,.int .i64 0,.int .i64 0,.int .i64 0,.slice none 0 0] 25 (0,0)) (by (with_reducible repeat (first|apply zzf|apply zzg|apply zze));refine zzj ?_ c0.out _;(with_reducible repeat (first|apply zzf|apply zzg|apply zze));exact a2.out) hb);have g0:=zzm (zzh (g:=a0) (o:=.cells #[.bool b9,.bool c5,.int .i64 d2,.int .i64 d7,.int .i64 e0,.slice j7 y313.length j4] 25 (0,0)) (by (with_reducible repeat (first|apply zzf|apply zzg|apply zze));refine zzi (cs:=#[.bool b9,.bool c5,.int .i64 d2,.int .i64 d7,.int .i64 e0,.slice g8 d3.length g9]) ?_ 5 _ rfl;(with_reducible repeat (first|apply zzf|apply zzg|apply zze));exact a4.out) hb);have g4:=zzm (zzp zzh2 hb);clear g1 g5 a3 a1 a2 a4 HB;have g1:=b1;have g5:=b2;have a3:=b3;have a1:=b4;have a2:=e9;have a4:=g0;have HB:=g4;clear b1 b2 b3 b4 e9 g0 g4;(try clear hb);(try clear hb2);(try clear hk);(try clear hi)))
      have b1:=zzm (Kd.N_drew g1.out);have b2:=zzm (Kd.N_drew g5.out);have b3:=zzm (zzg a3.out);have b4:=zzm (zzg a1.out);have e9:=zzm (zzg a2.out);have g0:=zzm (zzg a4.out);have g4:=zzm (zzc HB.out);clear g1 g5 a3 a1 a2 a4 HB;have g1:=b1;have g5:=b2;have a3:=b3;have a1:=b4;have a2:=e9;have a4:=g0;have HB:=g4;clear b1 b2 b3 b4 e9 g0 g4;refine start_ (n:=4) (S:=fun w'=>w'.cell? ⟨0,0,none⟩=some (errV p0 true)) (ds:=[]) #[false,false,false,false] (by kernel_rfl) rfl rfl (glob HG0.out zzh1) (fun g3=>?_);generalize J5.drew=j8 at g1 g5 a3 a1 a2 a4 HB g3 ⊢;refine pure_ (i:=0) (N:=some 46) (v:=?_) (a':=?_) #[true,false,false,false] rfl rfl (by kernel_rfl) (fun _ _ _ h=>h) (Or.inl ⟨by rfl,?_⟩) ?_ ?_;rotate_left
      ·
       intro w';go_simp;with_reducible rfl
      rotate_left
      ·
       simp only [zzJ];rfl
      refine take_ (i:=1) (N:=some 47) (v:=?_) (a':=?_) #[true,true,false,false] rfl rfl (by kernel_rfl) (fun _ _ _ h=>h) (Or.inl ⟨by rfl,?_⟩) g3 ?_ ?_;rotate_left
      ·
       intro w' hs_;go_simp;with_reducible rfl
      rotate_left
      ·
       simp only [zzJ];rfl
      refine one_ (i:=2) (N:=none) #[true,true,true,false] rfl rfl (by kernel_rfl) (by decide) (fun K hK=>?_);have aCo:j8.cell? ⟨a5,0,none⟩=some (.bool false):=(zzk a2.out 0).trans rfl;have Z6:=zzl a2.out 0;have J6:=e1.out;have J7:=e7.out;have J8:=g2.out;have J9:=e2.out;have K0:=e8.out;have K1:=c0.out;have aCp:j8.cell? ⟨a5,1,none⟩=some (.bool false):=(zzk a2.out 1).trans rfl;have Z7:=zzl a2.out 1;have K2:=e1.out;have K3:=e7.out;have K4:=g2.out;have K5:=e2.out;have K6:=e8.out;have K7:=c0.out;have aCq:j8.cell? ⟨a5,2,none⟩=some (.int .i64 0):=(zzk a2.out 2).trans rfl;have Z8:=zzl a2.out 2;have K8:=e1.out;have K9:=e7.out;have L0:=g2.out;have L1:=e2.out;have L2:=e8.out;have L3:=c0.out;have aCr:j8.cell? ⟨a5,3,none⟩=some (.int .i64 0):=(zzk a2.out 3).trans rfl;have Z9:=zzl a2.out 3;have L4:=e1.out;have L5:=e7.out;have L6:=g2.out;have L7:=e2.out;have L8:=e8.out;have L9:=c0.out;have aCs:j8.cell? ⟨a5,4,none⟩=some (.int .i64 0):=(zzk a2.out 4).trans rfl;have aAa:=zzl a2.out 4;have M0:=e1.out;have M1:=e7.out;have M2:=g2.out;have M3:=e2.out;have M4:=e8.out;have M5:=c0.out;have aCt:j8.cell? ⟨a5,5,none⟩=some (.slice none 0 0):=(zzk a2.out 5).trans rfl;have aAb:=zzl a2.out 5;have M6:=e1.out;have M7:=e7.out;have M8:=g2.out;have M9:=e2.out;have N0:=e8.out;have N1:=c0.out;refine skip_ (w1:=?_) (by rfl) rfl ?_ ?_;rotate_left
      ·
       go_simp;rfl
      refine hK.out _ _ (glob HG0.out zzh2) (fun g3=>?_);clear hK K;refine pure_ (i:=3) (N:=some 5) (v:=?_) (a':=?_) #[true,true,true,true] rfl rfl (by kernel_rfl) (fun _ _ _ h=>h) (Or.inl ⟨by rfl,?_⟩) ?_ ?_;rotate_left
      ·
       intro w';go_simp;with_reducible rfl
      rotate_left
      ·
       simp only [zzJ];rfl
      refine done_ (by kernel_rfl) ?_;try go_wp2
      refine bodyPost_ret (results_ct rfl _ _ a5 25 #[.bool false,.bool false,.int .i64 0,.int .i64 0,.int .i64 0,.slice none 0 0] (0,0) _ rfl (by (with_reducible repeat (first|apply zzf|apply zzg|apply zze));refine zzi (cs:=#[.bool false,.bool false,.int .i64 0,.int .i64 0,.int .i64 0,.slice none 0 0]) ?_ 5 _ rfl;refine zzi (cs:=#[.bool false,.bool false,.int .i64 0,.int .i64 0,.int .i64 0,.slice none 0 0]) ?_ 4 _ rfl;refine zzi (cs:=#[.bool false,.bool false,.int .i64 0,.int .i64 0,.int .i64 0,.slice none 0 0]) ?_ 3 _ rfl;refine zzi (cs:=#[.bool false,.bool false,.int .i64 0,.int .i64 0,.int .i64 0,.slice none 0 0]) ?_ 2 _ rfl;refine zzi (cs:=#[.bool false,.bool false,.int .i64 0,.int .i64 0,.int .i64 0,.slice none 0 0]) ?_ 1 _ rfl;refine zzi (cs:=#[.bool false,.bool false,.int .i64 0,.int .i64 0,.int .i64 0,.slice none 0 0]) ?_ 0 _ rfl;(with_reducible repeat (first|apply zzf|apply zzg|apply zze));exact a2.out) Tryd.underlying25 rfl (by kernel_rfl)) rfl ?_;exact ⟨_,zzR,by first|exact Kd.S_nil _ _ _ _ _|exact Kd.N_nil _ _ _ _ _|exact Kd.V_nil _ _ _ _ _|exact Kd.Q_nil _ _ _ _ _|exact Kd.R_nil _ _ _ _ _,zzh3⟩
    ·
     rw [if_neg m6] at H;exact absurd H (by simp)
end Go.Proofs.YtlckpbjldmkibaaDoor.T
