/- The law FnJoinCard holds (part 7 of 8; merged by pack2.py). -/
import Derived.Test.YtlckpbjldmkibaaDoorFnJoinCardK5
set_option maxRecDepth 1000000
open List (setIfInBounds_toArray set_cons_zero set_cons_succ map_toArray map_cons map_nil length_drop length_take)
namespace Go.Proofs.YtlckpbjldmkibaaDoor.T
open Go.RowKit Go.Proofs.YtlckpbjldmkibaaDoorW.PrintWords Go.Proofs.YtlckpbjldmkibaaDoorW.PrintLast Go.Proofs.YtlckpbjldmkibaaDoorW.PrintMore
attribute [local go_sem] max2_int max_two
set_option linter.unusedVariables false
set_option linter.unusedSimpArgs false
def Qq.l0:Nat→List Int→List Int→Int→Option (Bool)
 | 0,_,_,_=>none
 | k+1,x0,x1,x5=>if x5 < (x0.length:Int) then (if 0≤x5 then (if x5 < (x1.length:Int) then (if (rd x0 x5)=(rd x1 x5) then (Qq.l0 k x0 x1 (wrap64 (x5+1))) else (some false)) else (none)) else (none)) else (some true)
def Qq.f (k:Nat) (l0:List Int) (l1:List Int):Option (Bool):=if (l0.length:Int)=(l1.length:Int) then (Qq.l0 k l0 l1 0) else (some false)
set_option maxHeartbeats 8000000 in
theorem Qq.calls (k:Nat) (A0:Option Addr) (c0:Nat) (l0:List Int) (A1:Option Addr) (c1:Nat) (l1:List Int) (r:Bool) (w:World) (b4:Kd.C (Kd.int .i64) w A0 l0.length l0) (b5:l0.length≤c0) (b6:Kd.C (Kd.int .i64) w A1 l1.length l1) (b7:l1.length≤c1) (h:Qq.f k l0 l1=some r) :
  Calls Tryd.prog 32 #[.slice A0 l0.length c0,.slice A1 l1.length c1] w fun e w'=>e = .returned (.bool r)∧Drawn0 w w':=by
 have b8:=zzm b4;have d2:=zzm b5;clear b4 b5;have b9:=zzm b6;have d3:=zzm b7;clear b6 b7;have H:(if (l0.length:Int)=(l1.length:Int) then (Qq.l0 k l0 l1 0) else (some false))=some r:=h;clear h;by_cases c3:(l0.length:Int)=(l1.length:Int)
 ·
  rw [if_pos c3] at H;obtain ⟨a9,b0⟩:=zzQ c3;have b1:(l0.length==l1.length)=true:=by first|simpa using c3|(simp at c3 ⊢;omega)
  clear c3;have H':=zzm H;clear H;go_enter Tryd.func32,Tryd.ntmps32;go_wp2;repeat (go_quiet (fail);try go_wp2)
  go_loopg [5] k (fun kq v5 w'=>∃ (a0:Int),v5 = .int .i64 a0∧Aside0 (Qq.l0 kq l0 l1 a0=some r)∧Aside0 (kq≤k)∧Drawn0 w w')
  case atStart=>exact ⟨(0),(by first|rfl|(simp;done)|(simp [*];done)),H',⟨Nat.le_refl _⟩,by repeat (first|exact Drawn0.refl _|apply Drawn0.step)⟩
  case round=>
   clear H';try clear c1
   try clear p2
   try clear c3
   try clear a9
   try clear b0
   try clear b1
   obtain ⟨a0,rfl,HA,HK1,⟨m1,rfl⟩⟩:=hrel;cases gk with
   | zero=>exact absurd HA.out (by simp [Qq.l0])
   | succ k1=>
    have H:=HA.out;clear HA;simp only [Qq.l0] at H;by_cases c4:a0 < (l0.length:Int)
    ·
     rw [if_pos c4] at H;have c2:decide (a0 < (l0.length:Int))=true:=decide_eq_true c4;clear c4;by_cases c5 : 0≤a0
     ·
      rw [if_pos c5] at H;have d0:decide (0≤a0)=true:=decide_eq_true c5;clear c5;by_cases c6:a0 < (l1.length:Int)
      ·
       rw [if_pos c6] at H;have d1:decide (a0 < (l1.length:Int))=true:=decide_eq_true c6;clear c6;by_cases c7:(rd l0 a0)=(rd l1 a0)
       ·
        rw [if_pos c7] at H;obtain ⟨c8,c9⟩:=zzQ c7;clear c7;have H':=zzm H;clear H;have a1 : 0≤(a0:Int):=zzt;have a2:a0 < (l0.length:Int):=zzt;obtain ⟨b2,a5,a7⟩:=Kd.at_int b8.out a0 a1 a2;cases a5;replace a1:=eq_true a1;replace a2:=eq_true a2;have a3 : 0≤(a0:Int):=zzt;have a4:a0 < (l1.length:Int):=zzt;obtain ⟨b3,a6,a8⟩:=Kd.at_int b9.out a0 a3 a4;cases a6;replace a3:=eq_true a3;replace a4:=eq_true a4;go_wp2;repeat (go_quiet (fail);try go_wp2)
        go_roundg k1
        case measure=>have:=HK1.out;omega
        case rel=>exact ⟨(wrap64 (a0+1)),(by first|rfl|(simp;done)|(simp [*];done)),H',⟨by have:=HK1.out;omega⟩,by repeat (first|exact Drawn0.refl _|apply Drawn0.step)⟩
       ·
        rw [if_neg c7] at H;obtain ⟨c8,c9⟩:=zzY c7;obtain rfl:=Option.some.inj H;have a1 : 0≤(a0:Int):=zzt;have a2:a0 < (l0.length:Int):=zzt;obtain ⟨b2,a5,a7⟩:=Kd.at_int b8.out a0 a1 a2;cases a5;replace a1:=eq_true a1;replace a2:=eq_true a2;have a3 : 0≤(a0:Int):=zzt;have a4:a0 < (l1.length:Int):=zzt;obtain ⟨b3,a6,a8⟩:=Kd.at_int b9.out a0 a3 a4;cases a6;replace a3:=eq_true a3;replace a4:=eq_true a4;go_wp2;repeat (go_quiet (fail);try go_wp2)
        go_ret;exact ⟨by first|rfl|(simp;done)|(simp [*];done),by repeat (first|exact Drawn0.refl _|apply Drawn0.step)⟩
      ·
       rw [if_neg c6] at H;exact absurd H (by simp)
     ·
      rw [if_neg c5] at H;exact absurd H (by simp)
    ·
     rw [if_neg c4] at H;have c2:decide (a0 < (l0.length:Int))=false:=decide_eq_false c4;clear c4;obtain rfl:=Option.some.inj H;go_wp2;repeat (go_quiet (fail);try go_wp2)
     go_ret;exact ⟨by first|rfl|(simp;done)|(simp [*];done),by repeat (first|exact Drawn0.refl _|apply Drawn0.step)⟩
 ·
  rw [if_neg c3] at H;obtain ⟨a9,b0⟩:=zzY c3;have b1:(l0.length==l1.length)=false:=by first|simpa using c3|(simp at c3 ⊢;omega)
  obtain rfl:=Option.some.inj H;go_enter Tryd.func32,Tryd.ntmps32;go_wp2;repeat (go_quiet (fail);try go_wp2)
  go_ret;exact ⟨by first|rfl|(simp;done)|(simp [*];done),by repeat (first|exact Drawn0.refl _|apply Drawn0.step)⟩
def Rf.f (k:Nat) (a0_0:Int) (a0_1:Int) (a0_2:Bool) (l0_3:List Int) (a0_4:Bool) (l0_5:List Int) (a1_0:Int) (a1_1:Int) (a1_2:Bool) (l1_3:List Int) (a1_4:Bool) (l1_5:List Int):Option (Bool):=if a0_0=a1_0 then (if a0_1=a1_1 then (if (a0_2==a1_2)=true then (if (a0_4==a1_4)=true then ((Qq.f k l0_3 l1_3).bind fun t411=>(if t411=true then ((Qq.f k l0_5 l1_5).bind fun t412=>(some t412)) else (some false))) else (some false)) else (some false)) else (some false)) else (some false)
set_option maxHeartbeats 8000000 in
theorem Rf.calls (k:Nat) (a7:Int) (a8:Int) (a3:Bool) (a9:Option Addr) (b0:Nat) (a5:List Int) (a4:Bool) (b1:Option Addr) (b2:Nat) (a6:List Int) (d2:Int) (d3:Int) (b9:Bool) (d4:Option Addr) (d5:Nat) (c1:List Int) (c0:Bool) (d6:Option Addr) (d7:Nat) (c7:List Int) (r:Bool) (w:World) (e4:Kd.C (Kd.int .i64) w a9 a5.length a5) (e5:a5.length≤b0) (e6:Kd.C (Kd.int .i64) w b1 a6.length a6) (e7:a6.length≤b2) (e8:Kd.C (Kd.int .i64) w d4 c1.length c1) (e9:c1.length≤d5) (g0:Kd.C (Kd.int .i64) w d6 c7.length c7) (g1:c7.length≤d7) (h:Rf.f k a7 a8 a3 a5 a4 a6 d2 d3 b9 c1 c0 c7=some r) :
  Calls Tryd.prog 21 #[.agg #[.int .i64 a7,.int .i64 a8,.bool a3,.slice a9 a5.length b0,.bool a4,.slice b1 a6.length b2],.agg #[.int .i64 d2,.int .i64 d3,.bool b9,.slice d4 c1.length d5,.bool c0,.slice d6 c7.length d7]] w fun e w'=>e = .returned (.bool r)∧Below w.heap.size w w':=by
 have hu40:=Tryd.underlying40;have g2:=zzm e4;have g3:=zzm e5;clear e4 e5;have g6:=zzm e6;have g7:=zzm e7;clear e6 e7;have g4:=zzm e8;have g5:=zzm e9;clear e8 e9;have g8:=zzm g0;have g9:=zzm g1;clear g0 g1;have HB:=zzm (Below.refl w.heap.size w);have H:(if a7=d2 then (if a8=d3 then (if (a3==b9)=true then (if (a4==c0)=true then ((Qq.f k a5 c1).bind fun e2=>(if e2=true then ((Qq.f k a6 c7).bind fun e3=>(some e3)) else (some false))) else (some false)) else (some false)) else (some false)) else (some false))=some r:=h;clear h;by_cases c3:a7=d2
 ·
  rw [if_pos c3] at H;obtain ⟨h0,h1⟩:=zzQ c3;clear c3;by_cases c4:a8=d3
  ·
   rw [if_pos c4] at H;obtain ⟨h2,h3⟩:=zzQ c4;clear c4;by_cases c5:(a3==b9)=true
   ·
    rw [if_pos c5] at H;have h4:(a3==b9)=true:=c5
    (try (have h5:decide (a3=b9)=true:=by simpa using c5))
    (try (have h6:(a3==b9)=true:=by simpa using c5));clear c5;by_cases c6:(a4==c0)=true
    ·
     rw [if_pos c6] at H;have h7:(a4==c0)=true:=c6
     (try (have h8:decide (a4=c0)=true:=by simpa using c6))
     (try (have h9:(a4==c0)=true:=by simpa using c6));clear c6;obtain ⟨e2,A7,H⟩:=zzG H;by_cases c8:e2=true
     ·
      subst c8;replace H:=zzIt H;obtain ⟨e3,A9,H⟩:=zzG H;obtain rfl:=Option.some.inj H;go_enter Tryd.func21,Tryd.ntmps21;go_wp2_with (first|((with_reducible refine gate_dst (N:=2) rfl ?_);refine box_event ?hg (N:=2) ?hd (cs:=#[.int .i64 a7,.int .i64 a8,.bool a3,.slice a9 a5.length b0,.bool a4,.slice b1 a6.length b2]) (t:=40) ?hr ?_;(case hd=>rfl);(case hg=>rfl);(case hr=>first|(go_simp;done)|(go_simp;rfl));intro a0 hg A1 hbox hb;have b3:=zzm (zzp zzh1 hb);have b4:=zzm (hbox);have b5:=zzm ((by rw [hg];exact (zzo zzh1):w.heap.size≤a0));have b6:=zzm ((by rw [hg];exact (zzo zzh1):w.heap.size≤a0));clear HB;have HB:=b3;have a1:=b4;have d8:=b5;have d9:=b6;clear b3 b4 b5 b6 hb hbox hg)|((with_reducible refine gate_dst (N:=3) rfl ?_);refine box_event ?hg (N:=3) ?hd (cs:=#[.int .i64 d2,.int .i64 d3,.bool b9,.slice d4 c1.length d5,.bool c0,.slice d6 c7.length d7]) (t:=40) ?hr ?_;(case hd=>rfl);(case hg=>rfl);(case hr=>first|(go_simp;done)|(go_simp;rfl));intro a2 hg A2 hbox hb;have b3:=zzm (zzh (g:=a0) (o:=.cells #[.int .i64 a7,.int .i64 a8,.bool a3,.slice a9 a5.length b0,.bool a4,.slice b1 a6.length b2] 40 (0,0)) (zzE a1.out) hb);have b4:=zzm (zzp zzh2 hb);have b5:=zzm (hbox);have b6:=zzm ((by rw [hg];exact (zzo zzh2):w.heap.size≤a2));have c9:=zzm ((by rw [hg];exact (zzo zzh2):w.heap.size≤a2));have d0:=zzm ((by rw [hg];exact Nat.ne_of_lt (blk_lt (g:=a0) (o:=.cells #[.int .i64 a7,.int .i64 a8,.bool a3,.slice a9 a5.length b0,.bool a4,.slice b1 a6.length b2] 40 (0,0)) (zzE a1.out)):a0≠a2));have d1:=zzm ((by rw [hg];exact Nat.ne_of_gt (blk_lt (g:=a0) (o:=.cells #[.int .i64 a7,.int .i64 a8,.bool a3,.slice a9 a5.length b0,.bool a4,.slice b1 a6.length b2] 40 (0,0)) (zzE a1.out)):a2≠a0));clear a1 HB;have a1:=b3;have HB:=b4;have c2:=b5;have e0:=b6;have e1:=c9;have b7:=d0;have b8:=d1;clear b3 b4 b5 b6 c9 d0 d1 hb hbox hg;have y7:=b7.out;have y8:=b8.out;obtain ⟨j2,j3,j4,j5,j6,j7,j8,j9,k0,k1,k2,k3⟩:=zzc6 a1.out;obtain ⟨k4,k5,k6,k7,k8,k9,l1,l2,l3,l4,l5,l6⟩:=zzc6 c2.out)|(go_at_call 32;(with_reducible refine (Qq.calls k _ _ a5 _ _ c1 true _ ?side1 ?side2 ?side3 ?side4 A7.out).mono ?_);(case side1=>exact zzcb g2 HB);(case side2=>exact g3.out);(case side3=>exact zzcb g4 HB);(case side4=>exact g5.out);rintro e w' ⟨rfl,⟨nd,rfl⟩⟩)|(go_at_call 32;(with_reducible refine (Qq.calls k _ _ a6 _ _ c7 e3 _ ?side1 ?side2 ?side3 ?side4 A9.out).mono ?_);(case side1=>repeat (first|exact (Kd.C_below g6.out zzh2)|(with_reducible refine Kd.C_alloc ?_ _)|(with_reducible refine Kd.C_drewN ?_ _)|(with_reducible refine Kd.C_drew ?_)));(case side2=>exact g7.out);(case side3=>repeat (first|exact (Kd.C_below g8.out zzh2)|(with_reducible refine Kd.C_alloc ?_ _)|(with_reducible refine Kd.C_drewN ?_ _)|(with_reducible refine Kd.C_drew ?_)));(case side4=>exact g9.out);rintro e w' ⟨rfl,⟨nd,rfl⟩⟩));go_ret;exact ⟨zzR,zzh3⟩
     ·
      replace c8:=Bool.eq_false_iff.mpr c8;subst c8;replace H:=zzIf H;obtain rfl:=Option.some.inj H;go_enter Tryd.func21,Tryd.ntmps21;go_wp2_with (first|((with_reducible refine gate_dst (N:=2) rfl ?_);refine box_event ?hg (N:=2) ?hd (cs:=#[.int .i64 a7,.int .i64 a8,.bool a3,.slice a9 a5.length b0,.bool a4,.slice b1 a6.length b2]) (t:=40) ?hr ?_;(case hd=>rfl);(case hg=>rfl);(case hr=>first|(go_simp;done)|(go_simp;rfl));intro a0 hg A3 hbox hb;have b3:=zzm (zzp zzh1 hb);have b4:=zzm (hbox);have b5:=zzm ((by rw [hg];exact (zzo zzh1):w.heap.size≤a0));have b6:=zzm ((by rw [hg];exact (zzo zzh1):w.heap.size≤a0));clear HB;have HB:=b3;have a1:=b4;have d8:=b5;have d9:=b6;clear b3 b4 b5 b6 hb hbox hg)|((with_reducible refine gate_dst (N:=3) rfl ?_);refine box_event ?hg (N:=3) ?hd (cs:=#[.int .i64 d2,.int .i64 d3,.bool b9,.slice d4 c1.length d5,.bool c0,.slice d6 c7.length d7]) (t:=40) ?hr ?_;(case hd=>rfl);(case hg=>rfl);(case hr=>first|(go_simp;done)|(go_simp;rfl));intro a2 hg A4 hbox hb;have b3:=zzm (zzh (g:=a0) (o:=.cells #[.int .i64 a7,.int .i64 a8,.bool a3,.slice a9 a5.length b0,.bool a4,.slice b1 a6.length b2] 40 (0,0)) (zzE a1.out) hb);have b4:=zzm (zzp zzh2 hb);have b5:=zzm (hbox);have b6:=zzm ((by rw [hg];exact (zzo zzh2):w.heap.size≤a2));have c9:=zzm ((by rw [hg];exact (zzo zzh2):w.heap.size≤a2));have d0:=zzm ((by rw [hg];exact Nat.ne_of_lt (blk_lt (g:=a0) (o:=.cells #[.int .i64 a7,.int .i64 a8,.bool a3,.slice a9 a5.length b0,.bool a4,.slice b1 a6.length b2] 40 (0,0)) (zzE a1.out)):a0≠a2));have d1:=zzm ((by rw [hg];exact Nat.ne_of_gt (blk_lt (g:=a0) (o:=.cells #[.int .i64 a7,.int .i64 a8,.bool a3,.slice a9 a5.length b0,.bool a4,.slice b1 a6.length b2] 40 (0,0)) (zzE a1.out)):a2≠a0));clear a1 HB;have a1:=b3;have HB:=b4;have c2:=b5;have e0:=b6;have e1:=c9;have b7:=d0;have b8:=d1;clear b3 b4 b5 b6 c9 d0 d1 hb hbox hg;have y9:=b7.out;have z0:=b8.out;obtain ⟨l7,l8,l9,m0,m1,m2,m3,m4,m5,m6,m7,m8⟩:=zzc6 a1.out;obtain ⟨m9,n0,n1,n2,n3,n4,n5,n6,n7,n8,n9,o0⟩:=zzc6 c2.out)|(go_at_call 32;(with_reducible refine (Qq.calls k _ _ a5 _ _ c1 false _ ?side1 ?side2 ?side3 ?side4 A7.out).mono ?_);(case side1=>exact zzcb g2 HB);(case side2=>exact g3.out);(case side3=>exact zzcb g4 HB);(case side4=>exact g5.out);rintro e w' ⟨rfl,⟨nd,rfl⟩⟩));go_ret;exact ⟨zzR,zzh3⟩
    ·
     rw [if_neg c6] at H;have h7:(a4==c0)=false:=by simpa using c6
     (try (have h8:decide (a4=c0)=false:=by simpa using c6))
     (try (have h9:(a4==c0)=false:=by simpa using c6))
     (try (have z9:¬ (a4=c0):=by simpa using c6));clear c6;obtain rfl:=Option.some.inj H;go_enter Tryd.func21,Tryd.ntmps21;go_wp2_with (first|((with_reducible refine gate_dst (N:=2) rfl ?_);refine box_event ?hg (N:=2) ?hd (cs:=#[.int .i64 a7,.int .i64 a8,.bool a3,.slice a9 a5.length b0,.bool a4,.slice b1 a6.length b2]) (t:=40) ?hr ?_;(case hd=>rfl);(case hg=>rfl);(case hr=>first|(go_simp;done)|(go_simp;rfl));intro a0 hg A5 hbox hb;have b3:=zzm (zzp zzh1 hb);have b4:=zzm (hbox);have b5:=zzm ((by rw [hg];exact (zzo zzh1):w.heap.size≤a0));have b6:=zzm ((by rw [hg];exact (zzo zzh1):w.heap.size≤a0));clear HB;have HB:=b3;have a1:=b4;have d8:=b5;have d9:=b6;clear b3 b4 b5 b6 hb hbox hg)|((with_reducible refine gate_dst (N:=3) rfl ?_);refine box_event ?hg (N:=3) ?hd (cs:=#[.int .i64 d2,.int .i64 d3,.bool b9,.slice d4 c1.length d5,.bool c0,.slice d6 c7.length d7]) (t:=40) ?hr ?_;(case hd=>rfl);(case hg=>rfl);(case hr=>first|(go_simp;done)|(go_simp;rfl));intro a2 hg A6 hbox hb;have b3:=zzm (zzh (g:=a0) (o:=.cells #[.int .i64 a7,.int .i64 a8,.bool a3,.slice a9 a5.length b0,.bool a4,.slice b1 a6.length b2] 40 (0,0)) (zzE a1.out) hb);have b4:=zzm (zzp zzh2 hb);have b5:=zzm (hbox);have b6:=zzm ((by rw [hg];exact (zzo zzh2):w.heap.size≤a2));have c9:=zzm ((by rw [hg];exact (zzo zzh2):w.heap.size≤a2));have d0:=zzm ((by rw [hg];exact Nat.ne_of_lt (blk_lt (g:=a0) (o:=.cells #[.int .i64 a7,.int .i64 a8,.bool a3,.slice a9 a5.length b0,.bool a4,.slice b1 a6.length b2] 40 (0,0)) (zzE a1.out)):a0≠a2));have d1:=zzm ((by rw [hg];exact Nat.ne_of_gt (blk_lt (g:=a0) (o:=.cells #[.int .i64 a7,.int .i64 a8,.bool a3,.slice a9 a5.length b0,.bool a4,.slice b1 a6.length b2] 40 (0,0)) (zzE a1.out)):a2≠a0));clear a1 HB;have a1:=b3;have HB:=b4;have c2:=b5;have e0:=b6;have e1:=c9;have b7:=d0;have b8:=d1;clear b3 b4 b5 b6 c9 d0 d1 hb hbox hg;have z1:=b7.out;have z2:=b8.out;obtain ⟨o1,o2,o3,o4,o5,o6,o7,o8,o9,p0,p1,p2⟩:=zzc6 a1.out;obtain ⟨p3,p4,p5,p6,p7,p8,p9,q0,q1,q2,q3,q4⟩:=zzc6 c2.out));go_ret;exact ⟨zzR,zzh3⟩
   ·
    rw [if_neg c5] at H;have h4:(a3==b9)=false:=by simpa using c5
    (try (have h5:decide (a3=b9)=false:=by simpa using c5))
    (try (have h6:(a3==b9)=false:=by simpa using c5))
    (try (have A0:¬ (a3=b9):=by simpa using c5));clear c5;obtain rfl:=Option.some.inj H;go_enter Tryd.func21,Tryd.ntmps21;go_wp2_with (first|((with_reducible refine gate_dst (N:=2) rfl ?_);refine box_event ?hg (N:=2) ?hd (cs:=#[.int .i64 a7,.int .i64 a8,.bool a3,.slice a9 a5.length b0,.bool a4,.slice b1 a6.length b2]) (t:=40) ?hr ?_;(case hd=>rfl);(case hg=>rfl);(case hr=>first|(go_simp;done)|(go_simp;rfl));intro a0 hg A8 hbox hb;have b3:=zzm (zzp zzh1 hb);have b4:=zzm (hbox);have b5:=zzm ((by rw [hg];exact (zzo zzh1):w.heap.size≤a0));have b6:=zzm ((by rw [hg];exact (zzo zzh1):w.heap.size≤a0));clear HB;have HB:=b3;have a1:=b4;have d8:=b5;have d9:=b6;clear b3 b4 b5 b6 hb hbox hg)|((with_reducible refine gate_dst (N:=3) rfl ?_);refine box_event ?hg (N:=3) ?hd (cs:=#[.int .i64 d2,.int .i64 d3,.bool b9,.slice d4 c1.length d5,.bool c0,.slice d6 c7.length d7]) (t:=40) ?hr ?_;(case hd=>rfl);(case hg=>rfl);(case hr=>first|(go_simp;done)|(go_simp;rfl));intro a2 hg B0 hbox hb;have b3:=zzm (zzh (g:=a0) (o:=.cells #[.int .i64 a7,.int .i64 a8,.bool a3,.slice a9 a5.length b0,.bool a4,.slice b1 a6.length b2] 40 (0,0)) (zzE a1.out) hb);have b4:=zzm (zzp zzh2 hb);have b5:=zzm (hbox);have b6:=zzm ((by rw [hg];exact (zzo zzh2):w.heap.size≤a2));have c9:=zzm ((by rw [hg];exact (zzo zzh2):w.heap.size≤a2));have d0:=zzm ((by rw [hg];exact Nat.ne_of_lt (blk_lt (g:=a0) (o:=.cells #[.int .i64 a7,.int .i64 a8,.bool a3,.slice a9 a5.length b0,.bool a4,.slice b1 a6.length b2] 40 (0,0)) (zzE a1.out)):a0≠a2));have d1:=zzm ((by rw [hg];exact Nat.ne_of_gt (blk_lt (g:=a0) (o:=.cells #[.int .i64 a7,.int .i64 a8,.bool a3,.slice a9 a5.length b0,.bool a4,.slice b1 a6.length b2] 40 (0,0)) (zzE a1.out)):a2≠a0));clear a1 HB;have a1:=b3;have HB:=b4;have c2:=b5;have e0:=b6;have e1:=c9;have b7:=d0;have b8:=d1;clear b3 b4 b5 b6 c9 d0 d1 hb hbox hg;have z3:=b7.out;have z4:=b8.out;obtain ⟨q5,q6,q7,q8,q9,r0,r1,r2,r3,r4,r5,r6⟩:=zzc6 a1.out;obtain ⟨r7,r8,r9,s0,s1,s2,s3,s4,s5,s6,s7,s8⟩:=zzc6 c2.out));go_ret;exact ⟨zzR,zzh3⟩
  ·
   rw [if_neg c4] at H;obtain ⟨h2,h3⟩:=zzY c4;obtain rfl:=Option.some.inj H;go_enter Tryd.func21,Tryd.ntmps21;go_wp2_with (first|((with_reducible refine gate_dst (N:=2) rfl ?_);refine box_event ?hg (N:=2) ?hd (cs:=#[.int .i64 a7,.int .i64 a8,.bool a3,.slice a9 a5.length b0,.bool a4,.slice b1 a6.length b2]) (t:=40) ?hr ?_;(case hd=>rfl);(case hg=>rfl);(case hr=>first|(go_simp;done)|(go_simp;rfl));intro a0 hg B1 hbox hb;have b3:=zzm (zzp zzh1 hb);have b4:=zzm (hbox);have b5:=zzm ((by rw [hg];exact (zzo zzh1):w.heap.size≤a0));have b6:=zzm ((by rw [hg];exact (zzo zzh1):w.heap.size≤a0));clear HB;have HB:=b3;have a1:=b4;have d8:=b5;have d9:=b6;clear b3 b4 b5 b6 hb hbox hg)|((with_reducible refine gate_dst (N:=3) rfl ?_);refine box_event ?hg (N:=3) ?hd (cs:=#[.int .i64 d2,.int .i64 d3,.bool b9,.slice d4 c1.length d5,.bool c0,.slice d6 c7.length d7]) (t:=40) ?hr ?_;(case hd=>rfl);(case hg=>rfl);(case hr=>first|(go_simp;done)|(go_simp;rfl));intro a2 hg B2 hbox hb;have b3:=zzm (zzh (g:=a0) (o:=.cells #[.int .i64 a7,.int .i64 a8,.bool a3,.slice a9 a5.length b0,.bool a4,.slice b1 a6.length b2] 40 (0,0)) (zzE a1.out) hb);have b4:=zzm (zzp zzh2 hb);have b5:=zzm (hbox);have b6:=zzm ((by rw [hg];exact (zzo zzh2):w.heap.size≤a2));have c9:=zzm ((by rw [hg];exact (zzo zzh2):w.heap.size≤a2));have d0:=zzm ((by rw [hg];exact Nat.ne_of_lt (blk_lt (g:=a0) (o:=.cells #[.int .i64 a7,.int .i64 a8,.bool a3,.slice a9 a5.length b0,.bool a4,.slice b1 a6.length b2] 40 (0,0)) (zzE a1.out)):a0≠a2));have d1:=zzm ((by rw [hg];exact Nat.ne_of_gt (blk_lt (g:=a0) (o:=.cells #[.int .i64 a7,.int .i64 a8,.bool a3,.slice a9 a5.length b0,.bool a4,.slice b1 a6.length b2] 40 (0,0)) (zzE a1.out)):a2≠a0));clear a1 HB;have a1:=b3;have HB:=b4;have c2:=b5;have e0:=b6;have e1:=c9;have b7:=d0;have b8:=d1;clear b3 b4 b5 b6 c9 d0 d1 hb hbox hg;have z5:=b7.out;have z6:=b8.out;obtain ⟨s9,t0,t1,t2,t3,t4,t5,t6,t7,t8,t9,v0⟩:=zzc6 a1.out;obtain ⟨v1,v2,v3,v4,v5,v6,v7,v8,v9,w0,w1,w2⟩:=zzc6 c2.out));go_ret;exact ⟨zzR,zzh3⟩
 ·
  rw [if_neg c3] at H;obtain ⟨h0,h1⟩:=zzY c3;obtain rfl:=Option.some.inj H;go_enter Tryd.func21,Tryd.ntmps21;go_wp2_with (first|((with_reducible refine gate_dst (N:=2) rfl ?_);refine box_event ?hg (N:=2) ?hd (cs:=#[.int .i64 a7,.int .i64 a8,.bool a3,.slice a9 a5.length b0,.bool a4,.slice b1 a6.length b2]) (t:=40) ?hr ?_;(case hd=>rfl);(case hg=>rfl);(case hr=>first|(go_simp;done)|(go_simp;rfl));intro a0 hg B7 hbox hb;have b3:=zzm (zzp zzh1 hb);have b4:=zzm (hbox);have b5:=zzm ((by rw [hg];exact (zzo zzh1):w.heap.size≤a0));have b6:=zzm ((by rw [hg];exact (zzo zzh1):w.heap.size≤a0));clear HB;have HB:=b3;have a1:=b4;have d8:=b5;have d9:=b6;clear b3 b4 b5 b6 hb hbox hg)|((with_reducible refine gate_dst (N:=3) rfl ?_);refine box_event ?hg (N:=3) ?hd (cs:=#[.int .i64 d2,.int .i64 d3,.bool b9,.slice d4 c1.length d5,.bool c0,.slice d6 c7.length d7]) (t:=40) ?hr ?_;(case hd=>rfl);(case hg=>rfl);(case hr=>first|(go_simp;done)|(go_simp;rfl));intro a2 hg B9 hbox hb;have b3:=zzm (zzh (g:=a0) (o:=.cells #[.int .i64 a7,.int .i64 a8,.bool a3,.slice a9 a5.length b0,.bool a4,.slice b1 a6.length b2] 40 (0,0)) (zzE a1.out) hb);have b4:=zzm (zzp zzh2 hb);have b5:=zzm (hbox);have b6:=zzm ((by rw [hg];exact (zzo zzh2):w.heap.size≤a2));have c9:=zzm ((by rw [hg];exact (zzo zzh2):w.heap.size≤a2));have d0:=zzm ((by rw [hg];exact Nat.ne_of_lt (blk_lt (g:=a0) (o:=.cells #[.int .i64 a7,.int .i64 a8,.bool a3,.slice a9 a5.length b0,.bool a4,.slice b1 a6.length b2] 40 (0,0)) (zzE a1.out)):a0≠a2));have d1:=zzm ((by rw [hg];exact Nat.ne_of_gt (blk_lt (g:=a0) (o:=.cells #[.int .i64 a7,.int .i64 a8,.bool a3,.slice a9 a5.length b0,.bool a4,.slice b1 a6.length b2] 40 (0,0)) (zzE a1.out)):a2≠a0));clear a1 HB;have a1:=b3;have HB:=b4;have c2:=b5;have e0:=b6;have e1:=c9;have b7:=d0;have b8:=d1;clear b3 b4 b5 b6 c9 d0 d1 hb hbox hg;have z7:=b7.out;have z8:=b8.out;obtain ⟨w3,w4,w5,w6,w7,w8,w9,x0,x1,x2,x3,x4⟩:=zzc6 a1.out;obtain ⟨x5,x6,x7,x8,x9,y0,y1,y2,y3,y4,y5,y6⟩:=zzc6 c2.out));go_ret;exact ⟨zzR,zzh3⟩
def Qi.l0:Nat→List (S40)→List (S40)→Int→Option (Bool)
 | 0,_,_,_=>none
 | k+1,x0,x1,x5=>if x5 < (x0.length:Int) then (if 0≤x5 then (if x5 < (x1.length:Int) then ((Rf.f k ((Qb x0 x5).f0) ((Qb x0 x5).f1) ((Qb x0 x5).f2) ((Qb x0 x5).f3) ((Qb x0 x5).f4) ((Qb x0 x5).f5) ((Qb x1 x5).f0) ((Qb x1 x5).f1) ((Qb x1 x5).f2) ((Qb x1 x5).f3) ((Qb x1 x5).f4) ((Qb x1 x5).f5)).bind fun t415=>(if t415=true then (Qi.l0 k x0 x1 (wrap64 (x5+1))) else (some false))) else (none)) else (none)) else (some true)
def Qi.f (k:Nat) (l0:List (S40)) (l1:List (S40)):Option (Bool):=if (l0.length:Int)=(l1.length:Int) then (Qi.l0 k l0 l1 0) else (some false)
def Qi.T6:Bool×List (List Nat×List Nat):=(true,[([],[]),([],[]),([0,1],[0,1]),([2],[2]),([],[]),([],[]),([4,5],[4,5]),([6],[6]),([3,7],[3,7]),([8],[8])])
def Qi.B6:List Nat:=[0,0,3,7,0,0,48,112,255,511]
theorem Qi.tab6:rtab .any (opsOf Tryd.f10 6)=Qi.T6:=by kernel_rfl
theorem Qi.bits6:waitsOk Qi.T6.2 Qi.B6=true:=by kernel_rfl
set_option maxHeartbeats 8000000 in
theorem Qi.calls (k:Nat) (A0:Option Addr) (c0:Nat) (l0:List (S40)) (A1:Option Addr) (c1:Nat) (l1:List (S40)) (r:Bool) (w:World) (j3:Kd.C k40 w A0 l0.length l0) (j4:l0.length≤c0) (j5:Kd.C k40 w A1 l1.length l1) (j6:l1.length≤c1) (h:Qi.f k l0 l1=some r) :
  Calls Tryd.prog 10 #[.slice A0 l0.length c0,.slice A1 l1.length c1] w fun e w'=>e = .returned (.bool r)∧Below w.heap.size w w':=by
 have hu40:=Tryd.underlying40;have j7:=zzm j3;have k4:=zzm j4;clear j3 j4;have j8:=zzm j5;have k5:=zzm j6;clear j5 j6;have HB:=zzm (Below.refl w.heap.size w);have H:(if (l0.length:Int)=(l1.length:Int) then (Qi.l0 k l0 l1 0) else (some false))=some r:=h;clear h;by_cases c3:(l0.length:Int)=(l1.length:Int)
 ·
  rw [if_pos c3] at H;obtain ⟨h8,h9⟩:=zzQ c3;have j2:(l0.length==l1.length)=true:=by first|simpa using c3|(simp at c3 ⊢;omega)
  clear c3;have H':=zzm H;clear H;go_enter Tryd.func10,Tryd.ntmps10;go_wp2;go_loopg [5] k (fun kq v5 w'=>∃ (a0:Int),v5 = .int .i64 a0∧Aside0 (Qi.l0 kq l0 l1 a0=some r)∧Aside0 (kq≤k)∧Aside0 (Below w.heap.size w w'))
  case atStart=>exact ⟨(0),(by first|rfl|(simp;done)|(simp [*];done)),H',⟨Nat.le_refl _⟩,⟨zzh1⟩⟩
  case round=>
   clear H';try clear c1
   try clear p2
   try clear c3
   try clear h8
   try clear h9
   try clear j2
   obtain ⟨a0,rfl,HA,HK1,HB⟩:=hrel;cases gk with
   | zero=>exact absurd HA.out (by simp [Qi.l0])
   | succ k1=>
    have H:=HA.out;clear HA;simp only [Qi.l0] at H;by_cases c4:a0 < (l0.length:Int)
    ·
     rw [if_pos c4] at H;have j9:decide (a0 < (l0.length:Int))=true:=decide_eq_true c4;clear c4;by_cases c5 : 0≤a0
     ·
      rw [if_pos c5] at H;have k2:decide (0≤a0)=true:=decide_eq_true c5;clear c5;by_cases c6:a0 < (l1.length:Int)
      ·
       rw [if_pos c6] at H;have k3:decide (a0 < (l1.length:Int))=true:=decide_eq_true c6;clear c6;obtain ⟨k0,A7,H⟩:=zzG H;by_cases c8:k0=true
       ·
        subst c8;replace H:=zzIt H;have H':=zzm H;clear H;try go_wp2
        have e8:=zzm (zzc HB.out);clear HB;have HB:=e8;clear e8;have g7 : 0≤(a0:Int):=zzt;have g8:a0 < (l0.length:Int):=zzt;obtain ⟨a1,e9,g0,g1,g2,h6,a4,a5,a6,a7,a8,a9,b7,b8,b9,c2⟩:=Rg j7.out a0 g7 g8;have c7:=a9;have c9:=a8;have d0:=a7;have d1:=a6;have d2:=a5;have d3:=a4;cases h6;replace a4:=zzx HB.out a4;replace a5:=zzx HB.out a5;replace a6:=zzx HB.out a6;replace a7:=zzx HB.out a7;replace a8:=zzx HB.out a8;replace a9:=zzx HB.out a9;have d4:=zzm b8;have h1:=zzm b7;clear b8 b7;have d5:=zzm c2;have h2:=zzm b9;clear c2 b9;replace g7:=eq_true g7;replace g8:=eq_true g8;have g9 : 0≤(a0:Int):=zzt;have h0:a0 < (l1.length:Int):=zzt;obtain ⟨a2,g3,g4,g5,g6,h7,b0,b1,b2,b3,b4,b5,d6,d7,d8,d9⟩:=Rg j8.out a0 g9 h0;have e0:=b5;have e1:=b4;have e2:=b3;have e3:=b2;have e4:=b1;have e5:=b0;cases h7;replace b0:=zzx HB.out b0;replace b1:=zzx HB.out b1;replace b2:=zzx HB.out b2;replace b3:=zzx HB.out b3;replace b4:=zzx HB.out b4;replace b5:=zzx HB.out b5;have e6:=zzm d7;have h3:=zzm d6;clear d7 d6;have e7:=zzm d9;have h4:=zzm d8;clear d9 d8;replace g9:=eq_true g9;replace h0:=eq_true h0;refine start_ (n:=10) (S:=fun w'=>w'.cell? (a1.add ((a0).toNat * 6))=some (.int .i64 ((Qb l0 a0).f0))∧w'.cell? ⟨(a1.add ((a0).toNat * 6)).block,(a1.add ((a0).toNat * 6)).off+1,none⟩=some (.int .i64 ((Qb l0 a0).f1))∧w'.cell? ⟨(a1.add ((a0).toNat * 6)).block,(a1.add ((a0).toNat * 6)).off+2,none⟩=some (.bool ((Qb l0 a0).f2))∧w'.cell? ⟨(a1.add ((a0).toNat * 6)).block,(a1.add ((a0).toNat * 6)).off+3,none⟩=some (.slice e9 ((Qb l0 a0).f3).length g0)∧w'.cell? ⟨(a1.add ((a0).toNat * 6)).block,(a1.add ((a0).toNat * 6)).off+4,none⟩=some (.bool ((Qb l0 a0).f4))∧w'.cell? ⟨(a1.add ((a0).toNat * 6)).block,(a1.add ((a0).toNat * 6)).off+5,none⟩=some (.slice g1 ((Qb l0 a0).f5).length g2)∧w'.cell? (a2.add ((a0).toNat * 6))=some (.int .i64 ((Qb l1 a0).f0))∧w'.cell? ⟨(a2.add ((a0).toNat * 6)).block,(a2.add ((a0).toNat * 6)).off+1,none⟩=some (.int .i64 ((Qb l1 a0).f1))∧w'.cell? ⟨(a2.add ((a0).toNat * 6)).block,(a2.add ((a0).toNat * 6)).off+2,none⟩=some (.bool ((Qb l1 a0).f2))∧w'.cell? ⟨(a2.add ((a0).toNat * 6)).block,(a2.add ((a0).toNat * 6)).off+3,none⟩=some (.slice g3 ((Qb l1 a0).f3).length g4)∧w'.cell? ⟨(a2.add ((a0).toNat * 6)).block,(a2.add ((a0).toNat * 6)).off+4,none⟩=some (.bool ((Qb l1 a0).f4))∧w'.cell? ⟨(a2.add ((a0).toNat * 6)).block,(a2.add ((a0).toNat * 6)).off+5,none⟩=some (.slice g5 ((Qb l1 a0).f5).length g6)) (ds:=[]) (zzB 10 0) (by kernel_rfl) rfl rfl ⟨(zzx HB.out d3 :),(zzx HB.out d2 :),(zzx HB.out d1 :),(zzx HB.out d0 :),(zzx HB.out c9 :),(zzx HB.out c7 :),(zzx HB.out e5 :),(zzx HB.out e4 :),(zzx HB.out e3 :),(zzx HB.out e2 :),(zzx HB.out e1 :),(zzx HB.out e0 :)⟩ (fun b6=>?_);refine with_tabW Qi.tab6 Qi.bits6 (fun a3 h5=>?_);generalize wr.drew=w9 at HB d4 d5 e6 e7 a4 a5 a6 a7 a8 a9 b0 b1 b2 b3 b4 b5 b6 ⊢;refine zzP 0 17 10 1 a3 ?_
        refine zzP 1 18 10 3 a3 ?_
        refine zzP 2 19 10 7 a3 ?_
        refine zzP 4 21 10 23 a3 ?_
        refine zzP 5 22 10 55 a3 ?_
        refine zzP 6 23 10 119 a3 ?_
        refine zzT 3 20 10 127 a3 h5 b6 ?_
        refine zzT 7 24 10 255 a3 h5 b6 ?_
        refine one_ (i:=8) (N:=some 25) (zzB 10 511) rfl rfl (one_of a3.out (by kernel_rfl)) (by decide) (fun K hK=>?_);refine goes_ Tryd.func21 (by kernel_rfl) rfl #[.agg #[.int .i64 ((Qb l0 a0).f0),.int .i64 ((Qb l0 a0).f1),.bool ((Qb l0 a0).f2),.slice e9 ((Qb l0 a0).f3).length g0,.bool ((Qb l0 a0).f4),.slice g1 ((Qb l0 a0).f5).length g2],.agg #[.int .i64 ((Qb l1 a0).f0),.int .i64 ((Qb l1 a0).f1),.bool ((Qb l1 a0).f2),.slice g3 ((Qb l1 a0).f3).length g4,.bool ((Qb l1 a0).f4),.slice g5 ((Qb l1 a0).f5).length g6]] (by rfl) rfl rfl zzM2 ?_;with_reducible refine (Rf.calls k1 ((Qb l0 a0).f0) ((Qb l0 a0).f1) ((Qb l0 a0).f2) _ _ ((Qb l0 a0).f3) ((Qb l0 a0).f4) _ _ ((Qb l0 a0).f5) ((Qb l1 a0).f0) ((Qb l1 a0).f1) ((Qb l1 a0).f2) _ _ ((Qb l1 a0).f3) ((Qb l1 a0).f4) _ _ ((Qb l1 a0).f5) true _ ?side1 ?side2 ?side3 ?side4 ?side5 ?side6 ?side7 ?side8 A7.out).mono ?_
        (case side1=>exact zzcb d4 HB)
        (case side2=>exact h1.out)
        (case side3=>exact zzcb d5 HB)
        (case side4=>exact h2.out)
        (case side5=>exact zzcb e6 HB)
        (case side6=>exact h3.out)
        (case side7=>exact zzcb e7 HB)
        (case side8=>exact h4.out);rintro e k6 ⟨rfl,hb⟩;refine ⟨_,rfl,?_⟩;have e8:=zzm (zzp zzh1 hb);clear HB;have HB:=e8;clear e8
        (try clear hb)
        (try clear hb2)
        (try clear hk)
        (try clear hi);refine hK.out _ _ ⟨(zzx HB.out d3 :),(zzx HB.out d2 :),(zzx HB.out d1 :),(zzx HB.out d0 :),(zzx HB.out c9 :),(zzx HB.out c7 :),(zzx HB.out e5 :),(zzx HB.out e4 :),(zzx HB.out e3 :),(zzx HB.out e2 :),(zzx HB.out e1 :),(zzx HB.out e0 :)⟩ (fun b6=>?_);clear hK K;refine zzO 25 ?_
        refine zzP 9 26 10 1023 a3 ?_
        refine done_ (done_of a3.out (by kernel_rfl)) ?_;try go_wp2
        go_roundg k1
        case measure=>have:=HK1.out;omega
        case rel=>exact ⟨(wrap64 (a0+1)),(by first|rfl|(simp;done)|(simp [*];done)),H',⟨by have:=HK1.out;omega⟩,⟨zzh1⟩⟩
       ·
        replace c8:=Bool.eq_false_iff.mpr c8;subst c8;replace H:=zzIf H;obtain rfl:=Option.some.inj H;try go_wp2
        have e8:=zzm (zzc HB.out);clear HB;have HB:=e8;clear e8;have g7 : 0≤(a0:Int):=zzt;have g8:a0 < (l0.length:Int):=zzt;obtain ⟨a1,e9,g0,g1,g2,h6,a4,a5,a6,a7,a8,a9,b7,b8,b9,c2⟩:=Rg j7.out a0 g7 g8;have c7:=a9;have c9:=a8;have d0:=a7;have d1:=a6;have d2:=a5;have d3:=a4;cases h6;replace a4:=zzx HB.out a4;replace a5:=zzx HB.out a5;replace a6:=zzx HB.out a6;replace a7:=zzx HB.out a7;replace a8:=zzx HB.out a8;replace a9:=zzx HB.out a9;have d4:=zzm b8;have h1:=zzm b7;clear b8 b7;have d5:=zzm c2;have h2:=zzm b9;clear c2 b9;replace g7:=eq_true g7;replace g8:=eq_true g8;have g9 : 0≤(a0:Int):=zzt;have h0:a0 < (l1.length:Int):=zzt;obtain ⟨a2,g3,g4,g5,g6,h7,b0,b1,b2,b3,b4,b5,d6,d7,d8,d9⟩:=Rg j8.out a0 g9 h0;have e0:=b5;have e1:=b4;have e2:=b3;have e3:=b2;have e4:=b1;have e5:=b0;cases h7;replace b0:=zzx HB.out b0;replace b1:=zzx HB.out b1;replace b2:=zzx HB.out b2;replace b3:=zzx HB.out b3;replace b4:=zzx HB.out b4;replace b5:=zzx HB.out b5;have e6:=zzm d7;have h3:=zzm d6;clear d7 d6;have e7:=zzm d9;have h4:=zzm d8;clear d9 d8;replace g9:=eq_true g9;replace h0:=eq_true h0;refine start_ (n:=10) (S:=fun w'=>w'.cell? (a1.add ((a0).toNat * 6))=some (.int .i64 ((Qb l0 a0).f0))∧w'.cell? ⟨(a1.add ((a0).toNat * 6)).block,(a1.add ((a0).toNat * 6)).off+1,none⟩=some (.int .i64 ((Qb l0 a0).f1))∧w'.cell? ⟨(a1.add ((a0).toNat * 6)).block,(a1.add ((a0).toNat * 6)).off+2,none⟩=some (.bool ((Qb l0 a0).f2))∧w'.cell? ⟨(a1.add ((a0).toNat * 6)).block,(a1.add ((a0).toNat * 6)).off+3,none⟩=some (.slice e9 ((Qb l0 a0).f3).length g0)∧w'.cell? ⟨(a1.add ((a0).toNat * 6)).block,(a1.add ((a0).toNat * 6)).off+4,none⟩=some (.bool ((Qb l0 a0).f4))∧w'.cell? ⟨(a1.add ((a0).toNat * 6)).block,(a1.add ((a0).toNat * 6)).off+5,none⟩=some (.slice g1 ((Qb l0 a0).f5).length g2)∧w'.cell? (a2.add ((a0).toNat * 6))=some (.int .i64 ((Qb l1 a0).f0))∧w'.cell? ⟨(a2.add ((a0).toNat * 6)).block,(a2.add ((a0).toNat * 6)).off+1,none⟩=some (.int .i64 ((Qb l1 a0).f1))∧w'.cell? ⟨(a2.add ((a0).toNat * 6)).block,(a2.add ((a0).toNat * 6)).off+2,none⟩=some (.bool ((Qb l1 a0).f2))∧w'.cell? ⟨(a2.add ((a0).toNat * 6)).block,(a2.add ((a0).toNat * 6)).off+3,none⟩=some (.slice g3 ((Qb l1 a0).f3).length g4)∧w'.cell? ⟨(a2.add ((a0).toNat * 6)).block,(a2.add ((a0).toNat * 6)).off+4,none⟩=some (.bool ((Qb l1 a0).f4))∧w'.cell? ⟨(a2.add ((a0).toNat * 6)).block,(a2.add ((a0).toNat * 6)).off+5,none⟩=some (.slice g5 ((Qb l1 a0).f5).length g6)) (ds:=[]) (zzB 10 0) (by kernel_rfl) rfl rfl ⟨(zzx HB.out d3 :),(zzx HB.out d2 :),(zzx HB.out d1 :),(zzx HB.out d0 :),(zzx HB.out c9 :),(zzx HB.out c7 :),(zzx HB.out e5 :),(zzx HB.out e4 :),(zzx HB.out e3 :),(zzx HB.out e2 :),(zzx HB.out e1 :),(zzx HB.out e0 :)⟩ (fun b6=>?_);refine with_tabW Qi.tab6 Qi.bits6 (fun a3 h5=>?_);generalize wr.drew=k7 at HB d4 d5 e6 e7 a4 a5 a6 a7 a8 a9 b0 b1 b2 b3 b4 b5 b6 ⊢;refine zzP 0 17 10 1 a3 ?_
        refine zzP 1 18 10 3 a3 ?_
        refine zzP 2 19 10 7 a3 ?_
        refine zzP 4 21 10 23 a3 ?_
        refine zzP 5 22 10 55 a3 ?_
        refine zzP 6 23 10 119 a3 ?_
        refine zzT 3 20 10 127 a3 h5 b6 ?_
        refine zzT 7 24 10 255 a3 h5 b6 ?_
        refine one_ (i:=8) (N:=some 25) (zzB 10 511) rfl rfl (one_of a3.out (by kernel_rfl)) (by decide) (fun K hK=>?_);refine goes_ Tryd.func21 (by kernel_rfl) rfl #[.agg #[.int .i64 ((Qb l0 a0).f0),.int .i64 ((Qb l0 a0).f1),.bool ((Qb l0 a0).f2),.slice e9 ((Qb l0 a0).f3).length g0,.bool ((Qb l0 a0).f4),.slice g1 ((Qb l0 a0).f5).length g2],.agg #[.int .i64 ((Qb l1 a0).f0),.int .i64 ((Qb l1 a0).f1),.bool ((Qb l1 a0).f2),.slice g3 ((Qb l1 a0).f3).length g4,.bool ((Qb l1 a0).f4),.slice g5 ((Qb l1 a0).f5).length g6]] (by rfl) rfl rfl zzM2 ?_;with_reducible refine (Rf.calls k1 ((Qb l0 a0).f0) ((Qb l0 a0).f1) ((Qb l0 a0).f2) _ _ ((Qb l0 a0).f3) ((Qb l0 a0).f4) _ _ ((Qb l0 a0).f5) ((Qb l1 a0).f0) ((Qb l1 a0).f1) ((Qb l1 a0).f2) _ _ ((Qb l1 a0).f3) ((Qb l1 a0).f4) _ _ ((Qb l1 a0).f5) false _ ?side1 ?side2 ?side3 ?side4 ?side5 ?side6 ?side7 ?side8 A7.out).mono ?_
        (case side1=>exact zzcb d4 HB)
        (case side2=>exact h1.out)
        (case side3=>exact zzcb d5 HB)
        (case side4=>exact h2.out)
        (case side5=>exact zzcb e6 HB)
        (case side6=>exact h3.out)
        (case side7=>exact zzcb e7 HB)
        (case side8=>exact h4.out);rintro e k8 ⟨rfl,hb⟩;refine ⟨_,rfl,?_⟩;have e8:=zzm (zzp zzh1 hb);clear HB;have HB:=e8;clear e8
        (try clear hb)
        (try clear hb2)
        (try clear hk)
        (try clear hi);refine hK.out _ _ ⟨(zzx HB.out d3 :),(zzx HB.out d2 :),(zzx HB.out d1 :),(zzx HB.out d0 :),(zzx HB.out c9 :),(zzx HB.out c7 :),(zzx HB.out e5 :),(zzx HB.out e4 :),(zzx HB.out e3 :),(zzx HB.out e2 :),(zzx HB.out e1 :),(zzx HB.out e0 :)⟩ (fun b6=>?_);clear hK K;refine zzO 25 ?_
        refine zzP 9 26 10 1023 a3 ?_
        refine done_ (done_of a3.out (by kernel_rfl)) ?_;try go_wp2
        go_ret;exact ⟨zzR,zzh1⟩
      ·
       rw [if_neg c6] at H;exact absurd H (by simp)
     ·
      rw [if_neg c5] at H;exact absurd H (by simp)
    ·
     rw [if_neg c4] at H;have j9:decide (a0 < (l0.length:Int))=false:=decide_eq_false c4;clear c4;obtain rfl:=Option.some.inj H;go_wp2;go_ret;exact ⟨zzR,zzh1⟩
 ·
  rw [if_neg c3] at H;obtain ⟨h8,h9⟩:=zzY c3;have j2:(l0.length==l1.length)=false:=by first|simpa using c3|(simp at c3 ⊢;omega)
  obtain rfl:=Option.some.inj H;go_enter Tryd.func10,Tryd.ntmps10;go_wp2;go_ret;exact ⟨zzR,zzh1⟩
def Qt.f (k:Nat) (a0_0:Bool) (a0_1:Bool) (a0_2:Int) (a0_3:Int) (a0_4:Int) (l0_5:List (S40)) (a1_0:Bool) (a1_1:Bool) (a1_2:Int) (a1_3:Int) (a1_4:Int) (l1_5:List (S40)):Option (Bool):=if (a0_0==a1_0)=true then (if (a0_1==a1_1)=true then (if a0_2=a1_2 then (if a0_3=a1_3 then (if a0_4=a1_4 then ((Qi.f k l0_5 l1_5).bind fun t418=>(some t418)) else (some false)) else (some false)) else (some false)) else (some false)) else (some false)
set_option maxHeartbeats 8000000 in
theorem Qt.calls (k:Nat) (a3:Bool) (a4:Bool) (a6:Int) (a7:Int) (a8:Int) (b2:Option Addr) (b3:Nat) (a5:List (S40)) (b7:Bool) (b8:Bool) (c9:Int) (d0:Int) (d1:Int) (d2:Option Addr) (d3:Nat) (c0:List (S40)) (r:Bool) (w:World) (d9:Kd.C k40 w b2 a5.length a5) (e0:a5.length≤b3) (e1:Kd.C k40 w d2 c0.length c0) (e2:c0.length≤d3) (h:Qt.f k a3 a4 a6 a7 a8 a5 b7 b8 c9 d0 d1 c0=some r) :
  Calls Tryd.prog 8 #[.agg #[.bool a3,.bool a4,.int .i64 a6,.int .i64 a7,.int .i64 a8,.slice b2 a5.length b3],.agg #[.bool b7,.bool b8,.int .i64 c9,.int .i64 d0,.int .i64 d1,.slice d2 c0.length d3]] w fun e w'=>e = .returned (.bool r)∧Below w.heap.size w w':=by
 have hu25:=Tryd.underlying25;have e3:=zzm d9;have e4:=zzm e0;clear d9 e0;have e5:=zzm e1;have e6:=zzm e2;clear e1 e2;have HB:=zzm (Below.refl w.heap.size w);have H:(if (a3==b7)=true then (if (a4==b8)=true then (if a6=c9 then (if a7=d0 then (if a8=d1 then ((Qi.f k a5 c0).bind fun d8=>(some d8)) else (some false)) else (some false)) else (some false)) else (some false)) else (some false))=some r:=h;clear h;by_cases c3:(a3==b7)=true
 ·
  rw [if_pos c3] at H;have e7:(a3==b7)=true:=c3
  (try (have e8:decide (a3=b7)=true:=by simpa using c3))
  (try (have e9:(a3==b7)=true:=by simpa using c3));clear c3;by_cases c4:(a4==b8)=true
  ·
   rw [if_pos c4] at H;have g0:(a4==b8)=true:=c4
   (try (have g1:decide (a4=b8)=true:=by simpa using c4))
   (try (have g2:(a4==b8)=true:=by simpa using c4));clear c4;by_cases c5:a6=c9
   ·
    rw [if_pos c5] at H;obtain ⟨g3,g4⟩:=zzQ c5;clear c5;by_cases c6:a7=d0
    ·
     rw [if_pos c6] at H;obtain ⟨g5,g6⟩:=zzQ c6;clear c6;by_cases c7:a8=d1
     ·
      rw [if_pos c7] at H;obtain ⟨g7,g8⟩:=zzQ c7;clear c7;obtain ⟨d8,A8,H⟩:=zzG H;obtain rfl:=Option.some.inj H;go_enter Tryd.func8,Tryd.ntmps8;go_wp2_with (first|((with_reducible refine gate_dst (N:=2) rfl ?_);refine box_event ?hg (N:=2) ?hd (cs:=#[.bool a3,.bool a4,.int .i64 a6,.int .i64 a7,.int .i64 a8,.slice b2 a5.length b3]) (t:=25) ?hr ?_;(case hd=>rfl);(case hg=>rfl);(case hr=>first|(go_simp;done)|(go_simp;rfl));intro a0 hg w9 hbox hb;have a9:=zzm (zzp zzh1 hb);have b0:=zzm (hbox);have b1:=zzm ((by rw [hg];exact (zzo zzh1):w.heap.size≤a0));have b4:=zzm ((by rw [hg];exact (zzo zzh1):w.heap.size≤a0));clear HB;have HB:=a9;have a1:=b0;have d4:=b1;have d5:=b4;clear a9 b0 b1 b4 hb hbox hg)|((with_reducible refine gate_dst (N:=3) rfl ?_);refine box_event ?hg (N:=3) ?hd (cs:=#[.bool b7,.bool b8,.int .i64 c9,.int .i64 d0,.int .i64 d1,.slice d2 c0.length d3]) (t:=25) ?hr ?_;(case hd=>rfl);(case hg=>rfl);(case hr=>first|(go_simp;done)|(go_simp;rfl));intro a2 hg z1 hbox hb;have a9:=zzm (zzh (g:=a0) (o:=.cells #[.bool a3,.bool a4,.int .i64 a6,.int .i64 a7,.int .i64 a8,.slice b2 a5.length b3] 25 (0,0)) (zzE a1.out) hb);have b0:=zzm (zzp zzh2 hb);have b1:=zzm (hbox);have b4:=zzm ((by rw [hg];exact (zzo zzh2):w.heap.size≤a2));have c1:=zzm ((by rw [hg];exact (zzo zzh2):w.heap.size≤a2));have c2:=zzm ((by rw [hg];exact Nat.ne_of_lt (blk_lt (g:=a0) (o:=.cells #[.bool a3,.bool a4,.int .i64 a6,.int .i64 a7,.int .i64 a8,.slice b2 a5.length b3] 25 (0,0)) (zzE a1.out)):a0≠a2));have c8:=zzm ((by rw [hg];exact Nat.ne_of_gt (blk_lt (g:=a0) (o:=.cells #[.bool a3,.bool a4,.int .i64 a6,.int .i64 a7,.int .i64 a8,.slice b2 a5.length b3] 25 (0,0)) (zzE a1.out)):a2≠a0));clear a1 HB;have a1:=a9;have HB:=b0;have b9:=b1;have d6:=b4;have d7:=c1;have b5:=c2;have b6:=c8;clear a9 b0 b1 b4 c1 c2 c8 hb hbox hg;have x7:=b5.out;have x8:=b6.out;obtain ⟨g9,h0,h1,h2,h3,h4,h5,h6,h7,h8,h9,j2⟩:=zzc6 a1.out;obtain ⟨j3,j4,j5,j6,j7,j8,j9,k0,k1,k2,k3,k4⟩:=zzc6 b9.out)|(go_at_call 10;(with_reducible refine (Qi.calls k _ _ a5 _ _ c0 d8 _ ?side1 ?side2 ?side3 ?side4 A8.out).mono ?_);(case side1=>exact zzcb e3 HB);(case side2=>exact e4.out);(case side3=>exact zzcb e5 HB);(case side4=>exact e6.out);rintro e z2 ⟨rfl,hb⟩;have a9:=zzm (zzh (g:=a0) (o:=.cells #[.bool a3,.bool a4,.int .i64 a6,.int .i64 a7,.int .i64 a8,.slice b2 a5.length b3] 25 (0,0)) (zzE a1.out) hb);have b0:=zzm (zzh (g:=a2) (o:=.cells #[.bool b7,.bool b8,.int .i64 c9,.int .i64 d0,.int .i64 d1,.slice d2 c0.length d3] 25 (0,0)) (zzE b9.out) hb);have b1:=zzm (zzp zzh2 hb);clear a1 b9 HB;have a1:=a9;have b9:=b0;have HB:=b1;clear a9 b0 b1;(try clear hb);(try clear hb2);(try clear hk);(try clear hi)));go_ret;exact ⟨zzR,zzh3⟩
     ·
      rw [if_neg c7] at H;obtain ⟨g7,g8⟩:=zzY c7;obtain rfl:=Option.some.inj H;go_enter Tryd.func8,Tryd.ntmps8;go_wp2_with (first|((with_reducible refine gate_dst (N:=2) rfl ?_);refine box_event ?hg (N:=2) ?hd (cs:=#[.bool a3,.bool a4,.int .i64 a6,.int .i64 a7,.int .i64 a8,.slice b2 a5.length b3]) (t:=25) ?hr ?_;(case hd=>rfl);(case hg=>rfl);(case hr=>first|(go_simp;done)|(go_simp;rfl));intro a0 hg z3 hbox hb;have a9:=zzm (zzp zzh1 hb);have b0:=zzm (hbox);have b1:=zzm ((by rw [hg];exact (zzo zzh1):w.heap.size≤a0));have b4:=zzm ((by rw [hg];exact (zzo zzh1):w.heap.size≤a0));clear HB;have HB:=a9;have a1:=b0;have d4:=b1;have d5:=b4;clear a9 b0 b1 b4 hb hbox hg)|((with_reducible refine gate_dst (N:=3) rfl ?_);refine box_event ?hg (N:=3) ?hd (cs:=#[.bool b7,.bool b8,.int .i64 c9,.int .i64 d0,.int .i64 d1,.slice d2 c0.length d3]) (t:=25) ?hr ?_;(case hd=>rfl);(case hg=>rfl);(case hr=>first|(go_simp;done)|(go_simp;rfl));intro a2 hg z4 hbox hb;have a9:=zzm (zzh (g:=a0) (o:=.cells #[.bool a3,.bool a4,.int .i64 a6,.int .i64 a7,.int .i64 a8,.slice b2 a5.length b3] 25 (0,0)) (zzE a1.out) hb);have b0:=zzm (zzp zzh2 hb);have b1:=zzm (hbox);have b4:=zzm ((by rw [hg];exact (zzo zzh2):w.heap.size≤a2));have c1:=zzm ((by rw [hg];exact (zzo zzh2):w.heap.size≤a2));have c2:=zzm ((by rw [hg];exact Nat.ne_of_lt (blk_lt (g:=a0) (o:=.cells #[.bool a3,.bool a4,.int .i64 a6,.int .i64 a7,.int .i64 a8,.slice b2 a5.length b3] 25 (0,0)) (zzE a1.out)):a0≠a2));have c8:=zzm ((by rw [hg];exact Nat.ne_of_gt (blk_lt (g:=a0) (o:=.cells #[.bool a3,.bool a4,.int .i64 a6,.int .i64 a7,.int .i64 a8,.slice b2 a5.length b3] 25 (0,0)) (zzE a1.out)):a2≠a0));clear a1 HB;have a1:=a9;have HB:=b0;have b9:=b1;have d6:=b4;have d7:=c1;have b5:=c2;have b6:=c8;clear a9 b0 b1 b4 c1 c2 c8 hb hbox hg;have x9:=b5.out;have y0:=b6.out;obtain ⟨k5,k6,k7,k8,k9,l1,l2,l3,l4,l5,l6,l7⟩:=zzc6 a1.out;obtain ⟨l8,l9,m0,m1,m2,m3,m4,m5,m6,m7,m8,m9⟩:=zzc6 b9.out));go_ret;exact ⟨zzR,zzh3⟩
    ·
     rw [if_neg c6] at H;obtain ⟨g5,g6⟩:=zzY c6;obtain rfl:=Option.some.inj H;go_enter Tryd.func8,Tryd.ntmps8;go_wp2_with (first|((with_reducible refine gate_dst (N:=2) rfl ?_);refine box_event ?hg (N:=2) ?hd (cs:=#[.bool a3,.bool a4,.int .i64 a6,.int .i64 a7,.int .i64 a8,.slice b2 a5.length b3]) (t:=25) ?hr ?_;(case hd=>rfl);(case hg=>rfl);(case hr=>first|(go_simp;done)|(go_simp;rfl));intro a0 hg z5 hbox hb;have a9:=zzm (zzp zzh1 hb);have b0:=zzm (hbox);have b1:=zzm ((by rw [hg];exact (zzo zzh1):w.heap.size≤a0));have b4:=zzm ((by rw [hg];exact (zzo zzh1):w.heap.size≤a0));clear HB;have HB:=a9;have a1:=b0;have d4:=b1;have d5:=b4;clear a9 b0 b1 b4 hb hbox hg)|((with_reducible refine gate_dst (N:=3) rfl ?_);refine box_event ?hg (N:=3) ?hd (cs:=#[.bool b7,.bool b8,.int .i64 c9,.int .i64 d0,.int .i64 d1,.slice d2 c0.length d3]) (t:=25) ?hr ?_;(case hd=>rfl);(case hg=>rfl);(case hr=>first|(go_simp;done)|(go_simp;rfl));intro a2 hg z6 hbox hb;have a9:=zzm (zzh (g:=a0) (o:=.cells #[.bool a3,.bool a4,.int .i64 a6,.int .i64 a7,.int .i64 a8,.slice b2 a5.length b3] 25 (0,0)) (zzE a1.out) hb);have b0:=zzm (zzp zzh2 hb);have b1:=zzm (hbox);have b4:=zzm ((by rw [hg];exact (zzo zzh2):w.heap.size≤a2));have c1:=zzm ((by rw [hg];exact (zzo zzh2):w.heap.size≤a2));have c2:=zzm ((by rw [hg];exact Nat.ne_of_lt (blk_lt (g:=a0) (o:=.cells #[.bool a3,.bool a4,.int .i64 a6,.int .i64 a7,.int .i64 a8,.slice b2 a5.length b3] 25 (0,0)) (zzE a1.out)):a0≠a2));have c8:=zzm ((by rw [hg];exact Nat.ne_of_gt (blk_lt (g:=a0) (o:=.cells #[.bool a3,.bool a4,.int .i64 a6,.int .i64 a7,.int .i64 a8,.slice b2 a5.length b3] 25 (0,0)) (zzE a1.out)):a2≠a0));clear a1 HB;have a1:=a9;have HB:=b0;have b9:=b1;have d6:=b4;have d7:=c1;have b5:=c2;have b6:=c8;clear a9 b0 b1 b4 c1 c2 c8 hb hbox hg;have y1:=b5.out;have y2:=b6.out;obtain ⟨n0,n1,n2,n3,n4,n5,n6,n7,n8,n9,o0,o1⟩:=zzc6 a1.out;obtain ⟨o2,o3,o4,o5,o6,o7,o8,o9,p0,p1,p2,p3⟩:=zzc6 b9.out));go_ret;exact ⟨zzR,zzh3⟩
   ·
    rw [if_neg c5] at H;obtain ⟨g3,g4⟩:=zzY c5;obtain rfl:=Option.some.inj H;go_enter Tryd.func8,Tryd.ntmps8;go_wp2_with (first|((with_reducible refine gate_dst (N:=2) rfl ?_);refine box_event ?hg (N:=2) ?hd (cs:=#[.bool a3,.bool a4,.int .i64 a6,.int .i64 a7,.int .i64 a8,.slice b2 a5.length b3]) (t:=25) ?hr ?_;(case hd=>rfl);(case hg=>rfl);(case hr=>first|(go_simp;done)|(go_simp;rfl));intro a0 hg z7 hbox hb;have a9:=zzm (zzp zzh1 hb);have b0:=zzm (hbox);have b1:=zzm ((by rw [hg];exact (zzo zzh1):w.heap.size≤a0));have b4:=zzm ((by rw [hg];exact (zzo zzh1):w.heap.size≤a0));clear HB;have HB:=a9;have a1:=b0;have d4:=b1;have d5:=b4;clear a9 b0 b1 b4 hb hbox hg)|((with_reducible refine gate_dst (N:=3) rfl ?_);refine box_event ?hg (N:=3) ?hd (cs:=#[.bool b7,.bool b8,.int .i64 c9,.int .i64 d0,.int .i64 d1,.slice d2 c0.length d3]) (t:=25) ?hr ?_;(case hd=>rfl);(case hg=>rfl);(case hr=>first|(go_simp;done)|(go_simp;rfl));intro a2 hg z8 hbox hb;have a9:=zzm (zzh (g:=a0) (o:=.cells #[.bool a3,.bool a4,.int .i64 a6,.int .i64 a7,.int .i64 a8,.slice b2 a5.length b3] 25 (0,0)) (zzE a1.out) hb);have b0:=zzm (zzp zzh2 hb);have b1:=zzm (hbox);have b4:=zzm ((by rw [hg];exact (zzo zzh2):w.heap.size≤a2));have c1:=zzm ((by rw [hg];exact (zzo zzh2):w.heap.size≤a2));have c2:=zzm ((by rw [hg];exact Nat.ne_of_lt (blk_lt (g:=a0) (o:=.cells #[.bool a3,.bool a4,.int .i64 a6,.int .i64 a7,.int .i64 a8,.slice b2 a5.length b3] 25 (0,0)) (zzE a1.out)):a0≠a2));have c8:=zzm ((by rw [hg];exact Nat.ne_of_gt (blk_lt (g:=a0) (o:=.cells #[.bool a3,.bool a4,.int .i64 a6,.int .i64 a7,.int .i64 a8,.slice b2 a5.length b3] 25 (0,0)) (zzE a1.out)):a2≠a0));clear a1 HB;have a1:=a9;have HB:=b0;have b9:=b1;have d6:=b4;have d7:=c1;have b5:=c2;have b6:=c8;clear a9 b0 b1 b4 c1 c2 c8 hb hbox hg;have y3:=b5.out;have y4:=b6.out;obtain ⟨p4,p5,p6,p7,p8,p9,q0,q1,q2,q3,q4,q5⟩:=zzc6 a1.out;obtain ⟨q6,q7,q8,q9,r0,r1,r2,r3,r4,r5,r6,r7⟩:=zzc6 b9.out));go_ret;exact ⟨zzR,zzh3⟩
  ·
   rw [if_neg c4] at H;have g0:(a4==b8)=false:=by simpa using c4
   (try (have g1:decide (a4=b8)=false:=by simpa using c4))
   (try (have g2:(a4==b8)=false:=by simpa using c4))
   (try (have y9:¬ (a4=b8):=by simpa using c4));clear c4;obtain rfl:=Option.some.inj H;go_enter Tryd.func8,Tryd.ntmps8;go_wp2_with (first|((with_reducible refine gate_dst (N:=2) rfl ?_);refine box_event ?hg (N:=2) ?hd (cs:=#[.bool a3,.bool a4,.int .i64 a6,.int .i64 a7,.int .i64 a8,.slice b2 a5.length b3]) (t:=25) ?hr ?_;(case hd=>rfl);(case hg=>rfl);(case hr=>first|(go_simp;done)|(go_simp;rfl));intro a0 hg z9 hbox hb;have a9:=zzm (zzp zzh1 hb);have b0:=zzm (hbox);have b1:=zzm ((by rw [hg];exact (zzo zzh1):w.heap.size≤a0));have b4:=zzm ((by rw [hg];exact (zzo zzh1):w.heap.size≤a0));clear HB;have HB:=a9;have a1:=b0;have d4:=b1;have d5:=b4;clear a9 b0 b1 b4 hb hbox hg)|((with_reducible refine gate_dst (N:=3) rfl ?_);refine box_event ?hg (N:=3) ?hd (cs:=#[.bool b7,.bool b8,.int .i64 c9,.int .i64 d0,.int .i64 d1,.slice d2 c0.length d3]) (t:=25) ?hr ?_;(case hd=>rfl);(case hg=>rfl);(case hr=>first|(go_simp;done)|(go_simp;rfl));intro a2 hg A0 hbox hb;have a9:=zzm (zzh (g:=a0) (o:=.cells #[.bool a3,.bool a4,.int .i64 a6,.int .i64 a7,.int .i64 a8,.slice b2 a5.length b3] 25 (0,0)) (zzE a1.out) hb);have b0:=zzm (zzp zzh2 hb);have b1:=zzm (hbox);have b4:=zzm ((by rw [hg];exact (zzo zzh2):w.heap.size≤a2));have c1:=zzm ((by rw [hg];exact (zzo zzh2):w.heap.size≤a2));have c2:=zzm ((by rw [hg];exact Nat.ne_of_lt (blk_lt (g:=a0) (o:=.cells #[.bool a3,.bool a4,.int .i64 a6,.int .i64 a7,.int .i64 a8,.slice b2 a5.length b3] 25 (0,0)) (zzE a1.out)):a0≠a2));have c8:=zzm ((by rw [hg];exact Nat.ne_of_gt (blk_lt (g:=a0) (o:=.cells #[.bool a3,.bool a4,.int .i64 a6,.int .i64 a7,.int .i64 a8,.slice b2 a5.length b3] 25 (0,0)) (zzE a1.out)):a2≠a0));clear a1 HB;have a1:=a9;have HB:=b0;have b9:=b1;have d6:=b4;have d7:=c1;have b5:=c2;have b6:=c8;clear a9 b0 b1 b4 c1 c2 c8 hb hbox hg;have y5:=b5.out;have y6:=b6.out;obtain ⟨r8,r9,s0,s1,s2,s3,s4,s5,s6,s7,s8,s9⟩:=zzc6 a1.out;obtain ⟨t0,t1,t2,t3,t4,t5,t6,t7,t8,t9,v0,v1⟩:=zzc6 b9.out));go_ret;exact ⟨zzR,zzh3⟩
 ·
  rw [if_neg c3] at H;have e7:(a3==b7)=false:=by simpa using c3
  (try (have e8:decide (a3=b7)=false:=by simpa using c3))
  (try (have e9:(a3==b7)=false:=by simpa using c3))
  (try (have z0:¬ (a3=b7):=by simpa using c3));clear c3;obtain rfl:=Option.some.inj H;go_enter Tryd.func8,Tryd.ntmps8;go_wp2_with (first|((with_reducible refine gate_dst (N:=2) rfl ?_);refine box_event ?hg (N:=2) ?hd (cs:=#[.bool a3,.bool a4,.int .i64 a6,.int .i64 a7,.int .i64 a8,.slice b2 a5.length b3]) (t:=25) ?hr ?_;(case hd=>rfl);(case hg=>rfl);(case hr=>first|(go_simp;done)|(go_simp;rfl));intro a0 hg A1 hbox hb;have a9:=zzm (zzp zzh1 hb);have b0:=zzm (hbox);have b1:=zzm ((by rw [hg];exact (zzo zzh1):w.heap.size≤a0));have b4:=zzm ((by rw [hg];exact (zzo zzh1):w.heap.size≤a0));clear HB;have HB:=a9;have a1:=b0;have d4:=b1;have d5:=b4;clear a9 b0 b1 b4 hb hbox hg)|((with_reducible refine gate_dst (N:=3) rfl ?_);refine box_event ?hg (N:=3) ?hd (cs:=#[.bool b7,.bool b8,.int .i64 c9,.int .i64 d0,.int .i64 d1,.slice d2 c0.length d3]) (t:=25) ?hr ?_;(case hd=>rfl);(case hg=>rfl);(case hr=>first|(go_simp;done)|(go_simp;rfl));intro a2 hg A2 hbox hb;have a9:=zzm (zzh (g:=a0) (o:=.cells #[.bool a3,.bool a4,.int .i64 a6,.int .i64 a7,.int .i64 a8,.slice b2 a5.length b3] 25 (0,0)) (zzE a1.out) hb);have b0:=zzm (zzp zzh2 hb);have b1:=zzm (hbox);have b4:=zzm ((by rw [hg];exact (zzo zzh2):w.heap.size≤a2));have c1:=zzm ((by rw [hg];exact (zzo zzh2):w.heap.size≤a2));have c2:=zzm ((by rw [hg];exact Nat.ne_of_lt (blk_lt (g:=a0) (o:=.cells #[.bool a3,.bool a4,.int .i64 a6,.int .i64 a7,.int .i64 a8,.slice b2 a5.length b3] 25 (0,0)) (zzE a1.out)):a0≠a2));have c8:=zzm ((by rw [hg];exact Nat.ne_of_gt (blk_lt (g:=a0) (o:=.cells #[.bool a3,.bool a4,.int .i64 a6,.int .i64 a7,.int .i64 a8,.slice b2 a5.length b3] 25 (0,0)) (zzE a1.out)):a2≠a0));clear a1 HB;have a1:=a9;have HB:=b0;have b9:=b1;have d6:=b4;have d7:=c1;have b5:=c2;have b6:=c8;clear a9 b0 b1 b4 c1 c2 c8 hb hbox hg;have y7:=b5.out;have y8:=b6.out;obtain ⟨v2,v3,v4,v5,v6,v7,v8,v9,w0,w1,w2,w3⟩:=zzc6 a1.out;obtain ⟨w4,w5,w6,w7,w8,x0,x1,x2,x3,x4,x5,x6⟩:=zzc6 b9.out));go_ret;exact ⟨zzR,zzh3⟩
def laws_FnJoin.j0:Nat→Bool→Bool→Bool→Bool→Bool→Int→Int→Int→List (S40)→Bool→Bool→Int→Int→Int→List (S40)→Bool→Bool→Int→Int→Int→List (S40)→Bool→Bool→Int→Int→Int→List (S40)→Option (Bool)
 | 0,_,_,_,_,_,_,_,_,_,_,_,_,_,_,_,_,_,_,_,_,_,_,_,_,_,_,_=>none
 | k+1,x6,x8,x41,x436000,x436001,x436002,x436003,x436004,x436005,x437000,x437001,x437002,x437003,x437004,x437005,x447000,x447001,x447002,x447003,x447004,x447005,x457000,x457001,x457002,x457003,x457004,x457005=>if x41=true then (if (x6==x8)=true then ((Qt.f k x447000 x447001 x447002 x447003 x447004 x447005 x457000 x457001 x457002 x457003 x457004 x457005).bind fun t458=>(some t458)) else (some false)) else ((Qd.f k x447000 x447001 x447002 x447003 x447004 x447005).bind fun t459=>(if t459=true then (if x447002=255 then (if (x447000==x436000)=true then ((some (([]:List (S40)):List (S40))).bind fun y460=>(if y460.length+x436005.length < 1759218604441 then ((some (y460++x436005:List (S40))).bind fun y463=>(if y463.length+x437005.length < 1759218604441 then ((Qi.f k x447005 (y463++x437005)).bind fun t469=>(some t469)) else (none))) else (none))) else (some false)) else (some false)) else (some false)))
def laws_FnJoin.f (k:Nat) (l0:List Int):Option (Bool):=if (l0.length:Int) > 1048576 then (some true) else ((Qo.f k l0).bind fun bt419=>((Qy.f k bt419.1 bt419.2.1 bt419.2.2.1 bt419.2.2.2.1 bt419.2.2.2.2.1 bt419.2.2.2.2.2.1 bt419.2.2.2.2.2.2.1 bt419.2.2.2.2.2.2.2.1 bt419.2.2.2.2.2.2.2.2.1 bt419.2.2.2.2.2.2.2.2.2.1 bt419.2.2.2.2.2.2.2.2.2.2.1 bt419.2.2.2.2.2.2.2.2.2.2.2).bind fun bt437=>((Qj.f k bt419.1 bt419.2.1 bt419.2.2.1 bt419.2.2.2.1 bt419.2.2.2.2.1 bt419.2.2.2.2.2.1 bt419.2.2.2.2.2.2.1 bt419.2.2.2.2.2.2.2.1 bt419.2.2.2.2.2.2.2.2.1 bt419.2.2.2.2.2.2.2.2.2.1 bt419.2.2.2.2.2.2.2.2.2.2.1 bt419.2.2.2.2.2.2.2.2.2.2.2).bind fun bt447=>(if (bt437.2.2.2.2.2.2 != bt447.2.2.2.2.2.2)=true then (laws_FnJoin.j0 k bt437.2.2.2.2.2.2 bt447.2.2.2.2.2.2 true bt419.1 bt419.2.1 bt419.2.2.1 bt419.2.2.2.1 bt419.2.2.2.2.1 bt419.2.2.2.2.2.1 bt419.2.2.2.2.2.2.1 bt419.2.2.2.2.2.2.2.1 bt419.2.2.2.2.2.2.2.2.1 bt419.2.2.2.2.2.2.2.2.2.1 bt419.2.2.2.2.2.2.2.2.2.2.1 bt419.2.2.2.2.2.2.2.2.2.2.2 bt437.1 bt437.2.1 bt437.2.2.1 bt437.2.2.2.1 bt437.2.2.2.2.1 bt437.2.2.2.2.2.1 bt447.1 bt447.2.1 bt447.2.2.1 bt447.2.2.2.1 bt447.2.2.2.2.1 bt447.2.2.2.2.2.1) else ((Qt.f k bt437.1 bt437.2.1 bt437.2.2.1 bt437.2.2.2.1 bt437.2.2.2.2.1 bt437.2.2.2.2.2.1 bt447.1 bt447.2.1 bt447.2.2.1 bt447.2.2.2.1 bt447.2.2.2.2.1 bt447.2.2.2.2.2.1).bind fun t457=>(if t457=true then (laws_FnJoin.j0 k bt437.2.2.2.2.2.2 bt447.2.2.2.2.2.2 (!bt437.2.2.2.2.2.2) bt419.1 bt419.2.1 bt419.2.2.1 bt419.2.2.2.1 bt419.2.2.2.2.1 bt419.2.2.2.2.2.1 bt419.2.2.2.2.2.2.1 bt419.2.2.2.2.2.2.2.1 bt419.2.2.2.2.2.2.2.2.1 bt419.2.2.2.2.2.2.2.2.2.1 bt419.2.2.2.2.2.2.2.2.2.2.1 bt419.2.2.2.2.2.2.2.2.2.2.2 bt437.1 bt437.2.1 bt437.2.2.1 bt437.2.2.2.1 bt437.2.2.2.2.1 bt437.2.2.2.2.2.1 bt447.1 bt447.2.1 bt447.2.2.1 bt447.2.2.2.1 bt447.2.2.2.2.1 bt447.2.2.2.2.2.1) else (laws_FnJoin.j0 k bt437.2.2.2.2.2.2 bt447.2.2.2.2.2.2 true bt419.1 bt419.2.1 bt419.2.2.1 bt419.2.2.2.1 bt419.2.2.2.2.1 bt419.2.2.2.2.2.1 bt419.2.2.2.2.2.2.1 bt419.2.2.2.2.2.2.2.1 bt419.2.2.2.2.2.2.2.2.1 bt419.2.2.2.2.2.2.2.2.2.1 bt419.2.2.2.2.2.2.2.2.2.2.1 bt419.2.2.2.2.2.2.2.2.2.2.2 bt437.1 bt437.2.1 bt437.2.2.1 bt437.2.2.2.1 bt437.2.2.2.2.1 bt437.2.2.2.2.2.1 bt447.1 bt447.2.1 bt447.2.2.1 bt447.2.2.2.1 bt447.2.2.2.2.1 bt447.2.2.2.2.2.1)))))))
def laws_FnJoin.T8:Bool×List (List Nat×List Nat):=(true,[([],[]),([0],[0]),([1,1],[1]),([2],[2]),([3,2],[2,3]),([4,2],[2,4]),([2,5],[2,5]),([6,2],[6]),([7],[7]),([8,7],[7,8]),([7],[7]),([10,7],[7,10]),([9,11,7],[7,9,11]),([7,12],[7,12]),([13,7],[13]),([14],[14]),([15,14],[14,15]),([14],[14]),([14],[14]),([18,14],[14,18]),([17,19,14,14],[14,17,19]),([14],[14]),([21,14],[14,21]),([20,22,20,14],[14,20,22]),([16,23,23,14],[14,16,23]),([14,24],[14,24]),([25,24,0,1,2,3,4,5,6,7,8,9,10,11,12,13,14,15,16,17,18,19,20,21,22,23,24,25],[25])])
def laws_FnJoin.B8:List Nat:=[0,1,3,7,15,31,63,127,255,511,255,1279,4095,8191,16383,32767,65535,32767,32767,294911,950271,32767,2129919,8290303,16777215,33554431,67108863]
theorem laws_FnJoin.tab8:rtab .any (opsOf Tryd.f3 8)=laws_FnJoin.T8:=by kernel_rfl
theorem laws_FnJoin.bits8:waitsOk laws_FnJoin.T8.2 laws_FnJoin.B8=true:=by kernel_rfl
set_option maxHeartbeats 8000000 in
theorem laws_FnJoin.calls (p0:Addr) (k:Nat) (A0:Option Addr) (c0:Nat) (l0:List Int) (r:Bool) (w:World) (D6:Kd.C (Kd.int .u8) w A0 l0.length l0) (D7:l0.length≤c0) (hg0:w.cell? ⟨0,0,none⟩=some (errV p0 true)) (h:laws_FnJoin.f k l0=some r) :
  Calls Tryd.prog 3 #[.slice A0 l0.length c0] w fun e w'=>e = .returned (.bool r)∧Below w.heap.size w w':=by
 have HG0:=zzm hg0;clear hg0;have hu25:=Tryd.underlying25;have H2:=zzm D6;have H3:=zzm D7;clear D6 D7;have HB:=zzm (Below.refl w.heap.size w);have H:(if (l0.length:Int) > 1048576 then (some true) else ((Qo.f k l0).bind fun b7=>((Qy.f k b7.1 b7.2.1 b7.2.2.1 b7.2.2.2.1 b7.2.2.2.2.1 b7.2.2.2.2.2.1 b7.2.2.2.2.2.2.1 b7.2.2.2.2.2.2.2.1 b7.2.2.2.2.2.2.2.2.1 b7.2.2.2.2.2.2.2.2.2.1 b7.2.2.2.2.2.2.2.2.2.2.1 b7.2.2.2.2.2.2.2.2.2.2.2).bind fun b8=>((Qj.f k b7.1 b7.2.1 b7.2.2.1 b7.2.2.2.1 b7.2.2.2.2.1 b7.2.2.2.2.2.1 b7.2.2.2.2.2.2.1 b7.2.2.2.2.2.2.2.1 b7.2.2.2.2.2.2.2.2.1 b7.2.2.2.2.2.2.2.2.2.1 b7.2.2.2.2.2.2.2.2.2.2.1 b7.2.2.2.2.2.2.2.2.2.2.2).bind fun a9=>(if (b8.2.2.2.2.2.2 != a9.2.2.2.2.2.2)=true then (laws_FnJoin.j0 k b8.2.2.2.2.2.2 a9.2.2.2.2.2.2 true b7.1 b7.2.1 b7.2.2.1 b7.2.2.2.1 b7.2.2.2.2.1 b7.2.2.2.2.2.1 b7.2.2.2.2.2.2.1 b7.2.2.2.2.2.2.2.1 b7.2.2.2.2.2.2.2.2.1 b7.2.2.2.2.2.2.2.2.2.1 b7.2.2.2.2.2.2.2.2.2.2.1 b7.2.2.2.2.2.2.2.2.2.2.2 b8.1 b8.2.1 b8.2.2.1 b8.2.2.2.1 b8.2.2.2.2.1 b8.2.2.2.2.2.1 a9.1 a9.2.1 a9.2.2.1 a9.2.2.2.1 a9.2.2.2.2.1 a9.2.2.2.2.2.1) else ((Qt.f k b8.1 b8.2.1 b8.2.2.1 b8.2.2.2.1 b8.2.2.2.2.1 b8.2.2.2.2.2.1 a9.1 a9.2.1 a9.2.2.1 a9.2.2.2.1 a9.2.2.2.2.1 a9.2.2.2.2.2.1).bind fun k8=>(if k8=true then (laws_FnJoin.j0 k b8.2.2.2.2.2.2 a9.2.2.2.2.2.2 (!b8.2.2.2.2.2.2) b7.1 b7.2.1 b7.2.2.1 b7.2.2.2.1 b7.2.2.2.2.1 b7.2.2.2.2.2.1 b7.2.2.2.2.2.2.1 b7.2.2.2.2.2.2.2.1 b7.2.2.2.2.2.2.2.2.1 b7.2.2.2.2.2.2.2.2.2.1 b7.2.2.2.2.2.2.2.2.2.2.1 b7.2.2.2.2.2.2.2.2.2.2.2 b8.1 b8.2.1 b8.2.2.1 b8.2.2.2.1 b8.2.2.2.2.1 b8.2.2.2.2.2.1 a9.1 a9.2.1 a9.2.2.1 a9.2.2.2.1 a9.2.2.2.2.1 a9.2.2.2.2.2.1) else (laws_FnJoin.j0 k b8.2.2.2.2.2.2 a9.2.2.2.2.2.2 true b7.1 b7.2.1 b7.2.2.1 b7.2.2.2.1 b7.2.2.2.2.1 b7.2.2.2.2.2.1 b7.2.2.2.2.2.2.1 b7.2.2.2.2.2.2.2.1 b7.2.2.2.2.2.2.2.2.1 b7.2.2.2.2.2.2.2.2.2.1 b7.2.2.2.2.2.2.2.2.2.2.1 b7.2.2.2.2.2.2.2.2.2.2.2 b8.1 b8.2.1 b8.2.2.1 b8.2.2.2.1 b8.2.2.2.2.1 b8.2.2.2.2.2.1 a9.1 a9.2.1 a9.2.2.1 a9.2.2.2.1 a9.2.2.2.2.1 a9.2.2.2.2.2.1))))))))=some r:=h;clear h;by_cases c2:(l0.length:Int) > 1048576
 ·
  rw [if_pos c2] at H;have C1:decide (1048576 < (l0.length:Int))=true:=decide_eq_true c2;have C2:decide (1048576 < l0.length)=true:=decide_eq_true (by omega);clear c2;obtain rfl:=Option.some.inj H;go_enter Tryd.func3,Tryd.ntmps3;go_wp2;go_ret;exact ⟨zzR,zzh1⟩
 ·
  rw [if_neg c2] at H;have C1:decide (1048576 < (l0.length:Int))=false:=decide_eq_false c2;have C2:decide (1048576 < l0.length)=false:=decide_eq_false (by omega);clear c2;replace H:=zzH H;obtain ⟨⟨b9,d3,d5,d8,e3,b5,d1,d4,d6,e0,e8,b4⟩,D8,H⟩:=H;replace H:((Qy.f k b9 d3 d5 d8 e3 b5 d1 d4 d6 e0 e8 b4).bind fun b8=>((Qj.f k b9 d3 d5 d8 e3 b5 d1 d4 d6 e0 e8 b4).bind fun a9=>(if (b8.2.2.2.2.2.2 != a9.2.2.2.2.2.2)=true then (laws_FnJoin.j0 k b8.2.2.2.2.2.2 a9.2.2.2.2.2.2 true b9 d3 d5 d8 e3 b5 d1 d4 d6 e0 e8 b4 b8.1 b8.2.1 b8.2.2.1 b8.2.2.2.1 b8.2.2.2.2.1 b8.2.2.2.2.2.1 a9.1 a9.2.1 a9.2.2.1 a9.2.2.2.1 a9.2.2.2.2.1 a9.2.2.2.2.2.1) else ((Qt.f k b8.1 b8.2.1 b8.2.2.1 b8.2.2.2.1 b8.2.2.2.2.1 b8.2.2.2.2.2.1 a9.1 a9.2.1 a9.2.2.1 a9.2.2.2.1 a9.2.2.2.2.1 a9.2.2.2.2.2.1).bind fun k8=>(if k8=true then (laws_FnJoin.j0 k b8.2.2.2.2.2.2 a9.2.2.2.2.2.2 (!b8.2.2.2.2.2.2) b9 d3 d5 d8 e3 b5 d1 d4 d6 e0 e8 b4 b8.1 b8.2.1 b8.2.2.1 b8.2.2.2.1 b8.2.2.2.2.1 b8.2.2.2.2.2.1 a9.1 a9.2.1 a9.2.2.1 a9.2.2.2.1 a9.2.2.2.2.1 a9.2.2.2.2.2.1) else (laws_FnJoin.j0 k b8.2.2.2.2.2.2 a9.2.2.2.2.2.2 true b9 d3 d5 d8 e3 b5 d1 d4 d6 e0 e8 b4 b8.1 b8.2.1 b8.2.2.1 b8.2.2.2.1 b8.2.2.2.2.1 b8.2.2.2.2.2.1 a9.1 a9.2.1 a9.2.2.1 a9.2.2.2.1 a9.2.2.2.2.1 a9.2.2.2.2.2.1))))))=some r:=H;have A3:=zzm D8;clear D8;replace H:=zzH H;obtain ⟨⟨c9,e4,e5,e9,g2,b2,j6⟩,D9,H⟩:=H;replace H:((Qj.f k b9 d3 d5 d8 e3 b5 d1 d4 d6 e0 e8 b4).bind fun a9=>(if (j6 != a9.2.2.2.2.2.2)=true then (laws_FnJoin.j0 k j6 a9.2.2.2.2.2.2 true b9 d3 d5 d8 e3 b5 d1 d4 d6 e0 e8 b4 c9 e4 e5 e9 g2 b2 a9.1 a9.2.1 a9.2.2.1 a9.2.2.2.1 a9.2.2.2.2.1 a9.2.2.2.2.2.1) else ((Qt.f k c9 e4 e5 e9 g2 b2 a9.1 a9.2.1 a9.2.2.1 a9.2.2.2.1 a9.2.2.2.2.1 a9.2.2.2.2.2.1).bind fun k8=>(if k8=true then (laws_FnJoin.j0 k j6 a9.2.2.2.2.2.2 (!j6) b9 d3 d5 d8 e3 b5 d1 d4 d6 e0 e8 b4 c9 e4 e5 e9 g2 b2 a9.1 a9.2.1 a9.2.2.1 a9.2.2.2.1 a9.2.2.2.2.1 a9.2.2.2.2.2.1) else (laws_FnJoin.j0 k j6 a9.2.2.2.2.2.2 true b9 d3 d5 d8 e3 b5 d1 d4 d6 e0 e8 b4 c9 e4 e5 e9 g2 b2 a9.1 a9.2.1 a9.2.2.1 a9.2.2.2.1 a9.2.2.2.2.1 a9.2.2.2.2.2.1)))))=some r:=H;have A4:=zzm D9;clear D9;replace H:=zzH H;obtain ⟨⟨e1,g0,g9,h3,h7,c8,j9⟩,E0,H⟩:=H;replace H:(if (j6 != j9)=true then (laws_FnJoin.j0 k j6 j9 true b9 d3 d5 d8 e3 b5 d1 d4 d6 e0 e8 b4 c9 e4 e5 e9 g2 b2 e1 g0 g9 h3 h7 c8) else ((Qt.f k c9 e4 e5 e9 g2 b2 e1 g0 g9 h3 h7 c8).bind fun k8=>(if k8=true then (laws_FnJoin.j0 k j6 j9 (!j6) b9 d3 d5 d8 e3 b5 d1 d4 d6 e0 e8 b4 c9 e4 e5 e9 g2 b2 e1 g0 g9 h3 h7 c8) else (laws_FnJoin.j0 k j6 j9 true b9 d3 d5 d8 e3 b5 d1 d4 d6 e0 e8 b4 c9 e4 e5 e9 g2 b2 e1 g0 g9 h3 h7 c8))))=some r:=H;have A5:=zzm E0;clear E0;have C3:=zzm H;clear H;go_enter Tryd.func3,Tryd.ntmps3;go_upto_region 6 with (first|((with_reducible refine gate_callee (f:=5) rfl ?_);refine goesL_ (some 14) rfl rfl Tryd.func5 (by kernel_rfl) rfl #[.slice A0 l0.length c0] rfl zzM2 ?_;(with_reducible refine (Qo.calls k _ _ l0 b9 d3 d5 d8 e3 b5 d1 d4 d6 e0 e8 b4 _ ?side1 ?side2 A3.out).mono ?_);(case side1=>repeat (first|exact H2.out|(with_reducible refine Kd.C_alloc ?_ _)|(with_reducible refine Kd.C_drewN ?_ _)|(with_reducible refine Kd.C_drew ?_)));(case side2=>exact H3.out);rintro e w7 ⟨E2,E3,rfl,ho0,ho1,hb⟩;refine ⟨_,rfl,?_⟩;have g3:=zzm (Kd.N_lower (Kd.N_mono (ok':=fun k_=>some k_≠(E3:Value).ownBlock) ho0 (fun k_ hk_=>hk_.2)) (zzo zzh1));have g4:=zzm (Kd.N_lower (Kd.N_mono (ok':=fun k_=>some k_≠(E2:Value).ownBlock) ho1 (fun k_ hk_=>hk_.2)) (zzo zzh1));have g5:=zzm (zzp zzh1 hb);clear HB;have h4:=g3;have h5:=g4;have HB:=g5;clear g3 g4 g5;(try clear hb);(try clear hb2);(try clear hk);(try clear hi);(try clear ho0);(try clear ho1))|((with_reducible refine gate_dst (N:=3) rfl ?_);(try (refine gate_guard (by rfl) ?_;dsimp only));refine box_event ?hg (N:=3) ?hd (cs:=#[.bool false,.bool false,.int .i64 0,.int .i64 0,.int .i64 0,.slice none 0 0]) (t:=25) ?hr ?_;(case hd=>rfl);(case hg=>rfl);(case hr=>first|(go_simp;done)|(go_simp;rfl));intro a3 hg w8 hbox hb;have g3:=zzm (Kd.N_below (Kd.N_elderB (zzN h4.out) a3 (Nat.le_of_eq hg.symm)) hb);have g4:=zzm (Kd.N_below (Kd.N_elderB (zzN h5.out) a3 (Nat.le_of_eq hg.symm)) hb);have g5:=zzm (zzp zzh1 hb);have h0:=zzm (hbox);have h1:=zzm ((by rw [hg];exact (zzo zzh1):w.heap.size≤a3));have h2:=zzm ((by rw [hg];exact (zzo zzh1):w.heap.size≤a3));clear h4 h5 HB;have h4:=g3;have h5:=g4;have HB:=g5;have a2:=h0;have H9:=h1;have I0:=h2;clear g3 g4 g5 h0 h1 h2 hb hbox hg)|((with_reducible refine gate_dst (N:=4) rfl ?_);(try (refine gate_guard (by rfl) ?_;dsimp only));refine box_event ?hg (N:=4) ?hd (cs:=#[.bool false,.bool false,.int .i64 0,.int .i64 0,.int .i64 0,.slice none 0 0]) (t:=25) ?hr ?_;(case hd=>rfl);(case hg=>rfl);(case hr=>first|(go_simp;done)|(go_simp;rfl));intro a4 hg w9 hbox hb;have g3:=zzm (Kd.N_below (Kd.N_elderB (zzN h4.out) a4 (Nat.le_of_eq hg.symm)) hb);have g4:=zzm (Kd.N_below (Kd.N_elderB (zzN h5.out) a4 (Nat.le_of_eq hg.symm)) hb);have g5:=zzm (zzh (g:=a3) (o:=.cells #[.bool false,.bool false,.int .i64 0,.int .i64 0,.int .i64 0,.slice none 0 0] 25 (0,0)) (zzE a2.out) hb);have h0:=zzm (zzp zzh2 hb);have h1:=zzm (hbox);have h2:=zzm ((by rw [hg];exact (zzo zzh2):w.heap.size≤a4));have h6:=zzm ((by rw [hg];exact (zzo zzh2):w.heap.size≤a4));have h8:=zzm ((by rw [hg];exact Nat.ne_of_lt (blk_lt (g:=a3) (o:=.cells #[.bool false,.bool false,.int .i64 0,.int .i64 0,.int .i64 0,.slice none 0 0] 25 (0,0)) (zzE a2.out)):a3≠a4));have h9:=zzm ((by rw [hg];exact Nat.ne_of_gt (blk_lt (g:=a3) (o:=.cells #[.bool false,.bool false,.int .i64 0,.int .i64 0,.int .i64 0,.slice none 0 0] 25 (0,0)) (zzE a2.out)):a4≠a3));clear h4 h5 a2 HB;have h4:=g3;have h5:=g4;have a2:=g5;have HB:=h0;have a5:=h1;have I1:=h2;have I2:=h6;have j4:=h8;have j5:=h9;clear g3 g4 g5 h0 h1 h2 h6 h8 h9 hb hbox hg;have I3:=j4.out;have I4:=j5.out;obtain ⟨n5,n6,n7,n8,n9,o0,o1,o2,o3,o4,o5,o6⟩:=zzc6 a2.out;obtain ⟨e6,e2,eo12⟩:=Kd.N_slice h4.out;subst eo12;obtain ⟨o7,o8,o9,p1,p3,p4,p5,p6,p7,p8,p9,q0⟩:=zzc6 a5.out;obtain ⟨d9,d7,eo14⟩:=Kd.N_slice h5.out;subst eo14)|((with_reducible refine gate_callee (f:=6) rfl ?_);refine goesL_ (some 20) rfl rfl Tryd.func6 (by kernel_rfl) rfl #[.agg #[.bool b9,.bool d3,.int .i64 d5,.int .i64 d8,.int .i64 e3,.slice e6 b5.length e2],.agg #[.bool d1,.bool d4,.int .i64 d6,.int .i64 e0,.int .i64 e8,.slice d9 b4.length d7]] rfl zzM2 ?_;(with_reducible refine (Qy.calls p0 k b9 d3 d5 d8 e3 _ _ b5 d1 d4 d6 e0 e8 _ _ b4 c9 e4 e5 e9 g2 b2 j6 _ ?side1 ?side2 ?side3 ?side4 ?sideg A4.out).mono ?_);(case sideg=>exact glob HG0.out zzh2);(case side1=>refine (Kd.N_reads' (e:=40) (base:=w.heap.size) (ok:=fun k_=>((some k_≠(.slice d9 b4.length d7:Value).ownBlock∧k_≠a3)∧k_≠a4)) (n:=b5.length) (c:=e2) ?_).2.2;exact (zzN ((Kd.N_mono (Kd.N_mono (Kd.N_far (p:=⟨a4,5,none⟩) (Kd.N_far (p:=⟨a4,4,none⟩) (Kd.N_far (p:=⟨a4,3,none⟩) (Kd.N_far (p:=⟨a4,2,none⟩) (Kd.N_far (p:=⟨a4,1,none⟩) (Kd.N_far (p:=⟨a4,0,none⟩) (Kd.N_far (p:=⟨a3,5,none⟩) (Kd.N_far (p:=⟨a3,4,none⟩) (Kd.N_far (p:=⟨a3,3,none⟩) (Kd.N_far (p:=⟨a3,2,none⟩) (Kd.N_far (p:=⟨a3,1,none⟩) (Kd.N_far (p:=⟨a3,0,none⟩) (Kd.N_mono (Kd.N_mono h4.out (fun k_ hk=>(⟨hk,hk.1.2⟩:_∧k_≠a3))) (fun k_ hk=>(⟨hk,hk.1.2⟩:_∧k_≠a4))) (fun _ hk=>hk.1.2) (.bool b9)) (fun _ hk=>hk.1.2) (.bool d3)) (fun _ hk=>hk.1.2) (.int .i64 d5)) (fun _ hk=>hk.1.2) (.int .i64 d8)) (fun _ hk=>hk.1.2) (.int .i64 e3)) (fun _ hk=>hk.1.2) (.slice e6 b5.length e2)) (fun _ hk=>hk.2) (.bool d1)) (fun _ hk=>hk.2) (.bool d4)) (fun _ hk=>hk.2) (.int .i64 d6)) (fun _ hk=>hk.2) (.int .i64 e0)) (fun _ hk=>hk.2) (.int .i64 e8)) (fun _ hk=>hk.2) (.slice d9 b4.length d7)) (fun _ h_=>h_.1)) (fun _ h_=>h_.1)))));(case side2=>exact (Kd.N_reads' h4.out).2.1);(case side3=>refine (Kd.N_reads' (e:=40) (base:=w.heap.size) (ok:=fun k_=>((some k_≠(.slice e6 b5.length e2:Value).ownBlock∧k_≠a3)∧k_≠a4)) (n:=b4.length) (c:=d7) ?_).2.2;exact (zzN ((Kd.N_mono (Kd.N_mono (Kd.N_far (p:=⟨a4,5,none⟩) (Kd.N_far (p:=⟨a4,4,none⟩) (Kd.N_far (p:=⟨a4,3,none⟩) (Kd.N_far (p:=⟨a4,2,none⟩) (Kd.N_far (p:=⟨a4,1,none⟩) (Kd.N_far (p:=⟨a4,0,none⟩) (Kd.N_far (p:=⟨a3,5,none⟩) (Kd.N_far (p:=⟨a3,4,none⟩) (Kd.N_far (p:=⟨a3,3,none⟩) (Kd.N_far (p:=⟨a3,2,none⟩) (Kd.N_far (p:=⟨a3,1,none⟩) (Kd.N_far (p:=⟨a3,0,none⟩) (Kd.N_mono (Kd.N_mono h5.out (fun k_ hk=>(⟨hk,hk.1.2⟩:_∧k_≠a3))) (fun k_ hk=>(⟨hk,hk.1.2⟩:_∧k_≠a4))) (fun _ hk=>hk.1.2) (.bool b9)) (fun _ hk=>hk.1.2) (.bool d3)) (fun _ hk=>hk.1.2) (.int .i64 d5)) (fun _ hk=>hk.1.2) (.int .i64 d8)) (fun _ hk=>hk.1.2) (.int .i64 e3)) (fun _ hk=>hk.1.2) (.slice e6 b5.length e2)) (fun _ hk=>hk.2) (.bool d1)) (fun _ hk=>hk.2) (.bool d4)) (fun _ hk=>hk.2) (.int .i64 d6)) (fun _ hk=>hk.2) (.int .i64 e0)) (fun _ hk=>hk.2) (.int .i64 e8)) (fun _ hk=>hk.2) (.slice d9 b4.length d7)) (fun _ h_=>h_.1)) (fun _ h_=>h_.1)))));(case side4=>exact (Kd.N_reads' h5.out).2.1);rintro e N5 ⟨N2,rfl,ho0,hb⟩;refine ⟨_,rfl,?_⟩;have g3:=zzm (Kd.N_elder' (zzN ((Kd.N_mono (Kd.N_mono (Kd.N_far (p:=⟨a4,5,none⟩) (Kd.N_far (p:=⟨a4,4,none⟩) (Kd.N_far (p:=⟨a4,3,none⟩) (Kd.N_far (p:=⟨a4,2,none⟩) (Kd.N_far (p:=⟨a4,1,none⟩) (Kd.N_far (p:=⟨a4,0,none⟩) (Kd.N_far (p:=⟨a3,5,none⟩) (Kd.N_far (p:=⟨a3,4,none⟩) (Kd.N_far (p:=⟨a3,3,none⟩) (Kd.N_far (p:=⟨a3,2,none⟩) (Kd.N_far (p:=⟨a3,1,none⟩) (Kd.N_far (p:=⟨a3,0,none⟩) (Kd.N_mono (Kd.N_mono h4.out (fun k_ hk=>(⟨hk,hk.1.2⟩:_∧k_≠a3))) (fun k_ hk=>(⟨hk,hk.1.2⟩:_∧k_≠a4))) (fun _ hk=>hk.1.2) (.bool b9)) (fun _ hk=>hk.1.2) (.bool d3)) (fun _ hk=>hk.1.2) (.int .i64 d5)) (fun _ hk=>hk.1.2) (.int .i64 d8)) (fun _ hk=>hk.1.2) (.int .i64 e3)) (fun _ hk=>hk.1.2) (.slice e6 b5.length e2)) (fun _ hk=>hk.2) (.bool d1)) (fun _ hk=>hk.2) (.bool d4)) (fun _ hk=>hk.2) (.int .i64 d6)) (fun _ hk=>hk.2) (.int .i64 e0)) (fun _ hk=>hk.2) (.int .i64 e8)) (fun _ hk=>hk.2) (.slice d9 b4.length d7)) (fun _ h_=>h_.1)) (fun _ h_=>h_.1)))) (by first|exact Kd.N_base ho0|exact Kd.S_base ho0|exact Kd.R_base ho0) hb);have g4:=zzm (Kd.N_elder' (zzN ((Kd.N_mono (Kd.N_mono (Kd.N_far (p:=⟨a4,5,none⟩) (Kd.N_far (p:=⟨a4,4,none⟩) (Kd.N_far (p:=⟨a4,3,none⟩) (Kd.N_far (p:=⟨a4,2,none⟩) (Kd.N_far (p:=⟨a4,1,none⟩) (Kd.N_far (p:=⟨a4,0,none⟩) (Kd.N_far (p:=⟨a3,5,none⟩) (Kd.N_far (p:=⟨a3,4,none⟩) (Kd.N_far (p:=⟨a3,3,none⟩) (Kd.N_far (p:=⟨a3,2,none⟩) (Kd.N_far (p:=⟨a3,1,none⟩) (Kd.N_far (p:=⟨a3,0,none⟩) (Kd.N_mono (Kd.N_mono h5.out (fun k_ hk=>(⟨hk,hk.1.2⟩:_∧k_≠a3))) (fun k_ hk=>(⟨hk,hk.1.2⟩:_∧k_≠a4))) (fun _ hk=>hk.1.2) (.bool b9)) (fun _ hk=>hk.1.2) (.bool d3)) (fun _ hk=>hk.1.2) (.int .i64 d5)) (fun _ hk=>hk.1.2) (.int .i64 d8)) (fun _ hk=>hk.1.2) (.int .i64 e3)) (fun _ hk=>hk.1.2) (.slice e6 b5.length e2)) (fun _ hk=>hk.2) (.bool d1)) (fun _ hk=>hk.2) (.bool d4)) (fun _ hk=>hk.2) (.int .i64 d6)) (fun _ hk=>hk.2) (.int .i64 e0)) (fun _ hk=>hk.2) (.int .i64 e8)) (fun _ hk=>hk.2) (.slice d9 b4.length d7)) (fun _ h_=>h_.1)) (fun _ h_=>h_.1)))) (by first|exact Kd.N_base ho0|exact Kd.S_base ho0|exact Kd.R_base ho0) hb);have g5:=zzm (Kd.N_lower (Kd.N_mono (ok':=fun k_=>some k_≠(.slice e6 b5.length e2:Value).ownBlock∧some k_≠(.slice d9 b4.length d7:Value).ownBlock∧k_≠a3∧k_≠a4) ho0 (fun k_ hk_=>⟨(Kd.fresh' (Kd.N_lt (zzN ((Kd.N_mono (Kd.N_mono (Kd.N_far (p:=⟨a4,5,none⟩) (Kd.N_far (p:=⟨a4,4,none⟩) (Kd.N_far (p:=⟨a4,3,none⟩) (Kd.N_far (p:=⟨a4,2,none⟩) (Kd.N_far (p:=⟨a4,1,none⟩) (Kd.N_far (p:=⟨a4,0,none⟩) (Kd.N_far (p:=⟨a3,5,none⟩) (Kd.N_far (p:=⟨a3,4,none⟩) (Kd.N_far (p:=⟨a3,3,none⟩) (Kd.N_far (p:=⟨a3,2,none⟩) (Kd.N_far (p:=⟨a3,1,none⟩) (Kd.N_far (p:=⟨a3,0,none⟩) (Kd.N_mono (Kd.N_mono h4.out (fun k_ hk=>(⟨hk,hk.1.2⟩:_∧k_≠a3))) (fun k_ hk=>(⟨hk,hk.1.2⟩:_∧k_≠a4))) (fun _ hk=>hk.1.2) (.bool b9)) (fun _ hk=>hk.1.2) (.bool d3)) (fun _ hk=>hk.1.2) (.int .i64 d5)) (fun _ hk=>hk.1.2) (.int .i64 d8)) (fun _ hk=>hk.1.2) (.int .i64 e3)) (fun _ hk=>hk.1.2) (.slice e6 b5.length e2)) (fun _ hk=>hk.2) (.bool d1)) (fun _ hk=>hk.2) (.bool d4)) (fun _ hk=>hk.2) (.int .i64 d6)) (fun _ hk=>hk.2) (.int .i64 e0)) (fun _ hk=>hk.2) (.int .i64 e8)) (fun _ hk=>hk.2) (.slice d9 b4.length d7)) (fun _ h_=>h_.1)) (fun _ h_=>h_.1))))) k_ hk_),(Kd.fresh' (Kd.N_lt (zzN ((Kd.N_mono (Kd.N_mono (Kd.N_far (p:=⟨a4,5,none⟩) (Kd.N_far (p:=⟨a4,4,none⟩) (Kd.N_far (p:=⟨a4,3,none⟩) (Kd.N_far (p:=⟨a4,2,none⟩) (Kd.N_far (p:=⟨a4,1,none⟩) (Kd.N_far (p:=⟨a4,0,none⟩) (Kd.N_far (p:=⟨a3,5,none⟩) (Kd.N_far (p:=⟨a3,4,none⟩) (Kd.N_far (p:=⟨a3,3,none⟩) (Kd.N_far (p:=⟨a3,2,none⟩) (Kd.N_far (p:=⟨a3,1,none⟩) (Kd.N_far (p:=⟨a3,0,none⟩) (Kd.N_mono (Kd.N_mono h5.out (fun k_ hk=>(⟨hk,hk.1.2⟩:_∧k_≠a3))) (fun k_ hk=>(⟨hk,hk.1.2⟩:_∧k_≠a4))) (fun _ hk=>hk.1.2) (.bool b9)) (fun _ hk=>hk.1.2) (.bool d3)) (fun _ hk=>hk.1.2) (.int .i64 d5)) (fun _ hk=>hk.1.2) (.int .i64 d8)) (fun _ hk=>hk.1.2) (.int .i64 e3)) (fun _ hk=>hk.1.2) (.slice e6 b5.length e2)) (fun _ hk=>hk.2) (.bool d1)) (fun _ hk=>hk.2) (.bool d4)) (fun _ hk=>hk.2) (.int .i64 d6)) (fun _ hk=>hk.2) (.int .i64 e0)) (fun _ hk=>hk.2) (.int .i64 e8)) (fun _ hk=>hk.2) (.slice d9 b4.length d7)) (fun _ h_=>h_.1)) (fun _ h_=>h_.1))))) k_ hk_),(Kd.freshB (g:=a3) (o:=.cells #[.bool b9,.bool d3,.int .i64 d5,.int .i64 d8,.int .i64 e3,.slice e6 b5.length e2] 25 (0,0)) (by (with_reducible repeat (first|apply zzf|apply zzg|apply zze));refine zzj ?_ j4.out _;(with_reducible repeat (first|apply zzf|apply zzg|apply zze));refine zzj ?_ j4.out _;(with_reducible repeat (first|apply zzf|apply zzg|apply zze));refine zzj ?_ j4.out _;(with_reducible repeat (first|apply zzf|apply zzg|apply zze));refine zzj ?_ j4.out _;(with_reducible repeat (first|apply zzf|apply zzg|apply zze));refine zzj ?_ j4.out _;(with_reducible repeat (first|apply zzf|apply zzg|apply zze));refine zzj ?_ j4.out _;(with_reducible repeat (first|apply zzf|apply zzg|apply zze));refine zzi (cs:=#[.bool b9,.bool d3,.int .i64 d5,.int .i64 d8,.int .i64 e3,.slice none 0 0]) ?_ 5 _ rfl;refine zzi (cs:=#[.bool b9,.bool d3,.int .i64 d5,.int .i64 d8,.int .i64 0,.slice none 0 0]) ?_ 4 _ rfl;refine zzi (cs:=#[.bool b9,.bool d3,.int .i64 d5,.int .i64 0,.int .i64 0,.slice none 0 0]) ?_ 3 _ rfl;refine zzi (cs:=#[.bool b9,.bool d3,.int .i64 0,.int .i64 0,.int .i64 0,.slice none 0 0]) ?_ 2 _ rfl;refine zzi (cs:=#[.bool b9,.bool false,.int .i64 0,.int .i64 0,.int .i64 0,.slice none 0 0]) ?_ 1 _ rfl;refine zzi (cs:=#[.bool false,.bool false,.int .i64 0,.int .i64 0,.int .i64 0,.slice none 0 0]) ?_ 0 _ rfl;(with_reducible repeat (first|apply zzf|apply zzg|apply zze));exact a2.out) k_ hk_),(Kd.freshB (g:=a4) (o:=.cells #[.bool d1,.bool d4,.int .i64 d6,.int .i64 e0,.int .i64 e8,.slice d9 b4.length d7] 25 (0,0)) (by (with_reducible repeat (first|apply zzf|apply zzg|apply zze));refine zzi (cs:=#[.bool d1,.bool d4,.int .i64 d6,.int .i64 e0,.int .i64 e8,.slice none 0 0]) ?_ 5 _ rfl;refine zzi (cs:=#[.bool d1,.bool d4,.int .i64 d6,.int .i64 e0,.int .i64 0,.slice none 0 0]) ?_ 4 _ rfl;refine zzi (cs:=#[.bool d1,.bool d4,.int .i64 d6,.int .i64 0,.int .i64 0,.slice none 0 0]) ?_ 3 _ rfl;refine zzi (cs:=#[.bool d1,.bool d4,.int .i64 0,.int .i64 0,.int .i64 0,.slice none 0 0]) ?_ 2 _ rfl;refine zzi (cs:=#[.bool d1,.bool false,.int .i64 0,.int .i64 0,.int .i64 0,.slice none 0 0]) ?_ 1 _ rfl;refine zzi (cs:=#[.bool false,.bool false,.int .i64 0,.int .i64 0,.int .i64 0,.slice none 0 0]) ?_ 0 _ rfl;(with_reducible repeat (first|apply zzf|apply zzg|apply zze));refine zzj ?_ j5.out _;(with_reducible repeat (first|apply zzf|apply zzg|apply zze));refine zzj ?_ j5.out _;(with_reducible repeat (first|apply zzf|apply zzg|apply zze));refine zzj ?_ j5.out _;(with_reducible repeat (first|apply zzf|apply zzg|apply zze));refine zzj ?_ j5.out _;(with_reducible repeat (first|apply zzf|apply zzg|apply zze));refine zzj ?_ j5.out _;(with_reducible repeat (first|apply zzf|apply zzg|apply zze));refine zzj ?_ j5.out _;(with_reducible repeat (first|apply zzf|apply zzg|apply zze));exact a5.out) k_ hk_)⟩)) (zzo zzh2));have h0:=zzm (zzh (g:=a3) (o:=.cells #[.bool b9,.bool d3,.int .i64 d5,.int .i64 d8,.int .i64 e3,.slice e6 b5.length e2] 25 (0,0)) (by (with_reducible repeat (first|apply zzf|apply zzg|apply zze));refine zzj ?_ j4.out _;(with_reducible repeat (first|apply zzf|apply zzg|apply zze));refine zzj ?_ j4.out _;(with_reducible repeat (first|apply zzf|apply zzg|apply zze));refine zzj ?_ j4.out _;(with_reducible repeat (first|apply zzf|apply zzg|apply zze));refine zzj ?_ j4.out _;(with_reducible repeat (first|apply zzf|apply zzg|apply zze));refine zzj ?_ j4.out _;(with_reducible repeat (first|apply zzf|apply zzg|apply zze));refine zzj ?_ j4.out _;(with_reducible repeat (first|apply zzf|apply zzg|apply zze));refine zzi (cs:=#[.bool b9,.bool d3,.int .i64 d5,.int .i64 d8,.int .i64 e3,.slice none 0 0]) ?_ 5 _ rfl;refine zzi (cs:=#[.bool b9,.bool d3,.int .i64 d5,.int .i64 d8,.int .i64 0,.slice none 0 0]) ?_ 4 _ rfl;refine zzi (cs:=#[.bool b9,.bool d3,.int .i64 d5,.int .i64 0,.int .i64 0,.slice none 0 0]) ?_ 3 _ rfl;refine zzi (cs:=#[.bool b9,.bool d3,.int .i64 0,.int .i64 0,.int .i64 0,.slice none 0 0]) ?_ 2 _ rfl;refine zzi (cs:=#[.bool b9,.bool false,.int .i64 0,.int .i64 0,.int .i64 0,.slice none 0 0]) ?_ 1 _ rfl;refine zzi (cs:=#[.bool false,.bool false,.int .i64 0,.int .i64 0,.int .i64 0,.slice none 0 0]) ?_ 0 _ rfl;(with_reducible repeat (first|apply zzf|apply zzg|apply zze));exact a2.out) hb);have h1:=zzm (zzh (g:=a4) (o:=.cells #[.bool d1,.bool d4,.int .i64 d6,.int .i64 e0,.int .i64 e8,.slice d9 b4.length d7] 25 (0,0)) (by (with_reducible repeat (first|apply zzf|apply zzg|apply zze));refine zzi (cs:=#[.bool d1,.bool d4,.int .i64 d6,.int .i64 e0,.int .i64 e8,.slice none 0 0]) ?_ 5 _ rfl;refine zzi (cs:=#[.bool d1,.bool d4,.int .i64 d6,.int .i64 e0,.int .i64 0,.slice none 0 0]) ?_ 4 _ rfl;refine zzi (cs:=#[.bool d1,.bool d4,.int .i64 d6,.int .i64 0,.int .i64 0,.slice none 0 0]) ?_ 3 _ rfl;refine zzi (cs:=#[.bool d1,.bool d4,.int .i64 0,.int .i64 0,.int .i64 0,.slice none 0 0]) ?_ 2 _ rfl;refine zzi (cs:=#[.bool d1,.bool false,.int .i64 0,.int .i64 0,.int .i64 0,.slice none 0 0]) ?_ 1 _ rfl;refine zzi (cs:=#[.bool false,.bool false,.int .i64 0,.int .i64 0,.int .i64 0,.slice none 0 0]) ?_ 0 _ rfl;(with_reducible repeat (first|apply zzf|apply zzg|apply zze));refine zzj ?_ j5.out _;(with_reducible repeat (first|apply zzf|apply zzg|apply zze));refine zzj ?_ j5.out _;(with_reducible repeat (first|apply zzf|apply zzg|apply zze));refine zzj ?_ j5.out _;(with_reducible repeat (first|apply zzf|apply zzg|apply zze));refine zzj ?_ j5.out _;(with_reducible repeat (first|apply zzf|apply zzg|apply zze));refine zzj ?_ j5.out _;(with_reducible repeat (first|apply zzf|apply zzg|apply zze));refine zzj ?_ j5.out _;(with_reducible repeat (first|apply zzf|apply zzg|apply zze));exact a5.out) hb);have h2:=zzm (zzp zzh2 hb);clear h4 h5 a2 a5 HB;have h4:=g3;have h5:=g4;have j3:=g5;have a2:=h0;have a5:=h1;have HB:=h2;clear g3 g4 g5 h0 h1 h2;(try clear hb);(try clear hb2);(try clear hk);(try clear hi);(try clear ho0))|((with_reducible refine gate_dst (N:=5) rfl ?_);(try (refine gate_guard (by rfl) ?_;dsimp only));refine box_event ?hg (N:=5) ?hd (cs:=#[.bool false,.bool false,.int .i64 0,.int .i64 0,.int .i64 0,.slice none 0 0]) (t:=25) ?hr ?_;(case hd=>rfl);(case hg=>rfl);(case hr=>first|(go_simp;done)|(go_simp;rfl));intro a6 hg H4 hbox hb;have g3:=zzm (Kd.N_below (Kd.N_elderB (zzN h4.out) a6 (Nat.le_of_eq hg.symm)) hb);have g4:=zzm (Kd.N_below (Kd.N_elderB (zzN h5.out) a6 (Nat.le_of_eq hg.symm)) hb);have g5:=zzm (Kd.N_below (Kd.N_elderB (zzN j3.out) a6 (Nat.le_of_eq hg.symm)) hb);have h0:=zzm (zzh (g:=a3) (o:=.cells #[.bool b9,.bool d3,.int .i64 d5,.int .i64 d8,.int .i64 e3,.slice e6 b5.length e2] 25 (0,0)) (zzE a2.out) hb);have h1:=zzm (zzh (g:=a4) (o:=.cells #[.bool d1,.bool d4,.int .i64 d6,.int .i64 e0,.int .i64 e8,.slice d9 b4.length d7] 25 (0,0)) (zzE a5.out) hb);have h2:=zzm (zzp zzh2 hb);have h6:=zzm (hbox);have h8:=zzm ((by rw [hg];exact (zzo zzh2):w.heap.size≤a6));have h9:=zzm ((by rw [hg];exact (zzo zzh2):w.heap.size≤a6));have k1:=zzm ((by rw [hg];exact Nat.ne_of_lt (blk_lt (g:=a3) (o:=.cells #[.bool b9,.bool d3,.int .i64 d5,.int .i64 d8,.int .i64 e3,.slice e6 b5.length e2] 25 (0,0)) (zzE a2.out)):a3≠a6));have m0:=zzm ((by rw [hg];exact Nat.ne_of_gt (blk_lt (g:=a3) (o:=.cells #[.bool b9,.bool d3,.int .i64 d5,.int .i64 d8,.int .i64 e3,.slice e6 b5.length e2] 25 (0,0)) (zzE a2.out)):a6≠a3));have m1:=zzm ((by rw [hg];exact Nat.ne_of_lt (blk_lt (g:=a4) (o:=.cells #[.bool d1,.bool d4,.int .i64 d6,.int .i64 e0,.int .i64 e8,.slice d9 b4.length d7] 25 (0,0)) (zzE a5.out)):a4≠a6));have m2:=zzm ((by rw [hg];exact Nat.ne_of_gt (blk_lt (g:=a4) (o:=.cells #[.bool d1,.bool d4,.int .i64 d6,.int .i64 e0,.int .i64 e8,.slice d9 b4.length d7] 25 (0,0)) (zzE a5.out)):a6≠a4));clear h4 h5 j3 a2 a5 HB;have h4:=g3;have h5:=g4;have j3:=g5;have a2:=h0;have a5:=h1;have HB:=h2;have a1:=h6;have I5:=h8;have I6:=h9;have j7:=k1;have k3:=m0;have j8:=m1;have k4:=m2;clear g3 g4 g5 h0 h1 h2 h6 h8 h9 k1 m0 m1 m2 hb hbox hg;have I7:=k3.out;have I8:=j7.out;have I9:=k4.out;have J0:=j8.out;obtain ⟨q1,q2,q3,q4,q5,q6,q7,q8,q9,r0,r1,r2⟩:=zzc6 a1.out;obtain ⟨d2,d0,eo20⟩:=Kd.N_slice j3.out;subst eo20)|((with_reducible refine gate_store (t:=25) (p:=5) rfl ?_);refine store_event (t:=25) (p:=5) (v:=?vo_w21) (w1:=((((((H4.setCell ⟨a6,0,none⟩ (.bool c9)).setCell ⟨a6,1,none⟩ (.bool e4)).setCell ⟨a6,2,none⟩ (.int .i64 e5)).setCell ⟨a6,3,none⟩ (.int .i64 e9)).setCell ⟨a6,4,none⟩ (.int .i64 g2)).setCell ⟨a6,5,none⟩ (.slice d2 b2.length d0))) ?hg ?ho ?hn ?hr ?_;(case ho=>rfl);(case hg=>rfl);(case hn=>rfl);(case hr=>first|(go_simp;done)|(go_simp;rfl));intro m3 hw;have g3:Aside0 (Kd.N k40 40 m3 w.heap.size (fun k_=>some k_≠(.slice d9 b4.length d7:Value).ownBlock∧some k_≠(.slice d2 b2.length d0:Value).ownBlock∧k_≠a3∧k_≠a4∧k_≠a6) (.slice e6 b5.length e2) b5):=⟨(by rw [hw];exact (zzN (Kd.N_mono (Kd.N_far (p:=⟨a6,5,none⟩) (Kd.N_far (p:=⟨a6,4,none⟩) (Kd.N_far (p:=⟨a6,3,none⟩) (Kd.N_far (p:=⟨a6,2,none⟩) (Kd.N_far (p:=⟨a6,1,none⟩) (Kd.N_far (p:=⟨a6,0,none⟩) (Kd.N_mono h4.out (fun k_ hk=>(⟨hk,hk.2⟩:_∧k_≠a6))) (fun _ hk=>hk.2) (.bool c9)) (fun _ hk=>hk.2) (.bool e4)) (fun _ hk=>hk.2) (.int .i64 e5)) (fun _ hk=>hk.2) (.int .i64 e9)) (fun _ hk=>hk.2) (.int .i64 g2)) (fun _ hk=>hk.2) (.slice d2 b2.length d0)) (fun _ hk=>⟨hk.1.1.1.1.1,⟨hk.1.1.2,⟨hk.1.1.1.1.2,⟨hk.1.1.1.2,hk.1.2⟩⟩⟩⟩))))⟩;have g4:Aside0 (Kd.N k40 40 m3 w.heap.size (fun k_=>some k_≠(.slice e6 b5.length e2:Value).ownBlock∧some k_≠(.slice d2 b2.length d0:Value).ownBlock∧k_≠a3∧k_≠a4∧k_≠a6) (.slice d9 b4.length d7) b4):=⟨(by rw [hw];exact (zzN (Kd.N_mono (Kd.N_far (p:=⟨a6,5,none⟩) (Kd.N_far (p:=⟨a6,4,none⟩) (Kd.N_far (p:=⟨a6,3,none⟩) (Kd.N_far (p:=⟨a6,2,none⟩) (Kd.N_far (p:=⟨a6,1,none⟩) (Kd.N_far (p:=⟨a6,0,none⟩) (Kd.N_mono h5.out (fun k_ hk=>(⟨hk,hk.2⟩:_∧k_≠a6))) (fun _ hk=>hk.2) (.bool c9)) (fun _ hk=>hk.2) (.bool e4)) (fun _ hk=>hk.2) (.int .i64 e5)) (fun _ hk=>hk.2) (.int .i64 e9)) (fun _ hk=>hk.2) (.int .i64 g2)) (fun _ hk=>hk.2) (.slice d2 b2.length d0)) (fun _ hk=>⟨hk.1.1.1.1.1,⟨hk.1.1.2,⟨hk.1.1.1.1.2,⟨hk.1.1.1.2,hk.1.2⟩⟩⟩⟩))))⟩;have g5:Aside0 (Kd.N k40 40 m3 w.heap.size (fun k_=>some k_≠(.slice e6 b5.length e2:Value).ownBlock∧some k_≠(.slice d9 b4.length d7:Value).ownBlock∧k_≠a3∧k_≠a4∧k_≠a6) (.slice d2 b2.length d0) b2):=⟨(by rw [hw];exact (zzN (Kd.N_mono (Kd.N_far (p:=⟨a6,5,none⟩) (Kd.N_far (p:=⟨a6,4,none⟩) (Kd.N_far (p:=⟨a6,3,none⟩) (Kd.N_far (p:=⟨a6,2,none⟩) (Kd.N_far (p:=⟨a6,1,none⟩) (Kd.N_far (p:=⟨a6,0,none⟩) (Kd.N_mono j3.out (fun k_ hk=>(⟨hk,hk.2⟩:_∧k_≠a6))) (fun _ hk=>hk.2) (.bool c9)) (fun _ hk=>hk.2) (.bool e4)) (fun _ hk=>hk.2) (.int .i64 e5)) (fun _ hk=>hk.2) (.int .i64 e9)) (fun _ hk=>hk.2) (.int .i64 g2)) (fun _ hk=>hk.2) (.slice d2 b2.length d0)) (fun _ hk=>⟨hk.1.1.1,⟨hk.1.1.2.1,⟨hk.1.1.2.2.1,⟨hk.1.1.2.2.2,hk.1.2⟩⟩⟩⟩))))⟩;have h0:Aside0 (m3.heap[a3]? = some (.cells #[.bool b9,.bool d3,.int .i64 d5,.int .i64 d8,.int .i64 e3,.slice e6 b5.length e2] 25 (0,0))):=⟨(by rw [hw];exact (by (with_reducible repeat (first|apply zzf|apply zzg|apply zze));refine zzj ?_ j7.out _;(with_reducible repeat (first|apply zzf|apply zzg|apply zze));refine zzj ?_ j7.out _;(with_reducible repeat (first|apply zzf|apply zzg|apply zze));refine zzj ?_ j7.out _;(with_reducible repeat (first|apply zzf|apply zzg|apply zze));refine zzj ?_ j7.out _;(with_reducible repeat (first|apply zzf|apply zzg|apply zze));refine zzj ?_ j7.out _;(with_reducible repeat (first|apply zzf|apply zzg|apply zze));refine zzj ?_ j7.out _;(with_reducible repeat (first|apply zzf|apply zzg|apply zze));exact a2.out))⟩;have h1:Aside0 (m3.heap[a4]? = some (.cells #[.bool d1,.bool d4,.int .i64 d6,.int .i64 e0,.int .i64 e8,.slice d9 b4.length d7] 25 (0,0))):=⟨(by rw [hw];exact (by (with_reducible repeat (first|apply zzf|apply zzg|apply zze));refine zzj ?_ j8.out _;(with_reducible repeat (first|apply zzf|apply zzg|apply zze));refine zzj ?_ j8.out _;(with_reducible repeat (first|apply zzf|apply zzg|apply zze));refine zzj ?_ j8.out _;(with_reducible repeat (first|apply zzf|apply zzg|apply zze));refine zzj ?_ j8.out _;(with_reducible repeat (first|apply zzf|apply zzg|apply zze));refine zzj ?_ j8.out _;(with_reducible repeat (first|apply zzf|apply zzg|apply zze));refine zzj ?_ j8.out _;(with_reducible repeat (first|apply zzf|apply zzg|apply zze));exact a5.out))⟩;have h2:Aside0 (m3.heap[a6]? = some (.cells #[.bool c9,.bool e4,.int .i64 e5,.int .i64 e9,.int .i64 g2,.slice d2 b2.length d0] 25 (0,0))):=⟨(by rw [hw];exact (by (with_reducible repeat (first|apply zzf|apply zzg|apply zze));refine zzi (cs:=#[.bool c9,.bool e4,.int .i64 e5,.int .i64 e9,.int .i64 g2,.slice none 0 0]) ?_ 5 _ rfl;refine zzi (cs:=#[.bool c9,.bool e4,.int .i64 e5,.int .i64 e9,.int .i64 0,.slice none 0 0]) ?_ 4 _ rfl;refine zzi (cs:=#[.bool c9,.bool e4,.int .i64 e5,.int .i64 0,.int .i64 0,.slice none 0 0]) ?_ 3 _ rfl;refine zzi (cs:=#[.bool c9,.bool e4,.int .i64 0,.int .i64 0,.int .i64 0,.slice none 0 0]) ?_ 2 _ rfl;refine zzi (cs:=#[.bool c9,.bool false,.int .i64 0,.int .i64 0,.int .i64 0,.slice none 0 0]) ?_ 1 _ rfl;refine zzi (cs:=#[.bool false,.bool false,.int .i64 0,.int .i64 0,.int .i64 0,.slice none 0 0]) ?_ 0 _ rfl;(with_reducible repeat (first|apply zzf|apply zzg|apply zze));exact a1.out))⟩;have h6:Aside0 (Below w.heap.size w m3):=⟨(by rw [hw];exact zzh2)⟩;clear hw h4 h5 j3 a2 a5 a1 HB;have h4:=g3;have h5:=g4;have j3:=g5;have a2:=h0;have a5:=h1;have a1:=h2;have HB:=h6;clear g3 g4 g5 h0 h1 h2 h6;obtain ⟨r3,r4,r5,r6,r7,r8,r9,s0,s1,s2,s3,s4⟩:=zzc6 a2.out;obtain ⟨s5,s6,s7,s8,s9,t0,t1,t2,t3,t4,t5,t6⟩:=zzc6 a5.out)|((with_reducible refine gate_callee (f:=7) rfl ?_);refine goesL_ (some 26) rfl rfl Tryd.func7 (by kernel_rfl) rfl #[.agg #[.bool b9,.bool d3,.int .i64 d5,.int .i64 d8,.int .i64 e3,.slice e6 b5.length e2],.agg #[.bool d1,.bool d4,.int .i64 d6,.int .i64 e0,.int .i64 e8,.slice d9 b4.length d7]] rfl zzM2 ?_;(with_reducible refine (Qj.calls k b9 d3 d5 d8 e3 (fun k_=>(some k_≠(.slice d9 b4.length d7:Value).ownBlock∧(some k_≠(.slice d2 b2.length d0:Value).ownBlock∧(k_≠a3∧(k_≠a4∧k_≠a6))))) _ _ b5 d1 d4 d6 e0 e8 (fun k_=>(some k_≠(.slice e6 b5.length e2:Value).ownBlock∧(some k_≠(.slice d2 b2.length d0:Value).ownBlock∧(k_≠a3∧(k_≠a4∧k_≠a6))))) _ _ b4 e1 g0 g9 h3 h7 c8 j9 _ ?side1 ?side2 A5.out).mono ?_);(case side1=>exact Kd.N_V (h4.out));(case side2=>exact Kd.N_V (h5.out));rintro e N6 ⟨N3,rfl,ho0,hb⟩;refine ⟨_,rfl,?_⟩;have g3:=zzm (Kd.N_elder' (zzN h4.out) (by first|exact Kd.N_base ho0|exact Kd.S_base ho0|exact Kd.R_base ho0) hb);have g4:=zzm (Kd.N_elder' (zzN h5.out) (by first|exact Kd.N_base ho0|exact Kd.S_base ho0|exact Kd.R_base ho0) hb);have g5:=zzm (Kd.N_elder' (zzN j3.out) (by first|exact Kd.N_base ho0|exact Kd.S_base ho0|exact Kd.R_base ho0) hb);have h0:=zzm (Kd.N_lower (Kd.N_mono (ok':=fun k_=>some k_≠(.slice d2 b2.length d0:Value).ownBlock∧k_≠a3∧k_≠a4∧k_≠a6) ho0 (fun k_ hk_=>⟨Or.elim hk_ (fun hs_=>Or.elim hs_ (fun hs_=>hs_.2.1) (fun hs_=>hs_.2.1)) (fun hn_=>(Kd.fresh' (Kd.N_lt (zzN j3.out)) k_ hn_)),Or.elim hk_ (fun hs_=>Or.elim hs_ (fun hs_=>hs_.2.2.1) (fun hs_=>hs_.2.2.1)) (fun hn_=>(Kd.freshB (g:=a3) (o:=.cells #[.bool b9,.bool d3,.int .i64 d5,.int .i64 d8,.int .i64 e3,.slice e6 b5.length e2] 25 (0,0)) (zzE a2.out) k_ hn_)),Or.elim hk_ (fun hs_=>Or.elim hs_ (fun hs_=>hs_.2.2.2.1) (fun hs_=>hs_.2.2.2.1)) (fun hn_=>(Kd.freshB (g:=a4) (o:=.cells #[.bool d1,.bool d4,.int .i64 d6,.int .i64 e0,.int .i64 e8,.slice d9 b4.length d7] 25 (0,0)) (zzE a5.out) k_ hn_)),Or.elim hk_ (fun hs_=>Or.elim hs_ (fun hs_=>hs_.2.2.2.2) (fun hs_=>hs_.2.2.2.2)) (fun hn_=>(Kd.freshB (g:=a6) (o:=.cells #[.bool c9,.bool e4,.int .i64 e5,.int .i64 e9,.int .i64 g2,.slice d2 b2.length d0] 25 (0,0)) (zzE a1.out) k_ hn_))⟩)) (zzo zzh2));have h1:=zzm (zzh (g:=a3) (o:=.cells #[.bool b9,.bool d3,.int .i64 d5,.int .i64 d8,.int .i64 e3,.slice e6 b5.length e2] 25 (0,0)) (zzE a2.out) hb);have h2:=zzm (zzh (g:=a4) (o:=.cells #[.bool d1,.bool d4,.int .i64 d6,.int .i64 e0,.int .i64 e8,.slice d9 b4.length d7] 25 (0,0)) (zzE a5.out) hb);have h6:=zzm (zzh (g:=a6) (o:=.cells #[.bool c9,.bool e4,.int .i64 e5,.int .i64 e9,.int .i64 g2,.slice d2 b2.length d0] 25 (0,0)) (zzE a1.out) hb);have h8:=zzm (zzp zzh2 hb);clear h4 h5 j3 a2 a5 a1 HB;have h4:=g3;have h5:=g4;have j3:=g5;have k0:=h0;have a2:=h1;have a5:=h2;have a1:=h6;have HB:=h8;clear g3 g4 g5 h0 h1 h2 h6 h8;(try clear hb);(try clear hb2);(try clear hk);(try clear hi);(try clear ho0))|((with_reducible refine gate_dst (N:=7) rfl ?_);(try (refine gate_guard (by rfl) ?_;dsimp only));refine box_event ?hg (N:=7) ?hd (cs:=#[.bool false,.bool false,.int .i64 0,.int .i64 0,.int .i64 0,.slice none 0 0]) (t:=25) ?hr ?_;(case hd=>rfl);(case hg=>rfl);(case hr=>first|(go_simp;done)|(go_simp;rfl));intro a0 hg N7 hbox hb;have g3:=zzm (Kd.N_below (Kd.N_elderB (zzN h4.out) a0 (Nat.le_of_eq hg.symm)) hb);have g4:=zzm (Kd.N_below (Kd.N_elderB (zzN h5.out) a0 (Nat.le_of_eq hg.symm)) hb);have g5:=zzm (Kd.N_below (Kd.N_elderB (zzN j3.out) a0 (Nat.le_of_eq hg.symm)) hb);have h0:=zzm (Kd.N_below (Kd.N_elderB (zzN k0.out) a0 (Nat.le_of_eq hg.symm)) hb);have h1:=zzm (zzh (g:=a3) (o:=.cells #[.bool b9,.bool d3,.int .i64 d5,.int .i64 d8,.int .i64 e3,.slice e6 b5.length e2] 25 (0,0)) (zzE a2.out) hb);have h2:=zzm (zzh (g:=a4) (o:=.cells #[.bool d1,.bool d4,.int .i64 d6,.int .i64 e0,.int .i64 e8,.slice d9 b4.length d7] 25 (0,0)) (zzE a5.out) hb);have h6:=zzm (zzh (g:=a6) (o:=.cells #[.bool c9,.bool e4,.int .i64 e5,.int .i64 e9,.int .i64 g2,.slice d2 b2.length d0] 25 (0,0)) (zzE a1.out) hb);have h8:=zzm (zzp zzh2 hb);have h9:=zzm (hbox);have k1:=zzm ((by rw [hg];exact (zzo zzh2):w.heap.size≤a0));have m0:=zzm ((by rw [hg];exact (zzo zzh2):w.heap.size≤a0));have m1:=zzm ((by rw [hg];exact Nat.ne_of_lt (blk_lt (g:=a3) (o:=.cells #[.bool b9,.bool d3,.int .i64 d5,.int .i64 d8,.int .i64 e3,.slice e6 b5.length e2] 25 (0,0)) (zzE a2.out)):a3≠a0));have m2:=zzm ((by rw [hg];exact Nat.ne_of_gt (blk_lt (g:=a3) (o:=.cells #[.bool b9,.bool d3,.int .i64 d5,.int .i64 d8,.int .i64 e3,.slice e6 b5.length e2] 25 (0,0)) (zzE a2.out)):a0≠a3));have C4:=zzm ((by rw [hg];exact Nat.ne_of_lt (blk_lt (g:=a4) (o:=.cells #[.bool d1,.bool d4,.int .i64 d6,.int .i64 e0,.int .i64 e8,.slice d9 b4.length d7] 25 (0,0)) (zzE a5.out)):a4≠a0));have C5:=zzm ((by rw [hg];exact Nat.ne_of_gt (blk_lt (g:=a4) (o:=.cells #[.bool d1,.bool d4,.int .i64 d6,.int .i64 e0,.int .i64 e8,.slice d9 b4.length d7] 25 (0,0)) (zzE a5.out)):a0≠a4));have C6:=zzm ((by rw [hg];exact Nat.ne_of_lt (blk_lt (g:=a6) (o:=.cells #[.bool c9,.bool e4,.int .i64 e5,.int .i64 e9,.int .i64 g2,.slice d2 b2.length d0] 25 (0,0)) (zzE a1.out)):a6≠a0));have C7:=zzm ((by rw [hg];exact Nat.ne_of_gt (blk_lt (g:=a6) (o:=.cells #[.bool c9,.bool e4,.int .i64 e5,.int .i64 e9,.int .i64 g2,.slice d2 b2.length d0] 25 (0,0)) (zzE a1.out)):a0≠a6));clear h4 h5 j3 k0 a2 a5 a1 HB;have h4:=g3;have h5:=g4;have j3:=g5;have k0:=h0;have a2:=h1;have a5:=h2;have a1:=h6;have HB:=h8;have b6:=h9;have J1:=k1;have J2:=m0;have g6:=m1;have k5:=m2;have g7:=C4;have k6:=C5;have g8:=C6;have k7:=C7;clear g3 g4 g5 h0 h1 h2 h6 h8 h9 k1 m0 m1 m2 C4 C5 C6 C7 hb hbox hg;have J3:=k5.out;have J4:=g6.out;have J5:=k6.out;have J6:=g7.out;have J7:=k7.out;have J8:=g8.out;obtain ⟨t7,t8,t9,v0,v1,v2,v3,v4,v5,v6,v7,v8⟩:=zzc6 b6.out;obtain ⟨g1,e7,eo30⟩:=Kd.N_slice k0.out;subst eo30))
  (try simp only [Act.put,zzq,zzr,zzs]);go_cut [41] (fun H5 wc=>∃ (kq:Nat) (l9:Bool),H5 = .bool l9∧Aside0 (laws_FnJoin.j0 kq j6 j9 l9 b9 d3 d5 d8 e3 b5 d1 d4 d6 e0 e8 b4 c9 e4 e5 e9 g2 b2 e1 g0 g9 h3 h7 c8=some r)∧Aside0 (kq≤k)∧Aside0 (Kd.N k40 40 wc w.heap.size (fun k_=>some k_≠((.slice d9 b4.length d7):Value).ownBlock∧some k_≠((.slice d2 b2.length d0):Value).ownBlock∧some k_≠((.slice g1 c8.length e7):Value).ownBlock∧k_≠a3∧k_≠a4∧k_≠a6∧k_≠a0) (.slice e6 b5.length e2) b5)∧Aside0 (Kd.N k40 40 wc w.heap.size (fun k_=>some k_≠((.slice e6 b5.length e2):Value).ownBlock∧some k_≠((.slice d2 b2.length d0):Value).ownBlock∧some k_≠((.slice g1 c8.length e7):Value).ownBlock∧k_≠a3∧k_≠a4∧k_≠a6∧k_≠a0) (.slice d9 b4.length d7) b4)∧Aside0 (Kd.N k40 40 wc w.heap.size (fun k_=>some k_≠((.slice e6 b5.length e2):Value).ownBlock∧some k_≠((.slice d9 b4.length d7):Value).ownBlock∧some k_≠((.slice g1 c8.length e7):Value).ownBlock∧k_≠a3∧k_≠a4∧k_≠a6∧k_≠a0) (.slice d2 b2.length d0) b2)∧Aside0 (Kd.N k40 40 wc w.heap.size (fun k_=>some k_≠((.slice d2 b2.length d0):Value).ownBlock∧k_≠a3∧k_≠a4∧k_≠a6∧k_≠a0) (.slice g1 c8.length e7) c8)∧Aside0 (wc.heap[a3]? = some (.cells #[.bool b9,.bool d3,.int .i64 d5,.int .i64 d8,.int .i64 e3,(.slice e6 b5.length e2)] 25 (0,0)))∧Aside0 (wc.heap[a4]? = some (.cells #[.bool d1,.bool d4,.int .i64 d6,.int .i64 e0,.int .i64 e8,(.slice d9 b4.length d7)] 25 (0,0)))∧Aside0 (wc.heap[a6]? = some (.cells #[.bool c9,.bool e4,.int .i64 e5,.int .i64 e9,.int .i64 g2,(.slice d2 b2.length d0)] 25 (0,0)))∧Aside0 (wc.heap[a0]? = some (.cells #[.bool e1,.bool g0,.int .i64 g9,.int .i64 h3,.int .i64 h7,(.slice g1 c8.length e7)] 25 (0,0)))∧Aside0 (Below w.heap.size w wc))
  case first=>
   have H:=C3.out;clear C3;by_cases k9:(j6 != j9)=true
   ·
    rw [if_pos k9] at H;have l3:(j6 != j9)=true:=k9
    (try (have m8:decide (j6=j9)=false:=by simpa using k9))
    (try (have m9:(j6==j9)=false:=by simpa using k9))
    (try (have J9:¬ (j6=j9):=by simpa using k9));clear k9
    (first|rw [l3]|(simp only [i64_w,i32_w];rw [l3])|skip);have H':=zzm H;clear H;go_wp2;go_meet
    case rel=>exact ⟨_,(true),(by first|rfl|(simp;done)|(simp [*];done)),H',⟨by first|omega|exact Nat.le_refl _⟩,⟨by (with_reducible repeat (first|apply Kd.N_alloc|apply Kd.N_drewN|apply Kd.N_drew));exact Kd.N_mono (Kd.N_far (p:=⟨a0,5,none⟩) (Kd.N_far (p:=⟨a0,4,none⟩) (Kd.N_far (p:=⟨a0,3,none⟩) (Kd.N_far (p:=⟨a0,2,none⟩) (Kd.N_far (p:=⟨a0,1,none⟩) (Kd.N_far (p:=⟨a0,0,none⟩) (Kd.N_mono h4.out (fun k_ hk=>(⟨hk,hk.2⟩:_∧k_≠a0))) (fun _ hk=>hk.2) (.bool e1)) (fun _ hk=>hk.2) (.bool g0)) (fun _ hk=>hk.2) (.int .i64 g9)) (fun _ hk=>hk.2) (.int .i64 h3)) (fun _ hk=>hk.2) (.int .i64 h7)) (fun _ hk=>hk.2) (.slice g1 c8.length e7)) (fun _ hk=>⟨hk.1.1.1.1,⟨hk.1.1.1.2.1,⟨hk.1.1.2,⟨hk.1.1.1.2.2.1,⟨hk.1.1.1.2.2.2.1,⟨hk.1.1.1.2.2.2.2,hk.1.2⟩⟩⟩⟩⟩⟩)⟩,⟨by (with_reducible repeat (first|apply Kd.N_alloc|apply Kd.N_drewN|apply Kd.N_drew));exact Kd.N_mono (Kd.N_far (p:=⟨a0,5,none⟩) (Kd.N_far (p:=⟨a0,4,none⟩) (Kd.N_far (p:=⟨a0,3,none⟩) (Kd.N_far (p:=⟨a0,2,none⟩) (Kd.N_far (p:=⟨a0,1,none⟩) (Kd.N_far (p:=⟨a0,0,none⟩) (Kd.N_mono h5.out (fun k_ hk=>(⟨hk,hk.2⟩:_∧k_≠a0))) (fun _ hk=>hk.2) (.bool e1)) (fun _ hk=>hk.2) (.bool g0)) (fun _ hk=>hk.2) (.int .i64 g9)) (fun _ hk=>hk.2) (.int .i64 h3)) (fun _ hk=>hk.2) (.int .i64 h7)) (fun _ hk=>hk.2) (.slice g1 c8.length e7)) (fun _ hk=>⟨hk.1.1.1.1,⟨hk.1.1.1.2.1,⟨hk.1.1.2,⟨hk.1.1.1.2.2.1,⟨hk.1.1.1.2.2.2.1,⟨hk.1.1.1.2.2.2.2,hk.1.2⟩⟩⟩⟩⟩⟩)⟩,⟨by (with_reducible repeat (first|apply Kd.N_alloc|apply Kd.N_drewN|apply Kd.N_drew));exact Kd.N_mono (Kd.N_far (p:=⟨a0,5,none⟩) (Kd.N_far (p:=⟨a0,4,none⟩) (Kd.N_far (p:=⟨a0,3,none⟩) (Kd.N_far (p:=⟨a0,2,none⟩) (Kd.N_far (p:=⟨a0,1,none⟩) (Kd.N_far (p:=⟨a0,0,none⟩) (Kd.N_mono j3.out (fun k_ hk=>(⟨hk,hk.2⟩:_∧k_≠a0))) (fun _ hk=>hk.2) (.bool e1)) (fun _ hk=>hk.2) (.bool g0)) (fun _ hk=>hk.2) (.int .i64 g9)) (fun _ hk=>hk.2) (.int .i64 h3)) (fun _ hk=>hk.2) (.int .i64 h7)) (fun _ hk=>hk.2) (.slice g1 c8.length e7)) (fun _ hk=>⟨hk.1.1.1.1,⟨hk.1.1.1.2.1,⟨hk.1.1.2,⟨hk.1.1.1.2.2.1,⟨hk.1.1.1.2.2.2.1,⟨hk.1.1.1.2.2.2.2,hk.1.2⟩⟩⟩⟩⟩⟩)⟩,⟨by (with_reducible repeat (first|apply Kd.N_alloc|apply Kd.N_drewN|apply Kd.N_drew));exact Kd.N_mono (Kd.N_far (p:=⟨a0,5,none⟩) (Kd.N_far (p:=⟨a0,4,none⟩) (Kd.N_far (p:=⟨a0,3,none⟩) (Kd.N_far (p:=⟨a0,2,none⟩) (Kd.N_far (p:=⟨a0,1,none⟩) (Kd.N_far (p:=⟨a0,0,none⟩) (Kd.N_mono k0.out (fun k_ hk=>(⟨hk,hk.2⟩:_∧k_≠a0))) (fun _ hk=>hk.2) (.bool e1)) (fun _ hk=>hk.2) (.bool g0)) (fun _ hk=>hk.2) (.int .i64 g9)) (fun _ hk=>hk.2) (.int .i64 h3)) (fun _ hk=>hk.2) (.int .i64 h7)) (fun _ hk=>hk.2) (.slice g1 c8.length e7)) (fun _ hk=>⟨hk.1.1.1,⟨hk.1.1.2.1,⟨hk.1.1.2.2.1,⟨hk.1.1.2.2.2,hk.1.2⟩⟩⟩⟩)⟩,⟨by (with_reducible repeat (first|apply zzf|apply zzg|apply zze));refine zzj ?_ g6.out _;(with_reducible repeat (first|apply zzf|apply zzg|apply zze));refine zzj ?_ g6.out _;(with_reducible repeat (first|apply zzf|apply zzg|apply zze));refine zzj ?_ g6.out _;(with_reducible repeat (first|apply zzf|apply zzg|apply zze));refine zzj ?_ g6.out _;(with_reducible repeat (first|apply zzf|apply zzg|apply zze));refine zzj ?_ g6.out _;(with_reducible repeat (first|apply zzf|apply zzg|apply zze));refine zzj ?_ g6.out _;(with_reducible repeat (first|apply zzf|apply zzg|apply zze));exact a2.out⟩,⟨by (with_reducible repeat (first|apply zzf|apply zzg|apply zze));refine zzj ?_ g7.out _;(with_reducible repeat (first|apply zzf|apply zzg|apply zze));refine zzj ?_ g7.out _;(with_reducible repeat (first|apply zzf|apply zzg|apply zze));refine zzj ?_ g7.out _;(with_reducible repeat (first|apply zzf|apply zzg|apply zze));refine zzj ?_ g7.out _;(with_reducible repeat (first|apply zzf|apply zzg|apply zze));refine zzj ?_ g7.out _;(with_reducible repeat (first|apply zzf|apply zzg|apply zze));refine zzj ?_ g7.out _;(with_reducible repeat (first|apply zzf|apply zzg|apply zze));exact a5.out⟩,⟨by (with_reducible repeat (first|apply zzf|apply zzg|apply zze));refine zzj ?_ g8.out _;(with_reducible repeat (first|apply zzf|apply zzg|apply zze));refine zzj ?_ g8.out _;(with_reducible repeat (first|apply zzf|apply zzg|apply zze));refine zzj ?_ g8.out _;(with_reducible repeat (first|apply zzf|apply zzg|apply zze));refine zzj ?_ g8.out _;(with_reducible repeat (first|apply zzf|apply zzg|apply zze));refine zzj ?_ g8.out _;(with_reducible repeat (first|apply zzf|apply zzg|apply zze));refine zzj ?_ g8.out _;(with_reducible repeat (first|apply zzf|apply zzg|apply zze));exact a1.out⟩,⟨by (with_reducible repeat (first|apply zzf|apply zzg|apply zze));refine zzi (cs:=#[.bool e1,.bool g0,.int .i64 g9,.int .i64 h3,.int .i64 h7,.slice none 0 0]) ?_ 5 _ rfl;refine zzi (cs:=#[.bool e1,.bool g0,.int .i64 g9,.int .i64 h3,.int .i64 0,.slice none 0 0]) ?_ 4 _ rfl;refine zzi (cs:=#[.bool e1,.bool g0,.int .i64 g9,.int .i64 0,.int .i64 0,.slice none 0 0]) ?_ 3 _ rfl;refine zzi (cs:=#[.bool e1,.bool g0,.int .i64 0,.int .i64 0,.int .i64 0,.slice none 0 0]) ?_ 2 _ rfl;refine zzi (cs:=#[.bool e1,.bool false,.int .i64 0,.int .i64 0,.int .i64 0,.slice none 0 0]) ?_ 1 _ rfl;refine zzi (cs:=#[.bool false,.bool false,.int .i64 0,.int .i64 0,.int .i64 0,.slice none 0 0]) ?_ 0 _ rfl;(with_reducible repeat (first|apply zzf|apply zzg|apply zze));exact b6.out⟩,⟨zzh3⟩⟩
   ·
    rw [if_neg k9] at H;have l3:(j6 != j9)=false:=by simpa using k9
    (try (have m8:decide (j6=j9)=true:=by simpa using k9))
    (try (have m9:(j6==j9)=true:=by simpa using k9));clear k9
    (first|rw [l3]|(simp only [i64_w,i32_w];rw [l3])|skip);obtain ⟨k8,E1,H⟩:=zzG H;by_cases m4:k8=true
    ·
     subst m4;replace H:=zzIt H;have H':=zzm H;clear H;have K0:=k3.out;have K1:=j7.out;have K2:=k4.out;have K3:=j8.out;have K4:=g8.out;have K5:=k7.out;obtain ⟨v9,w2,w3,w4,w5,w6,x0,x1,x2,x3,x4,x5⟩:=zzc6 a1.out;have K6:=k5.out;have K7:=g6.out;have K8:=k6.out;have K9:=g7.out;obtain ⟨x6,x7,x8,x9,y0,y1,y2,y3,y4,y5,y6,y7⟩:=zzc6 b6.out;go_wp2_with (first|(go_at_call 8;(with_reducible refine (Qt.calls k c9 e4 e5 e9 g2 _ _ b2 e1 g0 g9 h3 h7 _ _ c8 true _ ?side1 ?side2 ?side3 ?side4 E1.out).mono ?_);(case side1=>refine (Kd.N_reads' (e:=40) (base:=w.heap.size) (ok:=fun k_=>(((some k_≠(.slice e6 b5.length e2:Value).ownBlock∧(some k_≠(.slice d9 b4.length d7:Value).ownBlock∧(k_≠a3∧(k_≠a4∧k_≠a6))))∧some k_≠(.slice g1 c8.length e7:Value).ownBlock)∧k_≠a0)) (n:=b2.length) (c:=d0) ?_).2.2;exact (zzN ((Kd.N_mono (Kd.N_far (p:=⟨a0,5,none⟩) (Kd.N_far (p:=⟨a0,4,none⟩) (Kd.N_far (p:=⟨a0,3,none⟩) (Kd.N_far (p:=⟨a0,2,none⟩) (Kd.N_far (p:=⟨a0,1,none⟩) (Kd.N_far (p:=⟨a0,0,none⟩) (Kd.N_mono j3.out (fun k_ hk=>(⟨hk,hk.2⟩:_∧k_≠a0))) (fun _ hk=>hk.2) (.bool e1)) (fun _ hk=>hk.2) (.bool g0)) (fun _ hk=>hk.2) (.int .i64 g9)) (fun _ hk=>hk.2) (.int .i64 h3)) (fun _ hk=>hk.2) (.int .i64 h7)) (fun _ hk=>hk.2) (.slice g1 c8.length e7)) (fun _ h_=>h_.1)))));(case side2=>exact (Kd.N_reads' j3.out).2.1);(case side3=>refine (Kd.N_reads' (e:=40) (base:=w.heap.size) (ok:=fun k_=>((some k_≠(.slice d2 b2.length d0:Value).ownBlock∧(k_≠a3∧(k_≠a4∧k_≠a6)))∧k_≠a0)) (n:=c8.length) (c:=e7) ?_).2.2;exact (zzN ((Kd.N_mono (Kd.N_far (p:=⟨a0,5,none⟩) (Kd.N_far (p:=⟨a0,4,none⟩) (Kd.N_far (p:=⟨a0,3,none⟩) (Kd.N_far (p:=⟨a0,2,none⟩) (Kd.N_far (p:=⟨a0,1,none⟩) (Kd.N_far (p:=⟨a0,0,none⟩) (Kd.N_mono k0.out (fun k_ hk=>(⟨hk,hk.2⟩:_∧k_≠a0))) (fun _ hk=>hk.2) (.bool e1)) (fun _ hk=>hk.2) (.bool g0)) (fun _ hk=>hk.2) (.int .i64 g9)) (fun _ hk=>hk.2) (.int .i64 h3)) (fun _ hk=>hk.2) (.int .i64 h7)) (fun _ hk=>hk.2) (.slice g1 c8.length e7)) (fun _ h_=>h_.1)))));(case side4=>exact (Kd.N_reads' k0.out).2.1);rintro e N8 ⟨rfl,hb⟩;have g3:=zzm (Kd.N_below (zzN ((Kd.N_mono (Kd.N_far (p:=⟨a0,5,none⟩) (Kd.N_far (p:=⟨a0,4,none⟩) (Kd.N_far (p:=⟨a0,3,none⟩) (Kd.N_far (p:=⟨a0,2,none⟩) (Kd.N_far (p:=⟨a0,1,none⟩) (Kd.N_far (p:=⟨a0,0,none⟩) (Kd.N_mono h4.out (fun k_ hk=>(⟨hk,hk.2⟩:_∧k_≠a0))) (fun _ hk=>hk.2) (.bool e1)) (fun _ hk=>hk.2) (.bool g0)) (fun _ hk=>hk.2) (.int .i64 g9)) (fun _ hk=>hk.2) (.int .i64 h3)) (fun _ hk=>hk.2) (.int .i64 h7)) (fun _ hk=>hk.2) (.slice g1 c8.length e7)) (fun _ h_=>h_.1)))) hb);have g4:=zzm (Kd.N_below (zzN ((Kd.N_mono (Kd.N_far (p:=⟨a0,5,none⟩) (Kd.N_far (p:=⟨a0,4,none⟩) (Kd.N_far (p:=⟨a0,3,none⟩) (Kd.N_far (p:=⟨a0,2,none⟩) (Kd.N_far (p:=⟨a0,1,none⟩) (Kd.N_far (p:=⟨a0,0,none⟩) (Kd.N_mono h5.out (fun k_ hk=>(⟨hk,hk.2⟩:_∧k_≠a0))) (fun _ hk=>hk.2) (.bool e1)) (fun _ hk=>hk.2) (.bool g0)) (fun _ hk=>hk.2) (.int .i64 g9)) (fun _ hk=>hk.2) (.int .i64 h3)) (fun _ hk=>hk.2) (.int .i64 h7)) (fun _ hk=>hk.2) (.slice g1 c8.length e7)) (fun _ h_=>h_.1)))) hb);have g5:=zzm (Kd.N_below (zzN ((Kd.N_mono (Kd.N_far (p:=⟨a0,5,none⟩) (Kd.N_far (p:=⟨a0,4,none⟩) (Kd.N_far (p:=⟨a0,3,none⟩) (Kd.N_far (p:=⟨a0,2,none⟩) (Kd.N_far (p:=⟨a0,1,none⟩) (Kd.N_far (p:=⟨a0,0,none⟩) (Kd.N_mono j3.out (fun k_ hk=>(⟨hk,hk.2⟩:_∧k_≠a0))) (fun _ hk=>hk.2) (.bool e1)) (fun _ hk=>hk.2) (.bool g0)) (fun _ hk=>hk.2) (.int .i64 g9)) (fun _ hk=>hk.2) (.int .i64 h3)) (fun _ hk=>hk.2) (.int .i64 h7)) (fun _ hk=>hk.2) (.slice g1 c8.length e7)) (fun _ h_=>h_.1)))) hb);have h0:=zzm (Kd.N_below (zzN ((Kd.N_mono (Kd.N_far (p:=⟨a0,5,none⟩) (Kd.N_far (p:=⟨a0,4,none⟩) (Kd.N_far (p:=⟨a0,3,none⟩) (Kd.N_far (p:=⟨a0,2,none⟩) (Kd.N_far (p:=⟨a0,1,none⟩) (Kd.N_far (p:=⟨a0,0,none⟩) (Kd.N_mono k0.out (fun k_ hk=>(⟨hk,hk.2⟩:_∧k_≠a0))) (fun _ hk=>hk.2) (.bool e1)) (fun _ hk=>hk.2) (.bool g0)) (fun _ hk=>hk.2) (.int .i64 g9)) (fun _ hk=>hk.2) (.int .i64 h3)) (fun _ hk=>hk.2) (.int .i64 h7)) (fun _ hk=>hk.2) (.slice g1 c8.length e7)) (fun _ h_=>h_.1)))) hb);have h1:=zzm (zzh (g:=a3) (o:=.cells #[.bool b9,.bool d3,.int .i64 d5,.int .i64 d8,.int .i64 e3,.slice e6 b5.length e2] 25 (0,0)) (by (with_reducible repeat (first|apply zzf|apply zzg|apply zze));refine zzj ?_ g6.out _;(with_reducible repeat (first|apply zzf|apply zzg|apply zze));refine zzj ?_ g6.out _;(with_reducible repeat (first|apply zzf|apply zzg|apply zze));refine zzj ?_ g6.out _;(with_reducible repeat (first|apply zzf|apply zzg|apply zze));refine zzj ?_ g6.out _;(with_reducible repeat (first|apply zzf|apply zzg|apply zze));refine zzj ?_ g6.out _;(with_reducible repeat (first|apply zzf|apply zzg|apply zze));refine zzj ?_ g6.out _;(with_reducible repeat (first|apply zzf|apply zzg|apply zze));exact a2.out) hb);have h2:=zzm (zzh (g:=a4) (o:=.cells #[.bool d1,.bool d4,.int .i64 d6,.int .i64 e0,.int .i64 e8,.slice d9 b4.length d7] 25 (0,0)) (by (with_reducible repeat (first|apply zzf|apply zzg|apply zze));refine zzj ?_ g7.out _;(with_reducible repeat (first|apply zzf|apply zzg|apply zze));refine zzj ?_ g7.out _;(with_reducible repeat (first|apply zzf|apply zzg|apply zze));refine zzj ?_ g7.out _;(with_reducible repeat (first|apply zzf|apply zzg|apply zze));refine zzj ?_ g7.out _;(with_reducible repeat (first|apply zzf|apply zzg|apply zze));refine zzj ?_ g7.out _;(with_reducible repeat (first|apply zzf|apply zzg|apply zze));refine zzj ?_ g7.out _;(with_reducible repeat (first|apply zzf|apply zzg|apply zze));exact a5.out) hb);have h6:=zzm (zzh (g:=a6) (o:=.cells #[.bool c9,.bool e4,.int .i64 e5,.int .i64 e9,.int .i64 g2,.slice d2 b2.length d0] 25 (0,0)) (by (with_reducible repeat (first|apply zzf|apply zzg|apply zze));refine zzj ?_ g8.out _;(with_reducible repeat (first|apply zzf|apply zzg|apply zze));refine zzj ?_ g8.out _;(with_reducible repeat (first|apply zzf|apply zzg|apply zze));refine zzj ?_ g8.out _;(with_reducible repeat (first|apply zzf|apply zzg|apply zze));refine zzj ?_ g8.out _;(with_reducible repeat (first|apply zzf|apply zzg|apply zze));refine zzj ?_ g8.out _;(with_reducible repeat (first|apply zzf|apply zzg|apply zze));refine zzj ?_ g8.out _;(with_reducible repeat (first|apply zzf|apply zzg|apply zze));exact a1.out) hb);have h8:=zzm (zzh (g:=a0) (o:=.cells #[.bool e1,.bool g0,.int .i64 g9,.int .i64 h3,.int .i64 h7,.slice g1 c8.length e7] 25 (0,0)) (by (with_reducible repeat (first|apply zzf|apply zzg|apply zze));refine zzi (cs:=#[.bool e1,.bool g0,.int .i64 g9,.int .i64 h3,.int .i64 h7,.slice none 0 0]) ?_ 5 _ rfl;refine zzi (cs:=#[.bool e1,.bool g0,.int .i64 g9,.int .i64 h3,.int .i64 0,.slice none 0 0]) ?_ 4 _ rfl;refine zzi (cs:=#[.bool e1,.bool g0,.int .i64 g9,.int .i64 0,.int .i64 0,.slice none 0 0]) ?_ 3 _ rfl;refine zzi (cs:=#[.bool e1,.bool g0,.int .i64 0,.int .i64 0,.int .i64 0,.slice none 0 0]) ?_ 2 _ rfl;refine zzi (cs:=#[.bool e1,.bool false,.int .i64 0,.int .i64 0,.int .i64 0,.slice none 0 0]) ?_ 1 _ rfl;refine zzi (cs:=#[.bool false,.bool false,.int .i64 0,.int .i64 0,.int .i64 0,.slice none 0 0]) ?_ 0 _ rfl;(with_reducible repeat (first|apply zzf|apply zzg|apply zze));exact b6.out) hb);have h9:=zzm (zzp zzh2 hb);clear h4 h5 j3 k0 a2 a5 a1 b6 HB;have h4:=g3;have h5:=g4;have j3:=g5;have k0:=h0;have a2:=h1;have a5:=h2;have a1:=h6;have b6:=h8;have HB:=h9;clear g3 g4 g5 h0 h1 h2 h6 h8 h9;(try clear hb);(try clear hb2);(try clear hk);(try clear hi)));go_meet
     case rel=>exact ⟨_,(!j6),(by first|rfl|(simp;done)|(simp [*];done)),H',⟨by first|omega|exact Nat.le_refl _⟩,⟨by (with_reducible repeat (first|apply Kd.N_alloc|apply Kd.N_drewN|apply Kd.N_drew));exact Kd.N_mono h4.out (fun _ hk=>⟨hk.1.1.1,⟨hk.1.1.2.1,⟨hk.1.2,⟨hk.1.1.2.2.1,⟨hk.1.1.2.2.2.1,⟨hk.1.1.2.2.2.2,hk.2⟩⟩⟩⟩⟩⟩)⟩,⟨by (with_reducible repeat (first|apply Kd.N_alloc|apply Kd.N_drewN|apply Kd.N_drew));exact Kd.N_mono h5.out (fun _ hk=>⟨hk.1.1.1,⟨hk.1.1.2.1,⟨hk.1.2,⟨hk.1.1.2.2.1,⟨hk.1.1.2.2.2.1,⟨hk.1.1.2.2.2.2,hk.2⟩⟩⟩⟩⟩⟩)⟩,⟨by (with_reducible repeat (first|apply Kd.N_alloc|apply Kd.N_drewN|apply Kd.N_drew));exact Kd.N_mono j3.out (fun _ hk=>⟨hk.1.1.1,⟨hk.1.1.2.1,⟨hk.1.2,⟨hk.1.1.2.2.1,⟨hk.1.1.2.2.2.1,⟨hk.1.1.2.2.2.2,hk.2⟩⟩⟩⟩⟩⟩)⟩,⟨by (with_reducible repeat (first|apply Kd.N_alloc|apply Kd.N_drewN|apply Kd.N_drew));exact Kd.N_mono k0.out (fun _ hk=>⟨hk.1.1,⟨hk.1.2.1,⟨hk.1.2.2.1,⟨hk.1.2.2.2,hk.2⟩⟩⟩⟩)⟩,⟨zzE a2.out⟩,⟨zzE a5.out⟩,⟨zzE a1.out⟩,⟨zzE b6.out⟩,⟨zzh3⟩⟩
    ·
     replace m4:=Bool.eq_false_iff.mpr m4;subst m4;replace H:=zzIf H;have H':=zzm H;clear H;have L0:=k3.out;have L1:=j7.out;have L2:=k4.out;have L3:=j8.out;have L4:=g8.out;have L5:=k7.out;obtain ⟨y8,y9,z0,z1,z2,z3,z4,z5,z6,z7,z8,z9⟩:=zzc6 a1.out;have L6:=k5.out;have L7:=g6.out;have L8:=k6.out;have L9:=g7.out;obtain ⟨A1,A2,A6,A7,A8,A9,B0,B1,B2,B7,B9,C0⟩:=zzc6 b6.out;go_wp2_with (first|(go_at_call 8;(with_reducible refine (Qt.calls k c9 e4 e5 e9 g2 _ _ b2 e1 g0 g9 h3 h7 _ _ c8 false _ ?side1 ?side2 ?side3 ?side4 E1.out).mono ?_);(case side1=>refine (Kd.N_reads' (e:=40) (base:=w.heap.size) (ok:=fun k_=>(((some k_≠(.slice e6 b5.length e2:Value).ownBlock∧(some k_≠(.slice d9 b4.length d7:Value).ownBlock∧(k_≠a3∧(k_≠a4∧k_≠a6))))∧some k_≠(.slice g1 c8.length e7:Value).ownBlock)∧k_≠a0)) (n:=b2.length) (c:=d0) ?_).2.2;exact (zzN ((Kd.N_mono (Kd.N_far (p:=⟨a0,5,none⟩) (Kd.N_far (p:=⟨a0,4,none⟩) (Kd.N_far (p:=⟨a0,3,none⟩) (Kd.N_far (p:=⟨a0,2,none⟩) (Kd.N_far (p:=⟨a0,1,none⟩) (Kd.N_far (p:=⟨a0,0,none⟩) (Kd.N_mono j3.out (fun k_ hk=>(⟨hk,hk.2⟩:_∧k_≠a0))) (fun _ hk=>hk.2) (.bool e1)) (fun _ hk=>hk.2) (.bool g0)) (fun _ hk=>hk.2) (.int .i64 g9)) (fun _ hk=>hk.2) (.int .i64 h3)) (fun _ hk=>hk.2) (.int .i64 h7)) (fun _ hk=>hk.2) (.slice g1 c8.length e7)) (fun _ h_=>h_.1)))));(case side2=>exact (Kd.N_reads' j3.out).2.1);(case side3=>refine (Kd.N_reads' (e:=40) (base:=w.heap.size) (ok:=fun k_=>((some k_≠(.slice d2 b2.length d0:Value).ownBlock∧(k_≠a3∧(k_≠a4∧k_≠a6)))∧k_≠a0)) (n:=c8.length) (c:=e7) ?_).2.2;exact (zzN ((Kd.N_mono (Kd.N_far (p:=⟨a0,5,none⟩) (Kd.N_far (p:=⟨a0,4,none⟩) (Kd.N_far (p:=⟨a0,3,none⟩) (Kd.N_far (p:=⟨a0,2,none⟩) (Kd.N_far (p:=⟨a0,1,none⟩) (Kd.N_far (p:=⟨a0,0,none⟩) (Kd.N_mono k0.out (fun k_ hk=>(⟨hk,hk.2⟩:_∧k_≠a0))) (fun _ hk=>hk.2) (.bool e1)) (fun _ hk=>hk.2) (.bool g0)) (fun _ hk=>hk.2) (.int .i64 g9)) (fun _ hk=>hk.2) (.int .i64 h3)) (fun _ hk=>hk.2) (.int .i64 h7)) (fun _ hk=>hk.2) (.slice g1 c8.length e7)) (fun _ h_=>h_.1)))));(case side4=>exact (Kd.N_reads' k0.out).2.1);rintro e N9 ⟨rfl,hb⟩;have g3:=zzm (Kd.N_below (zzN ((Kd.N_mono (Kd.N_far (p:=⟨a0,5,none⟩) (Kd.N_far (p:=⟨a0,4,none⟩) (Kd.N_far (p:=⟨a0,3,none⟩) (Kd.N_far (p:=⟨a0,2,none⟩) (Kd.N_far (p:=⟨a0,1,none⟩) (Kd.N_far (p:=⟨a0,0,none⟩) (Kd.N_mono h4.out (fun k_ hk=>(⟨hk,hk.2⟩:_∧k_≠a0))) (fun _ hk=>hk.2) (.bool e1)) (fun _ hk=>hk.2) (.bool g0)) (fun _ hk=>hk.2) (.int .i64 g9)) (fun _ hk=>hk.2) (.int .i64 h3)) (fun _ hk=>hk.2) (.int .i64 h7)) (fun _ hk=>hk.2) (.slice g1 c8.length e7)) (fun _ h_=>h_.1)))) hb);have g4:=zzm (Kd.N_below (zzN ((Kd.N_mono (Kd.N_far (p:=⟨a0,5,none⟩) (Kd.N_far (p:=⟨a0,4,none⟩) (Kd.N_far (p:=⟨a0,3,none⟩) (Kd.N_far (p:=⟨a0,2,none⟩) (Kd.N_far (p:=⟨a0,1,none⟩) (Kd.N_far (p:=⟨a0,0,none⟩) (Kd.N_mono h5.out (fun k_ hk=>(⟨hk,hk.2⟩:_∧k_≠a0))) (fun _ hk=>hk.2) (.bool e1)) (fun _ hk=>hk.2) (.bool g0)) (fun _ hk=>hk.2) (.int .i64 g9)) (fun _ hk=>hk.2) (.int .i64 h3)) (fun _ hk=>hk.2) (.int .i64 h7)) (fun _ hk=>hk.2) (.slice g1 c8.length e7)) (fun _ h_=>h_.1)))) hb);have g5:=zzm (Kd.N_below (zzN ((Kd.N_mono (Kd.N_far (p:=⟨a0,5,none⟩) (Kd.N_far (p:=⟨a0,4,none⟩) (Kd.N_far (p:=⟨a0,3,none⟩) (Kd.N_far (p:=⟨a0,2,none⟩) (Kd.N_far (p:=⟨a0,1,none⟩) (Kd.N_far (p:=⟨a0,0,none⟩) (Kd.N_mono j3.out (fun k_ hk=>(⟨hk,hk.2⟩:_∧k_≠a0))) (fun _ hk=>hk.2) (.bool e1)) (fun _ hk=>hk.2) (.bool g0)) (fun _ hk=>hk.2) (.int .i64 g9)) (fun _ hk=>hk.2) (.int .i64 h3)) (fun _ hk=>hk.2) (.int .i64 h7)) (fun _ hk=>hk.2) (.slice g1 c8.length e7)) (fun _ h_=>h_.1)))) hb);have h0:=zzm (Kd.N_below (zzN ((Kd.N_mono (Kd.N_far (p:=⟨a0,5,none⟩) (Kd.N_far (p:=⟨a0,4,none⟩) (Kd.N_far (p:=⟨a0,3,none⟩) (Kd.N_far (p:=⟨a0,2,none⟩) (Kd.N_far (p:=⟨a0,1,none⟩) (Kd.N_far (p:=⟨a0,0,none⟩) (Kd.N_mono k0.out (fun k_ hk=>(⟨hk,hk.2⟩:_∧k_≠a0))) (fun _ hk=>hk.2) (.bool e1)) (fun _ hk=>hk.2) (.bool g0)) (fun _ hk=>hk.2) (.int .i64 g9)) (fun _ hk=>hk.2) (.int .i64 h3)) (fun _ hk=>hk.2) (.int .i64 h7)) (fun _ hk=>hk.2) (.slice g1 c8.length e7)) (fun _ h_=>h_.1)))) hb);have h1:=zzm (zzh (g:=a3) (o:=.cells #[.bool b9,.bool d3,.int .i64 d5,.int .i64 d8,.int .i64 e3,.slice e6 b5.length e2] 25 (0,0)) (by (with_reducible repeat (first|apply zzf|apply zzg|apply zze));refine zzj ?_ g6.out _;(with_reducible repeat (first|apply zzf|apply zzg|apply zze));refine zzj ?_ g6.out _;(with_reducible repeat (first|apply zzf|apply zzg|apply zze));refine zzj ?_ g6.out _;(with_reducible repeat (first|apply zzf|apply zzg|apply zze));refine zzj ?_ g6.out _;(with_reducible repeat (first|apply zzf|apply zzg|apply zze));refine zzj ?_ g6.out _;(with_reducible repeat (first|apply zzf|apply zzg|apply zze));refine zzj ?_ g6.out _;(with_reducible repeat (first|apply zzf|apply zzg|apply zze));exact a2.out) hb);have h2:=zzm (zzh (g:=a4) (o:=.cells #[.bool d1,.bool d4,.int .i64 d6,.int .i64 e0,.int .i64 e8,.slice d9 b4.length d7] 25 (0,0)) (by (with_reducible repeat (first|apply zzf|apply zzg|apply zze));refine zzj ?_ g7.out _;(with_reducible repeat (first|apply zzf|apply zzg|apply zze));refine zzj ?_ g7.out _;(with_reducible repeat (first|apply zzf|apply zzg|apply zze));refine zzj ?_ g7.out _;(with_reducible repeat (first|apply zzf|apply zzg|apply zze));refine zzj ?_ g7.out _;(with_reducible repeat (first|apply zzf|apply zzg|apply zze));refine zzj ?_ g7.out _;(with_reducible repeat (first|apply zzf|apply zzg|apply zze));refine zzj ?_ g7.out _;(with_reducible repeat (first|apply zzf|apply zzg|apply zze));exact a5.out) hb);have h6:=zzm (zzh (g:=a6) (o:=.cells #[.bool c9,.bool e4,.int .i64 e5,.int .i64 e9,.int .i64 g2,.slice d2 b2.length d0] 25 (0,0)) (by (with_reducible repeat (first|apply zzf|apply zzg|apply zze));refine zzj ?_ g8.out _;(with_reducible repeat (first|apply zzf|apply zzg|apply zze));refine zzj ?_ g8.out _;(with_reducible repeat (first|apply zzf|apply zzg|apply zze));refine zzj ?_ g8.out _;(with_reducible repeat (first|apply zzf|apply zzg|apply zze));refine zzj ?_ g8.out _;(with_reducible repeat (first|apply zzf|apply zzg|apply zze));refine zzj ?_ g8.out _;(with_reducible repeat (first|apply zzf|apply zzg|apply zze));refine zzj ?_ g8.out _;(with_reducible repeat (first|apply zzf|apply zzg|apply zze));exact a1.out) hb);have h8:=zzm (zzh (g:=a0) (o:=.cells #[.bool e1,.bool g0,.int .i64 g9,.int .i64 h3,.int .i64 h7,.slice g1 c8.length e7] 25 (0,0)) (by (with_reducible repeat (first|apply zzf|apply zzg|apply zze));refine zzi (cs:=#[.bool e1,.bool g0,.int .i64 g9,.int .i64 h3,.int .i64 h7,.slice none 0 0]) ?_ 5 _ rfl;refine zzi (cs:=#[.bool e1,.bool g0,.int .i64 g9,.int .i64 h3,.int .i64 0,.slice none 0 0]) ?_ 4 _ rfl;refine zzi (cs:=#[.bool e1,.bool g0,.int .i64 g9,.int .i64 0,.int .i64 0,.slice none 0 0]) ?_ 3 _ rfl;refine zzi (cs:=#[.bool e1,.bool g0,.int .i64 0,.int .i64 0,.int .i64 0,.slice none 0 0]) ?_ 2 _ rfl;refine zzi (cs:=#[.bool e1,.bool false,.int .i64 0,.int .i64 0,.int .i64 0,.slice none 0 0]) ?_ 1 _ rfl;refine zzi (cs:=#[.bool false,.bool false,.int .i64 0,.int .i64 0,.int .i64 0,.slice none 0 0]) ?_ 0 _ rfl;(with_reducible repeat (first|apply zzf|apply zzg|apply zze));exact b6.out) hb);have h9:=zzm (zzp zzh2 hb);clear h4 h5 j3 k0 a2 a5 a1 b6 HB;have h4:=g3;have h5:=g4;have j3:=g5;have k0:=h0;have a2:=h1;have a5:=h2;have a1:=h6;have b6:=h8;have HB:=h9;clear g3 g4 g5 h0 h1 h2 h6 h8 h9;(try clear hb);(try clear hb2);(try clear hk);(try clear hi)));go_meet
     case rel=>exact ⟨_,(true),(by first|rfl|(simp;done)|(simp [*];done)),H',⟨by first|omega|exact Nat.le_refl _⟩,⟨by (with_reducible repeat (first|apply Kd.N_alloc|apply Kd.N_drewN|apply Kd.N_drew));exact Kd.N_mono h4.out (fun _ hk=>⟨hk.1.1.1,⟨hk.1.1.2.1,⟨hk.1.2,⟨hk.1.1.2.2.1,⟨hk.1.1.2.2.2.1,⟨hk.1.1.2.2.2.2,hk.2⟩⟩⟩⟩⟩⟩)⟩,⟨by (with_reducible repeat (first|apply Kd.N_alloc|apply Kd.N_drewN|apply Kd.N_drew));exact Kd.N_mono h5.out (fun _ hk=>⟨hk.1.1.1,⟨hk.1.1.2.1,⟨hk.1.2,⟨hk.1.1.2.2.1,⟨hk.1.1.2.2.2.1,⟨hk.1.1.2.2.2.2,hk.2⟩⟩⟩⟩⟩⟩)⟩,⟨by (with_reducible repeat (first|apply Kd.N_alloc|apply Kd.N_drewN|apply Kd.N_drew));exact Kd.N_mono j3.out (fun _ hk=>⟨hk.1.1.1,⟨hk.1.1.2.1,⟨hk.1.2,⟨hk.1.1.2.2.1,⟨hk.1.1.2.2.2.1,⟨hk.1.1.2.2.2.2,hk.2⟩⟩⟩⟩⟩⟩)⟩,⟨by (with_reducible repeat (first|apply Kd.N_alloc|apply Kd.N_drewN|apply Kd.N_drew));exact Kd.N_mono k0.out (fun _ hk=>⟨hk.1.1,⟨hk.1.2.1,⟨hk.1.2.2.1,⟨hk.1.2.2.2,hk.2⟩⟩⟩⟩)⟩,⟨zzE a2.out⟩,⟨zzE a5.out⟩,⟨zzE a1.out⟩,⟨zzE b6.out⟩,⟨zzh3⟩⟩
  case rest=>
   clear C3;try clear c1
   try clear c2
   try clear C1
   try clear C2
   try clear p2
   try clear c3
   try clear c4
   try clear c5
   try clear c6
   try clear c7
   try clear O0
   try clear O1
   try clear O2
   try clear O3
   try clear O4
   try clear O5
   try clear k9
   try clear l3
   try clear m8
   try clear m9
   try clear m4
   try clear O6
   try clear O7
   try clear O8
   try clear O9
   try clear P0
   try clear P1
   try clear P2
   try clear P3
   try clear P4
   try clear P5
   try clear n5
   try clear n6
   try clear n7
   try clear n8
   try clear n9
   try clear o0
   try clear o7
   try clear o8
   try clear o9
   try clear p1
   try clear p3
   try clear p4
   try clear q1
   try clear q2
   try clear q3
   try clear q4
   try clear q5
   try clear q6
   try clear r3
   try clear r4
   try clear r5
   try clear r6
   try clear r7
   try clear r8
   try clear s5
   try clear s6
   try clear s7
   try clear s8
   try clear s9
   try clear t0
   try clear t7
   try clear t8
   try clear t9
   try clear v0
   try clear v1
   try clear v2
   try clear v9
   try clear w2
   try clear w3
   try clear w4
   try clear w5
   try clear w6
   try clear x6
   try clear x7
   try clear x8
   try clear x9
   try clear y0
   try clear y1
   try clear y8
   try clear y9
   try clear z0
   try clear z1
   try clear z2
   try clear z3
   try clear A1
   try clear A2
   try clear A6
   try clear A7
   try clear A8
   try clear A9
   try clear o1
   try clear o2
   try clear o3
   try clear o4
   try clear o5
   try clear o6
   try clear p5
   try clear p6
   try clear p7
   try clear p8
   try clear p9
   try clear q0
   try clear q7
   try clear q8
   try clear q9
   try clear r0
   try clear r1
   try clear r2
   try clear r9
   try clear s0
   try clear s1
   try clear s2
   try clear s3
   try clear s4
   try clear t1
   try clear t2
   try clear t3
   try clear t4
   try clear t5
   try clear t6
   try clear v3
   try clear v4
   try clear v5
   try clear v6
   try clear v7
   try clear v8
   try clear x0
   try clear x1
   try clear x2
   try clear x3
   try clear x4
   try clear x5
   try clear y2
   try clear y3
   try clear y4
   try clear y5
   try clear y6
   try clear y7
   try clear z4
   try clear z5
   try clear z6
   try clear z7
   try clear z8
   try clear z9
   try clear B0
   try clear B1
   try clear B2
   try clear B7
   try clear B9
   try clear C0
   obtain ⟨kq,l9,rfl,HA,HJ5,b1,b0,a7,a8,a2,a5,a1,b6,HB⟩:=hcut;cases kq with
   | zero=>exact absurd HA.out (by simp [laws_FnJoin.j0])
   | succ l8=>
    have H:=HA.out;clear HA;simp only [laws_FnJoin.j0] at H;by_cases n0:l9=true
    ·
     subst n0;replace H:=zzIt H;by_cases l1:(j6==j9)=true
     ·
      rw [if_pos l1] at H;have C8:(j6==j9)=true:=l1
      (try (have C9:decide (j6=j9)=true:=by simpa using l1))
      (try (have D0:(j6==j9)=true:=by simpa using l1));clear l1;obtain ⟨E4,H6,H⟩:=zzG H;obtain rfl:=Option.some.inj H;have M0:=k3.out;have M1:=j7.out;have M2:=k4.out;have M3:=j8.out;have M4:=g8.out;have M5:=k7.out;obtain ⟨E8,E9,F0,F1,F2,F3,F4,F5,F6,F7,F8,F9⟩:=zzc6 a1.out;have M6:=k5.out;have M7:=g6.out;have M8:=k6.out;have M9:=g7.out;obtain ⟨G0,G1,G2,G3,G4,G5,G6,G7,G8,G9,H0,H1⟩:=zzc6 b6.out;go_wp2_with (first|(go_at_call 8;(with_reducible refine (Qt.calls l8 c9 e4 e5 e9 g2 _ _ b2 e1 g0 g9 h3 h7 _ _ c8 E4 _ ?side1 ?side2 ?side3 ?side4 H6.out).mono ?_);(case side1=>repeat (first|exact (Kd.N_reads' a7.out).2.2|(with_reducible refine Kd.C_alloc ?_ _)|(with_reducible refine Kd.C_drewN ?_ _)|(with_reducible refine Kd.C_drew ?_)));(case side2=>exact (Kd.N_reads' a7.out).2.1);(case side3=>repeat (first|exact (Kd.N_reads' a8.out).2.2|(with_reducible refine Kd.C_alloc ?_ _)|(with_reducible refine Kd.C_drewN ?_ _)|(with_reducible refine Kd.C_drew ?_)));(case side4=>exact (Kd.N_reads' a8.out).2.1);rintro e P6 ⟨rfl,hb⟩;have g3:=zzm (Kd.N_below (zzN b1.out) hb);have g4:=zzm (Kd.N_below (zzN b0.out) hb);have g5:=zzm (Kd.N_below (zzN a7.out) hb);have h0:=zzm (Kd.N_below (zzN a8.out) hb);have h1:=zzm (zzh (g:=a3) (o:=.cells #[.bool b9,.bool d3,.int .i64 d5,.int .i64 d8,.int .i64 e3,.slice e6 b5.length e2] 25 (0,0)) (zzE a2.out) hb);have h2:=zzm (zzh (g:=a4) (o:=.cells #[.bool d1,.bool d4,.int .i64 d6,.int .i64 e0,.int .i64 e8,.slice d9 b4.length d7] 25 (0,0)) (zzE a5.out) hb);have h6:=zzm (zzh (g:=a6) (o:=.cells #[.bool c9,.bool e4,.int .i64 e5,.int .i64 e9,.int .i64 g2,.slice d2 b2.length d0] 25 (0,0)) (zzE a1.out) hb);have h8:=zzm (zzh (g:=a0) (o:=.cells #[.bool e1,.bool g0,.int .i64 g9,.int .i64 h3,.int .i64 h7,.slice g1 c8.length e7] 25 (0,0)) (zzE b6.out) hb);have h9:=zzm (zzp zzh2 hb);clear b1 b0 a7 a8 a2 a5 a1 b6 HB;have b1:=g3;have b0:=g4;have a7:=g5;have a8:=h0;have a2:=h1;have a5:=h2;have a1:=h6;have b6:=h8;have HB:=h9;clear g3 g4 g5 h0 h1 h2 h6 h8 h9;(try clear hb);(try clear hb2);(try clear hk);(try clear hi)));go_ret;exact ⟨zzR,zzh3⟩
     ·
      rw [if_neg l1] at H;have C8:(j6==j9)=false:=by simpa using l1
      (try (have C9:decide (j6=j9)=false:=by simpa using l1))
      (try (have D0:(j6==j9)=false:=by simpa using l1))
      (try (have N0:¬ (j6=j9):=by simpa using l1));clear l1;obtain rfl:=Option.some.inj H;go_wp2;go_ret;exact ⟨zzR,zzh3⟩
    ·
     replace n0:=Bool.eq_false_iff.mpr n0;subst n0;replace H:=zzIf H;obtain ⟨E5,n1,H⟩:=zzG H;by_cases n2:E5=true
     ·
      subst n2;replace H:=zzIt H;by_cases m5:e5=255
      ·
       rw [if_pos m5] at H;obtain ⟨D1,D2⟩:=zzQ m5;clear m5;by_cases l2:(c9==b9)=true
       ·
        rw [if_pos l2] at H;have D3:(c9==b9)=true:=l2
        (try (have D4:decide (c9=b9)=true:=by simpa using l2))
        (try (have D5:(c9==b9)=true:=by simpa using l2));clear l2;obtain ⟨y460,hy460⟩:∃ y_:List (S40),y_=(([]:List (S40))):=⟨_,rfl⟩;replace H:(if y460.length+b5.length < 1759218604441 then ((some (y460++b5:List (S40))).bind fun y463=>(if y463.length+b4.length < 1759218604441 then ((Qi.f l8 b2 (y463++b4)).bind fun l7=>(some l7)) else (none))) else (none))=some r:=by first|(rw [hy460];with_reducible exact H)|(have H2_:=(Option.bind_some _ _).symm.trans H;rw [hy460];with_reducible exact H2_)|(have H2_:=(Option.bind_some _ _).symm.trans H;with_reducible exact H2_)|with_reducible exact H|(rw [hy460];exact H)|exact H
        have Ny460:=zzm hy460;clear hy460;by_cases n3:y460.length+b5.length < 1759218604441
        ·
         rw [if_pos n3] at H;have LMc65:=zzm n3;clear n3;obtain ⟨y463,hy463⟩:∃ y_:List (S40),y_=(y460++b5):=⟨_,rfl⟩;replace H:(if y463.length+b4.length < 1759218604441 then ((Qi.f l8 b2 (y463++b4)).bind fun l7=>(some l7)) else (none))=some r:=by first|(rw [hy463];with_reducible exact H)|(have H2_:=(Option.bind_some _ _).symm.trans H;rw [hy463];with_reducible exact H2_)|(have H2_:=(Option.bind_some _ _).symm.trans H;with_reducible exact H2_)|with_reducible exact H|(rw [hy463];exact H)|exact H
         have Ny463:=zzm hy463;clear hy463;by_cases n4:y463.length+b4.length < 1759218604441
         ·
          rw [if_pos n4] at H;have LMc66:=zzm n4;clear n4;obtain ⟨y466,hy466⟩:∃ y_:List (S40),y_=(y463++b4):=⟨_,rfl⟩;replace H:((Qi.f l8 b2 y466).bind fun l7=>(some l7))=some r:=by first|(rw [hy466];with_reducible exact H)|(have H2_:=(Option.bind_some _ _).symm.trans H;rw [hy466];with_reducible exact H2_)|(have H2_:=(Option.bind_some _ _).symm.trans H;with_reducible exact H2_)|with_reducible exact H|(rw [hy466];exact H)|exact H
          have Ny466:=zzm hy466;clear hy466;obtain ⟨l7,H7,H⟩:=zzG H;obtain rfl:=Option.some.inj H;try go_wp2
          have g3:=zzm (Kd.N_drew b1.out);have g4:=zzm (Kd.N_drew b0.out);have g5:=zzm (Kd.N_drew a7.out);have h0:=zzm (Kd.N_drew a8.out);have h1:=zzm (zzg a2.out);have h2:=zzm (zzg a5.out);have h6:=zzm (zzg a1.out);have h8:=zzm (zzg b6.out);have h9:=zzm (zzc HB.out);clear b1 b0 a7 a8 a2 a5 a1 b6 HB;have b1:=g3;have b0:=g4;have a7:=g5;have a8:=h0;have a2:=h1;have a5:=h2;have a1:=h6;have b6:=h8;have HB:=h9;clear g3 g4 g5 h0 h1 h2 h6 h8 h9;refine start_ (n:=27) (S:=fun w'=>w'.cell? ⟨a6,0,none⟩=some (.bool c9)∧w'.cell? ⟨a6,1,none⟩=some (.bool e4)∧w'.cell? ⟨a6,2,none⟩=some (.int .i64 e5)∧w'.cell? ⟨a6,3,none⟩=some (.int .i64 e9)∧w'.cell? ⟨a6,4,none⟩=some (.int .i64 g2)∧w'.cell? ⟨a6,5,none⟩=some (.slice d2 b2.length d0)∧w'.cell? ⟨a3,0,none⟩=some (.bool b9)∧w'.cell? ⟨a3,1,none⟩=some (.bool d3)∧w'.cell? ⟨a3,2,none⟩=some (.int .i64 d5)∧w'.cell? ⟨a3,3,none⟩=some (.int .i64 d8)∧w'.cell? ⟨a3,4,none⟩=some (.int .i64 e3)∧w'.cell? ⟨a3,5,none⟩=some (.slice e6 b5.length e2)∧w'.cell? ⟨a4,0,none⟩=some (.bool d1)∧w'.cell? ⟨a4,1,none⟩=some (.bool d4)∧w'.cell? ⟨a4,2,none⟩=some (.int .i64 d6)∧w'.cell? ⟨a4,3,none⟩=some (.int .i64 e0)∧w'.cell? ⟨a4,4,none⟩=some (.int .i64 e8)∧w'.cell? ⟨a4,5,none⟩=some (.slice d9 b4.length d7)) (ds:=[]) (zzB 27 0) (by kernel_rfl) rfl rfl ⟨(zzk a1.out 0).trans rfl,(zzk a1.out 1).trans rfl,(zzk a1.out 2).trans rfl,(zzk a1.out 3).trans rfl,(zzk a1.out 4).trans rfl,(zzk a1.out 5).trans rfl,(zzk a2.out 0).trans rfl,(zzk a2.out 1).trans rfl,(zzk a2.out 2).trans rfl,(zzk a2.out 3).trans rfl,(zzk a2.out 4).trans rfl,(zzk a2.out 5).trans rfl,(zzk a5.out 0).trans rfl,(zzk a5.out 1).trans rfl,(zzk a5.out 2).trans rfl,(zzk a5.out 3).trans rfl,(zzk a5.out 4).trans rfl,(zzk a5.out 5).trans rfl⟩ (fun j2=>?_);refine with_tabW laws_FnJoin.tab8 laws_FnJoin.bits8 (fun b3 k2=>?_);generalize wc.drew=P7 at b1 b0 a7 a8 a2 a5 a1 b6 HB j2 ⊢;refine zzT 0 50 27 1 b3 k2 j2 ?_
          refine one_ (i:=1) (N:=some 51) (zzB 27 3) rfl rfl (one_of b3.out (by kernel_rfl)) (by decide) (fun K hK=>?_);refine goes_ Tryd.func9 (by kernel_rfl) rfl #[.agg #[.bool c9,.bool e4,.int .i64 e5,.int .i64 e9,.int .i64 g2,.slice d2 b2.length d0]] (by rfl) rfl rfl zzM2 ?_;with_reducible refine (Qd.calls l8 c9 e4 e5 e9 g2 _ _ b2 true _ ?side1 ?side2 n1.out).mono ?_
          (case side1=>repeat (first|exact (Kd.N_reads' a7.out).2.2|(with_reducible refine Kd.C_alloc ?_ _)|(with_reducible refine Kd.C_drewN ?_ _)|(with_reducible refine Kd.C_drew ?_)))
          (case side2=>exact (Kd.N_reads' a7.out).2.1);rintro e H8 ⟨rfl,hb⟩;refine ⟨_,rfl,?_⟩;have g3:=zzm (Kd.N_below (zzN b1.out) hb);have g4:=zzm (Kd.N_below (zzN b0.out) hb);have g5:=zzm (Kd.N_below (zzN a7.out) hb);have h0:=zzm (Kd.N_below (zzN a8.out) hb);have h1:=zzm (zzh (g:=a3) (o:=.cells #[.bool b9,.bool d3,.int .i64 d5,.int .i64 d8,.int .i64 e3,.slice e6 b5.length e2] 25 (0,0)) (zzE a2.out) hb);have h2:=zzm (zzh (g:=a4) (o:=.cells #[.bool d1,.bool d4,.int .i64 d6,.int .i64 e0,.int .i64 e8,.slice d9 b4.length d7] 25 (0,0)) (zzE a5.out) hb);have h6:=zzm (zzh (g:=a6) (o:=.cells #[.bool c9,.bool e4,.int .i64 e5,.int .i64 e9,.int .i64 g2,.slice d2 b2.length d0] 25 (0,0)) (zzE a1.out) hb);have h8:=zzm (zzh (g:=a0) (o:=.cells #[.bool e1,.bool g0,.int .i64 g9,.int .i64 h3,.int .i64 h7,.slice g1 c8.length e7] 25 (0,0)) (zzE b6.out) hb);have h9:=zzm (zzp zzh2 hb);clear b1 b0 a7 a8 a2 a5 a1 b6 HB;have b1:=g3;have b0:=g4;have a7:=g5;have a8:=h0;have a2:=h1;have a5:=h2;have a1:=h6;have b6:=h8;have HB:=h9;clear g3 g4 g5 h0 h1 h2 h6 h8 h9
          (try clear hb)
          (try clear hb2)
          (try clear hk)
          (try clear hi);refine hK.out _ _ ⟨(zzk a1.out 0).trans rfl,(zzk a1.out 1).trans rfl,(zzk a1.out 2).trans rfl,(zzk a1.out 3).trans rfl,(zzk a1.out 4).trans rfl,(zzk a1.out 5).trans rfl,(zzk a2.out 0).trans rfl,(zzk a2.out 1).trans rfl,(zzk a2.out 2).trans rfl,(zzk a2.out 3).trans rfl,(zzk a2.out 4).trans rfl,(zzk a2.out 5).trans rfl,(zzk a5.out 0).trans rfl,(zzk a5.out 1).trans rfl,(zzk a5.out 2).trans rfl,(zzk a5.out 3).trans rfl,(zzk a5.out 4).trans rfl,(zzk a5.out 5).trans rfl⟩ (fun j2=>?_);clear hK K;refine zzO 51 ?_
          refine zzP 2 52 27 7 b3 ?_
          refine zzP 3 53 27 15 b3 ?_
          refine zzT 4 54 27 31 b3 k2 j2 ?_
          refine zzP 5 55 27 63 b3 ?_
          refine zzP 6 56 27 127 b3 ?_
          refine zzP 7 57 27 255 b3 ?_
          refine zzP 8 58 27 511 b3 ?_
          refine zzP 10 60 27 1535 b3 ?_
          refine zzT 9 59 27 2047 b3 k2 j2 ?_
          refine zzT 11 61 27 4095 b3 k2 j2 ?_
          refine zzP 12 62 27 8191 b3 ?_
          refine zzP 13 63 27 16383 b3 ?_
          refine zzP 14 64 27 32767 b3 ?_
          refine zzP 15 65 27 65535 b3 ?_
          refine zzP 18 68 27 327679 b3 ?_
          refine zzP 21 71 27 2424831 b3 ?_
          refine zzT 16 66 27 2490367 b3 k2 j2 ?_
          refine zzT 19 69 27 3014655 b3 k2 j2 ?_
          refine zzT 22 72 27 7208959 b3 k2 j2 ?_
          refine one_ (i:=17) (N:=some 67) (zzB 27 7340031) rfl rfl (one_of b3.out (by kernel_rfl)) (by decide) (fun K hK=>?_);refine Kd.N_lit_step k40 _ 40 ?hg (N':=67) ?hd (xs:=([]:List (S40))) (inner:=[]) (ok:=(fun k_=>some k_≠(.slice e6 b5.length e2:Value).ownBlock∧some k_≠(.slice d9 b4.length d7:Value).ownBlock∧some k_≠(.slice d2 b2.length d0:Value).ownBlock∧some k_≠(.slice g1 c8.length e7:Value).ownBlock∧k_≠a3∧k_≠a4∧k_≠a6∧k_≠a0)) (okp:=(fun k_=>some k_≠(.slice e6 b5.length e2:Value).ownBlock∧some k_≠(.slice d9 b4.length d7:Value).ownBlock∧some k_≠(.slice d2 b2.length d0:Value).ownBlock∧some k_≠(.slice g1 c8.length e7:Value).ownBlock∧k_≠a3∧k_≠a4∧k_≠a6∧k_≠a0)) ?hr ?hp (fun _ hk=>hk) ((show ∀ k_,H8.heap.size≤k_→(fun k_=>some k_≠(.slice e6 b5.length e2:Value).ownBlock∧some k_≠(.slice d9 b4.length d7:Value).ownBlock∧some k_≠(.slice d2 b2.length d0:Value).ownBlock∧some k_≠(.slice g1 c8.length e7:Value).ownBlock∧k_≠a3∧k_≠a4∧k_≠a6∧k_≠a0) k_ from fun k_ hk=>⟨Kd.fresh' (Kd.N_lt (zzN b1.out)) k_ hk,Kd.fresh' (Kd.N_lt (zzN b0.out)) k_ hk,Kd.fresh' (Kd.N_lt (zzN a7.out)) k_ hk,Kd.fresh' (Kd.N_lt (zzN a8.out)) k_ hk,Kd.freshB (g:=a3) (o:=.cells #[.bool b9,.bool d3,.int .i64 d5,.int .i64 d8,.int .i64 e3,.slice e6 b5.length e2] 25 (0,0)) (zzE a2.out) k_ hk,Kd.freshB (g:=a4) (o:=.cells #[.bool d1,.bool d4,.int .i64 d6,.int .i64 e0,.int .i64 e8,.slice d9 b4.length d7] 25 (0,0)) (zzE a5.out) k_ hk,Kd.freshB (g:=a6) (o:=.cells #[.bool c9,.bool e4,.int .i64 e5,.int .i64 e9,.int .i64 g2,.slice d2 b2.length d0] 25 (0,0)) (zzE a1.out) k_ hk,Kd.freshB (g:=a0) (o:=.cells #[.bool e1,.bool g0,.int .i64 g9,.int .i64 h3,.int .i64 h7,.slice g1 c8.length e7] 25 (0,0)) (zzE b6.out) k_ hk⟩) _ (Nat.le_refl _)) (Below.refl _ _) (Nat.le_refl _) (by simp) ?_;(case hd=>rfl);(case hg=>rfl);(case hr=>first|(go_simp;done)|(go_simp;rfl));(case hp=>exact (Reps.none _ _));intro m6 P8 ho71 hb hg_ hnew_;clear hg_ hnew_
          (first|rw [← Ny460.out] at ho71|(simp only [Int.reduceToNat] at ho71;rw [← Ny460.out] at ho71));have g3:=zzm (Kd.N_elder' (zzN b1.out) (by first|exact Kd.N_base ho71|exact Kd.S_base ho71|exact Kd.R_base ho71) hb);have g4:=zzm (Kd.N_elder' (zzN b0.out) (by first|exact Kd.N_base ho71|exact Kd.S_base ho71|exact Kd.R_base ho71) hb);have g5:=zzm (Kd.N_elder' (zzN a7.out) (by first|exact Kd.N_base ho71|exact Kd.S_base ho71|exact Kd.R_base ho71) hb);have h0:=zzm (Kd.N_elder' (zzN a8.out) (by first|exact Kd.N_base ho71|exact Kd.S_base ho71|exact Kd.R_base ho71) hb);have h1:=zzm (Kd.N_lower ho71 (zzo zzh2));have h2:=zzm (zzh (g:=a3) (o:=.cells #[.bool b9,.bool d3,.int .i64 d5,.int .i64 d8,.int .i64 e3,.slice e6 b5.length e2] 25 (0,0)) (zzE a2.out) hb);have h6:=zzm (zzh (g:=a4) (o:=.cells #[.bool d1,.bool d4,.int .i64 d6,.int .i64 e0,.int .i64 e8,.slice d9 b4.length d7] 25 (0,0)) (zzE a5.out) hb);have h8:=zzm (zzh (g:=a6) (o:=.cells #[.bool c9,.bool e4,.int .i64 e5,.int .i64 e9,.int .i64 g2,.slice d2 b2.length d0] 25 (0,0)) (zzE a1.out) hb);have h9:=zzm (zzh (g:=a0) (o:=.cells #[.bool e1,.bool g0,.int .i64 g9,.int .i64 h3,.int .i64 h7,.slice g1 c8.length e7] 25 (0,0)) (zzE b6.out) hb);have k1:=zzm (zzp zzh2 hb);clear b1 b0 a7 a8 a2 a5 a1 b6 HB;have b1:=g3;have b0:=g4;have a7:=g5;have a8:=h0;have l4:=h1;have a2:=h2;have a5:=h6;have a1:=h8;have b6:=h9;have HB:=k1;clear g3 g4 g5 h0 h1 h2 h6 h8 h9 k1;clear hb ho71;refine hK.out _ _ ⟨(zzk a1.out 0).trans rfl,(zzk a1.out 1).trans rfl,(zzk a1.out 2).trans rfl,(zzk a1.out 3).trans rfl,(zzk a1.out 4).trans rfl,(zzk a1.out 5).trans rfl,(zzk a2.out 0).trans rfl,(zzk a2.out 1).trans rfl,(zzk a2.out 2).trans rfl,(zzk a2.out 3).trans rfl,(zzk a2.out 4).trans rfl,(zzk a2.out 5).trans rfl,(zzk a5.out 0).trans rfl,(zzk a5.out 1).trans rfl,(zzk a5.out 2).trans rfl,(zzk a5.out 3).trans rfl,(zzk a5.out 4).trans rfl,(zzk a5.out 5).trans rfl⟩ (fun j2=>?_);clear hK K;refine zzO 67 ?_
          refine one_ (i:=20) (N:=some 70) (zzB 27 8388607) rfl rfl (one_of b3.out (by kernel_rfl)) (by decide) (fun K hK=>?_);refine Kd.N_append_rows_step k40 (w0:=w) w.heap.size (by rfl) (.tmp 67) (.tmp 69) 23 40 (.agg #[(.int .i64 0),(.int .i64 0),(.bool false),(.slice none 0 0),(.bool false),(.slice none 0 0)]) 80 rfl Tryd.underlying23 info40 rfl (by decide) (by omega) m6 y460 b5 _ _ _ (fun k_=>some k_≠(.slice d9 b4.length d7:Value).ownBlock∧some k_≠(.slice d2 b2.length d0:Value).ownBlock∧some k_≠(.slice g1 c8.length e7:Value).ownBlock∧k_≠a3∧k_≠a4∧k_≠a6∧k_≠a0) (fun k_=>((fun k_=>some k_≠(.slice d9 b4.length d7:Value).ownBlock∧some k_≠(.slice d2 b2.length d0:Value).ownBlock∧some k_≠(.slice g1 c8.length e7:Value).ownBlock∧k_≠a3∧k_≠a4∧k_≠a6∧k_≠a0)) k_∧some k_≠(m6:Value).ownBlock) rfl rfl ?aO ?aR (fun _ hk=>hk) ?aF ?aB ?aS ?aL ?_
          (case aR=>exact (by skip;exact Kd.N_F (Kd.N_mono (ok':=(fun k_=>((fun k_=>some k_≠(.slice d9 b4.length d7:Value).ownBlock∧some k_≠(.slice d2 b2.length d0:Value).ownBlock∧some k_≠(.slice g1 c8.length e7:Value).ownBlock∧k_≠a3∧k_≠a4∧k_≠a6∧k_≠a0)) k_∧some k_≠(m6:Value).ownBlock)) (b1.out) (fun k_ hk=>⟨⟨hk.1.1,⟨hk.1.2.1,⟨hk.1.2.2.1,⟨hk.1.2.2.2.1,⟨hk.1.2.2.2.2.1,⟨hk.1.2.2.2.2.2.1,hk.1.2.2.2.2.2.2⟩⟩⟩⟩⟩⟩,hk.2⟩))))
          (case aB=>exact zzh2)
          (case aF=>exact (fun k_ hk=>⟨Kd.fresh' (Kd.N_lt (zzN b0.out)) k_ hk,Kd.fresh' (Kd.N_lt (zzN a7.out)) k_ hk,Kd.fresh' (Kd.N_lt (zzN a8.out)) k_ hk,Kd.freshB (g:=a3) (o:=.cells #[.bool b9,.bool d3,.int .i64 d5,.int .i64 d8,.int .i64 e3,.slice e6 b5.length e2] 25 (0,0)) (zzE a2.out) k_ hk,Kd.freshB (g:=a4) (o:=.cells #[.bool d1,.bool d4,.int .i64 d6,.int .i64 e0,.int .i64 e8,.slice d9 b4.length d7] 25 (0,0)) (zzE a5.out) k_ hk,Kd.freshB (g:=a6) (o:=.cells #[.bool c9,.bool e4,.int .i64 e5,.int .i64 e9,.int .i64 g2,.slice d2 b2.length d0] 25 (0,0)) (zzE a1.out) k_ hk,Kd.freshB (g:=a0) (o:=.cells #[.bool e1,.bool g0,.int .i64 g9,.int .i64 h3,.int .i64 h7,.slice g1 c8.length e7] 25 (0,0)) (zzE b6.out) k_ hk⟩))
          (case aO=>exact (zzN (Kd.N_mono l4.out (fun _ hk=>⟨hk.2.1,⟨hk.2.2.1,⟨hk.2.2.2.1,⟨hk.2.2.2.2.1,⟨hk.2.2.2.2.2.1,⟨hk.2.2.2.2.2.2.1,hk.2.2.2.2.2.2.2⟩⟩⟩⟩⟩⟩))))
          (case aS=>exact (zzo zzh2))
          (case aL=>have:=LMc65.out;omega);intro m7 P9 ho hb hg hat;rw [← Ny463.out] at ho;have g3:=zzm (Kd.N_afterv (ok:=(fun k_=>some k_≠(.slice d9 b4.length d7:Value).ownBlock∧some k_≠(.slice d2 b2.length d0:Value).ownBlock∧some k_≠(.slice g1 c8.length e7:Value).ownBlock∧k_≠a3∧k_≠a4∧k_≠a6∧k_≠a0)) (zzN b1.out) hg hat);have g4:=zzm (Kd.N_afterv (ok:=(fun k_=>some k_≠(.slice e6 b5.length e2:Value).ownBlock∧some k_≠(.slice d2 b2.length d0:Value).ownBlock∧some k_≠(.slice g1 c8.length e7:Value).ownBlock∧k_≠a3∧k_≠a4∧k_≠a6∧k_≠a0)) (zzN b0.out) hg hat);have g5:=zzm (Kd.N_afterv (ok:=(fun k_=>some k_≠(.slice e6 b5.length e2:Value).ownBlock∧some k_≠(.slice d9 b4.length d7:Value).ownBlock∧some k_≠(.slice g1 c8.length e7:Value).ownBlock∧k_≠a3∧k_≠a4∧k_≠a6∧k_≠a0)) (zzN a7.out) hg hat);have h0:=zzm (Kd.N_afterv (ok:=(fun k_=>some k_≠(.slice d2 b2.length d0:Value).ownBlock∧k_≠a3∧k_≠a4∧k_≠a6∧k_≠a0)) (zzN a8.out) hg hat);have h1:=zzm (blk_grown (g:=a3) (o:=.cells #[.bool b9,.bool d3,.int .i64 d5,.int .i64 d8,.int .i64 e3,.slice e6 b5.length e2] 25 (0,0)) (zzE a2.out) hg (Kd.N_ne l4.out a2.out (by decide)));have h2:=zzm (blk_grown (g:=a4) (o:=.cells #[.bool d1,.bool d4,.int .i64 d6,.int .i64 e0,.int .i64 e8,.slice d9 b4.length d7] 25 (0,0)) (zzE a5.out) hg (Kd.N_ne l4.out a5.out (by decide)));have h6:=zzm (blk_grown (g:=a6) (o:=.cells #[.bool c9,.bool e4,.int .i64 e5,.int .i64 e9,.int .i64 g2,.slice d2 b2.length d0] 25 (0,0)) (zzE a1.out) hg (Kd.N_ne l4.out a1.out (by decide)));have h8:=zzm (blk_grown (g:=a0) (o:=.cells #[.bool e1,.bool g0,.int .i64 g9,.int .i64 h3,.int .i64 h7,.slice g1 c8.length e7] 25 (0,0)) (zzE b6.out) hg (Kd.N_ne l4.out b6.out (by decide)));have h9:=zzm (hb);have k1:=zzm (ho);clear b1 b0 a7 a8 a2 a5 a1 b6 HB l4;have b1:=g3;have b0:=g4;have a7:=g5;have a8:=h0;have a2:=h1;have a5:=h2;have a1:=h6;have b6:=h8;have HB:=h9;have l5:=k1;clear g3 g4 g5 h0 h1 h2 h6 h8 h9 k1;clear ho hb hg hat;refine hK.out _ _ ⟨(zzk a1.out 0).trans rfl,(zzk a1.out 1).trans rfl,(zzk a1.out 2).trans rfl,(zzk a1.out 3).trans rfl,(zzk a1.out 4).trans rfl,(zzk a1.out 5).trans rfl,(zzk a2.out 0).trans rfl,(zzk a2.out 1).trans rfl,(zzk a2.out 2).trans rfl,(zzk a2.out 3).trans rfl,(zzk a2.out 4).trans rfl,(zzk a2.out 5).trans rfl,(zzk a5.out 0).trans rfl,(zzk a5.out 1).trans rfl,(zzk a5.out 2).trans rfl,(zzk a5.out 3).trans rfl,(zzk a5.out 4).trans rfl,(zzk a5.out 5).trans rfl⟩ (fun j2=>?_);clear hK K;refine zzO 70 ?_
          refine one_ (i:=23) (N:=some 73) (zzB 27 16777215) rfl rfl (one_of b3.out (by kernel_rfl)) (by decide) (fun K hK=>?_);refine Kd.N_append_rows_step k40 (w0:=w) w.heap.size (by rfl) (.tmp 70) (.tmp 72) 23 40 (.agg #[(.int .i64 0),(.int .i64 0),(.bool false),(.slice none 0 0),(.bool false),(.slice none 0 0)]) 80 rfl Tryd.underlying23 info40 rfl (by decide) (by omega) m7 y463 b4 _ _ _ (fun k_=>some k_≠(.slice d2 b2.length d0:Value).ownBlock∧some k_≠(.slice g1 c8.length e7:Value).ownBlock∧k_≠a3∧k_≠a4∧k_≠a6∧k_≠a0) (fun k_=>((fun k_=>some k_≠(.slice d2 b2.length d0:Value).ownBlock∧some k_≠(.slice g1 c8.length e7:Value).ownBlock∧k_≠a3∧k_≠a4∧k_≠a6∧k_≠a0)) k_∧some k_≠(m7:Value).ownBlock) rfl rfl ?aO ?aR (fun _ hk=>hk) ?aF ?aB ?aS ?aL ?_
          (case aR=>exact (by skip;exact Kd.N_F (Kd.N_mono (ok':=(fun k_=>((fun k_=>some k_≠(.slice d2 b2.length d0:Value).ownBlock∧some k_≠(.slice g1 c8.length e7:Value).ownBlock∧k_≠a3∧k_≠a4∧k_≠a6∧k_≠a0)) k_∧some k_≠(m7:Value).ownBlock)) (b0.out) (fun k_ hk=>⟨⟨hk.1.2.1,⟨hk.1.2.2.1,⟨hk.1.2.2.2.1,⟨hk.1.2.2.2.2.1,⟨hk.1.2.2.2.2.2.1,hk.1.2.2.2.2.2.2⟩⟩⟩⟩⟩,hk.2⟩))))
          (case aB=>exact zzh2)
          (case aF=>exact (fun k_ hk=>⟨Kd.fresh' (Kd.N_lt (zzN a7.out)) k_ hk,Kd.fresh' (Kd.N_lt (zzN a8.out)) k_ hk,Kd.freshB (g:=a3) (o:=.cells #[.bool b9,.bool d3,.int .i64 d5,.int .i64 d8,.int .i64 e3,.slice e6 b5.length e2] 25 (0,0)) (zzE a2.out) k_ hk,Kd.freshB (g:=a4) (o:=.cells #[.bool d1,.bool d4,.int .i64 d6,.int .i64 e0,.int .i64 e8,.slice d9 b4.length d7] 25 (0,0)) (zzE a5.out) k_ hk,Kd.freshB (g:=a6) (o:=.cells #[.bool c9,.bool e4,.int .i64 e5,.int .i64 e9,.int .i64 g2,.slice d2 b2.length d0] 25 (0,0)) (zzE a1.out) k_ hk,Kd.freshB (g:=a0) (o:=.cells #[.bool e1,.bool g0,.int .i64 g9,.int .i64 h3,.int .i64 h7,.slice g1 c8.length e7] 25 (0,0)) (zzE b6.out) k_ hk⟩))
          (case aO=>exact (zzN (Kd.N_mono l5.out (fun _ hk=>⟨hk.2.1,⟨hk.2.2.1,⟨hk.2.2.2.1,⟨hk.2.2.2.2.1,⟨hk.2.2.2.2.2.1,hk.2.2.2.2.2.2⟩⟩⟩⟩⟩))))
          (case aS=>exact (zzo zzh2))
          (case aL=>have:=LMc66.out;omega);intro N4 Q0 ho hb hg hat;rw [← Ny466.out] at ho;have g3:=zzm (Kd.N_afterv (ok:=(fun k_=>some k_≠(.slice d9 b4.length d7:Value).ownBlock∧some k_≠(.slice d2 b2.length d0:Value).ownBlock∧some k_≠(.slice g1 c8.length e7:Value).ownBlock∧k_≠a3∧k_≠a4∧k_≠a6∧k_≠a0)) (zzN b1.out) hg hat);have g4:=zzm (Kd.N_afterv (ok:=(fun k_=>some k_≠(.slice e6 b5.length e2:Value).ownBlock∧some k_≠(.slice d2 b2.length d0:Value).ownBlock∧some k_≠(.slice g1 c8.length e7:Value).ownBlock∧k_≠a3∧k_≠a4∧k_≠a6∧k_≠a0)) (zzN b0.out) hg hat);have g5:=zzm (Kd.N_afterv (ok:=(fun k_=>some k_≠(.slice e6 b5.length e2:Value).ownBlock∧some k_≠(.slice d9 b4.length d7:Value).ownBlock∧some k_≠(.slice g1 c8.length e7:Value).ownBlock∧k_≠a3∧k_≠a4∧k_≠a6∧k_≠a0)) (zzN a7.out) hg hat);have h0:=zzm (Kd.N_afterv (ok:=(fun k_=>some k_≠(.slice d2 b2.length d0:Value).ownBlock∧k_≠a3∧k_≠a4∧k_≠a6∧k_≠a0)) (zzN a8.out) hg hat);have h1:=zzm (blk_grown (g:=a3) (o:=.cells #[.bool b9,.bool d3,.int .i64 d5,.int .i64 d8,.int .i64 e3,.slice e6 b5.length e2] 25 (0,0)) (zzE a2.out) hg (Kd.N_ne l5.out a2.out (by decide)));have h2:=zzm (blk_grown (g:=a4) (o:=.cells #[.bool d1,.bool d4,.int .i64 d6,.int .i64 e0,.int .i64 e8,.slice d9 b4.length d7] 25 (0,0)) (zzE a5.out) hg (Kd.N_ne l5.out a5.out (by decide)));have h6:=zzm (blk_grown (g:=a6) (o:=.cells #[.bool c9,.bool e4,.int .i64 e5,.int .i64 e9,.int .i64 g2,.slice d2 b2.length d0] 25 (0,0)) (zzE a1.out) hg (Kd.N_ne l5.out a1.out (by decide)));have h8:=zzm (blk_grown (g:=a0) (o:=.cells #[.bool e1,.bool g0,.int .i64 g9,.int .i64 h3,.int .i64 h7,.slice g1 c8.length e7] 25 (0,0)) (zzE b6.out) hg (Kd.N_ne l5.out b6.out (by decide)));have h9:=zzm (hb);have k1:=zzm (ho);clear b1 b0 a7 a8 a2 a5 a1 b6 HB l5;have b1:=g3;have b0:=g4;have a7:=g5;have a8:=h0;have a2:=h1;have a5:=h2;have a1:=h6;have b6:=h8;have HB:=h9;have l6:=k1;clear g3 g4 g5 h0 h1 h2 h6 h8 h9 k1;clear ho hb hg hat;obtain ⟨E6,E7,eo74⟩:=Kd.N_slice l6.out
          (first|subst eo74|(injection eo74 with f1_ f2_ f3_;have f4_:=f1_.symm;have f5_:=f3_.symm;clear f1_ f2_ f3_;subst f4_;subst f5_));refine hK.out _ _ ⟨(zzk a1.out 0).trans rfl,(zzk a1.out 1).trans rfl,(zzk a1.out 2).trans rfl,(zzk a1.out 3).trans rfl,(zzk a1.out 4).trans rfl,(zzk a1.out 5).trans rfl,(zzk a2.out 0).trans rfl,(zzk a2.out 1).trans rfl,(zzk a2.out 2).trans rfl,(zzk a2.out 3).trans rfl,(zzk a2.out 4).trans rfl,(zzk a2.out 5).trans rfl,(zzk a5.out 0).trans rfl,(zzk a5.out 1).trans rfl,(zzk a5.out 2).trans rfl,(zzk a5.out 3).trans rfl,(zzk a5.out 4).trans rfl,(zzk a5.out 5).trans rfl⟩ (fun j2=>?_);clear hK K;refine zzO 73 ?_
          refine one_ (i:=24) (N:=some 74) (zzB 27 33554431) rfl rfl (one_of b3.out (by kernel_rfl)) (by decide) (fun K hK=>?_);refine goes_ Tryd.func10 (by kernel_rfl) rfl #[.slice d2 b2.length d0,.slice E6 y466.length E7] (by rfl) rfl rfl zzM2 ?_;with_reducible refine (Qi.calls l8 _ _ b2 _ _ y466 l7 _ ?side1 ?side2 ?side3 ?side4 H7.out).mono ?_
          (case side1=>repeat (first|exact (Kd.N_reads' a7.out).2.2|(with_reducible refine Kd.C_alloc ?_ _)|(with_reducible refine Kd.C_drewN ?_ _)|(with_reducible refine Kd.C_drew ?_)))
          (case side2=>exact (Kd.N_reads' a7.out).2.1)
          (case side3=>repeat (first|exact (Kd.N_reads' l6.out).2.2|(with_reducible refine Kd.C_alloc ?_ _)|(with_reducible refine Kd.C_drewN ?_ _)|(with_reducible refine Kd.C_drew ?_)))
          (case side4=>exact (Kd.N_reads' l6.out).2.1);rintro e Q1 ⟨rfl,hb⟩;refine ⟨_,rfl,?_⟩;have g3:=zzm (Kd.N_below (zzN b1.out) hb);have g4:=zzm (Kd.N_below (zzN b0.out) hb);have g5:=zzm (Kd.N_below (zzN a7.out) hb);have h0:=zzm (Kd.N_below (zzN a8.out) hb);have h1:=zzm (Kd.N_below (zzN l6.out) hb);have h2:=zzm (zzh (g:=a3) (o:=.cells #[.bool b9,.bool d3,.int .i64 d5,.int .i64 d8,.int .i64 e3,.slice e6 b5.length e2] 25 (0,0)) (zzE a2.out) hb);have h6:=zzm (zzh (g:=a4) (o:=.cells #[.bool d1,.bool d4,.int .i64 d6,.int .i64 e0,.int .i64 e8,.slice d9 b4.length d7] 25 (0,0)) (zzE a5.out) hb);have h8:=zzm (zzh (g:=a6) (o:=.cells #[.bool c9,.bool e4,.int .i64 e5,.int .i64 e9,.int .i64 g2,.slice d2 b2.length d0] 25 (0,0)) (zzE a1.out) hb);have h9:=zzm (zzh (g:=a0) (o:=.cells #[.bool e1,.bool g0,.int .i64 g9,.int .i64 h3,.int .i64 h7,.slice g1 c8.length e7] 25 (0,0)) (zzE b6.out) hb);have k1:=zzm (zzp zzh2 hb);clear b1 b0 a7 a8 l6 a2 a5 a1 b6 HB;have b1:=g3;have b0:=g4;have a7:=g5;have a8:=h0;have l6:=h1;have a2:=h2;have a5:=h6;have a1:=h8;have b6:=h9;have HB:=k1;clear g3 g4 g5 h0 h1 h2 h6 h8 h9 k1
          (try clear hb)
          (try clear hb2)
          (try clear hk)
          (try clear hi);refine hK.out _ _ ⟨(zzk a1.out 0).trans rfl,(zzk a1.out 1).trans rfl,(zzk a1.out 2).trans rfl,(zzk a1.out 3).trans rfl,(zzk a1.out 4).trans rfl,(zzk a1.out 5).trans rfl,(zzk a2.out 0).trans rfl,(zzk a2.out 1).trans rfl,(zzk a2.out 2).trans rfl,(zzk a2.out 3).trans rfl,(zzk a2.out 4).trans rfl,(zzk a2.out 5).trans rfl,(zzk a5.out 0).trans rfl,(zzk a5.out 1).trans rfl,(zzk a5.out 2).trans rfl,(zzk a5.out 3).trans rfl,(zzk a5.out 4).trans rfl,(zzk a5.out 5).trans rfl⟩ (fun j2=>?_);clear hK K;refine zzO 74 ?_
          refine zzP 25 75 27 67108863 b3 ?_
          refine zzP 26 2 27 134217727 b3 ?_
          refine done_ (done_of b3.out (by kernel_rfl)) ?_;try go_wp2
          go_ret;exact ⟨zzR,zzh3⟩
         ·
          rw [if_neg n4] at H;exact absurd H (by simp)
        ·
         rw [if_neg n3] at H;exact absurd H (by simp)
       ·
        rw [if_neg l2] at H;have D3:(c9==b9)=false:=by simpa using l2
        (try (have D4:decide (c9=b9)=false:=by simpa using l2))
        (try (have D5:(c9==b9)=false:=by simpa using l2))
        (try (have N1:¬ (c9=b9):=by simpa using l2));clear l2;obtain rfl:=Option.some.inj H;try go_wp2
        have g3:=zzm (Kd.N_drew b1.out);have g4:=zzm (Kd.N_drew b0.out);have g5:=zzm (Kd.N_drew a7.out);have h0:=zzm (Kd.N_drew a8.out);have h1:=zzm (zzg a2.out);have h2:=zzm (zzg a5.out);have h6:=zzm (zzg a1.out);have h8:=zzm (zzg b6.out);have h9:=zzm (zzc HB.out);clear b1 b0 a7 a8 a2 a5 a1 b6 HB;have b1:=g3;have b0:=g4;have a7:=g5;have a8:=h0;have a2:=h1;have a5:=h2;have a1:=h6;have b6:=h8;have HB:=h9;clear g3 g4 g5 h0 h1 h2 h6 h8 h9;refine start_ (n:=27) (S:=fun w'=>w'.cell? ⟨a6,0,none⟩=some (.bool c9)∧w'.cell? ⟨a6,1,none⟩=some (.bool e4)∧w'.cell? ⟨a6,2,none⟩=some (.int .i64 e5)∧w'.cell? ⟨a6,3,none⟩=some (.int .i64 e9)∧w'.cell? ⟨a6,4,none⟩=some (.int .i64 g2)∧w'.cell? ⟨a6,5,none⟩=some (.slice d2 b2.length d0)∧w'.cell? ⟨a3,0,none⟩=some (.bool b9)∧w'.cell? ⟨a3,1,none⟩=some (.bool d3)∧w'.cell? ⟨a3,2,none⟩=some (.int .i64 d5)∧w'.cell? ⟨a3,3,none⟩=some (.int .i64 d8)∧w'.cell? ⟨a3,4,none⟩=some (.int .i64 e3)∧w'.cell? ⟨a3,5,none⟩=some (.slice e6 b5.length e2)) (ds:=[]) (zzB 27 0) (by kernel_rfl) rfl rfl ⟨(zzk a1.out 0).trans rfl,(zzk a1.out 1).trans rfl,(zzk a1.out 2).trans rfl,(zzk a1.out 3).trans rfl,(zzk a1.out 4).trans rfl,(zzk a1.out 5).trans rfl,(zzk a2.out 0).trans rfl,(zzk a2.out 1).trans rfl,(zzk a2.out 2).trans rfl,(zzk a2.out 3).trans rfl,(zzk a2.out 4).trans rfl,(zzk a2.out 5).trans rfl⟩ (fun j2=>?_);refine with_tabW laws_FnJoin.tab8 laws_FnJoin.bits8 (fun b3 k2=>?_);generalize wc.drew=Q2 at b1 b0 a7 a8 a2 a5 a1 b6 HB j2 ⊢;refine zzT 0 50 27 1 b3 k2 j2 ?_
        refine one_ (i:=1) (N:=some 51) (zzB 27 3) rfl rfl (one_of b3.out (by kernel_rfl)) (by decide) (fun K hK=>?_);refine goes_ Tryd.func9 (by kernel_rfl) rfl #[.agg #[.bool c9,.bool e4,.int .i64 e5,.int .i64 e9,.int .i64 g2,.slice d2 b2.length d0]] (by rfl) rfl rfl zzM2 ?_;with_reducible refine (Qd.calls l8 c9 e4 e5 e9 g2 _ _ b2 true _ ?side1 ?side2 n1.out).mono ?_
        (case side1=>repeat (first|exact (Kd.N_reads' a7.out).2.2|(with_reducible refine Kd.C_alloc ?_ _)|(with_reducible refine Kd.C_drewN ?_ _)|(with_reducible refine Kd.C_drew ?_)))
        (case side2=>exact (Kd.N_reads' a7.out).2.1);rintro e Q3 ⟨rfl,hb⟩;refine ⟨_,rfl,?_⟩;have g3:=zzm (Kd.N_below (zzN b1.out) hb);have g4:=zzm (Kd.N_below (zzN b0.out) hb);have g5:=zzm (Kd.N_below (zzN a7.out) hb);have h0:=zzm (Kd.N_below (zzN a8.out) hb);have h1:=zzm (zzh (g:=a3) (o:=.cells #[.bool b9,.bool d3,.int .i64 d5,.int .i64 d8,.int .i64 e3,.slice e6 b5.length e2] 25 (0,0)) (zzE a2.out) hb);have h2:=zzm (zzh (g:=a4) (o:=.cells #[.bool d1,.bool d4,.int .i64 d6,.int .i64 e0,.int .i64 e8,.slice d9 b4.length d7] 25 (0,0)) (zzE a5.out) hb);have h6:=zzm (zzh (g:=a6) (o:=.cells #[.bool c9,.bool e4,.int .i64 e5,.int .i64 e9,.int .i64 g2,.slice d2 b2.length d0] 25 (0,0)) (zzE a1.out) hb);have h8:=zzm (zzh (g:=a0) (o:=.cells #[.bool e1,.bool g0,.int .i64 g9,.int .i64 h3,.int .i64 h7,.slice g1 c8.length e7] 25 (0,0)) (zzE b6.out) hb);have h9:=zzm (zzp zzh2 hb);clear b1 b0 a7 a8 a2 a5 a1 b6 HB;have b1:=g3;have b0:=g4;have a7:=g5;have a8:=h0;have a2:=h1;have a5:=h2;have a1:=h6;have b6:=h8;have HB:=h9;clear g3 g4 g5 h0 h1 h2 h6 h8 h9
        (try clear hb)
        (try clear hb2)
        (try clear hk)
        (try clear hi);refine hK.out _ _ ⟨(zzk a1.out 0).trans rfl,(zzk a1.out 1).trans rfl,(zzk a1.out 2).trans rfl,(zzk a1.out 3).trans rfl,(zzk a1.out 4).trans rfl,(zzk a1.out 5).trans rfl,(zzk a2.out 0).trans rfl,(zzk a2.out 1).trans rfl,(zzk a2.out 2).trans rfl,(zzk a2.out 3).trans rfl,(zzk a2.out 4).trans rfl,(zzk a2.out 5).trans rfl⟩ (fun j2=>?_);clear hK K;refine zzO 51 ?_
        refine zzP 2 52 27 7 b3 ?_
        refine zzP 3 53 27 15 b3 ?_
        refine zzT 4 54 27 31 b3 k2 j2 ?_
        refine zzP 5 55 27 63 b3 ?_
        refine zzP 6 56 27 127 b3 ?_
        refine zzP 7 57 27 255 b3 ?_
        refine zzP 8 58 27 511 b3 ?_
        refine zzP 10 60 27 1535 b3 ?_
        refine zzT 9 59 27 2047 b3 k2 j2 ?_
        refine zzT 11 61 27 4095 b3 k2 j2 ?_
        refine zzP 12 62 27 8191 b3 ?_
        refine zzP 13 63 27 16383 b3 ?_
        refine zzP 14 64 27 32767 b3 ?_
        refine zzU 15 65 27 65535 b3 ?_
        refine zzU 16 66 27 131071 b3 ?_
        refine zzU 17 67 27 262143 b3 ?_
        refine zzU 18 68 27 524287 b3 ?_
        refine zzU 19 69 27 1048575 b3 ?_
        refine zzU 20 70 27 2097151 b3 ?_
        refine zzU 21 71 27 4194303 b3 ?_
        refine zzU 22 72 27 8388607 b3 ?_
        refine zzU 23 73 27 16777215 b3 ?_
        refine zzU 24 74 27 33554431 b3 ?_
        refine zzP 25 75 27 67108863 b3 ?_
        refine zzP 26 2 27 134217727 b3 ?_
        refine done_ (done_of b3.out (by kernel_rfl)) ?_;try go_wp2
        go_ret;exact ⟨zzR,zzh3⟩
      ·
       rw [if_neg m5] at H;obtain ⟨D1,D2⟩:=zzY m5;obtain rfl:=Option.some.inj H;try go_wp2
       have g3:=zzm (Kd.N_drew b1.out);have g4:=zzm (Kd.N_drew b0.out);have g5:=zzm (Kd.N_drew a7.out);have h0:=zzm (Kd.N_drew a8.out);have h1:=zzm (zzg a2.out);have h2:=zzm (zzg a5.out);have h6:=zzm (zzg a1.out);have h8:=zzm (zzg b6.out);have h9:=zzm (zzc HB.out);clear b1 b0 a7 a8 a2 a5 a1 b6 HB;have b1:=g3;have b0:=g4;have a7:=g5;have a8:=h0;have a2:=h1;have a5:=h2;have a1:=h6;have b6:=h8;have HB:=h9;clear g3 g4 g5 h0 h1 h2 h6 h8 h9;refine start_ (n:=27) (S:=fun w'=>w'.cell? ⟨a6,0,none⟩=some (.bool c9)∧w'.cell? ⟨a6,1,none⟩=some (.bool e4)∧w'.cell? ⟨a6,2,none⟩=some (.int .i64 e5)∧w'.cell? ⟨a6,3,none⟩=some (.int .i64 e9)∧w'.cell? ⟨a6,4,none⟩=some (.int .i64 g2)∧w'.cell? ⟨a6,5,none⟩=some (.slice d2 b2.length d0)) (ds:=[]) (zzB 27 0) (by kernel_rfl) rfl rfl ⟨(zzk a1.out 0).trans rfl,(zzk a1.out 1).trans rfl,(zzk a1.out 2).trans rfl,(zzk a1.out 3).trans rfl,(zzk a1.out 4).trans rfl,(zzk a1.out 5).trans rfl⟩ (fun j2=>?_);refine with_tabW laws_FnJoin.tab8 laws_FnJoin.bits8 (fun b3 k2=>?_);generalize wc.drew=Q4 at b1 b0 a7 a8 a2 a5 a1 b6 HB j2 ⊢;refine zzT 0 50 27 1 b3 k2 j2 ?_
       refine one_ (i:=1) (N:=some 51) (zzB 27 3) rfl rfl (one_of b3.out (by kernel_rfl)) (by decide) (fun K hK=>?_);refine goes_ Tryd.func9 (by kernel_rfl) rfl #[.agg #[.bool c9,.bool e4,.int .i64 e5,.int .i64 e9,.int .i64 g2,.slice d2 b2.length d0]] (by rfl) rfl rfl zzM2 ?_;with_reducible refine (Qd.calls l8 c9 e4 e5 e9 g2 _ _ b2 true _ ?side1 ?side2 n1.out).mono ?_
       (case side1=>repeat (first|exact (Kd.N_reads' a7.out).2.2|(with_reducible refine Kd.C_alloc ?_ _)|(with_reducible refine Kd.C_drewN ?_ _)|(with_reducible refine Kd.C_drew ?_)))
       (case side2=>exact (Kd.N_reads' a7.out).2.1);rintro e Q5 ⟨rfl,hb⟩;refine ⟨_,rfl,?_⟩;have g3:=zzm (Kd.N_below (zzN b1.out) hb);have g4:=zzm (Kd.N_below (zzN b0.out) hb);have g5:=zzm (Kd.N_below (zzN a7.out) hb);have h0:=zzm (Kd.N_below (zzN a8.out) hb);have h1:=zzm (zzh (g:=a3) (o:=.cells #[.bool b9,.bool d3,.int .i64 d5,.int .i64 d8,.int .i64 e3,.slice e6 b5.length e2] 25 (0,0)) (zzE a2.out) hb);have h2:=zzm (zzh (g:=a4) (o:=.cells #[.bool d1,.bool d4,.int .i64 d6,.int .i64 e0,.int .i64 e8,.slice d9 b4.length d7] 25 (0,0)) (zzE a5.out) hb);have h6:=zzm (zzh (g:=a6) (o:=.cells #[.bool c9,.bool e4,.int .i64 e5,.int .i64 e9,.int .i64 g2,.slice d2 b2.length d0] 25 (0,0)) (zzE a1.out) hb);have h8:=zzm (zzh (g:=a0) (o:=.cells #[.bool e1,.bool g0,.int .i64 g9,.int .i64 h3,.int .i64 h7,.slice g1 c8.length e7] 25 (0,0)) (zzE b6.out) hb);have h9:=zzm (zzp zzh2 hb);clear b1 b0 a7 a8 a2 a5 a1 b6 HB;have b1:=g3;have b0:=g4;have a7:=g5;have a8:=h0;have a2:=h1;have a5:=h2;have a1:=h6;have b6:=h8;have HB:=h9;clear g3 g4 g5 h0 h1 h2 h6 h8 h9
       (try clear hb)
       (try clear hb2)
       (try clear hk)
       (try clear hi);refine hK.out _ _ ⟨(zzk a1.out 0).trans rfl,(zzk a1.out 1).trans rfl,(zzk a1.out 2).trans rfl,(zzk a1.out 3).trans rfl,(zzk a1.out 4).trans rfl,(zzk a1.out 5).trans rfl⟩ (fun j2=>?_);clear hK K;refine zzO 51 ?_
       refine zzP 2 52 27 7 b3 ?_
       refine zzP 3 53 27 15 b3 ?_
       refine zzT 4 54 27 31 b3 k2 j2 ?_
       refine zzP 5 55 27 63 b3 ?_
       refine zzP 6 56 27 127 b3 ?_
       refine zzP 7 57 27 255 b3 ?_
       refine zzU 8 58 27 511 b3 ?_
       refine zzU 9 59 27 1023 b3 ?_
       refine zzU 10 60 27 2047 b3 ?_
       refine zzU 11 61 27 4095 b3 ?_
       refine zzU 12 62 27 8191 b3 ?_
       refine zzP 13 63 27 16383 b3 ?_
       refine zzP 14 64 27 32767 b3 ?_
       refine zzU 15 65 27 65535 b3 ?_
       refine zzU 16 66 27 131071 b3 ?_
       refine zzU 17 67 27 262143 b3 ?_
       refine zzU 18 68 27 524287 b3 ?_
       refine zzU 19 69 27 1048575 b3 ?_
       refine zzU 20 70 27 2097151 b3 ?_
       refine zzU 21 71 27 4194303 b3 ?_
       refine zzU 22 72 27 8388607 b3 ?_
       refine zzU 23 73 27 16777215 b3 ?_
       refine zzU 24 74 27 33554431 b3 ?_
       refine zzP 25 75 27 67108863 b3 ?_
       refine zzP 26 2 27 134217727 b3 ?_
       refine done_ (done_of b3.out (by kernel_rfl)) ?_;try go_wp2
       go_ret;exact ⟨zzR,zzh3⟩
     ·
      replace n2:=Bool.eq_false_iff.mpr n2;subst n2;replace H:=zzIf H;obtain rfl:=Option.some.inj H;try go_wp2
      have g3:=zzm (Kd.N_drew b1.out);have g4:=zzm (Kd.N_drew b0.out);have g5:=zzm (Kd.N_drew a7.out);have h0:=zzm (Kd.N_drew a8.out);have h1:=zzm (zzg a2.out);have h2:=zzm (zzg a5.out);have h6:=zzm (zzg a1.out);have h8:=zzm (zzg b6.out);have h9:=zzm (zzc HB.out);clear b1 b0 a7 a8 a2 a5 a1 b6 HB;have b1:=g3;have b0:=g4;have a7:=g5;have a8:=h0;have a2:=h1;have a5:=h2;have a1:=h6;have b6:=h8;have HB:=h9;clear g3 g4 g5 h0 h1 h2 h6 h8 h9;refine start_ (n:=27) (S:=fun w'=>w'.cell? ⟨a6,0,none⟩=some (.bool c9)∧w'.cell? ⟨a6,1,none⟩=some (.bool e4)∧w'.cell? ⟨a6,2,none⟩=some (.int .i64 e5)∧w'.cell? ⟨a6,3,none⟩=some (.int .i64 e9)∧w'.cell? ⟨a6,4,none⟩=some (.int .i64 g2)∧w'.cell? ⟨a6,5,none⟩=some (.slice d2 b2.length d0)) (ds:=[]) (zzB 27 0) (by kernel_rfl) rfl rfl ⟨(zzk a1.out 0).trans rfl,(zzk a1.out 1).trans rfl,(zzk a1.out 2).trans rfl,(zzk a1.out 3).trans rfl,(zzk a1.out 4).trans rfl,(zzk a1.out 5).trans rfl⟩ (fun j2=>?_);refine with_tabW laws_FnJoin.tab8 laws_FnJoin.bits8 (fun b3 k2=>?_);generalize wc.drew=Q6 at b1 b0 a7 a8 a2 a5 a1 b6 HB j2 ⊢;refine zzT 0 50 27 1 b3 k2 j2 ?_
      refine one_ (i:=1) (N:=some 51) (zzB 27 3) rfl rfl (one_of b3.out (by kernel_rfl)) (by decide) (fun K hK=>?_);refine goes_ Tryd.func9 (by kernel_rfl) rfl #[.agg #[.bool c9,.bool e4,.int .i64 e5,.int .i64 e9,.int .i64 g2,.slice d2 b2.length d0]] (by rfl) rfl rfl zzM2 ?_;with_reducible refine (Qd.calls l8 c9 e4 e5 e9 g2 _ _ b2 false _ ?side1 ?side2 n1.out).mono ?_
      (case side1=>repeat (first|exact (Kd.N_reads' a7.out).2.2|(with_reducible refine Kd.C_alloc ?_ _)|(with_reducible refine Kd.C_drewN ?_ _)|(with_reducible refine Kd.C_drew ?_)))
      (case side2=>exact (Kd.N_reads' a7.out).2.1);rintro e Q7 ⟨rfl,hb⟩;refine ⟨_,rfl,?_⟩;have g3:=zzm (Kd.N_below (zzN b1.out) hb);have g4:=zzm (Kd.N_below (zzN b0.out) hb);have g5:=zzm (Kd.N_below (zzN a7.out) hb);have h0:=zzm (Kd.N_below (zzN a8.out) hb);have h1:=zzm (zzh (g:=a3) (o:=.cells #[.bool b9,.bool d3,.int .i64 d5,.int .i64 d8,.int .i64 e3,.slice e6 b5.length e2] 25 (0,0)) (zzE a2.out) hb);have h2:=zzm (zzh (g:=a4) (o:=.cells #[.bool d1,.bool d4,.int .i64 d6,.int .i64 e0,.int .i64 e8,.slice d9 b4.length d7] 25 (0,0)) (zzE a5.out) hb);have h6:=zzm (zzh (g:=a6) (o:=.cells #[.bool c9,.bool e4,.int .i64 e5,.int .i64 e9,.int .i64 g2,.slice d2 b2.length d0] 25 (0,0)) (zzE a1.out) hb);have h8:=zzm (zzh (g:=a0) (o:=.cells #[.bool e1,.bool g0,.int .i64 g9,.int .i64 h3,.int .i64 h7,.slice g1 c8.length e7] 25 (0,0)) (zzE b6.out) hb);have h9:=zzm (zzp zzh2 hb);clear b1 b0 a7 a8 a2 a5 a1 b6 HB;have b1:=g3;have b0:=g4;have a7:=g5;have a8:=h0;have a2:=h1;have a5:=h2;have a1:=h6;have b6:=h8;have HB:=h9;clear g3 g4 g5 h0 h1 h2 h6 h8 h9
      (try clear hb)
      (try clear hb2)
      (try clear hk)
      (try clear hi);refine hK.out _ _ ⟨(zzk a1.out 0).trans rfl,(zzk a1.out 1).trans rfl,(zzk a1.out 2).trans rfl,(zzk a1.out 3).trans rfl,(zzk a1.out 4).trans rfl,(zzk a1.out 5).trans rfl⟩ (fun j2=>?_);clear hK K;refine zzO 51 ?_
      refine zzP 2 52 27 7 b3 ?_
      refine zzU 3 53 27 15 b3 ?_
      refine zzU 4 54 27 31 b3 ?_
      refine zzU 5 55 27 63 b3 ?_
      refine zzP 6 56 27 127 b3 ?_
      refine zzP 7 57 27 255 b3 ?_
      refine zzU 8 58 27 511 b3 ?_
      refine zzU 9 59 27 1023 b3 ?_
      refine zzU 10 60 27 2047 b3 ?_
      refine zzU 11 61 27 4095 b3 ?_
      refine zzU 12 62 27 8191 b3 ?_
      refine zzP 13 63 27 16383 b3 ?_
      refine zzP 14 64 27 32767 b3 ?_
      refine zzU 15 65 27 65535 b3 ?_
      refine zzU 16 66 27 131071 b3 ?_
      refine zzU 17 67 27 262143 b3 ?_
      refine zzU 18 68 27 524287 b3 ?_
      refine zzU 19 69 27 1048575 b3 ?_
      refine zzU 20 70 27 2097151 b3 ?_
      refine zzU 21 71 27 4194303 b3 ?_
      refine zzU 22 72 27 8388607 b3 ?_
      refine zzU 23 73 27 16777215 b3 ?_
      refine zzU 24 74 27 33554431 b3 ?_
      refine zzP 25 75 27 67108863 b3 ?_
      refine zzP 26 2 27 134217727 b3 ?_
      refine done_ (done_of b3.out (by kernel_rfl)) ?_;try go_wp2
      go_ret;exact ⟨zzR,zzh3⟩
def laws_FnJoin.Pure:Prop:=∀ (l0:List Int),l0.length≤maxLen→l0.length * 1≤140737488351232→(∀ x∈l0,(Lit.int .u8 x).wf=true)→∃ k,laws_FnJoin.f k l0=some true
theorem laws_FnJoin.walk (P:laws_FnJoin.Pure) (a0:Option Addr) (len0 cap0:Nat) (z0:List Int) (w:World) (p0:Addr) (hg0:w.cell? ⟨0,0,none⟩=some (errV p0 true)) (w0:(a0=none∧len0=0∧cap0=0∧z0 = [])∨∃ x,a0=some x∧len0≤cap0∧cap0≤maxLen∧z0.length=cap0∧(∀ i,i < z0.length→w.cell? (x.add i)=some (.int .u8 (z0.getD i 0)))∧∀ n∈z0,(Lit.int .u8 n).wf=true) (y0:len0 * 1≤140737488351232) :
  Calls Tryd.prog 3 #[.slice a0 len0 cap0] w fun e w'=>e = .returned (.bool true)∧Below w.heap.size w w':=by
 obtain ⟨l0,rfl,hr0,hm0,hw0,hc0⟩:=ReadsInt.ofRowC w0;obtain ⟨k,h⟩:=P l0 hm0 y0 hw0;refine (laws_FnJoin.calls p0 k _ _ l0 true w (Kd.C_of_reads (d:=(0:Int)) (h1:=fun _=>rfl) hr0) hc0 hg0 h).mono ?_;rintro e w' ⟨rfl,hd⟩;exact ⟨rfl,hd⟩
end Go.Proofs.YtlckpbjldmkibaaDoor.T
namespace Go.Proofs.YtlckpbjldmkibaaDoor.Q
open Go.RowKit Go.Proofs.YtlckpbjldmkibaaDoorW.PrintWords
set_option linter.unusedVariables false
set_option linter.unusedSimpArgs false
theorem ev_succ {α:Type} {g:Nat→Option α} {r : α} (h:Ev (fun k=>g (k+1)) r):Ev g r:=Ev.step (f:=fun k=>g (k+1)) (fun _=>rfl) h
theorem ev_of_all {α:Type} {g:Nat→Option α} {r : α} (h:∀ k,g k=some r):Ev g r:=⟨0,fun k _=>h k⟩
theorem ev_some {α:Type} (r : α):Ev (fun _=>some r) r:=ev_of_all fun _=>rfl
def Evs {α:Type} (g:Nat→Option α) (Q : α→Prop):Prop:=∃ r,Ev g r∧Q r
theorem Evs.of {α:Type} {g:Nat→Option α} {Q : α→Prop} {r : α} (h:Ev g r) (hq:Q r):Evs g Q:=⟨r,h,hq⟩
theorem Evs.done {α:Type} {Q : α→Prop} {r : α} (hq:Q r):Evs (fun _=>some r) Q:=⟨r,ev_some r,hq⟩
theorem Evs.mono {α:Type} {g:Nat→Option α} {Q Q' : α→Prop} (h:Evs g Q) (hq:∀ r,Q r→Q' r):Evs g Q':=by
 obtain ⟨r,h1,h2⟩:=h
 exact ⟨r,h1,hq r h2⟩
theorem Evs.succ {α:Type} {g:Nat→Option α} {Q : α→Prop} (h:Evs (fun k=>g (k+1)) Q):Evs g Q:=by
 obtain ⟨r,h1,h2⟩:=h
 exact ⟨r,ev_succ h1,h2⟩
theorem Evs.bind {α β:Type} {g:Nat→Option α} {f:Nat→α→Option β} {Q : α→Prop} {R : β→Prop} (h:Evs g Q) (k:∀ a,Q a→Evs (fun n=>f n a) R):Evs (fun n=>(g n).bind (f n)) R:=by
 obtain ⟨a,h1,h2⟩:=h
 obtain ⟨r,k1,k2⟩:=k a h2
 exact ⟨r,Ev.bind h1 k1,k2⟩
theorem bsome {α β:Type} (a : α) (f : α→Option β):(some a).bind f=f a:=Eq.trans (Option.bind_some a f) (Eq.refl _)
end Go.Proofs.YtlckpbjldmkibaaDoor.Q
namespace Go.Proofs.YtlckpbjldmkibaaDoor.Q
open Go.RowKit Go.Proofs.YtlckpbjldmkibaaDoor.T Go.Proofs.YtlckpbjldmkibaaDoorW.PrintWords Go.Proofs.YtlckpbjldmkibaaDoorW.PrintLast
set_option linter.unusedVariables false
set_option linter.unusedSimpArgs false
theorem wrap_id {x:Int} (h0 : -9223372036854775808≤x) (h1:x < 9223372036854775808):wrap64 x=x:=by unfold wrap64;omega
theorem tmod_range {x n:Int} (h : 0≤x) (hn : 1≤n) : 0≤Int.tmod x n∧Int.tmod x n < n:=by
 rw [Int.tmod_eq_emod_of_nonneg h]
 exact ⟨Int.emod_nonneg _ (by omega),Int.emod_lt_of_pos _ (by omega)⟩
theorem xor_nonneg {a b:Int} (h1 : 0≤a) (h2:a < 4611686018427387904) (h3 : 0≤b) (h4:b < 4611686018427387904) : 0≤Go.bits .xor .i64 a b:=by
 obtain ⟨A,rfl⟩:=Int.eq_ofNat_of_zero_le h1
 obtain ⟨B,rfl⟩:=Int.eq_ofNat_of_zero_le h3
 have hx:A ^^^ B < 2 ^ 62:=Nat.xor_lt_two_pow (by omega) (by omega)
 have e1:(BitVec.ofInt 64 (A:Int)).toNat=A:=by
  rw [BitVec.ofInt_natCast,BitVec.toNat_ofNat];exact Nat.mod_eq_of_lt (by omega)
 have e2:(BitVec.ofInt 64 (B:Int)).toNat=B:=by
  rw [BitVec.ofInt_natCast,BitVec.toNat_ofNat];exact Nat.mod_eq_of_lt (by omega)
 show 0≤IntKind.i64.wrap ((BitVec.ofInt 64 (A:Int) ^^^ BitVec.ofInt 64 (B:Int)).toNat:Int)
 rw [BitVec.toNat_xor,e1,e2]
 simp only [IntKind.wrap,IntKind.bits,IntKind.signed]
 simp
 omega
def Bytes (b:List Int):Prop:=∀ x∈b,0≤x∧x≤255
theorem rd_bytes {b:List Int} (h:Bytes b) (i:Int) : 0≤rd b i∧rd b i≤255:=by
 unfold rd
 rw [List.getD_eq_getElem?_getD]
 cases e:b[i.toNat]? with
 | none=>simp
 | some x=>exact h x (List.mem_of_getElem? e)
theorem pick_ev (b:List Int) (p n:Int) (hb:Bytes b) (hl:b.length≤2000) (h0 : 0≤p) (h1:p≤1000000000) (hn : 1≤n) :
  ∃ v,Ev (fun k=>Qc.f k b p n) (v,p+1)∧0≤v∧v < n:=by
 have e1:wrap64 (p+1)=p+1:=wrap_id (by omega) (by omega)
 have e2:wrap64 (p+1 - 1)=p:=by rw [wrap_id (by omega) (by omega)];omega
 by_cases hz:b.length=0
 ·refine ⟨0,⟨1,fun k hk=>?_⟩,by omega,by omega⟩
  obtain ⟨k,rfl⟩:∃ m,k=m+1:=⟨k - 1,by omega⟩
  show Qc.f (k+1) b p n = _
  unfold Qc.f
  rw [if_neg (by omega),e1]
  simp [Qc.j0,hz]
 ·have hz' : (((b.length:Int)==0)=true)=False:=by simp;intro h;simp [h] at hz
  by_cases hlt:p < (b.length:Int)
  ·obtain ⟨r0,r1⟩:=rd_bytes hb p
   have:=tmod_range (x:=rd b p) r0 hn
   refine ⟨Int.tmod (rd b p) n,⟨1,fun k hk=>?_⟩,this.1,this.2⟩
   obtain ⟨k,rfl⟩:∃ m,k=m+1:=⟨k - 1,by omega⟩
   show Qc.f (k+1) b p n = _
   unfold Qc.f
   rw [if_neg (by omega),e1]
   simp only [Qc.j0,e2,hz']
   rw [if_neg (by simp),if_pos hlt,if_pos h0,if_neg (by omega),wrap_id (by omega) (by omega)]
  ·obtain ⟨q0,q1⟩:=tmod_range (x:=p) (n:=(b.length:Int)) h0 (by omega)
   obtain ⟨r0,r1⟩:=rd_bytes hb (Int.tmod p (b.length:Int))
   have f1:wrap64 (p * 7)=p * 7:=wrap_id (by omega) (by omega)
   have f2:wrap64 (p * 7+3)=p * 7+3:=wrap_id (by omega) (by omega)
   obtain ⟨q2,q3⟩:=tmod_range (x:=p * 7+3) (n:=(b.length:Int)) (by omega) (by omega)
   obtain ⟨r2,r3⟩:=rd_bytes hb (Int.tmod (p * 7+3) (b.length:Int))
   have d0 : 0≤Int.tdiv p (b.length:Int)∧Int.tdiv p (b.length:Int)≤p:=by
    rw [Int.tdiv_eq_ediv_of_nonneg h0]
    exact ⟨Int.ediv_nonneg h0 (by omega),Int.ediv_le_self _ h0⟩
   obtain ⟨x,hx⟩:∃ x,x=rd b (Int.tmod p (b.length:Int)):=⟨_,rfl⟩
   obtain ⟨y,hy⟩:∃ y,y=rd b (Int.tmod (p * 7+3) (b.length:Int)):=⟨_,rfl⟩
   obtain ⟨z,hz2⟩:∃ z,z=Int.tdiv p (b.length:Int):=⟨_,rfl⟩
   obtain ⟨s,hs⟩:∃ s,s=x * 131+y * 1117+p * 29+z * 53:=⟨_,rfl⟩
   rw [← hx] at r0 r1
   rw [← hy] at r2 r3
   rw [← hz2] at d0
   have s0 : 0≤s∧s < 4611686018427387904:=by omega
   have t0 : 0≤Int.tdiv s 64∧Int.tdiv s 64≤s:=by
    rw [Int.tdiv_eq_ediv_of_nonneg s0.1]
    exact ⟨Int.ediv_nonneg s0.1 (by omega),Int.ediv_le_self _ s0.1⟩
   have w1:wrap64 x=x:=wrap_id (by omega) (by omega)
   have w2:wrap64 y=y:=wrap_id (by omega) (by omega)
   have w3:wrap64 z=z:=wrap_id (by omega) (by omega)
   have w4:wrap64 (x * 131)=x * 131:=wrap_id (by omega) (by omega)
   have w5:wrap64 (y * 1117)=y * 1117:=wrap_id (by omega) (by omega)
   have w6:wrap64 (p * 29)=p * 29:=wrap_id (by omega) (by omega)
   have w7:wrap64 (z * 53)=z * 53:=wrap_id (by omega) (by omega)
   have w8:wrap64 (x * 131+y * 1117)=x * 131+y * 1117:=wrap_id (by omega) (by omega)
   have w9:wrap64 (x * 131+y * 1117+p * 29)=x * 131+y * 1117+p * 29:=wrap_id (by omega) (by omega)
   have wa:wrap64 (x * 131+y * 1117+p * 29+z * 53)=s:=by rw [hs];exact wrap_id (by omega) (by omega)
   have wb:wrap64 (Int.tdiv s 64)=Int.tdiv s 64:=wrap_id (by omega) (by omega)
   have:=tmod_range (x:=Go.bits .xor .i64 s (Int.tdiv s 64)) (n:=n) (xor_nonneg s0.1 s0.2 t0.1 (by omega)) hn
   refine ⟨_,⟨1,fun k hk=>?_⟩,this.1,this.2⟩
   obtain ⟨k,rfl⟩:∃ m,k=m+1:=⟨k - 1,by omega⟩
   show Qc.f (k+1) b p n = _
   unfold Qc.f
   rw [if_neg (by omega),e1]
   simp only [Qc.j0,e2,hz',f1,f2]
   rw [if_neg (by simp),if_neg hlt,if_neg (by omega),if_pos q0,if_pos q1,if_pos q2,if_pos q3,if_neg (by omega),← hx,← hy,← hz2,w1,w2,w3,w4,w5,w6,w7,w8,w9,wa,wb]
theorem pick_evs (b:List Int) (p n:Int) (hb:Bytes b) (hl:b.length≤2000) (h0 : 0≤p) (h1:p≤1000000000) (hn : 1≤n) :
  Evs (fun k=>Qc.f k b p n) (fun r=>0≤r.1∧r.1 < n∧r.2=p+1):=by
 obtain ⟨v,h,v0,v1⟩:=pick_ev b p n hb hl h0 h1 hn
 exact ⟨_,h,v0,v1,rfl⟩
theorem Ri (a b c:Int):Qp.f a b c=some (decide (b≤a∧a≤c)):=by
 unfold Qp.f
 by_cases h:a ≥ b
 ·rw [if_pos h]
  have:(b≤a∧a≤c)↔a≤c:=⟨fun h=>h.2,fun h'=>⟨h,h'⟩⟩
  simp [this]
 ·rw [if_neg h]
  have:¬ (b≤a∧a≤c):=fun h'=>h h'.1
  simp [this]
theorem spec_l6In_eq (a b c:Int):Qr.f a b c=some (decide (b≤a∧a≤c)):=by
 unfold Qr.f
 by_cases h:a ≥ b
 ·rw [if_pos h]
  have:(b≤a∧a≤c)↔a≤c:=⟨fun h=>h.2,fun h'=>⟨h,h'⟩⟩
  simp [this]
 ·rw [if_neg h]
  have:¬ (b≤a∧a≤c):=fun h'=>h h'.1
  simp [this]
theorem rd_nat (l:List Int) (j:Nat) (h:j < l.length):rd l (j:Int)=l[j]:=by
 unfold rd
 rw [Int.toNat_natCast,List.getD_eq_getElem?_getD,List.getElem?_eq_getElem h]
 rfl
theorem drop_int {l:List Int} {i:Nat} (h:i < l.length):l.drop i=rd l i::l.drop (i+1):=by
 rw [List.drop_eq_getElem_cons h,rd_nat l i h]
def ab (l:List Int):Bool:=decide (∀ x∈l,0≤x∧x≤255)
theorem ab_cons (x:Int) (l:List Int):ab (x::l)=(decide (0≤x∧x≤255)&&ab l):=by
 rw [Bool.eq_iff_iff]
 simp [ab,List.forall_mem_cons]
theorem ab_nil:ab []=true:=by simp [ab]
theorem isByte_eq (a:Int):Rj.f a=some (decide (0≤a∧a≤255)):=by
 unfold Rj.f
 by_cases h:a ≥ 0
 ·rw [if_pos h]
  have:(0≤a∧a≤255)↔a≤255:=⟨fun h=>h.2,fun h'=>⟨h,h'⟩⟩
  simp [this]
 ·rw [if_neg h]
  have:¬ (0≤a∧a≤255):=fun h'=>h h'.1
  simp [this]
theorem baseValid_eq (a b:Int):Qz.f a b=some (decide ((0≤a∧a≤99999)∧(0≤b∧b≤99999))):=by
 unfold Qz.f
 rw [Ri,Ri]
 by_cases h : 0≤a∧a≤99999 <;> simp [h]
theorem idValid_eqB (a:Int):Rd.f a=some (decide (0≤a∧a≤254)):=by
 unfold Rd.f
 rw [Ri]
 rfl
theorem implAll_loop (l:List Int) (hl:l.length≤1000000000000000):∀ (d i:Nat),l.length - i=d→i≤l.length→Ev (fun k=>Qs.l0 k l (l.length:Int) (i:Int)) (ab (l.drop i)):=by
 intro d
 induction d with
 | zero=>
  intro i hd hi
  rw [show l.drop i = [] from List.drop_eq_nil_of_le (by omega),ab_nil]
  refine ev_succ ?_
  simp only [Qs.l0,if_neg (show ¬ (i:Int) < (l.length:Int) by omega)]
  exact ev_some _
 | succ d ih=>
  intro i hd hi
  have e1:wrap64 ((i:Int)+1)=((i+1:Nat):Int):=by rw [wrap_id (by omega) (by omega)];omega
  rw [drop_int (show i < l.length by omega),ab_cons]
  refine ev_succ ?_
  simp only [Qs.l0,if_pos (show (i:Int) < (l.length:Int) by omega),if_pos (show (0:Int)≤i by omega),isByte_eq,bsome,decide_eq_true_eq,e1]
  by_cases h : 0≤rd l (i:Int)∧rd l (i:Int)≤255
  ·simp only [if_pos h,decide_eq_true h,Bool.true_and]
   exact ih (i+1) (by omega) (by omega)
  ·simp only [if_neg h,decide_eq_false h,Bool.false_and]
   exact ev_some _
theorem implAll (l:List Int) (hl:l.length≤1000000000000000):Ev (fun k=>Qs.f k l) (ab l):=by
 unfold Qs.f
 have:=implAll_loop l hl l.length 0 (by omega) (by omega)
 simpa using this
theorem specAll_loop (l:List Int) (hl:l.length≤1000000000000000):∀ (d i:Nat),l.length - i=d→i≤l.length→Ev (fun k=>Qu.l0 k l (i:Int)) (ab (l.drop i)):=by
 intro d
 induction d with
 | zero=>
  intro i hd hi
  rw [show l.drop i = [] from List.drop_eq_nil_of_le (by omega),ab_nil]
  refine ev_succ ?_
  simp only [Qu.l0,if_neg (show ¬ (i:Int) < (l.length:Int) by omega)]
  exact ev_some _
 | succ d ih=>
  intro i hd hi
  have e1:wrap64 ((i:Int)+1)=((i+1:Nat):Int):=by rw [wrap_id (by omega) (by omega)];omega
  rw [drop_int (show i < l.length by omega),ab_cons]
  refine ev_succ ?_
  simp only [Qu.l0,if_pos (show (i:Int) < (l.length:Int) by omega),if_pos (show (0:Int)≤i by omega),spec_l6In_eq,bsome,decide_eq_true_eq,e1]
  by_cases h : 0≤rd l (i:Int)∧rd l (i:Int)≤255
  ·simp only [if_pos h,decide_eq_true h,Bool.true_and]
   exact ih (i+1) (by omega) (by omega)
  ·simp only [if_neg h,decide_eq_false h,Bool.false_and]
   exact ev_some _
theorem specAll (l:List Int) (hl:l.length≤1000000000000000):Ev (fun k=>Qu.f k l) (ab l):=by
 unfold Qu.f
 have:=specAll_loop l hl l.length 0 (by omega) (by omega)
 simpa using this
def pv (has:Bool) (l:List Int):Bool:=if has=true then decide (l.length≤12)&&ab l else decide (l.length=0)
theorem implPart (has:Bool) (l:List Int) (hl:l.length≤1000000000000000):Ev (fun k=>Qv.f k has l) (pv has l):=by
 unfold Qv.f pv
 cases has with
 | true=>
  simp only [if_true]
  by_cases h:(l.length:Int)≤12
  ·simp only [if_pos h,decide_eq_true (show l.length≤12 by omega),Bool.true_and]
   exact Ev.bind (implAll l hl) (ev_some _)
  ·simp only [if_neg h,decide_eq_false (show ¬ l.length≤12 by omega),Bool.false_and]
   exact ev_some _
 | false=>
  simp only [Bool.false_eq_true,if_false]
  rw [show ((l.length:Int)==0)=decide (l.length=0) by rw [Bool.eq_iff_iff];simp]
  exact ev_some _
theorem specPart (has:Bool) (l:List Int) (hl:l.length≤1000000000000000):Ev (fun k=>Re.f k has l) (pv has l):=by
 unfold Re.f pv
 cases has with
 | true=>
  simp only [if_true]
  refine Ev.bind (specAll l hl) ?_
  by_cases h:ab l=true
  ·simp only [if_pos h,h,Bool.and_true]
   rw [show decide ((l.length:Int)≤12)=decide (l.length≤12) by rw [decide_eq_decide];omega]
   exact ev_some _
  ·simp only [if_neg h,show ab l=false by simpa using h,Bool.and_false]
   exact ev_some _
 | false=>
  simp only [Bool.false_eq_true,if_false]
  by_cases h:l.length=0
  ·simp only [if_pos (show (l.length:Int)=0 by omega),decide_eq_true h]
   refine Ev.bind (specAll l hl) ?_
   have hn:l = []:=List.length_eq_zero_iff.1 h
   subst hn
   simp only [ab_nil,if_true]
   exact ev_some _
  ·simp only [if_neg (show ¬ (l.length:Int)=0 by omega),decide_eq_false h]
   exact ev_some _
abbrev Rc:=S40
abbrev rr (l:List Rc) (i:Int):Rc:=Qb l i
theorem rr_nat (l:List Rc) (j:Nat) (h:j < l.length):rr l (j:Int)=l[j]:=by
 unfold rr Qb
 rw [Int.toNat_natCast,List.getD_eq_getElem?_getD,List.getElem?_eq_getElem h]
 rfl
def smallR (r:Rc):Prop:=r.f3.length≤1000000000000000∧r.f5.length≤1000000000000000
def smallRs (l:List Rc):Prop:=l.length≤1000000000000000∧∀ r∈l,smallR r
theorem smallRs_at {l:List Rc} (h:smallRs l) (j:Nat) (hj:j < l.length):smallR (rr l (j:Int)):=by
 rw [rr_nat l j hj]
 exact h.2 _ (List.getElem_mem hj)
def rv (r:Rc):Bool:=decide ((0≤r.f0∧r.f0≤99999)∧(0≤r.f1∧r.f1≤99999))&&(pv r.f2 r.f3&&pv r.f4 r.f5)
theorem implRec (r:Rc) (h:smallR r):Ev (fun k=>Qx.f k r.f0 r.f1 r.f2 r.f3 r.f4 r.f5) (rv r):=by
 unfold Qx.f rv
 simp only [baseValid_eq,bsome,decide_eq_true_eq]
 by_cases h0:(0≤r.f0∧r.f0≤99999)∧(0≤r.f1∧r.f1≤99999)
 ·simp only [if_pos h0,decide_eq_true h0,Bool.true_and]
  refine Ev.bind (implPart _ _ h.1) ?_
  by_cases h1:pv r.f2 r.f3=true
  ·simp only [if_pos h1,h1,Bool.true_and]
   exact Ev.bind (implPart _ _ h.2) (ev_some _)
  ·simp only [if_neg h1,show pv r.f2 r.f3=false by simpa using h1,Bool.false_and]
   exact ev_some _
 ·simp only [if_neg h0,decide_eq_false h0,Bool.false_and]
  exact ev_some _
theorem specRec (r:Rc) (h:smallR r):Ev (fun k=>Qw.f k r.f0 r.f1 r.f2 r.f3 r.f4 r.f5) (rv r):=by
 unfold Qw.f rv
 simp only [spec_l6In_eq,bsome,decide_eq_true_eq]
 by_cases h0 : 0≤r.f0∧r.f0≤99999
 ·by_cases h1 : 0≤r.f1∧r.f1≤99999
  ·simp only [if_pos h0,if_pos h1,decide_eq_true (show (0≤r.f0∧r.f0≤99999)∧(0≤r.f1∧r.f1≤99999) from ⟨h0,h1⟩),Bool.true_and]
   refine Ev.bind (specPart _ _ h.1) ?_
   by_cases h2:pv r.f2 r.f3=true
   ·simp only [if_pos h2,h2,Bool.true_and]
    exact Ev.bind (specPart _ _ h.2) (ev_some _)
   ·simp only [if_neg h2,show pv r.f2 r.f3=false by simpa using h2,Bool.false_and]
    exact ev_some _
  ·simp only [if_pos h0,if_neg h1,decide_eq_false (show ¬ ((0≤r.f0∧r.f0≤99999)∧(0≤r.f1∧r.f1≤99999)) from fun h=>h1 h.2),Bool.false_and]
   exact ev_some _
 ·simp only [if_neg h0,decide_eq_false (show ¬ ((0≤r.f0∧r.f0≤99999)∧(0≤r.f1∧r.f1≤99999)) from fun h=>h0 h.1),Bool.false_and]
  exact ev_some _
def RF (l:List Rc) (i:Nat):Prop:=∀ j,i≤j→j < l.length→rv (rr l j)=true∧(0 < j→(rr l ((j:Int) - 1)).f0 < (rr l j).f0)
theorem RF_end {l:List Rc} {i:Nat} (h:l.length≤i):RF l i:=fun j h1 h2=>by omega
theorem RF_step {l:List Rc} {i:Nat} (h:i < l.length):RF l i↔(rv (rr l i)=true∧(0 < i→(rr l ((i:Int) - 1)).f0 < (rr l i).f0))∧RF l (i+1):=by
 constructor
 ·intro hv
  exact ⟨hv i (Nat.le_refl _) h,fun j h1 h2=>hv j (by omega) h2⟩
 ·rintro ⟨h1,h2⟩ j h3 h4
  by_cases e:j=i
  ·subst e;exact h1
  ·exact h2 j (by omega) h4
theorem implRecs_loop (l:List Rc) (hl:smallRs l) (a0 a1:Bool) (a2 a3 a4:Int):∀ (d i:Nat),l.length - i=d→i≤l.length→Evs (fun k=>Qd.l0 k l (l.length:Int) (i:Int) a0 a1 a2 a3 a4 l) (fun b=>b=true↔RF l i):=by
 intro d
 induction d with
 | zero=>
  intro i hd hi
  refine Evs.succ ?_
  simp only [Qd.l0,if_neg (show ¬ (i:Int) < (l.length:Int) by omega)]
  exact Evs.done (by simp;exact RF_end (by omega))
 | succ d ih=>
  intro i hd hi
  have hll:=hl.1
  have hn:=ih (i+1) (by omega) (by omega)
  have e1:wrap64 ((i:Int)+1)=((i+1:Nat):Int):=by rw [wrap_id (by omega) (by omega)];omega
  have e2:wrap64 ((i:Int) - 1)=(i:Int) - 1:=wrap_id (by omega) (by omega)
  rw [RF_step (show i < l.length by omega)]
  refine Evs.succ ?_
  simp only [Qd.l0,if_pos (show (i:Int) < (l.length:Int) by omega),if_pos (show (0:Int)≤i by omega),e1,e2]
  refine Evs.bind (Evs.of (implRec (rr l (i:Int)) (smallRs_at hl i (by omega))) rfl:Evs _ (fun x=>x=rv (rr l (i:Int)))) ?_
  rintro _ rfl
  by_cases h1:rv (rr l (i:Int))=true
  ·simp only [if_pos h1]
   by_cases h0:(i:Int) > 0
   ·simp only [if_pos h0,if_pos (show 0≤(i:Int) - 1 by omega),if_pos (show (i:Int) - 1 < (l.length:Int) by omega)]
    by_cases h2:(rr l ((i:Int) - 1)).f0 ≥ (rr l (i:Int)).f0
    ·simp only [if_pos h2]
     refine Evs.done ?_
     simp only [Bool.false_eq_true,false_iff]
     rintro ⟨⟨_,h3⟩,_⟩
     have:=h3 (by omega)
     omega
    ·simp only [if_neg h2]
     refine hn.mono fun b hb=>?_
     rw [hb]
     exact ⟨fun h=>⟨⟨h1,fun _=>by omega⟩,h⟩,fun h=>h.2⟩
   ·simp only [if_neg h0]
    refine hn.mono fun b hb=>?_
    rw [hb]
    exact ⟨fun h=>⟨⟨h1,fun h'=>absurd h' (by omega)⟩,h⟩,fun h=>h.2⟩
  ·simp only [if_neg h1]
   exact Evs.done (by simp only [Bool.false_eq_true,false_iff];exact fun h=>h1 h.1.1)
theorem specRecs_loop (l:List Rc) (hl:smallRs l):∀ (d i:Nat),l.length - i=d→i≤l.length→Evs (fun k=>Qk.l0 k l (i:Int)) (fun b=>b=true↔RF l i∧1≤l.length∧l.length≤6):=by
 intro d
 induction d with
 | zero=>
  intro i hd hi
  refine Evs.succ ?_
  simp only [Qk.l0,if_neg (show ¬ (i:Int) < (l.length:Int) by omega),spec_l6In_eq,bsome]
  exact Evs.done (by simp only [decide_eq_true_eq];exact ⟨fun h=>⟨RF_end (by omega),by omega,by omega⟩,fun h=>by have:=h.2;omega⟩)
 | succ d ih=>
  intro i hd hi
  have hll:=hl.1
  have hn:=ih (i+1) (by omega) (by omega)
  have e1:wrap64 ((i:Int)+1)=((i+1:Nat):Int):=by rw [wrap_id (by omega) (by omega)];omega
  have e2:wrap64 ((i:Int) - 1)=(i:Int) - 1:=wrap_id (by omega) (by omega)
  rw [RF_step (show i < l.length by omega)]
  refine Evs.succ ?_
  simp only [Qk.l0,if_pos (show (i:Int) < (l.length:Int) by omega),if_pos (show (0:Int)≤i by omega),e1,e2]
  refine Evs.bind (Evs.of (specRec (rr l (i:Int)) (smallRs_at hl i (by omega))) rfl:Evs _ (fun x=>x=rv (rr l (i:Int)))) ?_
  rintro _ rfl
  by_cases h1:rv (rr l (i:Int))=true
  ·simp only [if_pos h1]
   by_cases h0:(i:Int) > 0
   ·simp only [if_pos h0,if_pos (show 0≤(i:Int) - 1 by omega),if_pos (show (i:Int) - 1 < (l.length:Int) by omega)]
    by_cases h2:(rr l ((i:Int) - 1)).f0 ≥ (rr l (i:Int)).f0
    ·simp only [if_pos h2]
     refine Evs.done ?_
     simp only [Bool.false_eq_true,false_iff]
     rintro ⟨⟨⟨_,h3⟩,_⟩,_⟩
     have:=h3 (by omega)
     omega
    ·simp only [if_neg h2]
     refine hn.mono fun b hb=>?_
     rw [hb]
     exact ⟨fun h=>⟨⟨⟨h1,fun _=>by omega⟩,h.1⟩,h.2⟩,fun h=>⟨h.1.2,h.2⟩⟩
   ·simp only [if_neg h0]
    refine hn.mono fun b hb=>?_
    rw [hb]
    exact ⟨fun h=>⟨⟨⟨h1,fun h'=>absurd h' (by omega)⟩,h.1⟩,h.2⟩,fun h=>⟨h.1.2,h.2⟩⟩
  ·simp only [if_neg h1]
   exact Evs.done (by simp only [Bool.false_eq_true,false_iff];exact fun h=>h1 h.1.1.1)
def VB (a1:Bool) (a2 a3 a4:Int) (l:List Rc):Prop:=
 (if a2=255 then a3=0∧a4=0∧a1=false else (0≤a2∧a2≤254)∧(0≤a3∧a3≤99)∧(0≤a4∧a4≤9999))∧(1≤l.length∧l.length≤6)∧(a1=true→l.length=1)∧RF l 0
theorem implB_j0 (a0 a1:Bool) (a2 a3 a4:Int) (l:List Rc) (hl:smallRs l):Evs (fun k=>Qd.j0 k a0 a1 a2 a3 a4 l) (fun b=>b=true↔(1≤l.length∧l.length≤6)∧(a1=true→l.length=1)∧RF l 0):=by
 have hr:=implRecs_loop l hl a0 a1 a2 a3 a4 l.length 0 (by omega) (by omega)
 refine Evs.succ ?_
 simp only [Qd.j0,Ri,bsome,decide_eq_true_eq]
 by_cases h : 1≤(l.length:Int)∧(l.length:Int)≤6
 ·simp only [if_pos h]
  cases a1 with
  | true=>
   simp only [if_true]
   refine Evs.succ ?_
   by_cases h1:l.length=1
   ·simp only [Qd.j1,show ((l.length:Int) != 1)=false by rw [h1];rfl,Bool.false_eq_true,if_false]
    refine hr.mono fun b hb=>?_
    rw [hb]
    exact ⟨fun h2=>⟨by omega,fun _=>h1,h2⟩,fun h2=>h2.2.2⟩
   ·simp only [Qd.j1,show ((l.length:Int) != 1)=true by simp;omega,if_true]
    exact Evs.done (by simp only [Bool.false_eq_true,false_iff];exact fun h2=>h1 (h2.2.1 trivial))
  | false=>
   simp only [Bool.false_eq_true,if_false]
   refine Evs.succ ?_
   simp only [Qd.j1,Bool.false_eq_true,if_false]
   refine hr.mono fun b hb=>?_
   rw [hb]
   exact ⟨fun h2=>⟨by omega,(fun h3=>h3.elim),h2⟩,fun h2=>h2.2.2⟩
 ·simp only [if_neg h]
  refine Evs.succ ?_
  simp only [Qd.j1,if_true]
  exact Evs.done (by simp only [Bool.false_eq_true,false_iff];exact fun h2=>h ⟨by have:=h2.1.1;omega,by have:=h2.1.2;omega⟩)
theorem implB_evs (a0 a1:Bool) (a2 a3 a4:Int) (l:List Rc) (hl:smallRs l):Evs (fun k=>Qd.f k a0 a1 a2 a3 a4 l) (fun b=>b=true↔VB a1 a2 a3 a4 l):=by
 have hj:=implB_j0 a0 a1 a2 a3 a4 l hl
 unfold Qd.f VB
 by_cases h:a2=255
 ·simp only [if_pos h]
  by_cases h3:a3=0
  ·simp only [if_pos h3]
   by_cases h4:a4=0
   ·simp only [if_pos h4]
    cases a1 with
    | true=>
     simp only [if_true]
     exact Evs.done (by simp)
    | false=>
     simp only [Bool.false_eq_true,if_false]
     refine hj.mono fun b hb=>?_
     rw [hb]
     exact ⟨fun h2=>⟨⟨h3,h4,trivial⟩,h2.1,(fun h5=>h5.elim),h2.2.2⟩,fun h2=>⟨h2.2.1,(fun h5=>by cases h5),h2.2.2.2⟩⟩
   ·simp only [if_neg h4]
    exact Evs.done (by simp only [Bool.false_eq_true,false_iff];exact fun h2=>h4 h2.1.2.1)
  ·simp only [if_neg h3]
   exact Evs.done (by simp only [Bool.false_eq_true,false_iff];exact fun h2=>h3 h2.1.1)
 ·simp only [if_neg h,idValid_eqB,Ri,bsome,decide_eq_true_eq]
  by_cases h2 : 0≤a2∧a2≤254
  ·simp only [if_pos h2]
   by_cases h3 : 0≤a3∧a3≤99
   ·simp only [if_pos h3]
    by_cases h4 : 0≤a4∧a4≤9999
    ·simp only [if_pos h4]
     refine hj.mono fun b hb=>?_
     rw [hb]
     exact ⟨fun h5=>⟨⟨h2,h3,h4⟩,h5⟩,fun h5=>h5.2⟩
    ·simp only [if_neg h4]
     exact Evs.done (by simp only [Bool.false_eq_true,false_iff];exact fun h5=>h4 h5.1.2.2)
   ·simp only [if_neg h3]
    exact Evs.done (by simp only [Bool.false_eq_true,false_iff];exact fun h5=>h3 h5.1.2.1)
  ·simp only [if_neg h2]
   exact Evs.done (by simp only [Bool.false_eq_true,false_iff];exact fun h5=>h2 h5.1.1)
theorem specB_j0_true (a0 a1:Bool) (a2 a3 a4:Int) (l:List Rc):Evs (fun k=>Qh.j0 k true a0 a1 a2 a3 a4 l) (fun b=>b=false):=by
 refine Evs.succ ?_
 simp only [Qh.j0,if_true]
 exact Evs.done rfl
theorem specB_evs (a0 a1:Bool) (a2 a3 a4:Int) (l:List Rc) (hl:smallRs l):Evs (fun k=>Qh.f k a0 a1 a2 a3 a4 l) (fun b=>b=true↔VB a1 a2 a3 a4 l):=by
 have hr:=specRecs_loop l hl l.length 0 (by omega) (by omega)
 have no:∀ {P:Prop},¬ P→∀ b:Bool,b=false→(b=true↔P):=fun hP b hb=>by rw [hb];simp only [Bool.false_eq_true,false_iff];exact hP
 unfold Qh.f
 unfold Qk.f
 refine Evs.bind hr ?_
 intro t ht
 by_cases h:t=true
 ·obtain ⟨hRF,hl1⟩:=ht.1 h
  simp only [if_pos h,spec_l6In_eq,bsome,decide_eq_true_eq]
  by_cases h2 : 0≤a2∧a2≤255
  ·simp only [if_pos h2]
   by_cases h3 : 0≤a3∧a3≤99
   ·simp only [if_pos h3]
    by_cases h4 : 0≤a4∧a4≤9999
    ·simp only [decide_eq_true h4,Bool.not_true]
     refine Evs.succ ?_
     simp only [Qh.j0,Bool.false_eq_true,if_false]
     unfold VB
     by_cases h5:a2=255
     ·simp only [if_pos h5]
      by_cases h6:a3=0
      ·simp only [if_pos h6]
       by_cases h7:a4=0
       ·simp only [if_pos h7]
        refine Evs.done ?_
        cases a1
        ·simp;exact ⟨⟨h6,h7⟩,hl1,hRF⟩
        ·simp
       ·simp only [if_neg h7]
        exact Evs.done (no (fun h8=>h7 h8.1.2.1) _ rfl)
      ·simp only [if_neg h6]
       exact Evs.done (no (fun h8=>h6 h8.1.1) _ rfl)
     ·simp only [if_neg h5]
      cases a1 with
      | true=>
       simp only [if_true]
       refine Evs.done ?_
       simp only [beq_iff_eq]
       exact ⟨fun h8=>⟨⟨by omega,h3,h4⟩,hl1,fun _=>by omega,hRF⟩,fun h8=>by have:=h8.2.2.1 trivial;omega⟩
      | false=>
       simp only [Bool.false_eq_true,if_false]
       refine Evs.done ?_
       simp only [true_iff]
       exact ⟨⟨by omega,h3,h4⟩,hl1,(fun h8=>h8.elim),hRF⟩
    ·simp only [decide_eq_false h4,Bool.not_false]
     refine (specB_j0_true a0 a1 a2 a3 a4 l).mono (no ?_)
     unfold VB
     split
     ·rintro ⟨⟨_,h8,_⟩,_⟩
      exact h4 (by omega)
     ·exact fun h8=>h4 h8.1.2.2
   ·simp only [if_neg h3]
    refine (specB_j0_true a0 a1 a2 a3 a4 l).mono (no ?_)
    unfold VB
    split
    ·rintro ⟨⟨h8,_,_⟩,_⟩
     exact h3 (by omega)
    ·exact fun h8=>h3 h8.1.2.1
  ·simp only [if_neg h2]
   refine (specB_j0_true a0 a1 a2 a3 a4 l).mono (no ?_)
   unfold VB
   split
   ·rename_i h8
    exact fun _=>h2 (by omega)
   ·exact fun h8=>h2 (by have:=h8.1.1;omega)
 ·simp only [if_neg h]
  refine (specB_j0_true a0 a1 a2 a3 a4 l).mono (no ?_)
  exact fun h8=>h (ht.2 ⟨h8.2.2.2,h8.2.1⟩)
open Classical in
noncomputable def vb (a1:Bool) (a2 a3 a4:Int) (l:List Rc):Bool:=decide (VB a1 a2 a3 a4 l)
theorem vb_iff (a1:Bool) (a2 a3 a4:Int) (l:List Rc):vb a1 a2 a3 a4 l=true↔VB a1 a2 a3 a4 l:=by unfold vb;simp
theorem implB (a0 a1:Bool) (a2 a3 a4:Int) (l:List Rc) (hl:smallRs l):Ev (fun k=>Qd.f k a0 a1 a2 a3 a4 l) (vb a1 a2 a3 a4 l):=by
 obtain ⟨b,hb,h⟩:=implB_evs a0 a1 a2 a3 a4 l hl
 rw [show vb a1 a2 a3 a4 l=b by rw [Bool.eq_iff_iff,vb_iff,h]]
 exact hb
theorem specB (a0 a1:Bool) (a2 a3 a4:Int) (l:List Rc) (hl:smallRs l):Ev (fun k=>Qh.f k a0 a1 a2 a3 a4 l) (vb a1 a2 a3 a4 l):=by
 obtain ⟨b,hb,h⟩:=specB_evs a0 a1 a2 a3 a4 l hl
 rw [show vb a1 a2 a3 a4 l=b by rw [Bool.eq_iff_iff,vb_iff,h]]
 exact hb
theorem bytes_of {l:List Int} (h:∀ x∈l,(Lit.int .u8 x).wf=true):Bytes l:=by
 intro x hx
 have:=h x hx
 simp [Lit.wf,IntKind.min,IntKind.max,IntKind.signed,IntKind.bits] at this
 omega
theorem open_ev (l:List Int) (h:Bytes l):∃ b,Rh.f l=some (b,0)∧Bytes b∧b.length≤2000:=by
 unfold Rh.f
 by_cases hc:(l.length:Int) > 2000
 ·rw [if_pos hc,if_pos (by omega)]
  exact ⟨_,rfl,fun x hx=>h x (List.mem_of_mem_take hx),by rw [length_take];omega⟩
 ·rw [if_neg hc]
  exact ⟨_,rfl,h,by omega⟩
theorem lim2 {n c:Nat} (h:n≤2000) (hc : 2000 < c):n < c:=by omega
theorem part_loop (bs:List Int) (hb:Bytes bs) (hl:bs.length≤2000):∀ (d:Nat) (l:List Int) (n i p:Int),n - i≤d→0≤i→(l.length:Int)≤i→(l.length:Int)≤12→n≤12→0≤p→p+2 * d≤900000000 →
  Evs (fun k=>Ql.l0 k l n i bs p) (fun r=>r.2.1.length≤12∧p≤r.2.2∧r.2.2≤p+2 * d):=by
 intro d
 induction d with
 | zero=>
  intro l n i p hd hi hll h12 hn h0 h1
  refine Evs.succ ?_
  simp only [Ql.l0,if_neg (show ¬ i < n by omega)]
  exact Evs.done ⟨by dsimp only;omega,by dsimp only;omega,by dsimp only;omega⟩
 | succ d ih=>
  intro l n i p hd hi hll h12 hn h0 h1
  refine Evs.succ ?_
  by_cases hlt:i < n
  ·have e1:wrap64 (i+1)=i+1:=wrap_id (by omega) (by omega)
   simp only [Ql.l0,if_pos hlt,bsome,e1]
   refine Evs.bind (pick_evs bs p 256 hb hl h0 (by omega) (by omega)) ?_
   rintro ⟨u,_⟩ ⟨u0,u1,rfl⟩
   refine Evs.bind (pick_evs bs (p+1) 4 hb hl (by omega) (by omega) (by omega)) ?_
   rintro ⟨v,_⟩ ⟨v0,v1,rfl⟩
   simp only [if_pos v0,if_pos (show v < (([1,2,3,u]:List Int).length:Int) from v1),if_pos (show l.length < 17592186044416 from lim2 (by omega) (by omega))]
   have h:=ih (l ++ [rd [1,2,3,u] v]) n (i+1) (p+1+1) (by omega) (by omega) (by simp;omega) (by simp;omega) hn (by omega) (by omega)
   exact h.mono (fun r hr=>⟨hr.1,by have:=hr.2.1;omega,by have:=hr.2.2;omega⟩)
  ·simp only [Ql.l0,if_neg hlt]
   exact Evs.done ⟨by dsimp only;omega,by dsimp only;omega,by dsimp only;omega⟩
theorem part_evs (bs:List Int) (hb:Bytes bs) (hl:bs.length≤2000) (p:Int) (h0 : 0≤p) (h1:p≤800000000):Evs (fun k=>Ql.f k bs p) (fun r=>r.2.1.length≤12∧p≤r.2.2∧r.2.2≤p+30):=by
 unfold Ql.f
 refine Evs.bind (pick_evs bs p 4 hb hl h0 (by omega) (by omega)) ?_
 rintro ⟨u,_⟩ ⟨u0,u1,rfl⟩
 by_cases hu:u=0
 ·simp only [if_pos hu]
  exact Evs.done ⟨by simp,by dsimp only;omega,by dsimp only;omega⟩
 ·simp only [if_neg hu,bsome]
  refine Evs.bind (pick_evs bs (p+1) 5 hb hl (by omega) (by omega) (by omega)) ?_
  rintro ⟨v,_⟩ ⟨v0,v1,rfl⟩
  refine Evs.bind (pick_evs bs (p+1+1) 12 hb hl (by omega) (by omega) (by omega)) ?_
  rintro ⟨x,_⟩ ⟨x0,x1,rfl⟩
  by_cases hx:x=0
  ·simp only [if_pos hx]
   refine Evs.succ ?_
   simp only [Ql.j0]
   have h:=part_loop bs hb hl 12 [] 12 0 (p+1+1+1) (by omega) (by omega) (by simp) (by simp) (by omega) (by omega) (by omega)
   exact h.mono (fun r hr=>⟨hr.1,by have:=hr.2.1;omega,by have:=hr.2.2;omega⟩)
  ·simp only [if_neg hx]
   refine Evs.succ ?_
   simp only [Ql.j0]
   have h:=part_loop bs hb hl 12 [] v 0 (p+1+1+1) (by omega) (by omega) (by simp) (by simp) (by omega) (by omega) (by omega)
   exact h.mono (fun r hr=>⟨hr.1,by have:=hr.2.1;omega,by have:=hr.2.2;omega⟩)
def drawnR (n:Nat) (l:List Rc):Prop:=l.length≤n∧∀ r∈l,r.f3.length≤12∧r.f5.length≤12
theorem drawnR_add {n:Nat} {l:List Rc} (h:drawnR n l) {r:Rc} (h3:r.f3.length≤12) (h5:r.f5.length≤12):drawnR (n+1) (l ++ [r]):=by
 refine ⟨by have:=h.1;simp;omega,fun x hx=>?_⟩
 rcases List.mem_append.1 hx with hx|hx
 ·exact h.2 x hx
 ·rw [List.mem_singleton.1 hx]
  exact ⟨h3,h5⟩
theorem drawnR_mono {n m:Nat} {l:List Rc} (h:drawnR n l) (hm:n≤m):drawnR m l:=⟨by have:=h.1;omega,h.2⟩
theorem recs_loop (bs:List Int) (hb:Bytes bs) (hl:bs.length≤2000) (n:Int) (hn:n≤100):∀ (d:Nat) (o:Int) (l:List Rc) (t i p:Int),n - i≤d→0≤i→drawnR i.toNat l→(0 < i→0 < l.length)→0≤p→p+70 * d≤700000000 →
  Evs (fun k=>Qf.l0 k o l n t i bs p) (fun r=>drawnR (max i n).toNat r.1∧(0 < max i n→0 < r.1.length)∧p≤r.2∧r.2≤p+70 * d):=by
 intro d
 induction d with
 | zero=>
  intro o l t i p hd hi hll hpos h0 h1
  refine Evs.succ ?_
  simp only [Qf.l0,if_neg (show ¬ i < n by omega)]
  exact Evs.done ⟨by dsimp only;exact drawnR_mono hll (by omega),by dsimp only;intro h;exact hpos (by omega),by dsimp only;omega,by dsimp only;omega⟩
 | succ d ih=>
  intro o l t i p hd hi hll hpos h0 h1
  refine Evs.succ ?_
  by_cases hlt:i < n
  ·have e1:wrap64 (i+1)=i+1:=wrap_id (by omega) (by omega)
   have hlen:=hll.1
   simp only [Qf.l0,if_pos hlt]
   refine Evs.bind (part_evs bs hb hl p h0 (by omega)) ?_
   rintro ⟨kh,kl,p1⟩ ⟨hk,q0,q1⟩
   dsimp only at hk q0 q1 ⊢
   refine Evs.bind (part_evs bs hb hl p1 (by omega) (by omega)) ?_
   rintro ⟨vh,vl,p2⟩ ⟨hv,q2,q3⟩
   dsimp only at hv q2 q3 ⊢
   have main:∀ (c:Bool) (q:Int),0≤q→p≤q→q≤p2+1→Evs (fun k=>Qf.j1 k o l n t i vh vl c bs q o t kh kl false) (fun r=>drawnR (max i n).toNat r.1∧(0 < max i n→0 < r.1.length)∧p≤r.2∧r.2≤p+70 * (d+1:Nat)):=by
    intro c q hq0 hq1 hq2
    refine Evs.succ ?_
    have hlim:l.length < 1759218604441:=lim2 (by omega) (by omega)
    cases c with
    | true=>
     simp only [Qf.j1,if_true,if_pos hlim,e1]
     refine Evs.bind (pick_evs bs q 3 hb hl (by omega) (by omega) (by omega)) ?_
     rintro ⟨u,_⟩ ⟨u0,u1,rfl⟩
     refine Evs.bind (pick_evs bs (q+1) 5 hb hl (by omega) (by omega) (by omega)) ?_
     rintro ⟨v,_⟩ ⟨v0,v1,rfl⟩
     refine Evs.bind (pick_evs bs (q+1+1) 30 hb hl (by omega) (by omega) (by omega)) ?_
     rintro ⟨x,_⟩ ⟨x0,x1,rfl⟩
     have h:=ih (wrap64 (wrap64 (o+1)+wrap64 (Int.tdiv v 4))) (l ++ [⟨o,t,kh,[u],vh,vl⟩]) (mx (wrap64 (wrap64 (t+x) - 6)) 0) (i+1) (q+1+1+1) (by omega) (by omega) (drawnR_mono (drawnR_add hll (by simp) hv) (by omega)) (fun _=>by simp) (by omega) (by omega)
     rw [show max (i+1) n=max i n by omega] at h
     exact h.mono (fun r hr=>⟨hr.1,hr.2.1,by have:=hr.2.2.1;omega,by have:=hr.2.2.2;omega⟩)
    | false=>
     simp only [Qf.j1,Bool.false_eq_true,if_false,if_pos hlim,e1]
     refine Evs.bind (pick_evs bs q 5 hb hl (by omega) (by omega) (by omega)) ?_
     rintro ⟨v,_⟩ ⟨v0,v1,rfl⟩
     refine Evs.bind (pick_evs bs (q+1) 30 hb hl (by omega) (by omega) (by omega)) ?_
     rintro ⟨x,_⟩ ⟨x0,x1,rfl⟩
     have h:=ih (wrap64 (wrap64 (o+1)+wrap64 (Int.tdiv v 4))) (l ++ [⟨o,t,kh,kl,vh,vl⟩]) (mx (wrap64 (wrap64 (t+x) - 6)) 0) (i+1) (q+1+1) (by omega) (by omega) (drawnR_mono (drawnR_add hll hk hv) (by omega)) (fun _=>by simp) (by omega) (by omega)
     rw [show max (i+1) n=max i n by omega] at h
     exact h.mono (fun r hr=>⟨hr.1,hr.2.1,by have:=hr.2.2.1;omega,by have:=hr.2.2.2;omega⟩)
   by_cases hkh:kh=true
   ·simp only [if_pos hkh]
    refine Evs.bind (pick_evs bs p2 2 hb hl (by omega) (by omega) (by omega)) ?_
    rintro ⟨u,_⟩ ⟨u0,u1,rfl⟩
    exact main (u==0) (p2+1) (by omega) (by omega) (by omega)
   ·simp only [if_neg hkh]
    exact main false p2 (by omega) (by omega) (by omega)
  ·simp only [Qf.l0,if_neg hlt]
   exact Evs.done ⟨by dsimp only;exact drawnR_mono hll (by omega),by dsimp only;intro h;exact hpos (by omega),by dsimp only;omega,by dsimp only;omega⟩
theorem recs_evs (bs:List Int) (hb:Bytes bs) (hl:bs.length≤2000) (p o m:Int) (h0 : 0≤p) (h1:p≤600000000) (hm : 1≤m) (hm2:m≤10):Evs (fun k=>Qf.f k bs p o m) (fun r=>drawnR m.toNat r.1∧0 < r.1.length∧p≤r.2∧r.2≤p+800):=by
 unfold Qf.f
 refine Evs.bind (pick_evs bs p m hb hl h0 (by omega) hm) ?_
 rintro ⟨u,_⟩ ⟨u0,u1,rfl⟩
 refine Evs.bind (pick_evs bs (p+1) 200 hb hl (by omega) (by omega) (by omega)) ?_
 rintro ⟨v,_⟩ ⟨v0,v1,rfl⟩
 simp only [show wrap64 (1+u)=1+u from wrap_id (by omega) (by omega)]
 have h:=recs_loop bs hb hl (1+u) (by omega) 10 o [] v 0 (p+1+1) (by omega) (by omega) ⟨by simp,fun r hr=>by cases hr⟩ (fun h=>by omega) (by omega) (by omega)
 exact h.mono (fun r hr=>⟨drawnR_mono hr.1 (by omega),hr.2.1 (by omega),by have:=hr.2.2.1;omega,by have:=hr.2.2.2;omega⟩)
def drawnB (p:Int) (c:Int) (r:Bool×Bool×Int×Int×Int×List Rc×Int):Prop:=drawnR 5 r.2.2.2.2.2.1∧0 < r.2.2.2.2.2.1.length∧p≤r.2.2.2.2.2.2∧r.2.2.2.2.2.2≤p+c∧0≤r.2.2.1
theorem batch_j0 (bs:List Int) (hb:Bytes bs) (hl:bs.length≤2000) (p:Int) (h0 : 0≤p) (h1:p≤600000000) (a0 a1:Bool) (a2 a3 a4:Int) (l:List Rc) (hd:drawnR 4 l) (hpos : 0 < l.length) (ha2 : 0≤a2):Evs (fun k=>Qe.j0 k bs p a0 a1 a2 a3 a4 l) (drawnB p 2):=by
 have hlen:=hd.1
 refine Evs.succ ?_
 simp only [Qe.j0]
 refine Evs.bind (pick_evs bs p 40 hb hl h0 (by omega) (by omega)) ?_
 rintro ⟨u,_⟩ ⟨u0,u1,rfl⟩
 by_cases hu:u=0
 ·simp only [if_pos hu,bsome]
  refine Evs.bind (pick_evs bs (p+1) 3 hb hl (by omega) (by omega) (by omega)) ?_
  rintro ⟨v,_⟩ ⟨v0,v1,rfl⟩
  simp only [if_pos v0,if_pos (show v < (([(-1),1,100]:List Int).length:Int) from v1)]
  exact Evs.done ⟨drawnR_mono hd (by omega),hpos,by dsimp only;omega,by dsimp only;omega,ha2⟩
 ·simp only [if_neg hu]
  by_cases hu1:u=1
  ·simp only [if_pos hu1,if_pos (show 0 < (l.length:Int) by omega),if_pos (show l.length < 1759218604441 from lim2 (by omega) (by omega))]
   have h0m:Qb l 0∈l:=by
    show rr l ((0:Nat):Int)∈l
    rw [rr_nat l 0 hpos]
    exact List.getElem_mem hpos
   exact Evs.done ⟨drawnR_add hd (hd.2 _ h0m).1 (hd.2 _ h0m).2,by simp,by dsimp only;omega,by dsimp only;omega,ha2⟩
  ·simp only [if_neg hu1]
   by_cases hu2:u=2
   ·simp only [if_pos hu2]
    exact Evs.done ⟨drawnR_mono hd (by omega),hpos,by dsimp only;omega,by dsimp only;omega,ha2⟩
   ·simp only [if_neg hu2]
    exact Evs.done ⟨drawnR_mono hd (by omega),hpos,by dsimp only;omega,by dsimp only;omega,ha2⟩
theorem drawnB_mono {p q c c' : Int} {r:Bool×Bool×Int×Int×Int×List Rc×Int} (h:drawnB p c r) (h1:q≤p) (h2:p+c≤q+c'):drawnB q c' r:=⟨h.1,h.2.1,by have:=h.2.2.1;omega,by have:=h.2.2.2.1;omega,h.2.2.2.2⟩
theorem batch_evs (bs:List Int) (hb:Bytes bs) (hl:bs.length≤2000) (p o:Int) (h0 : 0≤p) (h1:p≤500000000):Evs (fun k=>Qe.f k bs p o) (drawnB p 900):=by
 unfold Qe.f
 refine Evs.bind (pick_evs bs p 2 hb hl h0 (by omega) (by omega)) ?_
 rintro ⟨u,_⟩ ⟨u0,u1,rfl⟩
 refine Evs.bind (recs_evs bs hb hl (p+1) o 4 (by omega) (by omega) (by omega) (by omega)) ?_
 rintro ⟨l,q⟩ ⟨hd,hpos,q0,q1⟩
 dsimp only at hd hpos q0 q1 ⊢
 refine Evs.bind (pick_evs bs q 3 hb hl (by omega) (by omega) (by omega)) ?_
 rintro ⟨v,_⟩ ⟨v0,v1,rfl⟩
 by_cases hv:v=0
 ·simp only [if_pos hv]
  refine Evs.bind (pick_evs bs (q+1) 3 hb hl (by omega) (by omega) (by omega)) ?_
  rintro ⟨x,_⟩ ⟨x0,x1,rfl⟩
  refine Evs.bind (pick_evs bs (q+1+1) 3 hb hl (by omega) (by omega) (by omega)) ?_
  rintro ⟨y,_⟩ ⟨y0,y1,rfl⟩
  refine Evs.bind (pick_evs bs (q+1+1+1) 5 hb hl (by omega) (by omega) (by omega)) ?_
  rintro ⟨z,_⟩ ⟨z0,z1,rfl⟩
  refine Evs.bind (pick_evs bs (q+1+1+1+1) 3 hb hl (by omega) (by omega) (by omega)) ?_
  rintro ⟨s,_⟩ ⟨s0,s1,rfl⟩
  by_cases hs:s=0
  ·simp only [if_pos hs]
   refine Evs.bind (pick_evs bs (q+1+1+1+1+1) 200 hb hl (by omega) (by omega) (by omega)) ?_
   rintro ⟨t,_⟩ ⟨t0,t1,rfl⟩
   refine Evs.bind (pick_evs bs (q+1+1+1+1+1+1) 2 hb hl (by omega) (by omega) (by omega)) ?_
   rintro ⟨e,_⟩ ⟨e0,e1,rfl⟩
   refine (batch_j0 bs hb hl _ (by omega) (by omega) _ _ _ _ _ _ ⟨by simp,fun r hr=>?_⟩ (by simp) x0).mono (fun r hr=>drawnB_mono hr (by omega) (by omega))
   rw [List.mem_singleton.1 hr]
   exact ⟨by simp,by simp⟩
  ·simp only [if_neg hs]
   exact (batch_j0 bs hb hl _ (by omega) (by omega) _ _ _ _ _ _ hd hpos (by omega)).mono (fun r hr=>drawnB_mono hr (by omega) (by omega))
 ·simp only [if_neg hv]
  exact (batch_j0 bs hb hl _ (by omega) (by omega) _ _ _ _ _ _ hd hpos (by omega)).mono (fun r hr=>drawnB_mono hr (by omega) (by omega))
theorem sameInts_loop (a b:List Int) (hl:a.length=b.length) (hs:a.length≤1000000000000000):∀ (d i:Nat),a.length - i=d→i≤a.length→Ev (fun k=>Qq.l0 k a b (i:Int)) (decide (a.drop i=b.drop i)):=by
 intro d
 induction d with
 | zero=>
  intro i hd hi
  rw [show a.drop i = [] from List.drop_eq_nil_of_le (by omega),show b.drop i = [] from List.drop_eq_nil_of_le (by omega)]
  refine ev_succ ?_
  simp only [Qq.l0,if_neg (show ¬ (i:Int) < (a.length:Int) by omega),decide_true]
  exact ev_some _
 | succ d ih=>
  intro i hd hi
  have hlt:(i:Int) < (a.length:Int):=by omega
  have e1:wrap64 ((i:Int)+1)=((i+1:Nat):Int):=by rw [wrap_id (by omega) (by omega)];omega
  rw [drop_int (show i < a.length by omega),drop_int (show i < b.length by omega)]
  refine ev_succ ?_
  simp only [Qq.l0,if_pos hlt,if_pos (show (0:Int)≤i by omega),if_pos (show (i:Int) < (b.length:Int) by omega),e1]
  by_cases h0:rd a i=rd b i
  ·simp only [if_pos h0]
   have:=ih (i+1) (by omega) (by omega)
   simpa [h0] using this
  ·simp only [if_neg h0]
   rw [decide_eq_false (by simp [h0])]
   exact ev_some _
theorem sameInts (a b:List Int) (hs:a.length≤1000000000000000):Ev (fun k=>Qq.f k a b) (decide (a=b)):=by
 unfold Qq.f
 by_cases h:(a.length:Int)=(b.length:Int)
 ·simp only [if_pos h]
  have:=sameInts_loop a b (by omega) hs a.length 0 (by omega) (by omega)
  simpa using this
 ·simp only [if_neg h]
  rw [decide_eq_false (fun e=>h (by rw [e]))]
  exact ev_some _
theorem Rc_ext {a b:Rc} (h0:a.f0=b.f0) (h1:a.f1=b.f1) (h2:a.f2=b.f2) (h3:a.f3=b.f3) (h4:a.f4=b.f4) (h5:a.f5=b.f5):a=b:=by
 cases a
 cases b
 simp_all
instance:DecidableEq Rc:=fun a b=>decidable_of_iff (a.f0=b.f0∧a.f1=b.f1∧a.f2=b.f2∧a.f3=b.f3∧a.f4=b.f4∧a.f5=b.f5) ⟨fun h=>Rc_ext h.1 h.2.1 h.2.2.1 h.2.2.2.1 h.2.2.2.2.1 h.2.2.2.2.2,fun h=>by rw [h];simp⟩
theorem sameRec (a b:Rc) (hs:smallR a):Ev (fun k=>Rf.f k a.f0 a.f1 a.f2 a.f3 a.f4 a.f5 b.f0 b.f1 b.f2 b.f3 b.f4 b.f5) (decide (a=b)):=by
 unfold Rf.f
 by_cases h0:a.f0=b.f0
 ·by_cases h1:a.f1=b.f1
  ·by_cases h2:a.f2=b.f2
   ·by_cases h4:a.f4=b.f4
    ·simp only [if_pos h0,if_pos h1,if_pos (show (a.f2==b.f2)=true by simpa using h2),if_pos (show (a.f4==b.f4)=true by simpa using h4)]
     refine Ev.bind (sameInts a.f3 b.f3 hs.1) ?_
     by_cases h3:a.f3=b.f3
     ·simp only [if_pos (decide_eq_true h3)]
      refine Ev.bind (sameInts a.f5 b.f5 hs.2) ?_
      by_cases h5:a.f5=b.f5
      ·rw [decide_eq_true h5,decide_eq_true (Rc_ext h0 h1 h2 h3 h4 h5)]
       exact ev_some _
      ·rw [decide_eq_false h5,decide_eq_false (fun e=>h5 (by rw [e]))]
       exact ev_some _
     ·simp only [decide_eq_false h3,Bool.false_eq_true,if_false]
      rw [decide_eq_false (fun e=>h3 (by rw [e]))]
      exact ev_some _
    ·simp only [if_pos h0,if_pos h1,if_pos (show (a.f2==b.f2)=true by simpa using h2),if_neg (show ¬ (a.f4==b.f4)=true by simpa using h4)]
     rw [decide_eq_false (fun e=>h4 (by rw [e]))]
     exact ev_some _
   ·simp only [if_pos h0,if_pos h1,if_neg (show ¬ (a.f2==b.f2)=true by simpa using h2)]
    rw [decide_eq_false (fun e=>h2 (by rw [e]))]
    exact ev_some _
  ·simp only [if_pos h0,if_neg h1]
   rw [decide_eq_false (fun e=>h1 (by rw [e]))]
   exact ev_some _
 ·simp only [if_neg h0]
  rw [decide_eq_false (fun e=>h0 (by rw [e]))]
  exact ev_some _
theorem drop_rec {l:List Rc} {i:Nat} (h:i < l.length):l.drop i=rr l i::l.drop (i+1):=by
 rw [List.drop_eq_getElem_cons h,rr_nat l i h]
theorem sameRecs_loop (a b:List Rc) (hl:a.length=b.length) (hs:smallRs a):∀ (d i:Nat),a.length - i=d→i≤a.length→Ev (fun k=>Qi.l0 k a b (i:Int)) (decide (a.drop i=b.drop i)):=by
 have hlen:=hs.1
 intro d
 induction d with
 | zero=>
  intro i hd hi
  rw [show a.drop i = [] from List.drop_eq_nil_of_le (by omega),show b.drop i = [] from List.drop_eq_nil_of_le (by omega)]
  refine ev_succ ?_
  simp only [Qi.l0,if_neg (show ¬ (i:Int) < (a.length:Int) by omega),decide_true]
  exact ev_some _
 | succ d ih=>
  intro i hd hi
  have hlt:(i:Int) < (a.length:Int):=by omega
  have e1:wrap64 ((i:Int)+1)=((i+1:Nat):Int):=by rw [wrap_id (by omega) (by omega)];omega
  rw [drop_rec (show i < a.length by omega),drop_rec (show i < b.length by omega)]
  refine ev_succ ?_
  simp only [Qi.l0,if_pos hlt,if_pos (show (0:Int)≤i by omega),if_pos (show (i:Int) < (b.length:Int) by omega),e1]
  refine Ev.bind (sameRec (rr a i) (rr b i) (smallRs_at hs i (by omega))) ?_
  by_cases h0:rr a i=rr b i
  ·simp only [if_pos (decide_eq_true h0)]
   have:=ih (i+1) (by omega) (by omega)
   simpa [h0] using this
  ·simp only [decide_eq_false h0,Bool.false_eq_true,if_false]
   rw [decide_eq_false (by simp [h0])]
   exact ev_some _
theorem sameRecs (a b:List Rc) (hs:smallRs a):Ev (fun k=>Qi.f k a b) (decide (a=b)):=by
 unfold Qi.f
 by_cases h:(a.length:Int)=(b.length:Int)
 ·simp only [if_pos h]
  have:=sameRecs_loop a b (by omega) hs a.length 0 (by omega) (by omega)
  simpa using this
 ·simp only [if_neg h]
  rw [decide_eq_false (fun e=>h (by rw [e]))]
  exact ev_some _
theorem clone_eq (l:List Int) (h:l.length≤1048576):slices_Clone_int_int.f l=some l:=by
 unfold slices_Clone_int_int.f
 rw [if_pos (by omega)]
def okc (r:Rc):Prop:=r.f3.length≤1048576∧r.f5.length≤1048576
theorem copyRec (r:Rc) (h:okc r):Rb.f r.f0 r.f1 r.f2 r.f3 r.f4 r.f5=some (r.f0,r.f1,r.f2,r.f3,r.f4,r.f5):=by
 unfold Rb.f
 rw [clone_eq _ h.1,bsome,clone_eq _ h.2,bsome]
theorem take_snoc {α:Type} (l:List α) (i:Nat) (h:i < l.length):l.take i ++ [l[i]]=l.take (i+1):=by
 rw [List.take_add_one,List.getElem?_eq_getElem h]
 rfl
theorem copyRecs_loop (l:List Rc) (hl:l.length≤1048576) (hx:∀ r∈l,okc r):∀ (d i:Nat),l.length - i=d→i≤l.length→Ev (fun k=>Qn.l0 k (l.take i) l (l.length:Int) (i:Int)) l:=by
 intro d
 induction d with
 | zero=>
  intro i hd hi
  refine ev_succ ?_
  simp only [Qn.l0,if_neg (show ¬ (i:Int) < (l.length:Int) by omega)]
  rw [List.take_of_length_le (by omega)]
  exact ev_some _
 | succ d ih=>
  intro i hd hi
  have hlt:i < l.length:=by omega
  have e1:wrap64 ((i:Int)+1)=((i+1:Nat):Int):=by rw [wrap_id (by omega) (by omega)];omega
  have hr:Qb l (i:Int)=l[i]:=rr_nat l i hlt
  have next:=ih (i+1) (by omega) (by omega)
  refine ev_succ ?_
  simp only [Qn.l0,if_pos (show (i:Int) < (l.length:Int) by omega),if_pos (show (0:Int)≤(i:Int) by omega),e1,hr,copyRec l[i] (hx _ (List.getElem_mem hlt)),bsome,if_pos (show (l.take i).length < 1759218604441 by rw [length_take];omega)]
  rw [← take_snoc l i hlt] at next
  exact next
theorem copyRecs (l:List Rc) (hl:l.length≤1048576) (hx:∀ r∈l,okc r):Ev (fun k=>Qn.f k l) l:=by
 unfold Qn.f
 simp only [if_pos (show (0:Int)≤(l.length:Int) by omega),if_pos (show ((l.length:Int)).toNat≤3518437208883 by omega)]
 exact copyRecs_loop l hl hx l.length 0 (by omega) (by omega)
theorem l12Copy_eq (r:Rc) (h:okc r):Rk.f r.f0 r.f1 r.f2 r.f3 r.f4 r.f5=some (r.f0,r.f1,r.f2,r.f3,r.f4,r.f5):=by
 have h1:=h.1
 have h2:=h.2
 unfold Rk.f
 simp only [bsome,List.length_nil,Nat.zero_add,List.nil_append]
 rw [if_pos (by omega),if_pos (by omega)]
theorem sameBatch_self (b0 b1:Bool) (b2 b3 b4:Int) (b5:List Rc) (hb:smallRs b5):Ev (fun k=>Qt.f k b0 b1 b2 b3 b4 b5 b0 b1 b2 b3 b4 b5) true:=by
 unfold Qt.f
 simp only [beq_self_eq_true,if_true]
 have h:=sameRecs b5 b5 hb
 rw [decide_eq_true rfl] at h
 exact Ev.bind h (ev_some _)
def fewR (l:List Rc):Prop:=l.length≤5∧∀ r∈l,r.f3.length≤12∧r.f5.length≤12
theorem fewR_okc {l:List Rc} (h:fewR l):∀ r∈l,okc r:=fun r hr=>by have:=h.2 r hr;exact ⟨by omega,by omega⟩
theorem fewR_small {l:List Rc} (h:fewR l):smallRs l:=⟨by have:=h.1;omega,fun r hr=>by have:=h.2 r hr;exact ⟨by omega,by omega⟩⟩
theorem few2_small {l m:List Rc} (h:fewR l) (h2:fewR m):smallRs (l++m):=by
 refine ⟨by rw [List.length_append];have:=h.1;have:=h2.1;omega,fun r hr=>?_⟩
 rcases List.mem_append.1 hr with hr|hr
 ·exact (fewR_small h).2 r hr
 ·exact (fewR_small h2).2 r hr
open Classical in
noncomputable def cj (a0 a1:Bool) (a2 a3 a4:Int) (l:List Rc) (b0 b1:Bool) (b2 b3 b4:Int) (m:List Rc):Bool:=decide (VB a1 a2 a3 a4 l∧VB b1 b2 b3 b4 m∧a2=255∧b2=255∧a0=b0∧VB a1 a2 a3 a4 (l++m))
noncomputable def joinR (a0 a1:Bool) (a2 a3 a4:Int) (l:List Rc) (b0 b1:Bool) (b2 b3 b4:Int) (m:List Rc):Bool×Bool×Int×Int×Int×List Rc×Bool:=
 if cj a0 a1 a2 a3 a4 l b0 b1 b2 b3 b4 m=true then (a0,false,255,0,0,l++m,true) else (false,false,0,0,0,[],false)
theorem VB_free {a1:Bool} {a2 a3 a4:Int} {l:List Rc} (h:VB a1 a2 a3 a4 l) (h2:a2=255):a1=false∧a3=0∧a4=0:=by
 have:=h.1
 rw [if_pos h2] at this
 exact ⟨this.2.2,this.1,this.2.1⟩
theorem joinR_no {a0 a1:Bool} {a2 a3 a4:Int} {l:List Rc} {b0 b1:Bool} {b2 b3 b4:Int} {m:List Rc} (h:¬ (VB a1 a2 a3 a4 l∧VB b1 b2 b3 b4 m∧a2=255∧b2=255∧a0=b0∧VB a1 a2 a3 a4 (l++m))):joinR a0 a1 a2 a3 a4 l b0 b1 b2 b3 b4 m=(false,false,0,0,0,[],false):=by
 unfold joinR cj
 rw [if_neg (by simpa using h)]
theorem joinR_yes {a0 a1:Bool} {a2 a3 a4:Int} {l:List Rc} {b0 b1:Bool} {b2 b3 b4:Int} {m:List Rc} (h:VB a1 a2 a3 a4 l∧VB b1 b2 b3 b4 m∧a2=255∧b2=255∧a0=b0∧VB a1 a2 a3 a4 (l++m)):joinR a0 a1 a2 a3 a4 l b0 b1 b2 b3 b4 m=(a0,false,255,0,0,l++m,true):=by
 unfold joinR cj
 rw [if_pos (by simpa using h)]
theorem vb_no {a1:Bool} {a2 a3 a4:Int} {l:List Rc} (h:¬ VB a1 a2 a3 a4 l):vb a1 a2 a3 a4 l=false:=by rw [← Bool.not_eq_true,vb_iff];exact h
theorem vb_yes {a1:Bool} {a2 a3 a4:Int} {l:List Rc} (h:VB a1 a2 a3 a4 l):vb a1 a2 a3 a4 l=true:=(vb_iff _ _ _ _ _).2 h
theorem ijoin_true (a0 a1:Bool) (a2 a3 a4:Int) (l:List Rc) (b0 b1:Bool) (b2 b3 b4:Int) (m:List Rc):Ev (fun k=>Qg.j0 k true a0 a1 a2 a3 a4 l b0 b1 b2 b3 b4 m) (false,false,0,0,0,[],true):=by
 refine ev_succ ?_
 simp only [Qg.j0,if_true]
 exact ev_some _
theorem ijoin_false (a0 a1:Bool) (a2 a3 a4:Int) (l:List Rc) (b0 b1:Bool) (b2 b3 b4:Int) (m:List Rc) (hl:fewR l) (hm:fewR m):Ev (fun k=>Qg.j0 k false a0 a1 a2 a3 a4 l b0 b1 b2 b3 b4 m) (if vb a1 a2 a3 a4 (l++m)=true then (a0,a1,a2,a3,a4,l++m,false) else (false,false,0,0,0,[],true)):=by
 have h1:=hl.1
 have h2:=hm.1
 refine ev_succ ?_
 simp only [Qg.j0,Bool.false_eq_true,if_false]
 refine Ev.bind (g:=fun k=>Ra.f k a0 a1 a2 a3 a4 l) (a:=(a0,a1,a2,a3,a4,l)) ?_ ?_
 ·unfold Ra.f
  exact Ev.bind (copyRecs l (by omega) (fewR_okc hl)) (ev_some _)
 refine Ev.bind (copyRecs m (by omega) (fewR_okc hm)) ?_
 simp only [if_pos (show l.length+m.length < 1759218604441 by omega),bsome]
 refine Ev.bind (implB a0 a1 a2 a3 a4 (l++m) (few2_small hl hm)) ?_
 by_cases hv:vb a1 a2 a3 a4 (l++m)=true
 ·simp only [if_pos hv]
  exact ev_some _
 ·simp only [if_neg hv]
  exact ev_some _
theorem implJoin (a0 a1:Bool) (a2 a3 a4:Int) (l:List Rc) (b0 b1:Bool) (b2 b3 b4:Int) (m:List Rc) (hl:fewR l) (hm:fewR m):Ev (fun k=>Qy.f k a0 a1 a2 a3 a4 l b0 b1 b2 b3 b4 m) (joinR a0 a1 a2 a3 a4 l b0 b1 b2 b3 b4 m):=by
 have ha:=implB a0 a1 a2 a3 a4 l (fewR_small hl)
 have hb:=implB b0 b1 b2 b3 b4 m (fewR_small hm)
 have hno:=ijoin_true a0 a1 a2 a3 a4 l b0 b1 b2 b3 b4 m
 have fin:∀ (x0 x1:Bool) (x2 x3 x4:Int) (x5:List Rc) (e:Bool),Ev (fun k=>Qg.f k a0 a1 a2 a3 a4 l b0 b1 b2 b3 b4 m) (x0,x1,x2,x3,x4,x5,e)→Ev (fun k=>Qy.f k a0 a1 a2 a3 a4 l b0 b1 b2 b3 b4 m) (if e=true then (false,false,0,0,0,[],false) else (x0,x1,x2,x3,x4,x5,true)):=by
  intro x0 x1 x2 x3 x4 x5 e h
  unfold Qy.f
  refine Ev.bind h ?_
  simp only [errors_Is.f,if_true,bsome]
  cases e
  ·exact ev_some _
  ·exact ev_some _
 by_cases h1:VB a1 a2 a3 a4 l
 ·by_cases h2:VB b1 b2 b3 b4 m
  ·by_cases h3:a2=255
   ·by_cases h4:b2=255
    ·by_cases h5:a0=b0
     ·have hf:=ijoin_false a0 a1 a2 a3 a4 l b0 b1 b2 b3 b4 m hl hm
      by_cases h6:VB a1 a2 a3 a4 (l++m)
      ·rw [joinR_yes ⟨h1,h2,h3,h4,h5,h6⟩]
       rw [if_pos (vb_yes h6)] at hf
       obtain ⟨f1,f3,f4⟩:=VB_free h1 h3
       have h:=fin a0 a1 a2 a3 a4 (l++m) false (by
        unfold Qg.f
        refine Ev.bind ha ?_
        simp only [vb_yes h1,if_true]
        refine Ev.bind hb ?_
        simp only [vb_yes h2,if_true,if_pos h3,if_pos h4,h5,bne_self_eq_false]
        rw [h5] at hf
        exact hf)
       rw [f1,f3,f4,h3] at h
       rw [f1,f3,f4,h3]
       exact h
      ·rw [joinR_no (fun h=>h6 h.2.2.2.2.2)]
       rw [if_neg (by rw [vb_no h6];simp)] at hf
       have h:=fin false false 0 0 0 [] true (by
        unfold Qg.f
        refine Ev.bind ha ?_
        simp only [vb_yes h1,if_true]
        refine Ev.bind hb ?_
        simp only [vb_yes h2,if_true,if_pos h3,if_pos h4,h5,bne_self_eq_false]
        rw [h5] at hf
        exact hf)
       exact h
     ·rw [joinR_no (fun h=>h5 h.2.2.2.2.1)]
      have hne:(a0 != b0)=true:=by simpa using h5
      exact fin false false 0 0 0 [] true (by
       unfold Qg.f
       refine Ev.bind ha ?_
       simp only [vb_yes h1,if_true]
       refine Ev.bind hb ?_
       simp only [vb_yes h2,if_true,if_pos h3,if_pos h4,hne]
       exact hno)
    ·rw [joinR_no (fun h=>h4 h.2.2.2.1)]
     exact fin false false 0 0 0 [] true (by
      unfold Qg.f
      refine Ev.bind ha ?_
      simp only [vb_yes h1,if_true]
      refine Ev.bind hb ?_
      simp only [vb_yes h2,if_true,if_pos h3,if_neg h4]
      exact hno)
   ·rw [joinR_no (fun h=>h3 h.2.2.1)]
    exact fin false false 0 0 0 [] true (by
     unfold Qg.f
     refine Ev.bind ha ?_
     simp only [vb_yes h1,if_true]
     refine Ev.bind hb ?_
     simp only [vb_yes h2,if_true,if_neg h3]
     exact hno)
  ·rw [joinR_no (fun h=>h2 h.2.1)]
   exact fin false false 0 0 0 [] true (by
    unfold Qg.f
    refine Ev.bind ha ?_
    simp only [vb_yes h1,if_true]
    refine Ev.bind hb ?_
    simp only [vb_no h2,Bool.false_eq_true,if_false]
    exact hno)
 ·rw [joinR_no (fun h=>h1 h.1)]
  exact fin false false 0 0 0 [] true (by
   unfold Qg.f
   refine Ev.bind ha ?_
   simp only [vb_no h1,Bool.false_eq_true,if_false]
   exact hno)
theorem free_loop (a0:Bool) (l:List Rc) (hl:l.length≤1048576) (hx:∀ r∈l,okc r):∀ (d i:Nat),l.length - i=d→i≤l.length→Ev (fun k=>Qm.l0 k l (i:Int) a0 false 255 0 0 (l.take i)) (a0,false,255,0,0,l):=by
 intro d
 induction d with
 | zero=>
  intro i hd hi
  refine ev_succ ?_
  simp only [Qm.l0,if_neg (show ¬ (i:Int) < (l.length:Int) by omega)]
  rw [List.take_of_length_le (by omega)]
  exact ev_some _
 | succ d ih=>
  intro i hd hi
  have hlt:i < l.length:=by omega
  have e1:wrap64 ((i:Int)+1)=((i+1:Nat):Int):=by rw [wrap_id (by omega) (by omega)];omega
  have hr:Qb l (i:Int)=l[i]:=rr_nat l i hlt
  have next:=ih (i+1) (by omega) (by omega)
  refine ev_succ ?_
  simp only [Qm.l0,if_pos (show (i:Int) < (l.length:Int) by omega),if_pos (show (0:Int)≤(i:Int) by omega),e1,hr,l12Copy_eq l[i] (hx _ (List.getElem_mem hlt)),bsome,if_pos (show (l.take i).length < 1759218604441 by rw [length_take];omega)]
  rw [← take_snoc l i hlt] at next
  exact next
theorem freeR (a0:Bool) (l:List Rc) (hl:l.length≤1048576) (hx:∀ r∈l,okc r):Ev (fun k=>Qm.f k a0 l) (a0,false,255,0,0,l):=by
 unfold Qm.f
 exact free_loop a0 l hl hx l.length 0 (by omega) (by omega)
theorem sjoin_true (a0 a1:Bool) (a2 a3 a4:Int) (l:List Rc) (b0 b1:Bool) (b2 b3 b4:Int) (m:List Rc):Ev (fun k=>Qj.j0 k true a0 a1 a2 a3 a4 l b0 b1 b2 b3 b4 m) (false,false,0,0,0,[],false):=by
 refine ev_succ ?_
 simp only [Qj.j0,if_true]
 exact ev_some _
theorem sjoin_false (a0 a1:Bool) (a2 a3 a4:Int) (l:List Rc) (b0 b1:Bool) (b2 b3 b4:Int) (m:List Rc) (hl:fewR l) (hm:fewR m):Ev (fun k=>Qj.j0 k false a0 a1 a2 a3 a4 l b0 b1 b2 b3 b4 m) (if vb false 255 0 0 (l++m)=true then (a0,false,255,0,0,l++m,true) else (false,false,0,0,0,[],false)):=by
 have h1:=hl.1
 have h2:=hm.1
 refine ev_succ ?_
 simp only [Qj.j0,Bool.false_eq_true,if_false,bsome,List.length_nil,Nat.zero_add,List.nil_append]
 simp only [if_pos (show l.length < 1759218604441 by omega),if_pos (show l.length+m.length < 1759218604441 by omega),bsome]
 have hlm:(l++m).length≤1048576:=by rw [List.length_append];omega
 refine Ev.bind (freeR a0 (l++m) hlm (fun r hr=>(List.mem_append.1 hr).elim (fewR_okc hl r) (fewR_okc hm r))) ?_
 refine Ev.bind (specB a0 false 255 0 0 (l++m) (few2_small hl hm)) ?_
 by_cases hv:vb false 255 0 0 (l++m)=true
 ·simp only [if_pos hv]
  exact ev_some _
 ·simp only [if_neg hv]
  exact ev_some _
theorem specJoin (a0 a1:Bool) (a2 a3 a4:Int) (l:List Rc) (b0 b1:Bool) (b2 b3 b4:Int) (m:List Rc) (hl:fewR l) (hm:fewR m):Ev (fun k=>Qj.f k a0 a1 a2 a3 a4 l b0 b1 b2 b3 b4 m) (joinR a0 a1 a2 a3 a4 l b0 b1 b2 b3 b4 m):=by
 have ha:=specB a0 a1 a2 a3 a4 l (fewR_small hl)
 have hb:=specB b0 b1 b2 b3 b4 m (fewR_small hm)
 have hno:=sjoin_true a0 a1 a2 a3 a4 l b0 b1 b2 b3 b4 m
 unfold Qj.f
 refine Ev.bind ha ?_
 by_cases h1:VB a1 a2 a3 a4 l
 ·simp only [vb_yes h1,if_true]
  refine Ev.bind hb ?_
  by_cases h2:VB b1 b2 b3 b4 m
  ·simp only [vb_yes h2,if_true]
   by_cases h3:a2=255
   ·by_cases h4:b2=255
    ·simp only [if_pos h3,if_pos h4]
     by_cases h5:a0=b0
     ·have hf:=sjoin_false a0 a1 a2 a3 a4 l b0 b1 b2 b3 b4 m hl hm
      obtain ⟨f1,f3,f4⟩:=VB_free h1 h3
      have he:(a0 != b0)=false:=by rw [h5];simp
      simp only [he]
      by_cases h6:VB a1 a2 a3 a4 (l++m)
      ·rw [joinR_yes ⟨h1,h2,h3,h4,h5,h6⟩]
       have h7:VB false 255 0 0 (l++m):=by rw [f1,f3,f4,h3] at h6;exact h6
       rw [if_pos (vb_yes h7)] at hf
       exact hf
      ·rw [joinR_no (fun h=>h6 h.2.2.2.2.2)]
       have h7:¬ VB false 255 0 0 (l++m):=by rw [f1,f3,f4,h3] at h6;exact h6
       rw [if_neg (by rw [vb_no h7];simp)] at hf
       exact hf
     ·rw [joinR_no (fun h=>h5 h.2.2.2.2.1)]
      have hne:(a0 != b0)=true:=by simpa using h5
      simp only [hne]
      exact hno
    ·rw [joinR_no (fun h=>h4 h.2.2.2.1)]
     simp only [if_pos h3,if_neg h4]
     exact hno
   ·rw [joinR_no (fun h=>h3 h.2.2.1)]
    simp only [if_neg h3]
    exact hno
  ·rw [joinR_no (fun h=>h2 h.2.1)]
   simp only [vb_no h2,Bool.false_eq_true,if_false]
   exact hno
 ·rw [joinR_no (fun h=>h1 h.1)]
  simp only [vb_no h1,Bool.false_eq_true,if_false]
  exact hno
theorem drawJoin {l0:List Int} (hb:Bytes l0):Evs (fun k=>Qo.f k l0) (fun r=>fewR r.2.2.2.2.2.1∧fewR r.2.2.2.2.2.2.2.2.2.2.2):=by
 obtain ⟨b,ho,hb2,hbl⟩:=open_ev l0 hb
 unfold Qo.f
 simp only [ho,bsome]
 refine Evs.bind (pick_evs b 0 20 hb2 hbl (by omega) (by omega) (by omega)) ?_
 rintro ⟨u,_⟩ ⟨u0,u1,rfl⟩
 refine Evs.bind (batch_evs b hb2 hbl (0+1) u (by omega) (by omega)) ?_
 rintro ⟨x0,x1,x2,x3,x4,x5,q⟩ ⟨hd,hpos,q0,q1,_⟩
 dsimp only at hd hpos q0 q1 ⊢
 have hlen:=hd.1
 have e1:wrap64 ((x5.length:Int) - 1)=(x5.length:Int) - 1:=wrap_id (by omega) (by omega)
 simp only [e1,if_pos (show 0≤(x5.length:Int) - 1 by omega),if_pos (show (x5.length:Int) - 1 < (x5.length:Int) by omega)]
 refine Evs.bind (pick_evs b q 3 hb2 hbl (by omega) (by omega) (by omega)) ?_
 rintro ⟨v,_⟩ ⟨v0,v1,rfl⟩
 refine Evs.bind (pick_evs b (q+1) 12 hb2 hbl (by omega) (by omega) (by omega)) ?_
 rintro ⟨x,_⟩ ⟨x0',x1',rfl⟩
 refine Evs.bind (batch_evs b hb2 hbl (q+1+1) _ (by omega) (by omega)) ?_
 rintro ⟨y0,y1,y2,y3,y4,y5,p⟩ ⟨hd2,hpos2,p0,p1,_⟩
 dsimp only at hd2 hpos2 p0 p1 ⊢
 refine Evs.bind (pick_evs b p 3 hb2 hbl (by omega) (by omega) (by omega)) ?_
 rintro ⟨z,_⟩ ⟨z0,z1,rfl⟩
 by_cases hz:z > 0
 ·simp only [if_pos hz]
  exact Evs.done ⟨hd,hd2⟩
 ·simp only [if_neg hz]
  exact Evs.done ⟨hd,hd2⟩
end Go.Proofs.YtlckpbjldmkibaaDoor.Q
namespace Go.Proofs.YtlckpbjldmkibaaDoor.Pure
open Go.RowKit Go.Proofs.YtlckpbjldmkibaaDoor.T Go.Proofs.YtlckpbjldmkibaaDoorW.PrintWords Go.Proofs.YtlckpbjldmkibaaDoorW.PrintLast Go.Proofs.YtlckpbjldmkibaaDoor.Q
set_option linter.unusedVariables false
set_option linter.unusedSimpArgs false
theorem FnJoin:laws_FnJoin.Pure:=by
 intro l0 _ _ hb0
 refine Ev.rounds ?_
 have hb:=bytes_of hb0
 unfold laws_FnJoin.f
 by_cases h:(l0.length:Int) > 1048576
 ·simp only [if_pos h]
  exact ev_some _
 ·simp only [if_neg h]
  obtain ⟨⟨a0,a1,a2,a3,a4,l,b0,b1,b2,b3,b4,m⟩,hd,hl,hm⟩:=drawJoin hb
  dsimp only at hl hm
  refine Ev.bind hd ?_
  have hi:=implJoin a0 a1 a2 a3 a4 l b0 b1 b2 b3 b4 m hl hm
  have hs:=specJoin a0 a1 a2 a3 a4 l b0 b1 b2 b3 b4 m hl hm
  by_cases hc:VB a1 a2 a3 a4 l∧VB b1 b2 b3 b4 m∧a2=255∧b2=255∧a0=b0∧VB a1 a2 a3 a4 (l++m)
  ·rw [joinR_yes hc] at hi hs
   obtain ⟨c1,c2,c3,c4,c5,c6⟩:=hc
   obtain ⟨f1,f3,f4⟩:=VB_free c1 c3
   refine Ev.bind hi ?_
   refine Ev.bind hs ?_
   simp only [bne_self_eq_false,Bool.false_eq_true,if_false]
   refine Ev.bind (sameBatch_self a0 false 255 0 0 (l++m) (few2_small hl hm)) ?_
   simp only [if_true,Bool.not_true]
   refine ev_succ ?_
   simp only [laws_FnJoin.j0,Bool.false_eq_true,if_false]
   have h7:VB false 255 0 0 (l++m):=by rw [f1,f3,f4,c3] at c6;exact c6
   refine Ev.bind (implB a0 false 255 0 0 (l++m) (few2_small hl hm)) ?_
   have h1:=hl.1
   have h2:=hm.1
   simp only [vb_yes h7,if_true,beq_self_eq_true,bsome,List.length_nil,Nat.zero_add,List.nil_append,if_pos (show l.length < 1759218604441 by omega),if_pos (show l.length+m.length < 1759218604441 by omega)]
   have hsame:=sameRecs (l++m) (l++m) (few2_small hl hm)
   rw [decide_eq_true rfl] at hsame
   exact Ev.bind hsame (ev_some _)
  ·rw [joinR_no hc] at hi hs
   refine Ev.bind hi ?_
   refine Ev.bind hs ?_
   have hn:=sameBatch_self false false 0 0 0 [] ⟨by simp,fun r hr=>by simp at hr⟩
   simp only [bne_self_eq_false,Bool.false_eq_true,if_false]
   refine Ev.bind hn ?_
   simp only [if_true,Bool.not_false]
   refine ev_succ ?_
   simp only [laws_FnJoin.j0,if_true,beq_self_eq_true]
   exact Ev.bind hn (ev_some _)
end Go.Proofs.YtlckpbjldmkibaaDoor.Pure
