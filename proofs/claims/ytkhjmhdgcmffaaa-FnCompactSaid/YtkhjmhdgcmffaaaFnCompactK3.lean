/- The law FnCompact holds (part 4 of 6; merged by pack2.py). -/
import Derived.Test.YtkhjmhdgcmffaaaFnCompactK2
set_option maxRecDepth 1000000
open List (setIfInBounds_toArray set_cons_zero set_cons_succ map_toArray map_cons map_nil length_drop length_take)
namespace Go.Proofs.Ytkhjmhdgcmffaaa.V
open Go.RowKit Go.Proofs.YtkhjmhdgcmffaaaW.PrintWords Go.Proofs.YtkhjmhdgcmffaaaW.PrintLast Go.Proofs.YtkhjmhdgcmffaaaW.PrintMore
attribute [local go_sem] max2_int max_two
set_option linter.unusedVariables false
set_option linter.unusedSimpArgs false
def Rm.f (k:Nat) (a0:Bool) (l1:List Int):Option (Bool):=if a0=true then ((Qy.f k l1).bind fun t296=>(if t296=true then (some (decide ((l1.length:Int)≤12))) else (some false))) else (if (l1.length:Int)=0 then ((Qy.f k l1).bind fun t297=>(if t297=true then (some (decide ((l1.length:Int)≤12))) else (some false))) else (some false))
set_option maxHeartbeats 8000000 in
theorem Rm.calls (k:Nat) (a0:Bool) (A1:Option Addr) (c1:Nat) (l1:List Int) (r:Bool) (w:World) (a5:Kd.C (Kd.int .i64) w A1 l1.length l1) (a6:l1.length≤c1) (h:Rm.f k a0 l1=some r) :
  Calls Try.prog 101 #[.bool a0,.slice A1 l1.length c1] w fun e w'=>e = .returned (.bool r)∧Drawn0 w w':=by
 have a3:=zzm a5;have a4:=zzm a6;clear a5 a6;have H:(if a0=true then ((Qy.f k l1).bind fun a1=>(if a1=true then (some (decide ((l1.length:Int)≤12))) else (some false))) else (if (l1.length:Int)=0 then ((Qy.f k l1).bind fun a2=>(if a2=true then (some (decide ((l1.length:Int)≤12))) else (some false))) else (some false)))=some r:=h;clear h;by_cases c3:a0=true
 ·
  subst c3;replace H:=zzIt H;obtain ⟨a1,A4,H⟩:=zzG H;by_cases c5:a1=true
  ·
   subst c5;replace H:=zzIt H;obtain rfl:=Option.some.inj H;go_enter Try.func101,Try.ntmps101;go_wp2_with (first|(go_at_call 103;(with_reducible refine (Qy.calls k _ _ l1 true _ ?side1 ?side2 A4.out).mono ?_);(case side1=>repeat (first|exact a3.out|(with_reducible refine Kd.C_alloc ?_ _)|(with_reducible refine Kd.C_drewN ?_ _)|(with_reducible refine Kd.C_drew ?_)));(case side2=>exact a4.out);rintro e w' ⟨rfl,⟨nd,rfl⟩⟩));go_ret;exact ⟨by first|rfl|(simp;done)|(simp [*];done),by repeat (first|exact Drawn0.refl _|apply Drawn0.step)⟩
  ·
   replace c5:=Bool.eq_false_iff.mpr c5;subst c5;replace H:=zzIf H;obtain rfl:=Option.some.inj H;go_enter Try.func101,Try.ntmps101;go_wp2_with (first|(go_at_call 103;(with_reducible refine (Qy.calls k _ _ l1 false _ ?side1 ?side2 A4.out).mono ?_);(case side1=>repeat (first|exact a3.out|(with_reducible refine Kd.C_alloc ?_ _)|(with_reducible refine Kd.C_drewN ?_ _)|(with_reducible refine Kd.C_drew ?_)));(case side2=>exact a4.out);rintro e w' ⟨rfl,⟨nd,rfl⟩⟩));go_ret;exact ⟨by first|rfl|(simp;done)|(simp [*];done),by repeat (first|exact Drawn0.refl _|apply Drawn0.step)⟩
 ·
  replace c3:=Bool.eq_false_iff.mpr c3;subst c3;replace H:=zzIf H;by_cases c6:(l1.length:Int)=0
  ·
   rw [if_pos c6] at H;obtain ⟨a7,a8⟩:=zzQ c6;clear c6;obtain ⟨a2,A7,H⟩:=zzG H;by_cases c8:a2=true
   ·
    subst c8;replace H:=zzIt H;obtain rfl:=Option.some.inj H;go_enter Try.func101,Try.ntmps101;go_wp2_with (first|(go_at_call 103;(with_reducible refine (Qy.calls k _ _ l1 true _ ?side1 ?side2 A7.out).mono ?_);(case side1=>repeat (first|exact a3.out|(with_reducible refine Kd.C_alloc ?_ _)|(with_reducible refine Kd.C_drewN ?_ _)|(with_reducible refine Kd.C_drew ?_)));(case side2=>exact a4.out);rintro e w' ⟨rfl,⟨nd,rfl⟩⟩));go_ret;exact ⟨by first|rfl|(simp;done)|(simp [*];done),by repeat (first|exact Drawn0.refl _|apply Drawn0.step)⟩
   ·
    replace c8:=Bool.eq_false_iff.mpr c8;subst c8;replace H:=zzIf H;obtain rfl:=Option.some.inj H;go_enter Try.func101,Try.ntmps101;go_wp2_with (first|(go_at_call 103;(with_reducible refine (Qy.calls k _ _ l1 false _ ?side1 ?side2 A7.out).mono ?_);(case side1=>repeat (first|exact a3.out|(with_reducible refine Kd.C_alloc ?_ _)|(with_reducible refine Kd.C_drewN ?_ _)|(with_reducible refine Kd.C_drew ?_)));(case side2=>exact a4.out);rintro e w' ⟨rfl,⟨nd,rfl⟩⟩));go_ret;exact ⟨by first|rfl|(simp;done)|(simp [*];done),by repeat (first|exact Drawn0.refl _|apply Drawn0.step)⟩
  ·
   rw [if_neg c6] at H;obtain ⟨a7,a8⟩:=zzY c6;have a9:¬ (l1 = []):=fun h_=>c6 (by rw [h_];rfl);obtain rfl:=Option.some.inj H;go_enter Try.func101,Try.ntmps101;go_wp2;go_ret;exact ⟨by first|rfl|(simp;done)|(simp [*];done),by repeat (first|exact Drawn0.refl _|apply Drawn0.step)⟩
def Rg.f (k:Nat) (a0_0:Int) (a0_1:Int) (a0_2:Bool) (l0_3:List Int) (a0_4:Bool) (l0_5:List Int):Option (Bool):=(Qv.f a0_0 0 99999).bind fun t299=>(if t299=true then ((Qv.f a0_1 0 99999).bind fun t300=>(if t300=true then ((Rm.f k a0_2 l0_3).bind fun t301=>(if t301=true then ((Rm.f k a0_4 l0_5).bind fun t302=>(some t302)) else (some false))) else (some false))) else (some false))
set_option maxHeartbeats 8000000 in
theorem Rg.calls (k:Nat) (a0:Int) (a4:Int) (a5:Bool) (b2:Option Addr) (b3:Nat) (a2:List Int) (a7:Bool) (b4:Option Addr) (b5:Nat) (a3:List Int) (r:Bool) (w:World) (c2:Kd.C (Kd.int .i64) w b2 a2.length a2) (c4:a2.length≤b3) (c8:Kd.C (Kd.int .i64) w b4 a3.length a3) (c9:a3.length≤b5) (h:Rg.f k a0 a4 a5 a2 a7 a3=some r) :
  Calls Try.prog 95 #[.agg #[.int .i64 a0,.int .i64 a4,.bool a5,.slice b2 a2.length b3,.bool a7,.slice b4 a3.length b5]] w fun e w'=>e = .returned (.bool r)∧Below w.heap.size w w':=by
 have hu30:=Try.underlying30;have d0:=zzm c2;have d1:=zzm c4;clear c2 c4;have d2:=zzm c8;have d3:=zzm c9;clear c8 c9;have HB:=zzm (Below.refl w.heap.size w);have H:((Qv.f a0 0 99999).bind fun b8=>(if b8=true then ((Qv.f a4 0 99999).bind fun b9=>(if b9=true then ((Rm.f k a5 a2).bind fun c0=>(if c0=true then ((Rm.f k a7 a3).bind fun c1=>(some c1)) else (some false))) else (some false))) else (some false)))=some r:=h;clear h;obtain ⟨b8,A2,H⟩:=zzG H;by_cases c3:b8=true
 ·
  subst c3;replace H:=zzIt H;obtain ⟨b9,A4,H⟩:=zzG H;by_cases c5:b9=true
  ·
   subst c5;replace H:=zzIt H;obtain ⟨c0,A6,H⟩:=zzG H;by_cases c7:c0=true
   ·
    subst c7;replace H:=zzIt H;obtain ⟨c1,A8,H⟩:=zzG H;obtain rfl:=Option.some.inj H;go_enter Try.func95,Try.ntmps95;go_wp2_with (first|((with_reducible refine gate_dst (N:=1) rfl ?_);refine box_event ?hg (N:=1) ?hd (cs:=#[.int .i64 a0,.int .i64 a4,.bool a5,.slice b2 a2.length b3,.bool a7,.slice b4 a3.length b5]) (t:=30) ?hr ?_;(case hd=>rfl);(case hg=>rfl);(case hr=>first|(go_simp;done)|(go_simp;rfl));intro a1 hg w9 hbox hb;have a8:=zzm (zzp zzh1 hb);have a9:=zzm (hbox);have b0:=zzm ((by rw [hg];exact (zzo zzh1):w.heap.size≤a1));have b1:=zzm ((by rw [hg];exact (zzo zzh1):w.heap.size≤a1));clear HB;have HB:=a8;have a6:=a9;have b6:=b0;have b7:=b1;clear a8 a9 b0 b1 hb hbox hg;obtain ⟨d4,d5,d6,d7,d8,d9,e0,e1,e2,e3,e4,e5⟩:=zzc6 a6.out)|((with_reducible refine gate_callee (f:=84) rfl ?_);refine goesL_ (some 5) rfl rfl Try.func84 (by kernel_rfl) rfl #[.int .i64 a0,.int .i64 0,.int .i64 99999] rfl zzM2 ?_;(with_reducible refine (Qv.calls a0 0 99999 true _ A2.out).mono ?_);rintro e w' ⟨rfl,⟨nd,rfl⟩⟩;refine ⟨_,rfl,?_⟩)|(go_at_call 84;(with_reducible refine (Qv.calls a4 0 99999 true _ A4.out).mono ?_);rintro e w' ⟨rfl,⟨nd,rfl⟩⟩)|(go_at_call 101;(with_reducible refine (Rm.calls k a5 _ _ a2 true _ ?side1 ?side2 A6.out).mono ?_);(case side1=>repeat (first|exact (Kd.C_below d0.out zzh2)|(with_reducible refine Kd.C_alloc ?_ _)|(with_reducible refine Kd.C_drewN ?_ _)|(with_reducible refine Kd.C_drew ?_)));(case side2=>exact d1.out);rintro e w' ⟨rfl,⟨nd,rfl⟩⟩)|(go_at_call 101;(with_reducible refine (Rm.calls k a7 _ _ a3 c1 _ ?side1 ?side2 A8.out).mono ?_);(case side1=>repeat (first|exact (Kd.C_below d2.out zzh2)|(with_reducible refine Kd.C_alloc ?_ _)|(with_reducible refine Kd.C_drewN ?_ _)|(with_reducible refine Kd.C_drew ?_)));(case side2=>exact d3.out);rintro e w' ⟨rfl,⟨nd,rfl⟩⟩));go_ret;exact ⟨zzR,zzh3⟩
   ·
    replace c7:=Bool.eq_false_iff.mpr c7;subst c7;replace H:=zzIf H;obtain rfl:=Option.some.inj H;go_enter Try.func95,Try.ntmps95;go_wp2_with (first|((with_reducible refine gate_dst (N:=1) rfl ?_);refine box_event ?hg (N:=1) ?hd (cs:=#[.int .i64 a0,.int .i64 a4,.bool a5,.slice b2 a2.length b3,.bool a7,.slice b4 a3.length b5]) (t:=30) ?hr ?_;(case hd=>rfl);(case hg=>rfl);(case hr=>first|(go_simp;done)|(go_simp;rfl));intro a1 hg k5 hbox hb;have a8:=zzm (zzp zzh1 hb);have a9:=zzm (hbox);have b0:=zzm ((by rw [hg];exact (zzo zzh1):w.heap.size≤a1));have b1:=zzm ((by rw [hg];exact (zzo zzh1):w.heap.size≤a1));clear HB;have HB:=a8;have a6:=a9;have b6:=b0;have b7:=b1;clear a8 a9 b0 b1 hb hbox hg;obtain ⟨e6,e7,e8,e9,g0,g1,g2,g3,g4,g5,g6,g7⟩:=zzc6 a6.out)|((with_reducible refine gate_callee (f:=84) rfl ?_);refine goesL_ (some 5) rfl rfl Try.func84 (by kernel_rfl) rfl #[.int .i64 a0,.int .i64 0,.int .i64 99999] rfl zzM2 ?_;(with_reducible refine (Qv.calls a0 0 99999 true _ A2.out).mono ?_);rintro e w' ⟨rfl,⟨nd,rfl⟩⟩;refine ⟨_,rfl,?_⟩)|(go_at_call 84;(with_reducible refine (Qv.calls a4 0 99999 true _ A4.out).mono ?_);rintro e w' ⟨rfl,⟨nd,rfl⟩⟩)|(go_at_call 101;(with_reducible refine (Rm.calls k a5 _ _ a2 false _ ?side1 ?side2 A6.out).mono ?_);(case side1=>repeat (first|exact (Kd.C_below d0.out zzh2)|(with_reducible refine Kd.C_alloc ?_ _)|(with_reducible refine Kd.C_drewN ?_ _)|(with_reducible refine Kd.C_drew ?_)));(case side2=>exact d1.out);rintro e w' ⟨rfl,⟨nd,rfl⟩⟩));go_ret;exact ⟨zzR,zzh3⟩
  ·
   replace c5:=Bool.eq_false_iff.mpr c5;subst c5;replace H:=zzIf H;obtain rfl:=Option.some.inj H;go_enter Try.func95,Try.ntmps95;go_wp2_with (first|((with_reducible refine gate_dst (N:=1) rfl ?_);refine box_event ?hg (N:=1) ?hd (cs:=#[.int .i64 a0,.int .i64 a4,.bool a5,.slice b2 a2.length b3,.bool a7,.slice b4 a3.length b5]) (t:=30) ?hr ?_;(case hd=>rfl);(case hg=>rfl);(case hr=>first|(go_simp;done)|(go_simp;rfl));intro a1 hg k6 hbox hb;have a8:=zzm (zzp zzh1 hb);have a9:=zzm (hbox);have b0:=zzm ((by rw [hg];exact (zzo zzh1):w.heap.size≤a1));have b1:=zzm ((by rw [hg];exact (zzo zzh1):w.heap.size≤a1));clear HB;have HB:=a8;have a6:=a9;have b6:=b0;have b7:=b1;clear a8 a9 b0 b1 hb hbox hg;obtain ⟨g8,g9,h0,h1,h2,h3,h4,h5,h6,h7,h8,h9⟩:=zzc6 a6.out)|((with_reducible refine gate_callee (f:=84) rfl ?_);refine goesL_ (some 5) rfl rfl Try.func84 (by kernel_rfl) rfl #[.int .i64 a0,.int .i64 0,.int .i64 99999] rfl zzM2 ?_;(with_reducible refine (Qv.calls a0 0 99999 true _ A2.out).mono ?_);rintro e w' ⟨rfl,⟨nd,rfl⟩⟩;refine ⟨_,rfl,?_⟩)|(go_at_call 84;(with_reducible refine (Qv.calls a4 0 99999 false _ A4.out).mono ?_);rintro e w' ⟨rfl,⟨nd,rfl⟩⟩));go_ret;exact ⟨zzR,zzh3⟩
 ·
  replace c3:=Bool.eq_false_iff.mpr c3;subst c3;replace H:=zzIf H;obtain rfl:=Option.some.inj H;go_enter Try.func95,Try.ntmps95;go_wp2_with (first|((with_reducible refine gate_dst (N:=1) rfl ?_);refine box_event ?hg (N:=1) ?hd (cs:=#[.int .i64 a0,.int .i64 a4,.bool a5,.slice b2 a2.length b3,.bool a7,.slice b4 a3.length b5]) (t:=30) ?hr ?_;(case hd=>rfl);(case hg=>rfl);(case hr=>first|(go_simp;done)|(go_simp;rfl));intro a1 hg k7 hbox hb;have a8:=zzm (zzp zzh1 hb);have a9:=zzm (hbox);have b0:=zzm ((by rw [hg];exact (zzo zzh1):w.heap.size≤a1));have b1:=zzm ((by rw [hg];exact (zzo zzh1):w.heap.size≤a1));clear HB;have HB:=a8;have a6:=a9;have b6:=b0;have b7:=b1;clear a8 a9 b0 b1 hb hbox hg;obtain ⟨j3,j4,j5,j6,j7,j8,j9,k0,k1,k2,k3,k4⟩:=zzc6 a6.out)|((with_reducible refine gate_callee (f:=84) rfl ?_);refine goesL_ (some 5) rfl rfl Try.func84 (by kernel_rfl) rfl #[.int .i64 a0,.int .i64 0,.int .i64 99999] rfl zzM2 ?_;(with_reducible refine (Qv.calls a0 0 99999 false _ A2.out).mono ?_);rintro e w' ⟨rfl,⟨nd,rfl⟩⟩;refine ⟨_,rfl,?_⟩));go_ret;exact ⟨zzR,zzh3⟩
def Qj.l0:Nat→List (S30)→Int→Option (Bool)
 | 0,_,_=>none
 | k+1,x0,x3=>if x3 < (x0.length:Int) then (if 0≤x3 then ((Rg.f k ((Qb x0 x3).f0) ((Qb x0 x3).f1) ((Qb x0 x3).f2) ((Qb x0 x3).f3) ((Qb x0 x3).f4) ((Qb x0 x3).f5)).bind fun t304=>(if t304=true then (if x3 > 0 then (if 0≤(wrap64 (x3 - 1)) then (if (wrap64 (x3 - 1)) < (x0.length:Int) then (if ((Qb x0 (wrap64 (x3 - 1))).f0) ≥ ((Qb x0 x3).f0) then (some false) else (Qj.l0 k x0 (wrap64 (x3+1)))) else (none)) else (none)) else (Qj.l0 k x0 (wrap64 (x3+1)))) else (some false))) else (none)) else ((Qv.f (x0.length:Int) 1 6).bind fun t307=>(some t307))
def Qj.f (k:Nat) (l0:List (S30)):Option (Bool):=Qj.l0 k l0 0
def Qj.T4:Bool×List (List Nat×List Nat):=(true,[([],[]),([],[]),([0,1],[0,1]),([2],[2]),([3],[3]),([4],[4]),([5,4],[5]),([6],[6]),([7,6],[6,7]),([8,6,6],[6,8]),([9],[9]),([9],[9]),([11,9],[9,11]),([10,12,9],[9,10,12]),([13,9],[9,13]),([14,9],[9,14]),([9],[9]),([9],[9]),([16,17,9],[9,16,17]),([18,9],[9,18]),([19,9],[9,19]),([15,20,9],[9,15,20]),([9,21,6],[6,9,21]),([6,22],[6,22])])
def Qj.B4:List Nat:=[0,0,3,7,15,31,63,127,255,511,1023,1023,3071,8191,16383,32767,1023,1023,197631,459775,984063,2097151,4194303,8388607]
theorem Qj.tab4:rtab .any (opsOf Try.f83 4)=Qj.T4:=by kernel_rfl
theorem Qj.bits4:waitsOk Qj.T4.2 Qj.B4=true:=by kernel_rfl
set_option maxHeartbeats 8000000 in
theorem Qj.calls (k:Nat) (A0:Option Addr) (c0:Nat) (l0:List (S30)) (r:Bool) (w:World) (m6:Kd.C k30 w A0 l0.length l0) (m7:l0.length≤c0) (h:Qj.f k l0=some r) :
  Calls Try.prog 83 #[.slice A0 l0.length c0] w fun e w'=>e = .returned (.bool r)∧Below w.heap.size w w':=by
 have hu30:=Try.underlying30;have k5:=zzm m6;have n6:=zzm m7;clear m6 m7;have HB:=zzm (Below.refl w.heap.size w);have H:(Qj.l0 k l0 0)=some r:=h;clear h;have H':=zzm H;clear H;go_enter Try.func83,Try.ntmps83;go_wp2;go_loopg [3] k (fun kq v3 w'=>∃ (a0:Int),v3 = .int .i64 a0∧Aside0 (Qj.l0 kq l0 a0=some r)∧Aside0 (kq≤k)∧Aside0 (Below w.heap.size w w'))
 case atStart=>exact ⟨(0),(by first|rfl|(simp;done)|(simp [*];done)),H',⟨Nat.le_refl _⟩,⟨zzh1⟩⟩
 case round=>
  clear H';obtain ⟨a0,rfl,HA,HK1,HB⟩:=hrel;cases gk with
  | zero=>exact absurd HA.out (by simp [Qj.l0])
  | succ k1=>
   have H:=HA.out;clear HA;simp only [Qj.l0] at H;by_cases c2:a0 < (l0.length:Int)
   ·
    rw [if_pos c2] at H;have m8:decide (a0 < (l0.length:Int))=true:=decide_eq_true c2;clear c2;by_cases c3 : 0≤a0
    ·
     rw [if_pos c3] at H;have n3:decide (0≤a0)=true:=decide_eq_true c3;clear c3;obtain ⟨m9,A4,H⟩:=zzG H;by_cases c5:m9=true
     ·
      subst c5;replace H:=zzIt H;by_cases c6:a0 > 0
      ·
       rw [if_pos c6] at H;have n0:decide (0 < a0)=true:=decide_eq_true c6;clear c6;obtain ⟨a3,hji7⟩:∃ j_:Int,(wrap64 (a0 - 1))=j_:=⟨_,rfl⟩;replace H:(if 0≤(a3) then (if (a3) < (l0.length:Int) then (if ((Qb l0 (a3)).f0) ≥ ((Qb l0 a0).f0) then (some false) else (Qj.l0 k1 l0 (wrap64 (a0+1)))) else (none)) else (none))=some r:=by first|(rw [hji7] at H;exact H)|(simp only [hji7] at H ⊢;exact H)
       (try rw [hji7] at A4);have hji7w:(IntKind.i64.wrap (a0 - 1))=a3:=(i64_w _).trans hji7;by_cases c8 : 0≤(a3)
       ·
        rw [if_pos c8] at H;have n4:decide (0≤(a3))=true:=decide_eq_true c8;clear c8;by_cases c9:(a3) < (l0.length:Int)
        ·
         rw [if_pos c9] at H;have n5:decide ((a3) < (l0.length:Int))=true:=decide_eq_true c9;clear c9;by_cases l6:((Qb l0 (a3)).f0) ≥ ((Qb l0 a0).f0)
         ·
          rw [if_pos l6] at H;have m5:decide (((Qb l0 a0).f0)≤((Qb l0 (a3)).f0))=true:=decide_eq_true l6;clear l6;obtain rfl:=Option.some.inj H;try go_wp2
          have d0:=zzm (zzc HB.out);clear HB;have HB:=d0;clear d0;have e7 : 0≤(a0:Int):=zzt;have e8:a0 < (l0.length:Int):=zzt;obtain ⟨a1,d1,d2,d3,d4,j5,a4,a5,a6,a7,a8,a9,b1,b2,b3,b4⟩:=Ra k5.out a0 e7 e8;have b5:=a9;have b6:=a8;have b7:=a7;have b8:=a6;have b9:=a5;have c1:=a4;cases j5;replace a4:=zzx HB.out a4;replace a5:=zzx HB.out a5;replace a6:=zzx HB.out a6;replace a7:=zzx HB.out a7;replace a8:=zzx HB.out a8;replace a9:=zzx HB.out a9;have c4:=zzm b2;have e9:=zzm b1;clear b2 b1;have c7:=zzm b4;have g0:=zzm b3;clear b4 b3;replace e7:=eq_true e7;replace e8:=eq_true e8;have j6 : 0≤((a3):Int):=zzt;have j7:(a3) < (l0.length:Int):=zzt;obtain ⟨l7,k6,k7,k8,k9,l9,d5,d6,d7,d8,d9,e0,g1,g2,g3,g4⟩:=Ra k5.out (a3) j6 j7;have g5:=e0;have g6:=d9;have g7:=d8;have g8:=d7;have g9:=d6;have h0:=d5;obtain rfl:a1=l7:=(by injection l9);replace d5:=zzx HB.out d5;replace d6:=zzx HB.out d6;replace d7:=zzx HB.out d7;replace d8:=zzx HB.out d8;replace d9:=zzx HB.out d9;replace e0:=zzx HB.out e0;have k0:=zzm g2;have m1:=zzm g1;clear g2 g1;have k2:=zzm g4;have m2:=zzm g3;clear g4 g3;replace j6:=eq_true j6;replace j7:=eq_true j7;have j8 : 0≤(a0:Int):=zzt;have j9:a0 < (l0.length:Int):=zzt;obtain ⟨l8,l2,l3,l4,l5,m0,e1,e2,e3,e4,e5,e6,h1,h2,h3,h4⟩:=Ra k5.out a0 j8 j9;have h5:=e6;have h6:=e5;have h7:=e4;have h8:=e3;have h9:=e2;have j3:=e1;obtain rfl:a1=l8:=(by injection m0);replace e1:=zzx HB.out e1;replace e2:=zzx HB.out e2;replace e3:=zzx HB.out e3;replace e4:=zzx HB.out e4;replace e5:=zzx HB.out e5;replace e6:=zzx HB.out e6;have k3:=zzm h2;have m3:=zzm h1;clear h2 h1;have k4:=zzm h4;have m4:=zzm h3;clear h4 h3;replace j8:=eq_true j8;replace j9:=eq_true j9;refine start_ (n:=24) (S:=fun w'=>w'.cell? (a1.add ((a0).toNat * 6))=some (.int .i64 ((Qb l0 a0).f0))∧w'.cell? ⟨(a1.add ((a0).toNat * 6)).block,(a1.add ((a0).toNat * 6)).off+1,none⟩=some (.int .i64 ((Qb l0 a0).f1))∧w'.cell? ⟨(a1.add ((a0).toNat * 6)).block,(a1.add ((a0).toNat * 6)).off+2,none⟩=some (.bool ((Qb l0 a0).f2))∧w'.cell? ⟨(a1.add ((a0).toNat * 6)).block,(a1.add ((a0).toNat * 6)).off+3,none⟩=some (.slice d1 ((Qb l0 a0).f3).length d2)∧w'.cell? ⟨(a1.add ((a0).toNat * 6)).block,(a1.add ((a0).toNat * 6)).off+4,none⟩=some (.bool ((Qb l0 a0).f4))∧w'.cell? ⟨(a1.add ((a0).toNat * 6)).block,(a1.add ((a0).toNat * 6)).off+5,none⟩=some (.slice d3 ((Qb l0 a0).f5).length d4)∧w'.cell? (a1.add (((a3)).toNat * 6))=some (.int .i64 ((Qb l0 (a3)).f0))∧w'.cell? ⟨(a1.add (((a3)).toNat * 6)).block,(a1.add (((a3)).toNat * 6)).off+1,none⟩=some (.int .i64 ((Qb l0 (a3)).f1))∧w'.cell? ⟨(a1.add (((a3)).toNat * 6)).block,(a1.add (((a3)).toNat * 6)).off+2,none⟩=some (.bool ((Qb l0 (a3)).f2))∧w'.cell? ⟨(a1.add (((a3)).toNat * 6)).block,(a1.add (((a3)).toNat * 6)).off+3,none⟩=some (.slice k6 ((Qb l0 (a3)).f3).length k7)∧w'.cell? ⟨(a1.add (((a3)).toNat * 6)).block,(a1.add (((a3)).toNat * 6)).off+4,none⟩=some (.bool ((Qb l0 (a3)).f4))∧w'.cell? ⟨(a1.add (((a3)).toNat * 6)).block,(a1.add (((a3)).toNat * 6)).off+5,none⟩=some (.slice k8 ((Qb l0 (a3)).f5).length k9)∧w'.cell? (a1.add ((a0).toNat * 6))=some (.int .i64 ((Qb l0 a0).f0))∧w'.cell? ⟨(a1.add ((a0).toNat * 6)).block,(a1.add ((a0).toNat * 6)).off+1,none⟩=some (.int .i64 ((Qb l0 a0).f1))∧w'.cell? ⟨(a1.add ((a0).toNat * 6)).block,(a1.add ((a0).toNat * 6)).off+2,none⟩=some (.bool ((Qb l0 a0).f2))∧w'.cell? ⟨(a1.add ((a0).toNat * 6)).block,(a1.add ((a0).toNat * 6)).off+3,none⟩=some (.slice l2 ((Qb l0 a0).f3).length l3)∧w'.cell? ⟨(a1.add ((a0).toNat * 6)).block,(a1.add ((a0).toNat * 6)).off+4,none⟩=some (.bool ((Qb l0 a0).f4))∧w'.cell? ⟨(a1.add ((a0).toNat * 6)).block,(a1.add ((a0).toNat * 6)).off+5,none⟩=some (.slice l4 ((Qb l0 a0).f5).length l5)) (ds:=[]) (zzB 24 0) (by kernel_rfl) rfl rfl ⟨(zzx HB.out c1),(zzx HB.out b9),(zzx HB.out b8),(zzx HB.out b7),(zzx HB.out b6),(zzx HB.out b5),(zzx HB.out h0),(zzx HB.out g9),(zzx HB.out g8),(zzx HB.out g7),(zzx HB.out g6),(zzx HB.out g5),(zzx HB.out j3),(zzx HB.out h9),(zzx HB.out h8),(zzx HB.out h7),(zzx HB.out h6),(zzx HB.out h5)⟩ (fun b0=>?_);refine with_tabW Qj.tab4 Qj.bits4 (fun a2 j4=>?_);generalize wr.drew=n7 at HB c4 c7 k0 k2 k3 k4 a4 a5 a6 a7 a8 a9 d5 d6 d7 d8 d9 e0 e1 e2 e3 e4 e5 e6 b0 ⊢;refine zzP 0 10 24 1 a2 ?_
          refine zzP 1 11 24 3 a2 ?_
          refine zzP 2 12 24 7 a2 ?_
          refine zzT 3 13 24 15 a2 j4 b0 ?_
          refine one_ (i:=4) (N:=some 14) (zzB 24 31) rfl rfl (one_of a2.out (by kernel_rfl)) (by decide) (fun K hK=>?_);refine goes_ Try.func95 (by kernel_rfl) rfl #[.agg #[.int .i64 ((Qb l0 a0).f0),.int .i64 ((Qb l0 a0).f1),.bool ((Qb l0 a0).f2),.slice d1 ((Qb l0 a0).f3).length d2,.bool ((Qb l0 a0).f4),.slice d3 ((Qb l0 a0).f5).length d4]] (by rfl) rfl rfl zzM2 ?_;with_reducible refine (Rg.calls k1 ((Qb l0 a0).f0) ((Qb l0 a0).f1) ((Qb l0 a0).f2) _ _ ((Qb l0 a0).f3) ((Qb l0 a0).f4) _ _ ((Qb l0 a0).f5) true _ ?side1 ?side2 ?side3 ?side4 A4.out).mono ?_
          (case side1=>exact zzcb c4 HB)
          (case side2=>exact e9.out)
          (case side3=>exact zzcb c7 HB)
          (case side4=>exact g0.out);rintro e n8 ⟨rfl,hb⟩;refine ⟨_,rfl,?_⟩;have d0:=zzm (zzp zzh1 hb);clear HB;have HB:=d0;clear d0
          (try clear hb)
          (try clear hb2)
          (try clear hk)
          (try clear hi);refine hK.out _ _ ⟨(zzx HB.out c1),(zzx HB.out b9),(zzx HB.out b8),(zzx HB.out b7),(zzx HB.out b6),(zzx HB.out b5),(zzx HB.out h0),(zzx HB.out g9),(zzx HB.out g8),(zzx HB.out g7),(zzx HB.out g6),(zzx HB.out g5),(zzx HB.out j3),(zzx HB.out h9),(zzx HB.out h8),(zzx HB.out h7),(zzx HB.out h6),(zzx HB.out h5)⟩ (fun b0=>?_);clear hK K;refine zzO 14 ?_
          refine zzP 5 15 24 63 a2 ?_
          refine zzP 6 16 24 127 a2 ?_
          refine zzP 7 17 24 255 a2 ?_
          refine zzP 8 18 24 511 a2 ?_
          refine zzP 9 19 24 1023 a2 ?_
          refine zzP 10 20 24 2047 a2 ?_
          refine zzP 11 21 24 4095 a2 ?_
          refine zzP 12 22 24 8191 a2 ?_
          refine zzP 13 23 24 16383 a2 ?_
          refine zzP 14 24 24 32767 a2 ?_
          refine zzP 16 26 24 98303 a2 ?_
          refine zzP 17 27 24 229375 a2 ?_
          refine zzP 18 28 24 491519 a2 ?_
          refine zzP 19 29 24 1015807 a2 ?_
          refine zzT 15 25 24 1048575 a2 j4 b0 ?_
          refine zzT 20 30 24 2097151 a2 j4 b0 ?_
          refine zzP 21 31 24 4194303 a2 ?_
          refine zzP 22 32 24 8388607 a2 ?_
          refine zzP 23 33 24 16777215 a2 ?_
          refine done_ (done_of a2.out (by kernel_rfl)) ?_;try go_wp2
          go_ret;exact ⟨by first|rfl|(simp [errW_none,errW_some] <;> rfl)|(simp only [← hji7];first|rfl|(simp [errW_none,errW_some] <;> rfl))|(simp [*,errW_none,errW_some] <;> rfl),zzh1⟩
         ·
          rw [if_neg l6] at H;have m5:decide (((Qb l0 a0).f0)≤((Qb l0 (a3)).f0))=false:=decide_eq_false l6;clear l6;have H':=zzm H;clear H;try go_wp2
          have d0:=zzm (zzc HB.out);clear HB;have HB:=d0;clear d0;have e7 : 0≤(a0:Int):=zzt;have e8:a0 < (l0.length:Int):=zzt;obtain ⟨a1,d1,d2,d3,d4,j5,a4,a5,a6,a7,a8,a9,b1,b2,b3,b4⟩:=Ra k5.out a0 e7 e8;have b5:=a9;have b6:=a8;have b7:=a7;have b8:=a6;have b9:=a5;have c1:=a4;cases j5;replace a4:=zzx HB.out a4;replace a5:=zzx HB.out a5;replace a6:=zzx HB.out a6;replace a7:=zzx HB.out a7;replace a8:=zzx HB.out a8;replace a9:=zzx HB.out a9;have c4:=zzm b2;have e9:=zzm b1;clear b2 b1;have c7:=zzm b4;have g0:=zzm b3;clear b4 b3;replace e7:=eq_true e7;replace e8:=eq_true e8;have j6 : 0≤((a3):Int):=zzt;have j7:(a3) < (l0.length:Int):=zzt;obtain ⟨l7,k6,k7,k8,k9,l9,d5,d6,d7,d8,d9,e0,g1,g2,g3,g4⟩:=Ra k5.out (a3) j6 j7;have g5:=e0;have g6:=d9;have g7:=d8;have g8:=d7;have g9:=d6;have h0:=d5;obtain rfl:a1=l7:=(by injection l9);replace d5:=zzx HB.out d5;replace d6:=zzx HB.out d6;replace d7:=zzx HB.out d7;replace d8:=zzx HB.out d8;replace d9:=zzx HB.out d9;replace e0:=zzx HB.out e0;have k0:=zzm g2;have m1:=zzm g1;clear g2 g1;have k2:=zzm g4;have m2:=zzm g3;clear g4 g3;replace j6:=eq_true j6;replace j7:=eq_true j7;have j8 : 0≤(a0:Int):=zzt;have j9:a0 < (l0.length:Int):=zzt;obtain ⟨l8,l2,l3,l4,l5,m0,e1,e2,e3,e4,e5,e6,h1,h2,h3,h4⟩:=Ra k5.out a0 j8 j9;have h5:=e6;have h6:=e5;have h7:=e4;have h8:=e3;have h9:=e2;have j3:=e1;obtain rfl:a1=l8:=(by injection m0);replace e1:=zzx HB.out e1;replace e2:=zzx HB.out e2;replace e3:=zzx HB.out e3;replace e4:=zzx HB.out e4;replace e5:=zzx HB.out e5;replace e6:=zzx HB.out e6;have k3:=zzm h2;have m3:=zzm h1;clear h2 h1;have k4:=zzm h4;have m4:=zzm h3;clear h4 h3;replace j8:=eq_true j8;replace j9:=eq_true j9;refine start_ (n:=24) (S:=fun w'=>w'.cell? (a1.add ((a0).toNat * 6))=some (.int .i64 ((Qb l0 a0).f0))∧w'.cell? ⟨(a1.add ((a0).toNat * 6)).block,(a1.add ((a0).toNat * 6)).off+1,none⟩=some (.int .i64 ((Qb l0 a0).f1))∧w'.cell? ⟨(a1.add ((a0).toNat * 6)).block,(a1.add ((a0).toNat * 6)).off+2,none⟩=some (.bool ((Qb l0 a0).f2))∧w'.cell? ⟨(a1.add ((a0).toNat * 6)).block,(a1.add ((a0).toNat * 6)).off+3,none⟩=some (.slice d1 ((Qb l0 a0).f3).length d2)∧w'.cell? ⟨(a1.add ((a0).toNat * 6)).block,(a1.add ((a0).toNat * 6)).off+4,none⟩=some (.bool ((Qb l0 a0).f4))∧w'.cell? ⟨(a1.add ((a0).toNat * 6)).block,(a1.add ((a0).toNat * 6)).off+5,none⟩=some (.slice d3 ((Qb l0 a0).f5).length d4)∧w'.cell? (a1.add (((a3)).toNat * 6))=some (.int .i64 ((Qb l0 (a3)).f0))∧w'.cell? ⟨(a1.add (((a3)).toNat * 6)).block,(a1.add (((a3)).toNat * 6)).off+1,none⟩=some (.int .i64 ((Qb l0 (a3)).f1))∧w'.cell? ⟨(a1.add (((a3)).toNat * 6)).block,(a1.add (((a3)).toNat * 6)).off+2,none⟩=some (.bool ((Qb l0 (a3)).f2))∧w'.cell? ⟨(a1.add (((a3)).toNat * 6)).block,(a1.add (((a3)).toNat * 6)).off+3,none⟩=some (.slice k6 ((Qb l0 (a3)).f3).length k7)∧w'.cell? ⟨(a1.add (((a3)).toNat * 6)).block,(a1.add (((a3)).toNat * 6)).off+4,none⟩=some (.bool ((Qb l0 (a3)).f4))∧w'.cell? ⟨(a1.add (((a3)).toNat * 6)).block,(a1.add (((a3)).toNat * 6)).off+5,none⟩=some (.slice k8 ((Qb l0 (a3)).f5).length k9)∧w'.cell? (a1.add ((a0).toNat * 6))=some (.int .i64 ((Qb l0 a0).f0))∧w'.cell? ⟨(a1.add ((a0).toNat * 6)).block,(a1.add ((a0).toNat * 6)).off+1,none⟩=some (.int .i64 ((Qb l0 a0).f1))∧w'.cell? ⟨(a1.add ((a0).toNat * 6)).block,(a1.add ((a0).toNat * 6)).off+2,none⟩=some (.bool ((Qb l0 a0).f2))∧w'.cell? ⟨(a1.add ((a0).toNat * 6)).block,(a1.add ((a0).toNat * 6)).off+3,none⟩=some (.slice l2 ((Qb l0 a0).f3).length l3)∧w'.cell? ⟨(a1.add ((a0).toNat * 6)).block,(a1.add ((a0).toNat * 6)).off+4,none⟩=some (.bool ((Qb l0 a0).f4))∧w'.cell? ⟨(a1.add ((a0).toNat * 6)).block,(a1.add ((a0).toNat * 6)).off+5,none⟩=some (.slice l4 ((Qb l0 a0).f5).length l5)) (ds:=[]) (zzB 24 0) (by kernel_rfl) rfl rfl ⟨(zzx HB.out c1),(zzx HB.out b9),(zzx HB.out b8),(zzx HB.out b7),(zzx HB.out b6),(zzx HB.out b5),(zzx HB.out h0),(zzx HB.out g9),(zzx HB.out g8),(zzx HB.out g7),(zzx HB.out g6),(zzx HB.out g5),(zzx HB.out j3),(zzx HB.out h9),(zzx HB.out h8),(zzx HB.out h7),(zzx HB.out h6),(zzx HB.out h5)⟩ (fun b0=>?_);refine with_tabW Qj.tab4 Qj.bits4 (fun a2 j4=>?_);generalize wr.drew=n9 at HB c4 c7 k0 k2 k3 k4 a4 a5 a6 a7 a8 a9 d5 d6 d7 d8 d9 e0 e1 e2 e3 e4 e5 e6 b0 ⊢;refine zzP 0 10 24 1 a2 ?_
          refine zzP 1 11 24 3 a2 ?_
          refine zzP 2 12 24 7 a2 ?_
          refine zzT 3 13 24 15 a2 j4 b0 ?_
          refine one_ (i:=4) (N:=some 14) (zzB 24 31) rfl rfl (one_of a2.out (by kernel_rfl)) (by decide) (fun K hK=>?_);refine goes_ Try.func95 (by kernel_rfl) rfl #[.agg #[.int .i64 ((Qb l0 a0).f0),.int .i64 ((Qb l0 a0).f1),.bool ((Qb l0 a0).f2),.slice d1 ((Qb l0 a0).f3).length d2,.bool ((Qb l0 a0).f4),.slice d3 ((Qb l0 a0).f5).length d4]] (by rfl) rfl rfl zzM2 ?_;with_reducible refine (Rg.calls k1 ((Qb l0 a0).f0) ((Qb l0 a0).f1) ((Qb l0 a0).f2) _ _ ((Qb l0 a0).f3) ((Qb l0 a0).f4) _ _ ((Qb l0 a0).f5) true _ ?side1 ?side2 ?side3 ?side4 A4.out).mono ?_
          (case side1=>exact zzcb c4 HB)
          (case side2=>exact e9.out)
          (case side3=>exact zzcb c7 HB)
          (case side4=>exact g0.out);rintro e o0 ⟨rfl,hb⟩;refine ⟨_,rfl,?_⟩;have d0:=zzm (zzp zzh1 hb);clear HB;have HB:=d0;clear d0
          (try clear hb)
          (try clear hb2)
          (try clear hk)
          (try clear hi);refine hK.out _ _ ⟨(zzx HB.out c1),(zzx HB.out b9),(zzx HB.out b8),(zzx HB.out b7),(zzx HB.out b6),(zzx HB.out b5),(zzx HB.out h0),(zzx HB.out g9),(zzx HB.out g8),(zzx HB.out g7),(zzx HB.out g6),(zzx HB.out g5),(zzx HB.out j3),(zzx HB.out h9),(zzx HB.out h8),(zzx HB.out h7),(zzx HB.out h6),(zzx HB.out h5)⟩ (fun b0=>?_);clear hK K;refine zzO 14 ?_
          refine zzP 5 15 24 63 a2 ?_
          refine zzP 6 16 24 127 a2 ?_
          refine zzP 7 17 24 255 a2 ?_
          refine zzP 8 18 24 511 a2 ?_
          refine zzP 9 19 24 1023 a2 ?_
          refine zzP 10 20 24 2047 a2 ?_
          refine zzP 11 21 24 4095 a2 ?_
          refine zzP 12 22 24 8191 a2 ?_
          refine zzP 13 23 24 16383 a2 ?_
          refine zzP 14 24 24 32767 a2 ?_
          refine zzP 16 26 24 98303 a2 ?_
          refine zzP 17 27 24 229375 a2 ?_
          refine zzP 18 28 24 491519 a2 ?_
          refine zzP 19 29 24 1015807 a2 ?_
          refine zzT 15 25 24 1048575 a2 j4 b0 ?_
          refine zzT 20 30 24 2097151 a2 j4 b0 ?_
          refine zzP 21 31 24 4194303 a2 ?_
          refine zzP 22 32 24 8388607 a2 ?_
          refine zzP 23 33 24 16777215 a2 ?_
          refine done_ (done_of a2.out (by kernel_rfl)) ?_;try go_wp2
          go_roundg k1
          case measure=>have:=HK1.out;omega
          case rel=>exact ⟨(wrap64 (a0+1)),(by first|rfl|(simp;done)|(simp [*];done)),H',⟨by have:=HK1.out;omega⟩,⟨zzh1⟩⟩
        ·
         rw [if_neg c9] at H;exact absurd H (by simp)
       ·
        rw [if_neg c8] at H;exact absurd H (by simp)
      ·
       rw [if_neg c6] at H;have n0:decide (0 < a0)=false:=decide_eq_false c6;clear c6;have H':=zzm H;clear H;try go_wp2
       have d0:=zzm (zzc HB.out);clear HB;have HB:=d0;clear d0;have e7 : 0≤(a0:Int):=zzt;have e8:a0 < (l0.length:Int):=zzt;obtain ⟨a1,d1,d2,d3,d4,j5,a4,a5,a6,a7,a8,a9,b1,b2,b3,b4⟩:=Ra k5.out a0 e7 e8;have b5:=a9;have b6:=a8;have b7:=a7;have b8:=a6;have b9:=a5;have c1:=a4;cases j5;replace a4:=zzx HB.out a4;replace a5:=zzx HB.out a5;replace a6:=zzx HB.out a6;replace a7:=zzx HB.out a7;replace a8:=zzx HB.out a8;replace a9:=zzx HB.out a9;have c4:=zzm b2;have e9:=zzm b1;clear b2 b1;have c7:=zzm b4;have g0:=zzm b3;clear b4 b3;replace e7:=eq_true e7;replace e8:=eq_true e8;refine start_ (n:=24) (S:=fun w'=>w'.cell? (a1.add ((a0).toNat * 6))=some (.int .i64 ((Qb l0 a0).f0))∧w'.cell? ⟨(a1.add ((a0).toNat * 6)).block,(a1.add ((a0).toNat * 6)).off+1,none⟩=some (.int .i64 ((Qb l0 a0).f1))∧w'.cell? ⟨(a1.add ((a0).toNat * 6)).block,(a1.add ((a0).toNat * 6)).off+2,none⟩=some (.bool ((Qb l0 a0).f2))∧w'.cell? ⟨(a1.add ((a0).toNat * 6)).block,(a1.add ((a0).toNat * 6)).off+3,none⟩=some (.slice d1 ((Qb l0 a0).f3).length d2)∧w'.cell? ⟨(a1.add ((a0).toNat * 6)).block,(a1.add ((a0).toNat * 6)).off+4,none⟩=some (.bool ((Qb l0 a0).f4))∧w'.cell? ⟨(a1.add ((a0).toNat * 6)).block,(a1.add ((a0).toNat * 6)).off+5,none⟩=some (.slice d3 ((Qb l0 a0).f5).length d4)) (ds:=[]) (zzB 24 0) (by kernel_rfl) rfl rfl ⟨(zzx HB.out c1),(zzx HB.out b9),(zzx HB.out b8),(zzx HB.out b7),(zzx HB.out b6),(zzx HB.out b5)⟩ (fun b0=>?_);refine with_tabW Qj.tab4 Qj.bits4 (fun a2 j4=>?_);generalize wr.drew=o1 at HB c4 c7 a4 a5 a6 a7 a8 a9 b0 ⊢;refine zzP 0 10 24 1 a2 ?_
       refine zzP 1 11 24 3 a2 ?_
       refine zzP 2 12 24 7 a2 ?_
       refine zzT 3 13 24 15 a2 j4 b0 ?_
       refine one_ (i:=4) (N:=some 14) (zzB 24 31) rfl rfl (one_of a2.out (by kernel_rfl)) (by decide) (fun K hK=>?_);refine goes_ Try.func95 (by kernel_rfl) rfl #[.agg #[.int .i64 ((Qb l0 a0).f0),.int .i64 ((Qb l0 a0).f1),.bool ((Qb l0 a0).f2),.slice d1 ((Qb l0 a0).f3).length d2,.bool ((Qb l0 a0).f4),.slice d3 ((Qb l0 a0).f5).length d4]] (by rfl) rfl rfl zzM2 ?_;with_reducible refine (Rg.calls k1 ((Qb l0 a0).f0) ((Qb l0 a0).f1) ((Qb l0 a0).f2) _ _ ((Qb l0 a0).f3) ((Qb l0 a0).f4) _ _ ((Qb l0 a0).f5) true _ ?side1 ?side2 ?side3 ?side4 A4.out).mono ?_
       (case side1=>exact zzcb c4 HB)
       (case side2=>exact e9.out)
       (case side3=>exact zzcb c7 HB)
       (case side4=>exact g0.out);rintro e o2 ⟨rfl,hb⟩;refine ⟨_,rfl,?_⟩;have d0:=zzm (zzp zzh1 hb);clear HB;have HB:=d0;clear d0
       (try clear hb)
       (try clear hb2)
       (try clear hk)
       (try clear hi);refine hK.out _ _ ⟨(zzx HB.out c1),(zzx HB.out b9),(zzx HB.out b8),(zzx HB.out b7),(zzx HB.out b6),(zzx HB.out b5)⟩ (fun b0=>?_);clear hK K;refine zzO 14 ?_
       refine zzP 5 15 24 63 a2 ?_
       refine zzP 6 16 24 127 a2 ?_
       refine zzP 7 17 24 255 a2 ?_
       refine zzP 8 18 24 511 a2 ?_
       refine zzP 9 19 24 1023 a2 ?_
       refine zzU 10 20 24 2047 a2 ?_
       refine zzU 11 21 24 4095 a2 ?_
       refine zzU 12 22 24 8191 a2 ?_
       refine zzU 13 23 24 16383 a2 ?_
       refine zzU 14 24 24 32767 a2 ?_
       refine zzU 15 25 24 65535 a2 ?_
       refine zzU 16 26 24 131071 a2 ?_
       refine zzU 17 27 24 262143 a2 ?_
       refine zzU 18 28 24 524287 a2 ?_
       refine zzU 19 29 24 1048575 a2 ?_
       refine zzU 20 30 24 2097151 a2 ?_
       refine zzU 21 31 24 4194303 a2 ?_
       refine zzP 22 32 24 8388607 a2 ?_
       refine zzP 23 33 24 16777215 a2 ?_
       refine done_ (done_of a2.out (by kernel_rfl)) ?_;try go_wp2
       go_roundg k1
       case measure=>have:=HK1.out;omega
       case rel=>exact ⟨(wrap64 (a0+1)),(by first|rfl|(simp;done)|(simp [*];done)),H',⟨by have:=HK1.out;omega⟩,⟨zzh1⟩⟩
     ·
      replace c5:=Bool.eq_false_iff.mpr c5;subst c5;replace H:=zzIf H;obtain rfl:=Option.some.inj H;try go_wp2
      have d0:=zzm (zzc HB.out);clear HB;have HB:=d0;clear d0;have e7 : 0≤(a0:Int):=zzt;have e8:a0 < (l0.length:Int):=zzt;obtain ⟨a1,d1,d2,d3,d4,j5,a4,a5,a6,a7,a8,a9,b1,b2,b3,b4⟩:=Ra k5.out a0 e7 e8;have b5:=a9;have b6:=a8;have b7:=a7;have b8:=a6;have b9:=a5;have c1:=a4;cases j5;replace a4:=zzx HB.out a4;replace a5:=zzx HB.out a5;replace a6:=zzx HB.out a6;replace a7:=zzx HB.out a7;replace a8:=zzx HB.out a8;replace a9:=zzx HB.out a9;have c4:=zzm b2;have e9:=zzm b1;clear b2 b1;have c7:=zzm b4;have g0:=zzm b3;clear b4 b3;replace e7:=eq_true e7;replace e8:=eq_true e8;refine start_ (n:=24) (S:=fun w'=>w'.cell? (a1.add ((a0).toNat * 6))=some (.int .i64 ((Qb l0 a0).f0))∧w'.cell? ⟨(a1.add ((a0).toNat * 6)).block,(a1.add ((a0).toNat * 6)).off+1,none⟩=some (.int .i64 ((Qb l0 a0).f1))∧w'.cell? ⟨(a1.add ((a0).toNat * 6)).block,(a1.add ((a0).toNat * 6)).off+2,none⟩=some (.bool ((Qb l0 a0).f2))∧w'.cell? ⟨(a1.add ((a0).toNat * 6)).block,(a1.add ((a0).toNat * 6)).off+3,none⟩=some (.slice d1 ((Qb l0 a0).f3).length d2)∧w'.cell? ⟨(a1.add ((a0).toNat * 6)).block,(a1.add ((a0).toNat * 6)).off+4,none⟩=some (.bool ((Qb l0 a0).f4))∧w'.cell? ⟨(a1.add ((a0).toNat * 6)).block,(a1.add ((a0).toNat * 6)).off+5,none⟩=some (.slice d3 ((Qb l0 a0).f5).length d4)) (ds:=[]) (zzB 24 0) (by kernel_rfl) rfl rfl ⟨(zzx HB.out c1),(zzx HB.out b9),(zzx HB.out b8),(zzx HB.out b7),(zzx HB.out b6),(zzx HB.out b5)⟩ (fun b0=>?_);refine with_tabW Qj.tab4 Qj.bits4 (fun a2 j4=>?_);generalize wr.drew=o3 at HB c4 c7 a4 a5 a6 a7 a8 a9 b0 ⊢;refine zzP 0 10 24 1 a2 ?_
      refine zzP 1 11 24 3 a2 ?_
      refine zzP 2 12 24 7 a2 ?_
      refine zzT 3 13 24 15 a2 j4 b0 ?_
      refine one_ (i:=4) (N:=some 14) (zzB 24 31) rfl rfl (one_of a2.out (by kernel_rfl)) (by decide) (fun K hK=>?_);refine goes_ Try.func95 (by kernel_rfl) rfl #[.agg #[.int .i64 ((Qb l0 a0).f0),.int .i64 ((Qb l0 a0).f1),.bool ((Qb l0 a0).f2),.slice d1 ((Qb l0 a0).f3).length d2,.bool ((Qb l0 a0).f4),.slice d3 ((Qb l0 a0).f5).length d4]] (by rfl) rfl rfl zzM2 ?_;with_reducible refine (Rg.calls k1 ((Qb l0 a0).f0) ((Qb l0 a0).f1) ((Qb l0 a0).f2) _ _ ((Qb l0 a0).f3) ((Qb l0 a0).f4) _ _ ((Qb l0 a0).f5) false _ ?side1 ?side2 ?side3 ?side4 A4.out).mono ?_
      (case side1=>exact zzcb c4 HB)
      (case side2=>exact e9.out)
      (case side3=>exact zzcb c7 HB)
      (case side4=>exact g0.out);rintro e o4 ⟨rfl,hb⟩;refine ⟨_,rfl,?_⟩;have d0:=zzm (zzp zzh1 hb);clear HB;have HB:=d0;clear d0
      (try clear hb)
      (try clear hb2)
      (try clear hk)
      (try clear hi);refine hK.out _ _ ⟨(zzx HB.out c1),(zzx HB.out b9),(zzx HB.out b8),(zzx HB.out b7),(zzx HB.out b6),(zzx HB.out b5)⟩ (fun b0=>?_);clear hK K;refine zzO 14 ?_
      refine zzP 5 15 24 63 a2 ?_
      refine zzP 6 16 24 127 a2 ?_
      refine zzU 7 17 24 255 a2 ?_
      refine zzU 8 18 24 511 a2 ?_
      refine zzU 9 19 24 1023 a2 ?_
      refine zzU 10 20 24 2047 a2 ?_
      refine zzU 11 21 24 4095 a2 ?_
      refine zzU 12 22 24 8191 a2 ?_
      refine zzU 13 23 24 16383 a2 ?_
      refine zzU 14 24 24 32767 a2 ?_
      refine zzU 15 25 24 65535 a2 ?_
      refine zzU 16 26 24 131071 a2 ?_
      refine zzU 17 27 24 262143 a2 ?_
      refine zzU 18 28 24 524287 a2 ?_
      refine zzU 19 29 24 1048575 a2 ?_
      refine zzU 20 30 24 2097151 a2 ?_
      refine zzU 21 31 24 4194303 a2 ?_
      refine zzU 22 32 24 8388607 a2 ?_
      refine zzP 23 33 24 16777215 a2 ?_
      refine done_ (done_of a2.out (by kernel_rfl)) ?_;try go_wp2
      go_ret;exact ⟨zzR,zzh1⟩
    ·
     rw [if_neg c3] at H;exact absurd H (by simp)
   ·
    rw [if_neg c2] at H;have m8:decide (a0 < (l0.length:Int))=false:=decide_eq_false c2;clear c2;obtain ⟨n1,n2,H⟩:=zzG H;obtain rfl:=Option.some.inj H;go_wp2_with (first|((with_reducible refine gate_callee (f:=84) rfl ?_);refine goesL_ (some 36) rfl rfl Try.func84 (by kernel_rfl) rfl #[.int .i64 (l0.length:Int),.int .i64 1,.int .i64 6] rfl zzM2 ?_;(with_reducible refine (Qv.calls (l0.length:Int) 1 6 n1 _ n2.out).mono ?_);rintro e w' ⟨rfl,⟨nd,rfl⟩⟩;refine ⟨_,rfl,?_⟩));go_ret;exact ⟨zzR,zzh1⟩
def Qo.j0:Nat→Bool→Bool→Bool→Int→Int→Int→List (S30)→Option (Bool)
 | 0,_,_,_,_,_,_,_=>none
 | k+1,x24,x309000,x309001,x309002,x309003,x309004,x309005=>if x24=true then (some false) else (if x309002=255 then (if x309003=0 then (if x309004=0 then (some (!x309001)) else (some false)) else (some false)) else (if x309001=true then (some ((x309005.length:Int)==1)) else (some true)))
def Qo.f (k:Nat) (a0_0:Bool) (a0_1:Bool) (a0_2:Int) (a0_3:Int) (a0_4:Int) (l0_5:List (S30)):Option (Bool):=(Qj.f k l0_5).bind fun t309=>(if t309=true then ((Qv.f a0_2 0 255).bind fun t310=>(if t310=true then ((Qv.f a0_3 0 99).bind fun t311=>(if t311=true then ((Qv.f a0_4 0 9999).bind fun t312=>(Qo.j0 k (!t312) a0_0 a0_1 a0_2 a0_3 a0_4 l0_5)) else (Qo.j0 k true a0_0 a0_1 a0_2 a0_3 a0_4 l0_5))) else (Qo.j0 k true a0_0 a0_1 a0_2 a0_3 a0_4 l0_5))) else (Qo.j0 k true a0_0 a0_1 a0_2 a0_3 a0_4 l0_5))
set_option maxHeartbeats 8000000 in
theorem Qo.calls (k:Nat) (a6:Bool) (a5:Bool) (a2:Int) (a3:Int) (a4:Int) (a7:Option Addr) (a8:Nat) (a1:List (S30)) (r:Bool) (w:World) (c2:Kd.C k30 w a7 a1.length a1) (c3:a1.length≤a8) (h:Qo.f k a6 a5 a2 a3 a4 a1=some r) :
  Calls Try.prog 66 #[.agg #[.bool a6,.bool a5,.int .i64 a2,.int .i64 a3,.int .i64 a4,.slice a7 a1.length a8]] w fun e w'=>e = .returned (.bool r)∧Below w.heap.size w w':=by
 have hu34:=Try.underlying34;have b2:=zzm c2;have b3:=zzm c3;clear c2 c3;have HB:=zzm (Below.refl w.heap.size w);have H:((Qj.f k a1).bind fun b9=>(if b9=true then ((Qv.f a2 0 255).bind fun c0=>(if c0=true then ((Qv.f a3 0 99).bind fun c1=>(if c1=true then ((Qv.f a4 0 9999).bind fun b5=>(Qo.j0 k (!b5) a6 a5 a2 a3 a4 a1)) else (Qo.j0 k true a6 a5 a2 a3 a4 a1))) else (Qo.j0 k true a6 a5 a2 a3 a4 a1))) else (Qo.j0 k true a6 a5 a2 a3 a4 a1)))=some r:=h;clear h;have o0:=zzm H;clear H;go_enter Try.func66,Try.ntmps66;go_upto_region 1 with (first|((with_reducible refine gate_dst (N:=1) rfl ?_);(try (refine gate_guard (by rfl) ?_;dsimp only));refine box_event ?hg (N:=1) ?hd (cs:=#[.bool a6,.bool a5,.int .i64 a2,.int .i64 a3,.int .i64 a4,.slice a7 a1.length a8]) (t:=34) ?hr ?_;(case hd=>rfl);(case hg=>rfl);(case hr=>first|(go_simp;done)|(go_simp;rfl));intro b1 hg w3 hbox hb;have a9:=zzm (zzp zzh1 hb);have b0:=zzm (hbox);have o7:=zzm ((by rw [hg];exact (zzo zzh1):w.heap.size≤b1));have o8:=zzm ((by rw [hg];exact (zzo zzh1):w.heap.size≤b1));clear HB;have HB:=a9;have a0:=b0;have w2:=o7;have w4:=o8;clear a9 b0 o7 o8 hb hbox hg))
 (try simp only [Act.put,zzq,zzr,zzs]);go_cut [24] (fun w0 wc=>∃ (kq:Nat) (b4:Bool),w0 = .bool b4∧Aside0 (Qo.j0 kq b4 a6 a5 a2 a3 a4 a1=some r)∧Aside0 (kq≤k)∧Aside0 (wc.heap[b1]? = some (.cells #[.bool a6,.bool a5,.int .i64 a2,.int .i64 a3,.int .i64 a4,(.slice a7 a1.length a8)] 34 (0,0)))∧Aside0 (Below w.heap.size w wc))
 case first=>
  have H:=o0.out;clear o0;obtain ⟨b9,A4,H⟩:=zzG H;by_cases c5:b9=true
  ·
   subst c5;replace H:=zzIt H;obtain ⟨c0,A6,H⟩:=zzG H;by_cases c7:c0=true
   ·
    subst c7;replace H:=zzIt H;obtain ⟨c1,A8,H⟩:=zzG H;by_cases c9:c1=true
    ·
     subst c9;replace H:=zzIt H;obtain ⟨b5,w1,H⟩:=zzG H;have H':=zzm H;clear H;obtain ⟨d1,d2,d3,d4,d5,d6,d7,d8,d9,e0,e1,e2⟩:=zzc6 a0.out;go_wp2_with (first|((with_reducible refine gate_callee (f:=83) rfl ?_);refine goesL_ (some 5) rfl rfl Try.func83 (by kernel_rfl) rfl #[.slice a7 a1.length a8] rfl zzM2 ?_;(with_reducible refine (Qj.calls k _ _ a1 true _ ?side1 ?side2 A4.out).mono ?_);(case side1=>exact zzcb b2 HB);(case side2=>exact b3.out);rintro e w5 ⟨rfl,hb⟩;refine ⟨_,rfl,?_⟩;have a9:=zzm (zzh (g:=b1) (o:=.cells #[.bool a6,.bool a5,.int .i64 a2,.int .i64 a3,.int .i64 a4,.slice a7 a1.length a8] 34 (0,0)) (zzE a0.out) hb);have b0:=zzm (zzp zzh2 hb);clear a0 HB;have a0:=a9;have HB:=b0;clear a9 b0;(try clear hb);(try clear hb2);(try clear hk);(try clear hi);obtain ⟨e3,e4,e5,e6,e7,e8,e9,g0,g1,g2,g3,g4⟩:=zzc6 a0.out)|(go_at_call 84;(with_reducible refine (Qv.calls a2 0 255 true _ A6.out).mono ?_);rintro e w' ⟨rfl,⟨nd,rfl⟩⟩)|(go_at_call 84;(with_reducible refine (Qv.calls a3 0 99 true _ A8.out).mono ?_);rintro e w' ⟨rfl,⟨nd,rfl⟩⟩)|(go_at_call 84;(with_reducible refine (Qv.calls a4 0 9999 b5 _ w1.out).mono ?_);rintro e w' ⟨rfl,⟨nd,rfl⟩⟩));go_meet
     case rel=>exact ⟨_,(!b5),(by first|rfl|(simp;done)|(simp [*];done)),H',⟨by first|omega|exact Nat.le_refl _⟩,⟨zzE a0.out⟩,⟨zzh3⟩⟩
    ·
     replace c9:=Bool.eq_false_iff.mpr c9;subst c9;replace H:=zzIf H;have H':=zzm H;clear H;obtain ⟨g5,g6,g7,g8,g9,h0,h1,h2,h3,h4,h5,h6⟩:=zzc6 a0.out;go_wp2_with (first|((with_reducible refine gate_callee (f:=83) rfl ?_);refine goesL_ (some 5) rfl rfl Try.func83 (by kernel_rfl) rfl #[.slice a7 a1.length a8] rfl zzM2 ?_;(with_reducible refine (Qj.calls k _ _ a1 true _ ?side1 ?side2 A4.out).mono ?_);(case side1=>exact zzcb b2 HB);(case side2=>exact b3.out);rintro e w6 ⟨rfl,hb⟩;refine ⟨_,rfl,?_⟩;have a9:=zzm (zzh (g:=b1) (o:=.cells #[.bool a6,.bool a5,.int .i64 a2,.int .i64 a3,.int .i64 a4,.slice a7 a1.length a8] 34 (0,0)) (zzE a0.out) hb);have b0:=zzm (zzp zzh2 hb);clear a0 HB;have a0:=a9;have HB:=b0;clear a9 b0;(try clear hb);(try clear hb2);(try clear hk);(try clear hi);obtain ⟨h7,h8,h9,j3,j4,j5,j6,j7,j8,j9,k0,k1⟩:=zzc6 a0.out)|(go_at_call 84;(with_reducible refine (Qv.calls a2 0 255 true _ A6.out).mono ?_);rintro e w' ⟨rfl,⟨nd,rfl⟩⟩)|(go_at_call 84;(with_reducible refine (Qv.calls a3 0 99 false _ A8.out).mono ?_);rintro e w' ⟨rfl,⟨nd,rfl⟩⟩));go_meet
     case rel=>exact ⟨_,(true),(by first|rfl|(simp;done)|(simp [*];done)),H',⟨by first|omega|exact Nat.le_refl _⟩,⟨zzE a0.out⟩,⟨zzh3⟩⟩
   ·
    replace c7:=Bool.eq_false_iff.mpr c7;subst c7;replace H:=zzIf H;have H':=zzm H;clear H;obtain ⟨k2,k3,k4,k5,k6,k7,k8,k9,l2,l3,l4,l5⟩:=zzc6 a0.out;go_wp2_with (first|((with_reducible refine gate_callee (f:=83) rfl ?_);refine goesL_ (some 5) rfl rfl Try.func83 (by kernel_rfl) rfl #[.slice a7 a1.length a8] rfl zzM2 ?_;(with_reducible refine (Qj.calls k _ _ a1 true _ ?side1 ?side2 A4.out).mono ?_);(case side1=>exact zzcb b2 HB);(case side2=>exact b3.out);rintro e w7 ⟨rfl,hb⟩;refine ⟨_,rfl,?_⟩;have a9:=zzm (zzh (g:=b1) (o:=.cells #[.bool a6,.bool a5,.int .i64 a2,.int .i64 a3,.int .i64 a4,.slice a7 a1.length a8] 34 (0,0)) (zzE a0.out) hb);have b0:=zzm (zzp zzh2 hb);clear a0 HB;have a0:=a9;have HB:=b0;clear a9 b0;(try clear hb);(try clear hb2);(try clear hk);(try clear hi);obtain ⟨l6,l7,l8,l9,m0,m1,m2,m3,m4,m5,m6,m7⟩:=zzc6 a0.out)|(go_at_call 84;(with_reducible refine (Qv.calls a2 0 255 false _ A6.out).mono ?_);rintro e w' ⟨rfl,⟨nd,rfl⟩⟩));go_meet
    case rel=>exact ⟨_,(true),(by first|rfl|(simp;done)|(simp [*];done)),H',⟨by first|omega|exact Nat.le_refl _⟩,⟨zzE a0.out⟩,⟨zzh3⟩⟩
  ·
   replace c5:=Bool.eq_false_iff.mpr c5;subst c5;replace H:=zzIf H;have H':=zzm H;clear H;obtain ⟨m8,m9,n0,n1,n2,n3,n4,n5,n6,n7,n8,n9⟩:=zzc6 a0.out;go_wp2_with (first|((with_reducible refine gate_callee (f:=83) rfl ?_);refine goesL_ (some 5) rfl rfl Try.func83 (by kernel_rfl) rfl #[.slice a7 a1.length a8] rfl zzM2 ?_;(with_reducible refine (Qj.calls k _ _ a1 false _ ?side1 ?side2 A4.out).mono ?_);(case side1=>exact zzcb b2 HB);(case side2=>exact b3.out);rintro e w8 ⟨rfl,hb⟩;refine ⟨_,rfl,?_⟩;have a9:=zzm (zzh (g:=b1) (o:=.cells #[.bool a6,.bool a5,.int .i64 a2,.int .i64 a3,.int .i64 a4,.slice a7 a1.length a8] 34 (0,0)) (zzE a0.out) hb);have b0:=zzm (zzp zzh2 hb);clear a0 HB;have a0:=a9;have HB:=b0;clear a9 b0;(try clear hb);(try clear hb2);(try clear hk);(try clear hi)));go_meet
   case rel=>exact ⟨_,(true),(by first|rfl|(simp;done)|(simp [*];done)),H',⟨by first|omega|exact Nat.le_refl _⟩,⟨zzE a0.out⟩,⟨zzh3⟩⟩
 case rest=>
  clear o0;try clear p2
  try clear c5
  try clear c6
  try clear c7
  try clear c8
  try clear c9
  try clear d1
  try clear d2
  try clear d3
  try clear d4
  try clear d5
  try clear d6
  try clear e3
  try clear e4
  try clear e5
  try clear e6
  try clear e7
  try clear e8
  try clear g5
  try clear g6
  try clear g7
  try clear g8
  try clear g9
  try clear h0
  try clear h7
  try clear h8
  try clear h9
  try clear j3
  try clear j4
  try clear j5
  try clear k2
  try clear k3
  try clear k4
  try clear k5
  try clear k6
  try clear k7
  try clear l6
  try clear l7
  try clear l8
  try clear l9
  try clear m0
  try clear m1
  try clear m8
  try clear m9
  try clear n0
  try clear n1
  try clear n2
  try clear n3
  try clear d7
  try clear d8
  try clear d9
  try clear e0
  try clear e1
  try clear e2
  try clear e9
  try clear g0
  try clear g1
  try clear g2
  try clear g3
  try clear g4
  try clear h1
  try clear h2
  try clear h3
  try clear h4
  try clear h5
  try clear h6
  try clear j6
  try clear j7
  try clear j8
  try clear j9
  try clear k0
  try clear k1
  try clear k8
  try clear k9
  try clear l2
  try clear l3
  try clear l4
  try clear l5
  try clear m2
  try clear m3
  try clear m4
  try clear m5
  try clear m6
  try clear m7
  try clear n4
  try clear n5
  try clear n6
  try clear n7
  try clear n8
  try clear n9
  obtain ⟨kq,b4,rfl,HA,HJ1,a0,HB⟩:=hcut;cases kq with
  | zero=>exact absurd HA.out (by simp [Qo.j0])
  | succ w9=>
   have H:=HA.out;clear HA;simp only [Qo.j0] at H;by_cases c4:b4=true
   ·
    subst c4;replace H:=zzIt H;obtain rfl:=Option.some.inj H;go_wp2;go_ret;exact ⟨zzR,zzh3⟩
   ·
    replace c4:=Bool.eq_false_iff.mpr c4;subst c4;replace H:=zzIf H;by_cases b6:a2=255
    ·
     rw [if_pos b6] at H;obtain ⟨o1,o2⟩:=zzQ b6;clear b6;by_cases b7:a3=0
     ·
      rw [if_pos b7] at H;obtain ⟨o3,o4⟩:=zzQ b7;clear b7;by_cases b8:a4=0
      ·
       rw [if_pos b8] at H;obtain ⟨o5,o6⟩:=zzQ b8;clear b8;obtain rfl:=Option.some.inj H;obtain ⟨o9,p0,p1,p3,p4,p5,p6,p7,p8,p9,q0,q1⟩:=zzc6 a0.out;go_wp2;go_ret;exact ⟨zzR,zzh3⟩
      ·
       rw [if_neg b8] at H;obtain ⟨o5,o6⟩:=zzY b8;obtain rfl:=Option.some.inj H;obtain ⟨q2,q3,q4,q5,q6,q7,q8,q9,r0,r1,r2,r3⟩:=zzc6 a0.out;go_wp2;go_ret;exact ⟨zzR,zzh3⟩
     ·
      rw [if_neg b7] at H;obtain ⟨o3,o4⟩:=zzY b7;obtain rfl:=Option.some.inj H;obtain ⟨r4,r5,r6,r7,r8,r9,s0,s1,s2,s3,s4,s5⟩:=zzc6 a0.out;go_wp2;go_ret;exact ⟨zzR,zzh3⟩
    ·
     rw [if_neg b6] at H;obtain ⟨o1,o2⟩:=zzY b6;by_cases d0:a5=true
     ·
      subst d0;replace H:=zzIt H;obtain rfl:=Option.some.inj H;obtain ⟨s6,s7,s8,s9,t0,t1,t2,t3,t4,t5,t6,t7⟩:=zzc6 a0.out;go_wp2;go_ret;exact ⟨zzR,zzh3⟩
     ·
      replace d0:=Bool.eq_false_iff.mpr d0;subst d0;replace H:=zzIf H;obtain rfl:=Option.some.inj H;obtain ⟨t8,t9,v0,v1,v2,v3,v4,v5,v6,v7,v8,v9⟩:=zzc6 a0.out;go_wp2;go_ret;exact ⟨zzR,zzh3⟩
mutual
def Qg.j0:Nat→List (S34)→Int→List Int→Int→Option ((List (S34))×Int)
 | 0,_,_,_,_=>none
 | k+1,x3,x4,x1000,x1001=>(Qd.f k x1000 x1001 10).bind fun bt326=>(Qg.l0 k x3 x4 bt326.1 0 x1000 bt326.2)
def Qg.l0:Nat→List (S34)→Int→Int→Int→List Int→Int→Option ((List (S34))×Int)
 | 0,_,_,_,_,_,_=>none
 | k+1,x3,x4,x5,x6,x1000,x1001=>if x6 < x4 then ((Qi.f k x1000 x1001 x5).bind fun bt332=>((Qd.f k x1000 bt332.2.2.2.2.2.2 20).bind fun bt342=>(if bt342.1 > 0 then ((Qo.f k bt332.1 bt332.2.1 bt332.2.2.1 bt332.2.2.2.1 bt332.2.2.2.2.1 bt332.2.2.2.2.2.1).bind fun t344=>(Qg.j2 k x3 x4 x5 x6 (!t344) x1000 bt342.2 bt332.1 bt332.2.1 bt332.2.2.1 bt332.2.2.2.1 bt332.2.2.2.2.1 bt332.2.2.2.2.2.1)) else (Qg.j2 k x3 x4 x5 x6 false x1000 bt342.2 bt332.1 bt332.2.1 bt332.2.2.1 bt332.2.2.2.1 bt332.2.2.2.2.1 bt332.2.2.2.2.2.1)))) else (if x4 > 1 then ((Qd.f k x1000 x1001 30).bind fun bt328=>(if bt328.1=0 then (if 0 < (x3.length:Int) then (if 1 < (x3.length:Int) then (some ((x3.set (1:Int).toNat (⟨(Qa x3 0).f0,(Qa x3 0).f1,(Qa x3 0).f2,(Qa x3 0).f3,(Qa x3 0).f4,(Qa x3 0).f5⟩:S34)),bt328.2)) else (none)) else (none)) else (some (x3,bt328.2)))) else (some (x3,x1001)))
def Qg.j2:Nat→List (S34)→Int→Int→Int→Bool→List Int→Int→Bool→Bool→Int→Int→Int→List (S30)→Option ((List (S34))×Int)
 | 0,_,_,_,_,_,_,_,_,_,_,_,_,_=>none
 | k+1,x3,x4,x5,x6,x37,x1000,x1001,x342000,x342001,x342002,x342003,x342004,x342005=>if x37=true then ((Qf.f k x1000 x1001 x5 2).bind fun bt345=>(if x3.length < 2513169434916 then (if 0≤(wrap64 ((bt345.1.length:Int) - 1)) then (if (wrap64 ((bt345.1.length:Int) - 1)) < (bt345.1.length:Int) then ((Qd.f k x1000 bt345.2 4).bind fun bt353=>(Qg.l0 k (x3 ++ [(⟨false,false,255,0,0,bt345.1⟩:S34)]) x4 (wrap64 ((wrap64 (((Qb bt345.1 (wrap64 ((bt345.1.length:Int) - 1))).f0)+1))+(wrap64 ((wrap64 (Int.tdiv bt353.1 3)) * 2)))) (wrap64 (x6+1)) x1000 bt353.2)) else (none)) else (none)) else (none))) else (if x3.length < 2513169434916 then (if 0≤(wrap64 ((x342005.length:Int) - 1)) then (if (wrap64 ((x342005.length:Int) - 1)) < (x342005.length:Int) then ((Qd.f k x1000 x1001 4).bind fun bt359=>(Qg.l0 k (x3 ++ [(⟨x342000,x342001,x342002,x342003,x342004,x342005⟩:S34)]) x4 (wrap64 ((wrap64 (((Qb x342005 (wrap64 ((x342005.length:Int) - 1))).f0)+1))+(wrap64 ((wrap64 (Int.tdiv bt359.1 3)) * 2)))) (wrap64 (x6+1)) x1000 bt359.2)) else (none)) else (none)) else (none))
end
def Qg.f (k:Nat) (s0_0:List Int) (s0_1:Int):Option ((List (S34))×Int):=(some (([]:List (S34)):List (S34))).bind fun y313=>((Qd.f k s0_0 s0_1 5).bind fun bt316=>((Qd.f k s0_0 bt316.2 16).bind fun bt318=>(if bt318.1=0 then ((some (([0,8,9]:List Int):List Int)).bind fun y320=>((Qd.f k s0_0 bt318.2 3).bind fun bt323=>(if 0≤bt323.1 then (if bt323.1 < (y320.length:Int) then (Qg.j0 k y313 (rd y320 bt323.1) s0_0 bt323.2) else (none)) else (none)))) else (Qg.j0 k y313 (wrap64 (1+bt316.1)) s0_0 bt318.2))))
def Qg.T13:Bool×List (List Nat×List Nat):=(true,[([],[]),([0],[0]),([],[]),([2],[2]),([3],[3]),([4],[4]),([1,5],[1,5]),([6],[6]),([7],[7]),([8],[8]),([],[]),([10],[10]),([11],[11]),([12],[12]),([9,13],[9,13]),([14,11,0,1,2,3,4,5,6,7,8,9,10,11,12,13,14],[14])])
def Qg.B13:List Nat:=[0,1,0,4,12,28,63,127,255,511,0,1024,3072,7168,16383,32767]
theorem Qg.tab13:rtab .any (opsOf Try.f38 13)=Qg.T13:=by kernel_rfl
theorem Qg.bits13:waitsOk Qg.T13.2 Qg.B13=true:=by kernel_rfl
set_option maxHeartbeats 8000000 in
theorem Qg.calls (k:Nat) (g:Nat) (a5:List Int) (k9:Int) (r1:List (S34)) (r2:Int) (w0 w:World) (hI:Qc w0 w g a5 k9) (hB:Below w0.heap.size w0 w) (h:Qg.f k a5 k9=some (r1,r2)) :
  Calls Try.prog 38 #[.pointer (some ⟨g,0,none⟩)] w fun e w'=>∃ C1:Value,e = .returned (C1)∧Kd.N k34 34 w' w.heap.size (fun k_=>(w.heap.size≤k_)) C1 r1∧Qc w0 w' g a5 r2∧Below w0.heap.size w0 w'∧KeepBut w w' g none:=by
 have hu34:=Try.underlying34;have a1:=zzm hI;have HK:=zzm (KeepBut.refl w g none);have HL:=zzm hB.size;clear hI;have HW0:=zzm hB.size;have HB:=zzm hB;clear hB;have H:((some (([]:List (S34)):List (S34))).bind fun y313=>((Qd.f k a5 k9 5).bind fun h9=>((Qd.f k a5 h9.2 16).bind fun e5=>(if e5.1=0 then ((some (([0,8,9]:List Int):List Int)).bind fun y320=>((Qd.f k a5 e5.2 3).bind fun c7=>(if 0≤c7.1 then (if c7.1 < (y320.length:Int) then (Qg.j0 k y313 (rd y320 c7.1) a5 c7.2) else (none)) else (none)))) else (Qg.j0 k y313 (wrap64 (1+h9.1)) a5 e5.2)))))=some (r1,r2):=h;clear h;obtain ⟨y313,hy313⟩:∃ y_:List (S34),y_=(([]:List (S34))):=⟨_,rfl⟩;replace H:((Qd.f k a5 k9 5).bind fun h9=>((Qd.f k a5 h9.2 16).bind fun e5=>(if e5.1=0 then ((some (([0,8,9]:List Int):List Int)).bind fun y320=>((Qd.f k a5 e5.2 3).bind fun c7=>(if 0≤c7.1 then (if c7.1 < (y320.length:Int) then (Qg.j0 k y313 (rd y320 c7.1) a5 c7.2) else (none)) else (none)))) else (Qg.j0 k y313 (wrap64 (1+h9.1)) a5 e5.2))))=some (r1,r2):=by first|(rw [hy313];with_reducible exact H)|(have H2_:=(Option.bind_some _ _).symm.trans H;rw [hy313];with_reducible exact H2_)|(have H2_:=(Option.bind_some _ _).symm.trans H;with_reducible exact H2_)|with_reducible exact H|(rw [hy313];exact H)|exact H
 have Ny313:=zzm hy313;clear hy313;replace H:=zzH H;obtain ⟨⟨o8,r3⟩,s7,H⟩:=H;replace H:((Qd.f k a5 r3 16).bind fun e5=>(if e5.1=0 then ((some (([0,8,9]:List Int):List Int)).bind fun y320=>((Qd.f k a5 e5.2 3).bind fun c7=>(if 0≤c7.1 then (if c7.1 < (y320.length:Int) then (Qg.j0 k y313 (rd y320 c7.1) a5 c7.2) else (none)) else (none)))) else (Qg.j0 k y313 (wrap64 (1+o8)) a5 e5.2)))=some (r1,r2):=H;have A2:=zzm s7;clear s7;replace H:=zzH H;obtain ⟨⟨r4,h8⟩,C2,H⟩:=H;replace H:(if r4=0 then ((some (([0,8,9]:List Int):List Int)).bind fun y320=>((Qd.f k a5 h8 3).bind fun c7=>(if 0≤c7.1 then (if c7.1 < (y320.length:Int) then (Qg.j0 k y313 (rd y320 c7.1) a5 c7.2) else (none)) else (none)))) else (Qg.j0 k y313 (wrap64 (1+o8)) a5 h8))=some (r1,r2):=H;have A3:=zzm C2;clear C2;have y7:=zzm H;clear H;go_enter Try.func38,Try.ntmps38;go_upto_if 14 with (first|((with_reducible refine gate_dst (N:=8) rfl ?_);refine Kd.N_lit k34 _ 34 ?hg (N':=8) ?hd (xs:=([]:List (S34))) (inner:=[]) (ok:=(fun k_=>(w.heap.size≤k_)∧k_≠g)) (okp:=(fun k_=>(w.heap.size≤k_)∧k_≠g)) ?hr ?hp (fun _ hk=>hk) ((show ∀ k_,w.heap.size≤k_→(fun k_=>(w.heap.size≤k_)∧k_≠g) k_ from fun k_ hk=>⟨(Nat.le_trans (keep_size (w:=w) (g:=g) (row:=none) (zzk3 HK)) hk),Qc.fresh (by repeat (first|(with_reducible first|exact a1.out|apply Qc.alloc|apply Qc.drewN|apply Qc.drew|apply Qc.set_1)|exact a1.out)) k_ hk⟩) _ (Nat.le_refl _)) (Below.refl _ _) (Nat.le_refl _) (by simp) ?_;(case hd=>rfl);(case hg=>rfl);(case hr=>first|(go_simp;done)|(go_simp;rfl));(case hp=>exact (Reps.none _ _));intro D0 w5 ho6 hb hg_ hnew_;clear hg_ hnew_;(first|rw [← Ny313.out] at ho6|(simp only [Int.reduceToNat] at ho6;rw [← Ny313.out] at ho6));have a8:=zzm (Kd.N_lower ho6 (keep_size (w:=w) (g:=g) (row:=none) (zzk3 HK)));have a9:=zzm (Qc.below (by repeat (first|(with_reducible first|exact a1.out|apply Qc.alloc|apply Qc.drewN|apply Qc.drew|apply Qc.set_1)|exact a1.out)) hb);have b0:=zzm (KeepBut.trans (zzk3 HK) (KeepBut.of_below hb g none) (.inl rfl));have b1:=zzm (zzp (by repeat (first|(with_reducible first|exact HB.out|apply zza|apply zzb|apply zzc|refine zzd ?_ (Qc.ge a1.out))|exact HB.out)) hb);clear a1 HK HB;have d7:=a8;have a1:=a9;have HK:=b0;have HB:=b1;clear a8 a9 b0 b1 hb ho6)|((with_reducible refine gate_callee (f:=54) rfl ?_);refine goesL_ (some 10) rfl rfl Try.func54 (by kernel_rfl) rfl #[.pointer (some ⟨g,0,none⟩),.int .i64 5] rfl zzM2 ?_;(with_reducible refine (Qd.calls k g a5 k9 5 o8 r3 w0 _ ?side1 ?side2 A2.out).mono ?_);(case side1=>repeat (first|(with_reducible first|exact a1.out|apply Qc.alloc|apply Qc.drewN|apply Qc.drew|apply Qc.set_1)|exact a1.out));(case side2=>repeat (first|(with_reducible first|exact HB.out|apply zza|apply zzb|apply zzc|refine zzd ?_ (Qc.ge a1.out))|exact HB.out));rintro e w7 ⟨rfl,hi,hb,hk⟩;refine ⟨_,rfl,?_⟩;have a8:=zzm (Kd.N_mono (Kd.N_keep (Kd.N_mono (ok:=fun k_=>(((w.heap.size≤k_))∧k_≠g)) (zzN d7.out) (fun k_ hk_=>(⟨hk_,hk_.2⟩:_∧k_≠g))) hk (fun _ h=>h.2)) (fun _ h=>h.1));have a9:=zzm (KeepBut.trans (zzk3 HK) hk (.inl rfl));have b0:=zzm (hb);have b1:=zzm (hi);clear d7 HK HB a1;have d7:=a8;have HK:=a9;have HB:=b0;have a1:=b1;clear a8 a9 b0 b1;(try clear hb);(try clear hb2);(try clear hk);(try clear hi))|((with_reducible refine gate_callee (f:=54) rfl ?_);refine goesL_ (some 13) rfl rfl Try.func54 (by kernel_rfl) rfl #[.pointer (some ⟨g,0,none⟩),.int .i64 16] rfl zzM2 ?_;(with_reducible refine (Qd.calls k g a5 r3 16 r4 h8 w0 _ ?side1 ?side2 A3.out).mono ?_);(case side1=>repeat (first|(with_reducible first|exact a1.out|apply Qc.alloc|apply Qc.drewN|apply Qc.drew|apply Qc.set_1)|exact a1.out));(case side2=>repeat (first|(with_reducible first|exact HB.out|apply zza|apply zzb|apply zzc|refine zzd ?_ (Qc.ge a1.out))|exact HB.out));rintro e w8 ⟨rfl,hi,hb,hk⟩;refine ⟨_,rfl,?_⟩;have a8:=zzm (Kd.N_mono (Kd.N_keep (Kd.N_mono (ok:=fun k_=>(((w.heap.size≤k_))∧k_≠g)) (zzN d7.out) (fun k_ hk_=>(⟨hk_,hk_.2⟩:_∧k_≠g))) hk (fun _ h=>h.2)) (fun _ h=>h.1));have a9:=zzm (KeepBut.trans (zzk3 HK) hk (.inl rfl));have b0:=zzm (hb);have b1:=zzm (hi);clear d7 HK HB a1;have d7:=a8;have HK:=a9;have HB:=b0;have a1:=b1;clear a8 a9 b0 b1;(try clear hb);(try clear hb2);(try clear hk);(try clear hi)))
 (try simp only [Act.put,zzq,zzr,zzs]);go_cut [4] (fun v4 wc=>∃ (kq:Nat) (d3:Int) (h0:Int),v4 = .int .i64 d3∧Aside0 (Qg.j0 kq y313 d3 a5 h0=some (r1,r2))∧Aside0 (kq≤k)∧Aside0 (Kd.N k34 34 wc w.heap.size (fun k_=>(w.heap.size≤k_)∧k_≠g) D0 y313)∧Aside0 (Qc w0 wc g a5 h0)∧Aside0 (KeepBut w wc g none)∧Aside0 (Below w0.heap.size w0 wc))
 case first=>
  have H:=y7.out;clear y7;by_cases c9:r4=0
  ·
   rw [if_pos c9] at H;obtain ⟨g9,o9⟩:=zzQ c9;clear c9
   (first|rw [g9]|(simp only [i64_w,i32_w];rw [g9])|skip);obtain ⟨y320,hy320⟩:∃ y_:List Int,y_=(([0,8,9]:List Int)):=⟨_,rfl⟩;replace H:((Qd.f k a5 h8 3).bind fun c7=>(if 0≤c7.1 then (if c7.1 < (y320.length:Int) then (Qg.j0 k y313 (rd y320 c7.1) a5 c7.2) else (none)) else (none)))=some (r1,r2):=by first|(rw [hy320];with_reducible exact H)|(have H2_:=(Option.bind_some _ _).symm.trans H;rw [hy320];with_reducible exact H2_)|(have H2_:=(Option.bind_some _ _).symm.trans H;with_reducible exact H2_)|with_reducible exact H|(rw [hy320];exact H)|exact H
   have Ny320:=zzm hy320;clear hy320;replace H:=zzH H;obtain ⟨⟨e7,r5⟩,y8,H⟩:=H;replace H:(if 0≤e7 then (if e7 < (y320.length:Int) then (Qg.j0 k y313 (rd y320 e7) a5 r5) else (none)) else (none))=some (r1,r2):=H;have I2:=zzm y8;clear y8;by_cases l2 : 0≤e7
   ·
    rw [if_pos l2] at H;have p0:decide (0≤e7)=true:=decide_eq_true l2;clear l2;by_cases l3:e7 < (y320.length:Int)
    ·
     rw [if_pos l3] at H;have p1:decide (e7 < (y320.length:Int))=true:=decide_eq_true l3;clear l3;have H':=zzm H;clear H;go_wp2_with (first|((with_reducible refine gate_dst (N:=15) rfl ?_);refine Kd.R_lit (Kd.int .i64) _ 3 ?hg (N:=15) ?hd (xs:=([0,8,9]:List Int)) (inner:=[.int .i64 0,.int .i64 8,.int .i64 9]) (ok:=fun _=>True) (okp:=fun _=>True) ?hr ?hp (fun _ hk=>hk) trivial (Below.refl _ _) (Nat.le_refl _) (by simp) ?_;(case hd=>rfl);(case hg=>rfl);(case hr=>first|(go_simp;done)|(go_simp;rfl));(case hp=>exact (Reps.one (show Kd.M (Kd.int .i64) _ _ _ 0 [.int .i64 0] from rfl) (Reps.one (show Kd.M (Kd.int .i64) _ _ _ 8 [.int .i64 8] from rfl) (Reps.one (show Kd.M (Kd.int .i64) _ _ _ 9 [.int .i64 9] from rfl) (Reps.none _ _)))));intro D1 M8 ho14 hb hg_ hnew_;clear hg_ hnew_;(first|rw [← Ny320.out] at ho14|(simp only [Int.reduceToNat] at ho14;rw [← Ny320.out] at ho14));have a8:=zzm (Kd.N_elder' (zzN d7.out) (Kd.R_base ho14) hb);have a9:=zzm (Kd.R_lower (Kd.R_newM (M:=fun k_=>(w.heap.size≤k_)) ho14 (keep_size (w:=w) (g:=g) (row:=none) (zzk3 HK)) (fun k_ h_=>h_)) (keep_size (w:=w) (g:=g) (row:=none) (zzk3 HK)));have b0:=zzm (Qc.below (by repeat (first|(with_reducible first|exact a1.out|apply Qc.alloc|apply Qc.drewN|apply Qc.drew|apply Qc.set_1)|exact a1.out)) hb);have b1:=zzm (KeepBut.trans (zzk3 HK) (KeepBut.of_below hb g none) (.inl rfl));have b7:=zzm (zzp (by repeat (first|(with_reducible first|exact HB.out|apply zza|apply zzb|apply zzc|refine zzd ?_ (Qc.ge a1.out))|exact HB.out)) hb);clear d7 a1 HK HB;have d7:=a8;have j3:=a9;have a1:=b0;have HK:=b1;have HB:=b7;clear a8 a9 b0 b1 b7 hb ho14)|((with_reducible refine gate_callee (f:=54) rfl ?_);refine goesL_ (some 17) rfl rfl Try.func54 (by kernel_rfl) rfl #[.pointer (some ⟨g,0,none⟩),.int .i64 3] rfl zzM2 ?_;(with_reducible refine (Qd.calls k g a5 h8 3 e7 r5 w0 _ ?side1 ?side2 I2.out).mono ?_);(case side1=>repeat (first|(with_reducible first|exact a1.out|apply Qc.alloc|apply Qc.drewN|apply Qc.drew|apply Qc.set_1)|exact a1.out));(case side2=>repeat (first|(with_reducible first|exact HB.out|apply zza|apply zzb|apply zzc|refine zzd ?_ (Qc.ge a1.out))|exact HB.out));rintro e M9 ⟨rfl,hi,hb,hk⟩;refine ⟨_,rfl,?_⟩;have a8:=zzm (Kd.N_mono (Kd.N_keep (Kd.N_mono (ok:=fun k_=>((((w.heap.size≤k_))∧k_≠g)∧some k_≠(D1:Value).ownBlock)) (zzN d7.out) (fun k_ hk_=>(⟨hk_,hk_.1.2⟩:_∧k_≠g))) hk (fun _ h=>h.2)) (fun _ h=>h.1));have a9:=zzm (Kd.R_mono (Kd.R_keep (Qc.apart (show Qc w0 _ g a5 h8 from by repeat (first|(with_reducible first|exact a1.out|apply Qc.alloc|apply Qc.drewN|apply Qc.drew|apply Qc.set_1)|exact a1.out)) (by (with_reducible repeat (first|apply Kd.R_alloc|apply Kd.R_drewN|apply Kd.R_drew));exact j3.out) (by decide)) hk (fun _ h=>h.2)) (fun _ h=>h.1));have b0:=zzm (KeepBut.trans (zzk3 HK) hk (.inl rfl));have b1:=zzm (hb);have b7:=zzm (hi);clear d7 j3 HK HB a1;have d7:=a8;have j3:=a9;have HK:=b0;have HB:=b1;have a1:=b7;clear a8 a9 b0 b1 b7;(try clear hb);(try clear hb2);(try clear hk);(try clear hi);obtain ⟨L7,L8,eo16⟩:=Kd.R_slice j3.out;subst eo16;have j6 : 0≤(e7:Int):=zzt;have j7:e7 < (y320.length:Int):=zzt;obtain ⟨J7,D2,j8⟩:=Kd.at_int (Kd.R_reads' j3.out).2.2 e7 j6 j7;cases D2;replace j6:=eq_true j6;replace j7:=eq_true j7));go_meet
     case rel=>exact ⟨_,(rd y320 e7),(r5),(by first|rfl|(simp;done)|(simp [*];done)),H',⟨by first|omega|exact Nat.le_refl _⟩,⟨by (with_reducible repeat (first|apply Kd.N_alloc|apply Kd.N_drewN|apply Kd.N_drew));exact Kd.N_mono d7.out (fun _ hk=>⟨hk.1.1,hk.1.2⟩)⟩,⟨by repeat (first|(with_reducible first|exact a1.out|apply Qc.alloc|apply Qc.drewN|apply Qc.drew|apply Qc.set_1)|exact a1.out)⟩,⟨by repeat (first|(with_reducible first|exact HK.out|apply KeepBut.set_|apply keep_drewN|apply keep_drew|apply keep_alloc)|exact HK.out)⟩,⟨by repeat (first|(with_reducible first|exact HB.out|apply zza|apply zzb|apply zzc|refine zzd ?_ (Qc.ge a1.out))|exact HB.out)⟩⟩
    ·
     rw [if_neg l3] at H;exact absurd H (by simp)
   ·
    rw [if_neg l2] at H;exact absurd H (by simp)
  ·
   rw [if_neg c9] at H;obtain ⟨g9,o9⟩:=zzY c9
   (first|rw [g9]|(simp only [i64_w,i32_w];rw [g9])|skip);have H':=zzm H;clear H;go_wp2;go_meet
   case rel=>exact ⟨_,(wrap64 (1+o8)),(h8),(by first|rfl|(simp;done)|(simp [*];done)),H',⟨by first|omega|exact Nat.le_refl _⟩,⟨by (with_reducible repeat (first|apply Kd.N_alloc|apply Kd.N_drewN|apply Kd.N_drew));exact d7.out⟩,⟨by repeat (first|(with_reducible first|exact a1.out|apply Qc.alloc|apply Qc.drewN|apply Qc.drew|apply Qc.set_1)|exact a1.out)⟩,⟨by repeat (first|(with_reducible first|exact HK.out|apply KeepBut.set_|apply keep_drewN|apply keep_drew|apply keep_alloc)|exact HK.out)⟩,⟨by repeat (first|(with_reducible first|exact HB.out|apply zza|apply zzb|apply zzc|refine zzd ?_ (Qc.ge a1.out))|exact HB.out)⟩⟩
 case rest=>
  clear y7;try clear c1
  try clear p2
  try clear c3
  try clear p3
  try clear q3
  try clear C3
  try clear c5
  try clear p6
  try clear c9
  try clear g9
  try clear o9
  try clear l2
  try clear p0
  try clear l3
  try clear p1
  try clear j8
  try clear j6
  try clear j7
  obtain ⟨kq,d3,h0,rfl,HA,HJ3,a6,a1,HK,HB⟩:=hcut;cases kq with
  | zero=>exact absurd HA.out (by simp [Qg.j0])
  | succ s8=>
   have H:=HA.out;clear HA;simp only [Qg.j0] at H;replace H:=zzH H;obtain ⟨⟨r6,r7⟩,y9,H⟩:=H;replace H:(Qg.l0 s8 y313 d3 r6 0 a5 r7)=some (r1,r2):=H;have I3:=zzm y9;clear y9;have H':=zzm H;clear H;go_wp2_with (first|((with_reducible refine gate_callee (f:=54) rfl ?_);refine goesL_ (some 21) rfl rfl Try.func54 (by kernel_rfl) rfl #[.pointer (some ⟨g,0,none⟩),.int .i64 10] rfl zzM2 ?_;(with_reducible refine (Qd.calls s8 g a5 h0 10 r6 r7 w0 _ ?side1 ?side2 I3.out).mono ?_);(case side1=>repeat (first|(with_reducible first|exact a1.out|apply Qc.alloc|apply Qc.drewN|apply Qc.drew|apply Qc.set_1)|exact a1.out));(case side2=>repeat (first|(with_reducible first|exact HB.out|apply zza|apply zzb|apply zzc|refine zzd ?_ (Qc.ge a1.out))|exact HB.out));rintro e N0 ⟨rfl,hi,hb,hk⟩;refine ⟨_,rfl,?_⟩;have a8:=zzm (Kd.N_mono (Kd.N_keep (Kd.N_mono (ok:=fun k_=>(((w.heap.size≤k_))∧k_≠g)) (zzN a6.out) (fun k_ hk_=>(⟨hk_,hk_.2⟩:_∧k_≠g))) hk (fun _ h=>h.2)) (fun _ h=>h.1));have a9:=zzm (KeepBut.trans (zzk3 HK) hk (.inl rfl));have b0:=zzm (hb);have b1:=zzm (hi);clear a6 HK HB a1;have a6:=a8;have HK:=a9;have HB:=b0;have a1:=b1;clear a8 a9 b0 b1;(try clear hb);(try clear hb2);(try clear hk);(try clear hi)));go_loopg [3,5,6] s8 (fun kq v3 v5 v6 w'=>∃ (a3:List (S34)) (e8:Int) (d5:Int) (g0:Int),v5 = .int .i64 e8∧v6 = .int .i64 d5∧Aside0 (Qg.l0 kq a3 d3 e8 d5 a5 g0=some (r1,r2))∧Aside0 (kq≤s8)∧Aside0 (Kd.N k34 34 w' w.heap.size (fun k_=>(w.heap.size≤k_)∧k_≠g) v3 a3)∧Aside0 (Qc w0 w' g a5 g0)∧Aside0 (KeepBut w w' g none)∧Aside0 (Below w0.heap.size w0 w'))
   case atStart=>exact ⟨(y313),(r6),(0),(r7),(by first|rfl|(simp;done)|(simp [*];done)),(by first|rfl|(simp;done)|(simp [*];done)),H',⟨Nat.le_refl _⟩,⟨by (with_reducible repeat (first|apply Kd.N_alloc|apply Kd.N_drewN|apply Kd.N_drew));exact a6.out⟩,⟨by repeat (first|(with_reducible first|exact a1.out|apply Qc.alloc|apply Qc.drewN|apply Qc.drew|apply Qc.set_1)|exact a1.out)⟩,⟨by repeat (first|(with_reducible first|exact HK.out|apply KeepBut.set_|apply keep_drewN|apply keep_drew|apply keep_alloc)|exact HK.out)⟩,⟨by repeat (first|(with_reducible first|exact HB.out|apply zza|apply zzb|apply zzc|refine zzd ?_ (Qc.ge a1.out))|exact HB.out)⟩⟩
   case round=>
    clear H';try clear c1
    try clear p2
    try clear c3
    try clear p3
    try clear q3
    try clear C3
    try clear c5
    try clear p6
    try clear c9
    try clear g9
    try clear o9
    try clear l2
    try clear p0
    try clear l3
    try clear p1
    try clear j8
    try clear p2
    try clear p3
    try clear j6
    try clear p6
    try clear q3
    try clear j7
    obtain ⟨a3,e8,d5,g0,rfl,rfl,HA,HK2,a6,a1,HK,HB⟩:=hrel;cases gk with
    | zero=>exact absurd HA.out (by simp [Qg.l0])
    | succ k2=>
     have H:=HA.out;clear HA;simp only [Qg.l0] at H;by_cases l4:d5 < d3
     ·
      rw [if_pos l4] at H;have s9:decide (d5 < d3)=true:=decide_eq_true l4;clear l4;replace H:=zzH H;obtain ⟨⟨b3,b4,b5,b8,c0,a4,j9⟩,z0,H⟩:=H;replace H:((Qd.f k2 a5 j9 20).bind fun p4=>(if p4.1 > 0 then ((Qo.f k2 b3 b4 b5 b8 c0 a4).bind fun k0=>(Qg.j2 k2 a3 d3 e8 d5 (!k0) a5 p4.2 b3 b4 b5 b8 c0 a4)) else (Qg.j2 k2 a3 d3 e8 d5 false a5 p4.2 b3 b4 b5 b8 c0 a4)))=some (r1,r2):=H;have s7:=zzm z0;clear z0;have r8:=zzm H;clear H;go_upto_region 10 with (first|((with_reducible refine gate_callee (f:=65) rfl ?_);refine goesL_ (some 29) rfl rfl Try.func65 (by kernel_rfl) rfl #[.pointer (some ⟨g,0,none⟩),.int .i64 e8] rfl zzM2 ?_;(with_reducible refine (Qi.calls k2 g a5 g0 e8 b3 b4 b5 b8 c0 a4 j9 w0 _ ?side1 ?side2 s7.out).mono ?_);(case side1=>repeat (first|(with_reducible first|exact a1.out|apply Qc.alloc|apply Qc.drewN|apply Qc.drew|apply Qc.set_1)|exact a1.out));(case side2=>repeat (first|(with_reducible first|exact HB.out|apply zza|apply zzb|apply zzc|refine zzd ?_ (Qc.ge a1.out))|exact HB.out));rintro e N1 ⟨L9,rfl,ho0,hi,hb,hk⟩;refine ⟨_,rfl,?_⟩;have a8:=zzm (Kd.N_mono (Kd.N_told (Kd.N_oldK (Kd.N_mono (ok:=fun k_=>(((w.heap.size≤k_))∧k_≠g)) (zzN a6.out) (fun k_ hk_=>(⟨hk_,hk_.2⟩:_∧k_≠g))) hk) (by first|exact Kd.N_base ho0|exact Kd.S_base ho0)) (fun _ h_=>h_.1));have a9:=zzm (Kd.N_lower (Kd.N_mono (ok':=fun k_=>(w.heap.size≤k_)∧some k_≠(u3:Value).ownBlock∧k_≠g) ho0 (fun k_ hk_=>⟨(Nat.le_trans (keep_size (w:=w) (g:=g) (row:=none) (zzk3 HK)) hk_),(Kd.fresh' (Kd.N_lt (zzN a6.out)) k_ hk_),(Qc.fresh (by repeat (first|(with_reducible first|exact a1.out|apply Qc.alloc|apply Qc.drewN|apply Qc.drew|apply Qc.set_1)|exact a1.out)) k_ hk_)⟩)) (keep_size (w:=w) (g:=g) (row:=none) (zzk3 HK)));have b0:=zzm (KeepBut.trans (zzk3 HK) hk (.inl rfl));have b1:=zzm (hb);have b7:=zzm (hi);clear a6 HK HB a1;have a6:=a8;have d4:=a9;have HK:=b0;have HB:=b1;have a1:=b7;clear a8 a9 b0 b1 b7;(try clear hb);(try clear hb2);(try clear hk);(try clear hi);(try clear ho0))|((with_reducible refine gate_dst (N:=7) rfl ?_);refine box_event ?hg (N:=7) ?hd (cs:=#[.bool false,.bool false,.int .i64 0,.int .i64 0,.int .i64 0,.slice none 0 0]) (t:=34) ?hr ?_;(case hd=>rfl);(case hg=>rfl);(case hr=>first|(go_simp;done)|(go_simp;rfl));intro a0 hg N2 hbox hb;have a8:=zzm (Kd.N_below (Kd.N_elderB (zzN a6.out) a0 (Nat.le_of_eq hg.symm)) hb);have a9:=zzm (Kd.N_below (Kd.N_elderB (zzN d4.out) a0 (Nat.le_of_eq hg.symm)) hb);have b0:=zzm (Qc.below (by repeat (first|(with_reducible first|exact a1.out|apply Qc.alloc|apply Qc.drewN|apply Qc.drew|apply Qc.set_1)|exact a1.out)) hb);have b1:=zzm (KeepBut.trans (zzk3 HK) (KeepBut.of_below hb g none) (.inl rfl));have b7:=zzm (zzp (by repeat (first|(with_reducible first|exact HB.out|apply zza|apply zzb|apply zzc|refine zzd ?_ (Qc.ge a1.out))|exact HB.out)) hb);have d6:=zzm (hbox);have k7:=zzm ((by rw [hg];exact (keep_size (w:=w) (g:=g) (row:=none) (zzk3 HK)):w.heap.size≤a0));have C4:=zzm ((Nat.le_trans HW0.out (by rw [hg];exact (keep_size (w:=w) (g:=g) (row:=none) (zzk3 HK)):w.heap.size≤a0):w0.heap.size≤a0));have C5:=zzm ((by rw [hg];exact Nat.ne_of_lt (Qc.lt (show Qc w0 _ g a5 j9 from by repeat (first|(with_reducible first|exact a1.out|apply Qc.alloc|apply Qc.drewN|apply Qc.drew|apply Qc.set_1)|exact a1.out))):g≠a0));have C6:=zzm ((by rw [hg];exact Nat.ne_of_gt (Qc.lt (show Qc w0 _ g a5 j9 from by repeat (first|(with_reducible first|exact a1.out|apply Qc.alloc|apply Qc.drewN|apply Qc.drew|apply Qc.set_1)|exact a1.out))):a0≠g));clear a6 d4 a1 HK HB;have a6:=a8;have d4:=a9;have a1:=b0;have HK:=b1;have HB:=b7;have a2:=d6;have k8:=k7;have e0:=C4;have b6:=C5;have e1:=C6;clear a8 a9 b0 b1 b7 d6 k7 C4 C5 C6 hb hbox hg;have J8:=e1.out;have J9:=b6.out;obtain ⟨t9,v0,v2,v7,v8,v9,w2,w3,w4,w6,w9,x0⟩:=zzc6 a2.out;obtain ⟨c4,b9,eo26⟩:=Kd.N_slice d4.out;subst eo26))
      (try simp only [Act.put,zzq,zzr,zzs]);go_cut [37] (fun I4 wc=>∃ (kq:Nat) (j4:Bool) (e3:Int),I4 = .bool j4∧Aside0 (Qg.j2 kq a3 d3 e8 d5 j4 a5 e3 b3 b4 b5 b8 c0 a4=some (r1,r2))∧Aside0 (kq≤k2)∧Aside0 (Kd.N k34 34 wc w.heap.size (fun k_=>(w.heap.size≤k_)∧some k_≠((.slice c4 a4.length b9):Value).ownBlock∧k_≠a0∧k_≠g) u3 a3)∧Aside0 (Kd.N k30 30 wc w.heap.size (fun k_=>(w.heap.size≤k_)∧some k_≠(u3:Value).ownBlock∧k_≠a0∧k_≠g) (.slice c4 a4.length b9) a4)∧Aside0 (wc.heap[a0]? = some (.cells #[.bool b3,.bool b4,.int .i64 b5,.int .i64 b8,.int .i64 c0,(.slice c4 a4.length b9)] 34 (0,0)))∧Aside0 (Qc w0 wc g a5 e3)∧Aside0 (KeepBut w wc g none)∧Aside0 (Below w0.heap.size w0 wc))
      case first=>
       have H:=r8.out;clear r8;replace H:=zzH H;obtain ⟨⟨k1,k3⟩,z1,H⟩:=H;replace H:(if k1 > 0 then ((Qo.f k2 b3 b4 b5 b8 c0 a4).bind fun k0=>(Qg.j2 k2 a3 d3 e8 d5 (!k0) a5 k3 b3 b4 b5 b8 c0 a4)) else (Qg.j2 k2 a3 d3 e8 d5 false a5 k3 b3 b4 b5 b8 c0 a4))=some (r1,r2):=H;have C7:=zzm z1;clear z1;by_cases l5:k1 > 0
       ·
        rw [if_pos l5] at H;have h1:decide (0 < k1)=true:=decide_eq_true l5;clear l5
        (first|rw [h1]|(simp only [i64_w,i32_w];rw [h1])|skip);obtain ⟨k0,I5,H⟩:=zzG H;have H':=zzm H;clear H;go_wp2_with (first|((with_reducible refine gate_callee (f:=54) rfl ?_);refine goesL_ (some 31) rfl rfl Try.func54 (by kernel_rfl) rfl #[.pointer (some ⟨g,0,none⟩),.int .i64 20] rfl zzM2 ?_;(with_reducible refine (Qd.calls k2 g a5 j9 20 k1 k3 w0 _ ?side1 ?side2 C7.out).mono ?_);(case side1=>repeat (first|(with_reducible first|exact a1.out|apply Qc.alloc|apply Qc.drewN|apply Qc.drew|apply Qc.set_1|refine Qc.far ?_ b6.out _)|exact a1.out));(case side2=>repeat (first|(with_reducible first|exact HB.out|apply zza|apply zzb|apply zzc|refine zzd ?_ (Qc.ge a1.out)|refine zzd ?_ e0.out)|exact HB.out));rintro e N3 ⟨rfl,hi,hb,hk⟩;refine ⟨_,rfl,?_⟩;have a8:=zzm (Kd.N_mono (Kd.N_keep (Kd.N_mono (ok:=fun k_=>(((((w.heap.size≤k_))∧k_≠g)∧some k_≠(.slice c4 a4.length b9:Value).ownBlock)∧k_≠a0)) (zzN ((Kd.N_mono (Kd.N_far (p:=⟨a0,5,none⟩) (Kd.N_far (p:=⟨a0,4,none⟩) (Kd.N_far (p:=⟨a0,3,none⟩) (Kd.N_far (p:=⟨a0,2,none⟩) (Kd.N_far (p:=⟨a0,1,none⟩) (Kd.N_far (p:=⟨a0,0,none⟩) (Kd.N_mono a6.out (fun k_ hk=>(⟨hk,hk.2⟩:_∧k_≠a0))) (fun _ hk=>hk.2) (.bool b3)) (fun _ hk=>hk.2) (.bool b4)) (fun _ hk=>hk.2) (.int .i64 b5)) (fun _ hk=>hk.2) (.int .i64 b8)) (fun _ hk=>hk.2) (.int .i64 c0)) (fun _ hk=>hk.2) (.slice c4 a4.length b9)) (fun _ h_=>h_.1)))) (fun k_ hk_=>(⟨hk_,hk_.1.1.2⟩:_∧k_≠g))) hk (fun _ h=>h.2)) (fun _ h=>h.1));have a9:=zzm (Kd.N_mono (Kd.N_keep (Kd.N_mono (ok:=fun k_=>((((w.heap.size≤k_))∧(some k_≠(u3:Value).ownBlock∧k_≠g))∧k_≠a0)) (zzN ((Kd.N_mono (Kd.N_far (p:=⟨a0,5,none⟩) (Kd.N_far (p:=⟨a0,4,none⟩) (Kd.N_far (p:=⟨a0,3,none⟩) (Kd.N_far (p:=⟨a0,2,none⟩) (Kd.N_far (p:=⟨a0,1,none⟩) (Kd.N_far (p:=⟨a0,0,none⟩) (Kd.N_mono d4.out (fun k_ hk=>(⟨hk,hk.2⟩:_∧k_≠a0))) (fun _ hk=>hk.2) (.bool b3)) (fun _ hk=>hk.2) (.bool b4)) (fun _ hk=>hk.2) (.int .i64 b5)) (fun _ hk=>hk.2) (.int .i64 b8)) (fun _ hk=>hk.2) (.int .i64 c0)) (fun _ hk=>hk.2) (.slice c4 a4.length b9)) (fun _ h_=>h_.1)))) (fun k_ hk_=>(⟨hk_,hk_.1.2.2⟩:_∧k_≠g))) hk (fun _ h=>h.2)) (fun _ h=>h.1));have b0:=zzm (KeepBut.blk hk (g':=a0) (o:=.cells #[.bool b3,.bool b4,.int .i64 b5,.int .i64 b8,.int .i64 c0,.slice c4 a4.length b9] 34 (0,0)) (by (with_reducible repeat (first|apply zzf|apply zzg|apply zze));refine zzi (cs:=#[.bool b3,.bool b4,.int .i64 b5,.int .i64 b8,.int .i64 c0,.slice none 0 0]) ?_ 5 _ rfl;refine zzi (cs:=#[.bool b3,.bool b4,.int .i64 b5,.int .i64 b8,.int .i64 0,.slice none 0 0]) ?_ 4 _ rfl;refine zzi (cs:=#[.bool b3,.bool b4,.int .i64 b5,.int .i64 0,.int .i64 0,.slice none 0 0]) ?_ 3 _ rfl;refine zzi (cs:=#[.bool b3,.bool b4,.int .i64 0,.int .i64 0,.int .i64 0,.slice none 0 0]) ?_ 2 _ rfl;refine zzi (cs:=#[.bool b3,.bool false,.int .i64 0,.int .i64 0,.int .i64 0,.slice none 0 0]) ?_ 1 _ rfl;refine zzi (cs:=#[.bool false,.bool false,.int .i64 0,.int .i64 0,.int .i64 0,.slice none 0 0]) ?_ 0 _ rfl;(with_reducible repeat (first|apply zzf|apply zzg|apply zze));exact a2.out) e1.out (by simp));have b1:=zzm (KeepBut.trans (zzk3 HK) hk (.inl rfl));have b7:=zzm (hb);have d6:=zzm (hi);clear a6 d4 a2 HK HB a1;have a6:=a8;have d4:=a9;have a2:=b0;have HK:=b1;have HB:=b7;have a1:=d6;clear a8 a9 b0 b1 b7 d6;(try clear hb);(try clear hb2);(try clear hk);(try clear hi);have K0:=e1.out;have K1:=b6.out;obtain ⟨x1,x2,x3,x4,x5,x6,x7,x8,x9,y0,y1,y2⟩:=zzc6 a2.out)|(go_at_call 66;(with_reducible refine (Qo.calls k2 b3 b4 b5 b8 c0 _ _ a4 k0 _ ?side1 ?side2 I5.out).mono ?_);(case side1=>repeat (first|exact (Kd.N_reads' d4.out).2.2|(with_reducible refine Kd.C_alloc ?_ _)|(with_reducible refine Kd.C_drewN ?_ _)|(with_reducible refine Kd.C_drew ?_)));(case side2=>exact (Kd.N_reads' d4.out).2.1);rintro e N4 ⟨rfl,hb⟩;have a8:=zzm (Kd.N_below (zzN a6.out) hb);have a9:=zzm (Kd.N_below (zzN d4.out) hb);have b0:=zzm (Qc.below (by repeat (first|(with_reducible first|exact a1.out|apply Qc.alloc|apply Qc.drewN|apply Qc.drew|apply Qc.set_1|refine Qc.far ?_ b6.out _)|exact a1.out)) hb);have b1:=zzm (zzh (g:=a0) (o:=.cells #[.bool b3,.bool b4,.int .i64 b5,.int .i64 b8,.int .i64 c0,.slice c4 a4.length b9] 34 (0,0)) (zzE a2.out) hb);have b7:=zzm (KeepBut.trans (zzk3 HK) (KeepBut.of_below hb g none) (.inl rfl));have d6:=zzm (zzp (by repeat (first|(with_reducible first|exact HB.out|apply zza|apply zzb|apply zzc|refine zzd ?_ (Qc.ge a1.out)|refine zzd ?_ e0.out)|exact HB.out)) hb);clear a6 d4 a1 a2 HK HB;have a6:=a8;have d4:=a9;have a1:=b0;have a2:=b1;have HK:=b7;have HB:=d6;clear a8 a9 b0 b1 b7 d6;(try clear hb);(try clear hb2);(try clear hk);(try clear hi)));go_meet
        case rel=>exact ⟨_,(!k0),(k3),(by first|rfl|(simp;done)|(simp [*];done)),H',⟨by have:=HJ3.out;have:=HK2.out;first|omega|exact Nat.le_refl _⟩,⟨by (with_reducible repeat (first|apply Kd.N_alloc|apply Kd.N_drewN|apply Kd.N_drew));exact Kd.N_mono a6.out (fun _ hk=>⟨hk.1.1.1,⟨hk.1.2,⟨hk.2,hk.1.1.2⟩⟩⟩)⟩,⟨by (with_reducible repeat (first|apply Kd.N_alloc|apply Kd.N_drewN|apply Kd.N_drew));exact Kd.N_mono d4.out (fun _ hk=>⟨hk.1.1,⟨hk.1.2.1,⟨hk.2,hk.1.2.2⟩⟩⟩)⟩,⟨zzE a2.out⟩,⟨by repeat (first|(with_reducible first|exact a1.out|apply Qc.alloc|apply Qc.drewN|apply Qc.drew|apply Qc.set_1|refine Qc.far ?_ b6.out _)|exact a1.out)⟩,⟨by repeat (first|(with_reducible first|exact HK.out|apply KeepBut.set_|apply keep_drewN|apply keep_drew|apply keep_alloc|refine keep_far ?_ k8.out _)|exact HK.out)⟩,⟨by repeat (first|(with_reducible first|exact HB.out|apply zza|apply zzb|apply zzc|refine zzd ?_ (Qc.ge a1.out)|refine zzd ?_ e0.out)|exact HB.out)⟩⟩
       ·
        rw [if_neg l5] at H;have h1:decide (0 < k1)=false:=decide_eq_false l5;clear l5
        (first|rw [h1]|(simp only [i64_w,i32_w];rw [h1])|skip);have H':=zzm H;clear H;go_wp2_with (first|((with_reducible refine gate_callee (f:=54) rfl ?_);refine goesL_ (some 31) rfl rfl Try.func54 (by kernel_rfl) rfl #[.pointer (some ⟨g,0,none⟩),.int .i64 20] rfl zzM2 ?_;(with_reducible refine (Qd.calls k2 g a5 j9 20 k1 k3 w0 _ ?side1 ?side2 C7.out).mono ?_);(case side1=>repeat (first|(with_reducible first|exact a1.out|apply Qc.alloc|apply Qc.drewN|apply Qc.drew|apply Qc.set_1|refine Qc.far ?_ b6.out _)|exact a1.out));(case side2=>repeat (first|(with_reducible first|exact HB.out|apply zza|apply zzb|apply zzc|refine zzd ?_ (Qc.ge a1.out)|refine zzd ?_ e0.out)|exact HB.out));rintro e N5 ⟨rfl,hi,hb,hk⟩;refine ⟨_,rfl,?_⟩;have a8:=zzm (Kd.N_mono (Kd.N_keep (Kd.N_mono (ok:=fun k_=>(((((w.heap.size≤k_))∧k_≠g)∧some k_≠(.slice c4 a4.length b9:Value).ownBlock)∧k_≠a0)) (zzN ((Kd.N_mono (Kd.N_far (p:=⟨a0,5,none⟩) (Kd.N_far (p:=⟨a0,4,none⟩) (Kd.N_far (p:=⟨a0,3,none⟩) (Kd.N_far (p:=⟨a0,2,none⟩) (Kd.N_far (p:=⟨a0,1,none⟩) (Kd.N_far (p:=⟨a0,0,none⟩) (Kd.N_mono a6.out (fun k_ hk=>(⟨hk,hk.2⟩:_∧k_≠a0))) (fun _ hk=>hk.2) (.bool b3)) (fun _ hk=>hk.2) (.bool b4)) (fun _ hk=>hk.2) (.int .i64 b5)) (fun _ hk=>hk.2) (.int .i64 b8)) (fun _ hk=>hk.2) (.int .i64 c0)) (fun _ hk=>hk.2) (.slice c4 a4.length b9)) (fun _ h_=>h_.1)))) (fun k_ hk_=>(⟨hk_,hk_.1.1.2⟩:_∧k_≠g))) hk (fun _ h=>h.2)) (fun _ h=>h.1));have a9:=zzm (Kd.N_mono (Kd.N_keep (Kd.N_mono (ok:=fun k_=>((((w.heap.size≤k_))∧(some k_≠(u3:Value).ownBlock∧k_≠g))∧k_≠a0)) (zzN ((Kd.N_mono (Kd.N_far (p:=⟨a0,5,none⟩) (Kd.N_far (p:=⟨a0,4,none⟩) (Kd.N_far (p:=⟨a0,3,none⟩) (Kd.N_far (p:=⟨a0,2,none⟩) (Kd.N_far (p:=⟨a0,1,none⟩) (Kd.N_far (p:=⟨a0,0,none⟩) (Kd.N_mono d4.out (fun k_ hk=>(⟨hk,hk.2⟩:_∧k_≠a0))) (fun _ hk=>hk.2) (.bool b3)) (fun _ hk=>hk.2) (.bool b4)) (fun _ hk=>hk.2) (.int .i64 b5)) (fun _ hk=>hk.2) (.int .i64 b8)) (fun _ hk=>hk.2) (.int .i64 c0)) (fun _ hk=>hk.2) (.slice c4 a4.length b9)) (fun _ h_=>h_.1)))) (fun k_ hk_=>(⟨hk_,hk_.1.2.2⟩:_∧k_≠g))) hk (fun _ h=>h.2)) (fun _ h=>h.1));have b0:=zzm (KeepBut.blk hk (g':=a0) (o:=.cells #[.bool b3,.bool b4,.int .i64 b5,.int .i64 b8,.int .i64 c0,.slice c4 a4.length b9] 34 (0,0)) (by (with_reducible repeat (first|apply zzf|apply zzg|apply zze));refine zzi (cs:=#[.bool b3,.bool b4,.int .i64 b5,.int .i64 b8,.int .i64 c0,.slice none 0 0]) ?_ 5 _ rfl;refine zzi (cs:=#[.bool b3,.bool b4,.int .i64 b5,.int .i64 b8,.int .i64 0,.slice none 0 0]) ?_ 4 _ rfl;refine zzi (cs:=#[.bool b3,.bool b4,.int .i64 b5,.int .i64 0,.int .i64 0,.slice none 0 0]) ?_ 3 _ rfl;refine zzi (cs:=#[.bool b3,.bool b4,.int .i64 0,.int .i64 0,.int .i64 0,.slice none 0 0]) ?_ 2 _ rfl;refine zzi (cs:=#[.bool b3,.bool false,.int .i64 0,.int .i64 0,.int .i64 0,.slice none 0 0]) ?_ 1 _ rfl;refine zzi (cs:=#[.bool false,.bool false,.int .i64 0,.int .i64 0,.int .i64 0,.slice none 0 0]) ?_ 0 _ rfl;(with_reducible repeat (first|apply zzf|apply zzg|apply zze));exact a2.out) e1.out (by simp));have b1:=zzm (KeepBut.trans (zzk3 HK) hk (.inl rfl));have b7:=zzm (hb);have d6:=zzm (hi);clear a6 d4 a2 HK HB a1;have a6:=a8;have d4:=a9;have a2:=b0;have HK:=b1;have HB:=b7;have a1:=d6;clear a8 a9 b0 b1 b7 d6;(try clear hb);(try clear hb2);(try clear hk);(try clear hi)));go_meet
        case rel=>exact ⟨_,(false),(k3),(by first|rfl|(simp;done)|(simp [*];done)),H',⟨by have:=HJ3.out;have:=HK2.out;first|omega|exact Nat.le_refl _⟩,⟨by (with_reducible repeat (first|apply Kd.N_alloc|apply Kd.N_drewN|apply Kd.N_drew));exact Kd.N_mono a6.out (fun _ hk=>⟨hk.1.1.1,⟨hk.1.2,⟨hk.2,hk.1.1.2⟩⟩⟩)⟩,⟨by (with_reducible repeat (first|apply Kd.N_alloc|apply Kd.N_drewN|apply Kd.N_drew));exact Kd.N_mono d4.out (fun _ hk=>⟨hk.1.1,⟨hk.1.2.1,⟨hk.2,hk.1.2.2⟩⟩⟩)⟩,⟨zzE a2.out⟩,⟨by repeat (first|(with_reducible first|exact a1.out|apply Qc.alloc|apply Qc.drewN|apply Qc.drew|apply Qc.set_1|refine Qc.far ?_ b6.out _)|exact a1.out)⟩,⟨by repeat (first|(with_reducible first|exact HK.out|apply KeepBut.set_|apply keep_drewN|apply keep_drew|apply keep_alloc|refine keep_far ?_ k8.out _)|exact HK.out)⟩,⟨by repeat (first|(with_reducible first|exact HB.out|apply zza|apply zzb|apply zzc|refine zzd ?_ (Qc.ge a1.out)|refine zzd ?_ e0.out)|exact HB.out)⟩⟩
      case rest=>
       clear r8;try clear c1
       try clear c2
       try clear p2
       try clear c3
       try clear p3
       try clear q3
       try clear C3
       try clear c5
       try clear c6
       try clear p6
       try clear c9
       try clear g9
       try clear o9
       try clear l2
       try clear p0
       try clear l3
       try clear p1
       try clear l4
       try clear s9
       try clear N6
       try clear l5
       try clear h1
       try clear N7
       try clear N8
       try clear N9
       try clear M0
       try clear t9
       try clear v0
       try clear v2
       try clear v7
       try clear v8
       try clear v9
       try clear x1
       try clear x2
       try clear x3
       try clear x4
       try clear x5
       try clear x6
       try clear w2
       try clear w3
       try clear w4
       try clear w6
       try clear w9
       try clear x0
       try clear x7
       try clear x8
       try clear x9
       try clear y0
       try clear y1
       try clear y2
       try clear j8
       try clear p2
       try clear p3
       try clear j6
       try clear p6
       try clear q3
       try clear j7
       obtain ⟨kq,j4,e3,rfl,HA,HJ20,a6,a7,a2,a1,HK,HB⟩:=hcut;cases kq with
       | zero=>exact absurd HA.out (by simp [Qg.j2])
       | succ d9=>
        have H:=HA.out;clear HA;simp only [Qg.j2] at H;by_cases t0:j4=true
        ·
         subst t0;replace H:=zzIt H;replace H:=zzH H;obtain ⟨⟨b2,k4⟩,z2,H⟩:=H;replace H:(if a3.length < 2513169434916 then (if 0≤(wrap64 ((b2.length:Int) - 1)) then (if (wrap64 ((b2.length:Int) - 1)) < (b2.length:Int) then ((Qd.f d9 a5 k4 4).bind fun g2=>(Qg.l0 d9 (a3 ++ [(⟨false,false,255,0,0,b2⟩:S34)]) d3 (wrap64 ((wrap64 (((Qb b2 (wrap64 ((b2.length:Int) - 1))).f0)+1))+(wrap64 ((wrap64 (Int.tdiv g2.1 3)) * 2)))) (wrap64 (d5+1)) a5 g2.2)) else (none)) else (none)) else (none))=some (r1,r2):=H;have C8:=zzm z2;clear z2;by_cases t1:a3.length < 2513169434916
         ·
          rw [if_pos t1] at H;have LMc37:=zzm t1;clear t1;obtain ⟨y349,hy349⟩:∃ y_:List (S34),y_=(a3 ++ [(⟨false,false,255,0,0,b2⟩:S34)]):=⟨_,rfl⟩;replace H:(if 0≤(wrap64 ((b2.length:Int) - 1)) then (if (wrap64 ((b2.length:Int) - 1)) < (b2.length:Int) then ((Qd.f d9 a5 k4 4).bind fun g2=>(Qg.l0 d9 y349 d3 (wrap64 ((wrap64 (((Qb b2 (wrap64 ((b2.length:Int) - 1))).f0)+1))+(wrap64 ((wrap64 (Int.tdiv g2.1 3)) * 2)))) (wrap64 (d5+1)) a5 g2.2)) else (none)) else (none))=some (r1,r2):=by first|(rw [hy349];with_reducible exact H)|(have H2_:=(Option.bind_some _ _).symm.trans H;rw [hy349];with_reducible exact H2_)|(have H2_:=(Option.bind_some _ _).symm.trans H;with_reducible exact H2_)|with_reducible exact H|(rw [hy349];exact H)|exact H
          have Ny349:=zzm hy349;clear hy349;obtain ⟨c8,hji38⟩:∃ j_:Int,(wrap64 ((b2.length:Int) - 1))=j_:=⟨_,rfl⟩;replace H:(if 0≤(c8) then (if (c8) < (b2.length:Int) then ((Qd.f d9 a5 k4 4).bind fun g2=>(Qg.l0 d9 y349 d3 (wrap64 ((wrap64 (((Qb b2 (c8)).f0)+1))+(wrap64 ((wrap64 (Int.tdiv g2.1 3)) * 2)))) (wrap64 (d5+1)) a5 g2.2)) else (none)) else (none))=some (r1,r2):=by first|(rw [hji38] at H;exact H)|(simp only [hji38] at H ⊢;exact H)
          (try rw [hji38] at C8);have hji38w:(IntKind.i64.wrap ((b2.length:Int) - 1))=c8:=(i64_w _).trans hji38;by_cases t2 : 0≤(c8)
          ·
           rw [if_pos t2] at H;have K2:decide (0≤(c8))=true:=decide_eq_true t2;clear t2;by_cases t3:(c8) < (b2.length:Int)
           ·
            rw [if_pos t3] at H;have K3:decide ((c8) < (b2.length:Int))=true:=decide_eq_true t3;clear t3;replace H:=zzH H;obtain ⟨⟨r9,s0⟩,z3,H⟩:=H;replace H:(Qg.l0 d9 y349 d3 (wrap64 ((wrap64 (((Qb b2 (c8)).f0)+1))+(wrap64 ((wrap64 (Int.tdiv r9 3)) * 2)))) (wrap64 (d5+1)) a5 s0)=some (r1,r2):=H;have I6:=zzm z3;clear z3;have H':=zzm H;clear H;try go_wp2_with (first|((with_reducible refine gate_callee (f:=67) rfl ?_);refine goesL_ (some 40) rfl rfl Try.func67 (by kernel_rfl) rfl #[.pointer (some ⟨g,0,none⟩),.int .i64 e8,.int .i64 2] rfl zzM2 ?_;(with_reducible refine (Qf.calls d9 g a5 e3 e8 2 b2 k4 w0 _ ?side1 ?side2 C8.out).mono ?_);(case side1=>repeat (first|(with_reducible first|exact a1.out|apply Qc.alloc|apply Qc.drewN|apply Qc.drew|apply Qc.set_1|refine Qc.far ?_ b6.out _)|exact a1.out));(case side2=>repeat (first|(with_reducible first|exact HB.out|apply zza|apply zzb|apply zzc|refine zzd ?_ (Qc.ge a1.out)|refine zzd ?_ e0.out)|exact HB.out));rintro e I7 ⟨M1,rfl,ho0,hi,hb,hk⟩;refine ⟨_,rfl,?_⟩;have a8:=zzm (Kd.N_mono (Kd.N_told (Kd.N_oldK (Kd.N_mono (ok:=fun k_=>(((w.heap.size≤k_))∧(some k_≠(.slice c4 a4.length b9:Value).ownBlock∧(k_≠a0∧k_≠g)))) (zzN a6.out) (fun k_ hk_=>(⟨hk_,hk_.2.2.2⟩:_∧k_≠g))) hk) (by first|exact Kd.N_base ho0|exact Kd.S_base ho0)) (fun _ h_=>h_.1));have a9:=zzm (Kd.N_mono (Kd.N_told (Kd.N_oldK (Kd.N_mono (ok:=fun k_=>(((w.heap.size≤k_))∧(some k_≠(u3:Value).ownBlock∧(k_≠a0∧k_≠g)))) (zzN a7.out) (fun k_ hk_=>(⟨hk_,hk_.2.2.2⟩:_∧k_≠g))) hk) (by first|exact Kd.N_base ho0|exact Kd.S_base ho0)) (fun _ h_=>h_.1));have b0:=zzm (KeepBut.blk hk (g':=a0) (o:=.cells #[.bool b3,.bool b4,.int .i64 b5,.int .i64 b8,.int .i64 c0,.slice c4 a4.length b9] 34 (0,0)) (zzE a2.out) e1.out (by simp));have b1:=zzm (Kd.N_lower (Kd.N_mono (ok':=fun k_=>(w.heap.size≤k_)∧some k_≠(u3:Value).ownBlock∧some k_≠(.slice c4 a4.length b9:Value).ownBlock∧k_≠a0∧k_≠g) (Kd.S_N (Kd.S_bound ho0)) (fun k_ hk_=>⟨(Nat.le_trans (keep_size (w:=w) (g:=g) (row:=none) (zzk3 HK)) hk_.2.1),(Kd.fresh' (Kd.N_lt (zzN a6.out)) k_ hk_.2.1),(Kd.fresh' (Kd.N_lt (zzN a7.out)) k_ hk_.2.1),(Kd.freshB (g:=a0) (o:=.cells #[.bool b3,.bool b4,.int .i64 b5,.int .i64 b8,.int .i64 c0,.slice c4 a4.length b9] 34 (0,0)) (zzE a2.out) k_ hk_.2.1),(Qc.fresh (by repeat (first|(with_reducible first|exact a1.out|apply Qc.alloc|apply Qc.drewN|apply Qc.drew|apply Qc.set_1|refine Qc.far ?_ b6.out _)|exact a1.out)) k_ hk_.2.1)⟩)) (keep_size (w:=w) (g:=g) (row:=none) (zzk3 HK)));have b7:=zzm (KeepBut.trans (zzk3 HK) hk (.inl rfl));have d6:=zzm (hb);have k7:=zzm (hi);clear a6 a7 a2 HK HB a1;have a6:=a8;have a7:=a9;have a2:=b0;have e6:=b1;have HK:=b7;have HB:=d6;have a1:=k7;clear a8 a9 b0 b1 b7 d6 k7;(try clear hb);(try clear hb2);(try clear hk);(try clear hi);(try clear ho0);obtain ⟨e9,e4,eo43⟩:=Kd.N_slice e6.out;subst eo43;have K4:=e1.out;have K5:=b6.out;obtain ⟨D8,D9,E0,E1,E2,E3,E4,E5,E6,E7,E8,E9⟩:=zzc6 a2.out)|((with_reducible refine gate_store (t:=34) (p:=7) rfl ?_);refine store_event (t:=34) (p:=7) (v:=?vo_w46) (w1:=((((((I7.setCell ⟨a0,0,none⟩ (.bool false)).setCell ⟨a0,1,none⟩ (.bool false)).setCell ⟨a0,2,none⟩ (.int .i64 255)).setCell ⟨a0,3,none⟩ (.int .i64 0)).setCell ⟨a0,4,none⟩ (.int .i64 0)).setCell ⟨a0,5,none⟩ (.slice e9 b2.length e4))) ?hg ?ho ?hn ?hr ?_;(case ho=>rfl);(case hg=>rfl);(case hn=>rfl);(case hr=>first|(go_simp;done)|(go_simp;rfl));intro l6 hw;have a8:Aside0 (Kd.N k34 34 l6 w.heap.size (fun k_=>(w.heap.size≤k_)∧some k_≠(.slice c4 a4.length b9:Value).ownBlock∧some k_≠(.slice e9 b2.length e4:Value).ownBlock∧k_≠a0∧k_≠g) u3 a3):=⟨(by rw [hw];exact (zzN (Kd.N_mono (Kd.N_far (p:=⟨a0,5,none⟩) (Kd.N_far (p:=⟨a0,4,none⟩) (Kd.N_far (p:=⟨a0,3,none⟩) (Kd.N_far (p:=⟨a0,2,none⟩) (Kd.N_far (p:=⟨a0,1,none⟩) (Kd.N_far (p:=⟨a0,0,none⟩) (Kd.N_mono a6.out (fun k_ hk=>(⟨hk,hk.1.2.2.1⟩:_∧k_≠a0))) (fun _ hk=>hk.2) (.bool false)) (fun _ hk=>hk.2) (.bool false)) (fun _ hk=>hk.2) (.int .i64 255)) (fun _ hk=>hk.2) (.int .i64 0)) (fun _ hk=>hk.2) (.int .i64 0)) (fun _ hk=>hk.2) (.slice e9 b2.length e4)) (fun _ hk=>⟨hk.1.1.1,⟨hk.1.1.2.1,⟨hk.1.2,⟨hk.1.1.2.2.1,hk.1.1.2.2.2⟩⟩⟩⟩))))⟩;have a9:Aside0 (Kd.N k30 30 l6 w.heap.size (fun k_=>(w.heap.size≤k_)∧some k_≠(u3:Value).ownBlock∧some k_≠(.slice e9 b2.length e4:Value).ownBlock∧k_≠a0∧k_≠g) (.slice c4 a4.length b9) a4):=⟨(by rw [hw];exact (zzN (Kd.N_mono (Kd.N_far (p:=⟨a0,5,none⟩) (Kd.N_far (p:=⟨a0,4,none⟩) (Kd.N_far (p:=⟨a0,3,none⟩) (Kd.N_far (p:=⟨a0,2,none⟩) (Kd.N_far (p:=⟨a0,1,none⟩) (Kd.N_far (p:=⟨a0,0,none⟩) (Kd.N_mono a7.out (fun k_ hk=>(⟨hk,hk.1.2.2.1⟩:_∧k_≠a0))) (fun _ hk=>hk.2) (.bool false)) (fun _ hk=>hk.2) (.bool false)) (fun _ hk=>hk.2) (.int .i64 255)) (fun _ hk=>hk.2) (.int .i64 0)) (fun _ hk=>hk.2) (.int .i64 0)) (fun _ hk=>hk.2) (.slice e9 b2.length e4)) (fun _ hk=>⟨hk.1.1.1,⟨hk.1.1.2.1,⟨hk.1.2,⟨hk.1.1.2.2.1,hk.1.1.2.2.2⟩⟩⟩⟩))))⟩;have b0:Aside0 (Kd.N k30 30 l6 w.heap.size (fun k_=>(w.heap.size≤k_)∧some k_≠(u3:Value).ownBlock∧some k_≠(.slice c4 a4.length b9:Value).ownBlock∧k_≠a0∧k_≠g) (.slice e9 b2.length e4) b2):=⟨(by rw [hw];exact (zzN (Kd.N_mono (Kd.N_far (p:=⟨a0,5,none⟩) (Kd.N_far (p:=⟨a0,4,none⟩) (Kd.N_far (p:=⟨a0,3,none⟩) (Kd.N_far (p:=⟨a0,2,none⟩) (Kd.N_far (p:=⟨a0,1,none⟩) (Kd.N_far (p:=⟨a0,0,none⟩) (Kd.N_mono e6.out (fun k_ hk=>(⟨hk,hk.2.2.2.1⟩:_∧k_≠a0))) (fun _ hk=>hk.2) (.bool false)) (fun _ hk=>hk.2) (.bool false)) (fun _ hk=>hk.2) (.int .i64 255)) (fun _ hk=>hk.2) (.int .i64 0)) (fun _ hk=>hk.2) (.int .i64 0)) (fun _ hk=>hk.2) (.slice e9 b2.length e4)) (fun _ hk=>⟨hk.1.1,⟨hk.1.2.1,⟨hk.1.2.2.1,⟨hk.1.2.2.2.1,hk.1.2.2.2.2⟩⟩⟩⟩))))⟩;have b1:Aside0 (l6.heap[a0]? = some (.cells #[.bool false,.bool false,.int .i64 255,.int .i64 0,.int .i64 0,.slice e9 b2.length e4] 34 (0,0))):=⟨(by rw [hw];exact (by (with_reducible repeat (first|apply zzf|apply zzg|apply zze));refine zzi (cs:=#[.bool false,.bool false,.int .i64 255,.int .i64 0,.int .i64 0,.slice c4 a4.length b9]) ?_ 5 _ rfl;refine zzi (cs:=#[.bool false,.bool false,.int .i64 255,.int .i64 0,.int .i64 c0,.slice c4 a4.length b9]) ?_ 4 _ rfl;refine zzi (cs:=#[.bool false,.bool false,.int .i64 255,.int .i64 b8,.int .i64 c0,.slice c4 a4.length b9]) ?_ 3 _ rfl;refine zzi (cs:=#[.bool false,.bool false,.int .i64 b5,.int .i64 b8,.int .i64 c0,.slice c4 a4.length b9]) ?_ 2 _ rfl;refine zzi (cs:=#[.bool false,.bool b4,.int .i64 b5,.int .i64 b8,.int .i64 c0,.slice c4 a4.length b9]) ?_ 1 _ rfl;refine zzi (cs:=#[.bool b3,.bool b4,.int .i64 b5,.int .i64 b8,.int .i64 c0,.slice c4 a4.length b9]) ?_ 0 _ rfl;(with_reducible repeat (first|apply zzf|apply zzg|apply zze));exact a2.out))⟩;have b7:Aside0 (Qc w0 l6 g a5 k4):=⟨(by rw [hw];exact (by repeat (first|(with_reducible first|exact a1.out|apply Qc.alloc|apply Qc.drewN|apply Qc.drew|apply Qc.set_1|refine Qc.far ?_ b6.out _)|exact a1.out)))⟩;have d6:Aside0 (KeepBut w l6 g none):=⟨(by rw [hw];exact (zzk3 HK))⟩;have k7:Aside0 (Below w0.heap.size w0 l6):=⟨(by rw [hw];exact (by repeat (first|(with_reducible first|exact HB.out|apply zza|apply zzb|apply zzc|refine zzd ?_ (Qc.ge a1.out)|refine zzd ?_ e0.out)|exact HB.out)))⟩;clear hw a6 a7 e6 a2 a1 HK HB;have a6:=a8;have a7:=a9;have e6:=b0;have a2:=b1;have a1:=b7;have HK:=d6;have HB:=k7;clear a8 a9 b0 b1 b7 d6 k7;obtain ⟨F0,F1,F2,F3,F4,F5,F6,F7,F8,F9,G0,G1⟩:=zzc6 a2.out)|((with_reducible refine gate_builtin (b:=.append) (xs:=#[.tmp 42,.tmp 44]) rfl ?_);at_builtin;refine Kd.N_append k34 w.heap.size rfl (.tmp 42) (.tmp 44) 23 34 (.agg #[(.bool false),(.bool false),(.int .i64 0),(.int .i64 0),(.int .i64 0),(.slice none 0 0)]) 56 rfl Try.underlying23 info34 rfl (by decide) (by omega) u3 a3 (⟨false,false,255,0,0,b2⟩:S34) [.bool false,.bool false,.int .i64 255,.int .i64 0,.int .i64 0,.slice e9 b2.length e4] (fun k_=>(w.heap.size≤k_)∧some k_≠(.slice c4 a4.length b9:Value).ownBlock∧k_≠a0∧k_≠g) (fun k_=>((fun k_=>(w.heap.size≤k_)∧some k_≠(.slice c4 a4.length b9:Value).ownBlock∧k_≠a0∧k_≠g)) k_∧some k_≠(u3:Value).ownBlock) rfl rfl ?aP (fun _ hk=>hk) ?aF ?aO (Below.refl _ _) ?aS ?aL ?_;(case aP=>exact (k34_mkF _ _ (⟨false,false,255,0,0,b2⟩:S34) (Kd.N_reads' (Kd.N_mono (ok':=(fun k_=>((fun k_=>(w.heap.size≤k_)∧some k_≠(.slice c4 a4.length b9:Value).ownBlock∧k_≠a0∧k_≠g)) k_∧some k_≠(u3:Value).ownBlock)) (e6.out) (fun k_ hk=>⟨⟨hk.1,⟨hk.2.2.1,⟨hk.2.2.2.1,hk.2.2.2.2⟩⟩⟩,hk.2.1⟩))).2.1 (Kd.N_F (Kd.N_mono (ok':=(fun k_=>((fun k_=>(w.heap.size≤k_)∧some k_≠(.slice c4 a4.length b9:Value).ownBlock∧k_≠a0∧k_≠g)) k_∧some k_≠(u3:Value).ownBlock)) (e6.out) (fun k_ hk=>⟨⟨hk.1,⟨hk.2.2.1,⟨hk.2.2.2.1,hk.2.2.2.2⟩⟩⟩,hk.2.1⟩)))));(case aF=>exact (fun k_ hk=>⟨(Nat.le_trans (keep_size (w:=w) (g:=g) (row:=none) (zzk3 HK)) hk),Kd.fresh' (Kd.N_lt (zzN a7.out)) k_ hk,Kd.freshB (g:=a0) (o:=.cells #[.bool false,.bool false,.int .i64 255,.int .i64 0,.int .i64 0,.slice e9 b2.length e4] 34 (0,0)) (zzE a2.out) k_ hk,Qc.fresh (by repeat (first|(with_reducible first|exact a1.out|apply Qc.alloc|apply Qc.drewN|apply Qc.drew|apply Qc.set_1|refine Qc.far ?_ b6.out _)|exact a1.out)) k_ hk⟩));(case aO=>exact (zzN (Kd.N_mono a6.out (fun _ hk=>⟨hk.1,⟨hk.2.1,⟨hk.2.2.2.1,hk.2.2.2.2⟩⟩⟩))));(case aS=>exact (keep_size (w:=w) (g:=g) (row:=none) (zzk3 HK)));(case aL=>have:=LMc37.out;omega);intro D3 I8 ho hb hg hat;rw [← Ny349.out] at ho;have nq_:=zzm (Kd.N_afterv (ok:=fun k_=>(w.heap.size≤k_)) (by (with_reducible repeat (first|apply Kd.N_alloc|apply Kd.N_drewN|apply Kd.N_drew));exact Kd.N_mono e6.out (fun k_ hk=>by (try simp only [and_assoc] at hk);(try simp only [and_assoc]);repeat' (first|exact hk.1|exact hk.2.1|exact hk.2.2.1|exact hk.2.2.2.1|exact hk.2.2.2.2.1|exact hk.2.2.2.2.2.1|exact hk.2.2.2.2.2.2|exact hk.2.2.2.2.2|exact hk.2.2.2.2|exact hk.2.2.2|exact hk.2.2|exact hk.2|exact hk|apply And.intro))) hg hat);have a8:=zzm (Kd.N_afterv (ok:=(fun k_=>(w.heap.size≤k_)∧some k_≠(.slice e9 b2.length e4:Value).ownBlock∧k_≠a0∧k_≠g)) (zzN (Kd.N_mono a7.out (fun _ hk=>⟨⟨hk.1,⟨hk.2.2.1,⟨hk.2.2.2.1,hk.2.2.2.2⟩⟩⟩,hk.2.1⟩))) hg hat);have a9:=zzm (blk_grown (g:=a0) (o:=.cells #[.bool false,.bool false,.int .i64 255,.int .i64 0,.int .i64 0,.slice e9 b2.length e4] 34 (0,0)) (zzE a2.out) hg (Kd.N_away a6.out (fun _ hk=>hk.2.2.2.1)));have b0:=zzm (Qc.grown (by repeat (first|(with_reducible first|exact a1.out|apply Qc.alloc|apply Qc.drewN|apply Qc.drew|apply Qc.set_1|refine Qc.far ?_ b6.out _)|exact a1.out)) hg (Qc.own_neN a1.out a6.out (by decide)));have b1:=zzm (below_weaken (by repeat (first|(with_reducible first|exact HB.out|apply zza|apply zzb|apply zzc|refine zzd ?_ (Qc.ge a1.out)|refine zzd ?_ e0.out)|exact HB.out)) HL.out hb);have b7:=zzm (KeepBut.trans (zzk3 HK) (KeepBut.of_grown hg g) (Kd.N_base2 a6.out));have d6:=zzm (ho);clear a7 a2 a1 HB HK a6 e6;have e6:=nq_;clear nq_;have a7:=a8;have a2:=a9;have a1:=b0;have HB:=b1;have HK:=b7;have g3:=d6;clear a8 a9 b0 b1 b7 d6 ho hb hg hat))
            have a8:=zzm (Kd.N_drew a7.out);have a9:=zzm (Kd.N_drew g3.out);have b0:=zzm (zzg a2.out);have NQ_HO347:=zzm (Qc.own_neN a1.out e6.out (by decide));have b1:=zzm (Qc.drew a1.out);have b7:=zzm (keep_drew HK.out);have d6:=zzm (zzc HB.out);clear a7 g3 a2 a1 HK HB;have a7:=a8;have g3:=a9;have a2:=b0;have a1:=b1;have HK:=b7;have HB:=d6;clear a8 a9 b0 b1 b7 d6;have s1 : 0≤((c8):Int):=zzt;have s2:(c8) < (b2.length:Int):=zzt;obtain ⟨d8,z4,z5,z6,z7,D4,m5,m6,m7,m8,m9,n0,n1,n2,n3,n4⟩:=Ra (Kd.N_reads' e6.out).2.2 (c8) s1 s2;cases D4;have y3:=zzm n2;have G2:=zzm n1;clear n2 n1;have y4:=zzm n4;have G3:=zzm n3;clear n4 n3;replace s1:=eq_true s1;replace s2:=eq_true s2;refine start_ (n:=16) (S:=fun w'=>w'.cell? ⟨a0,0,none⟩=some (.bool false)∧w'.cell? ⟨a0,1,none⟩=some (.bool false)∧w'.cell? ⟨a0,2,none⟩=some (.int .i64 255)∧w'.cell? ⟨a0,3,none⟩=some (.int .i64 0)∧w'.cell? ⟨a0,4,none⟩=some (.int .i64 0)∧w'.cell? ⟨a0,5,none⟩=some (.slice (some d8) b2.length e4)∧w'.cell? (d8.add (((c8)).toNat * 6))=some (.int .i64 ((Qb b2 (c8)).f0))∧w'.cell? ⟨(d8.add (((c8)).toNat * 6)).block,(d8.add (((c8)).toNat * 6)).off+1,none⟩=some (.int .i64 ((Qb b2 (c8)).f1))∧w'.cell? ⟨(d8.add (((c8)).toNat * 6)).block,(d8.add (((c8)).toNat * 6)).off+2,none⟩=some (.bool ((Qb b2 (c8)).f2))∧w'.cell? ⟨(d8.add (((c8)).toNat * 6)).block,(d8.add (((c8)).toNat * 6)).off+3,none⟩=some (.slice z4 ((Qb b2 (c8)).f3).length z5)∧w'.cell? ⟨(d8.add (((c8)).toNat * 6)).block,(d8.add (((c8)).toNat * 6)).off+4,none⟩=some (.bool ((Qb b2 (c8)).f4))∧w'.cell? ⟨(d8.add (((c8)).toNat * 6)).block,(d8.add (((c8)).toNat * 6)).off+5,none⟩=some (.slice z6 ((Qb b2 (c8)).f5).length z7)) (ds:=[]) (zzB 16 0) (by kernel_rfl) rfl rfl ⟨(zzk a2.out 0).trans rfl,(zzk a2.out 1).trans rfl,(zzk a2.out 2).trans rfl,(zzk a2.out 3).trans rfl,(zzk a2.out 4).trans rfl,(zzk a2.out 5).trans rfl,m5,m6,m7,m8,m9,n0⟩ (fun d1=>?_);refine with_tabW Qg.tab13 Qg.bits13 (fun d2 l7=>?_);generalize I8.drew=O0 at a7 g3 a2 a1 HK HB y3 y4 m5 m6 m7 m8 m9 n0 d1 ⊢;refine zzP 0 46 16 1 d2 ?_
            refine zzP 2 48 16 5 d2 ?_
            refine zzP 10 56 16 1029 d2 ?_
            refine zzT 1 47 16 1031 d2 l7 d1 ?_
            refine zzT 3 49 16 1039 d2 l7 d1 ?_
            refine zzP 4 50 16 1055 d2 ?_
            refine zzP 5 51 16 1087 d2 ?_
            refine zzP 6 52 16 1151 d2 ?_
            refine zzP 7 53 16 1279 d2 ?_
            refine zzT 8 54 16 1535 d2 l7 d1 ?_
            refine zzP 9 55 16 2047 d2 ?_
            refine one_ (i:=11) (N:=some 57) (zzB 16 4095) rfl rfl (one_of d2.out (by kernel_rfl)) (by decide) (fun K hK=>?_);refine goes_ Try.func54 (by kernel_rfl) rfl #[.pointer (some ⟨g,0,none⟩),.int .i64 4] (by rfl) rfl rfl zzM2 ?_;with_reducible refine (Qd.calls d9 g a5 k4 4 r9 s0 w0 _ ?side1 ?side2 I6.out).mono ?_
            (case side1=>repeat (first|(with_reducible first|exact a1.out|apply Qc.alloc|apply Qc.drewN|apply Qc.drew|apply Qc.set_1|refine Qc.far ?_ b6.out _)|exact a1.out))
            (case side2=>repeat (first|(with_reducible first|exact HB.out|apply zza|apply zzb|apply zzc|refine zzd ?_ (Qc.ge a1.out)|refine zzd ?_ e0.out)|exact HB.out));rintro e O1 ⟨rfl,hi,hb,hk⟩;have HS6_:=keep_cell hk (d1.2.2.2.2.2.2.1) (by first|(rw [add_block];exact Kd.own_blk (NQ_HO347.out))|(show (Addr.add _ _).block≠_;rw [add_block];exact Kd.own_blk (NQ_HO347.out))|exact Kd.own_blk (NQ_HO347.out));have HS7_:=keep_cell hk (d1.2.2.2.2.2.2.2.1) (by first|(rw [add_block];exact Kd.own_blk (NQ_HO347.out))|(show (Addr.add _ _).block≠_;rw [add_block];exact Kd.own_blk (NQ_HO347.out))|exact Kd.own_blk (NQ_HO347.out));have HS8_:=keep_cell hk (d1.2.2.2.2.2.2.2.2.1) (by first|(rw [add_block];exact Kd.own_blk (NQ_HO347.out))|(show (Addr.add _ _).block≠_;rw [add_block];exact Kd.own_blk (NQ_HO347.out))|exact Kd.own_blk (NQ_HO347.out));have HS9_:=keep_cell hk (d1.2.2.2.2.2.2.2.2.2.1) (by first|(rw [add_block];exact Kd.own_blk (NQ_HO347.out))|(show (Addr.add _ _).block≠_;rw [add_block];exact Kd.own_blk (NQ_HO347.out))|exact Kd.own_blk (NQ_HO347.out));have HS10_:=keep_cell hk (d1.2.2.2.2.2.2.2.2.2.2.1) (by first|(rw [add_block];exact Kd.own_blk (NQ_HO347.out))|(show (Addr.add _ _).block≠_;rw [add_block];exact Kd.own_blk (NQ_HO347.out))|exact Kd.own_blk (NQ_HO347.out));have HS11_:=keep_cell hk (d1.2.2.2.2.2.2.2.2.2.2.2) (by first|(rw [add_block];exact Kd.own_blk (NQ_HO347.out))|(show (Addr.add _ _).block≠_;rw [add_block];exact Kd.own_blk (NQ_HO347.out))|exact Kd.own_blk (NQ_HO347.out));refine ⟨_,rfl,?_⟩;have a8:=zzm (Kd.N_mono (Kd.N_keep (Kd.N_mono (ok:=fun k_=>((((w.heap.size≤k_))∧(some k_≠(.slice (some d8) b2.length e4:Value).ownBlock∧(k_≠a0∧k_≠g)))∧some k_≠(D3:Value).ownBlock)) (zzN a7.out) (fun k_ hk_=>(⟨hk_,hk_.1.2.2.2⟩:_∧k_≠g))) hk (fun _ h=>h.2)) (fun _ h=>h.1));have a9:=zzm (KeepBut.blk hk (g':=a0) (o:=.cells #[.bool false,.bool false,.int .i64 255,.int .i64 0,.int .i64 0,.slice (some d8) b2.length e4] 34 (0,0)) (zzE a2.out) e1.out (by simp));have b0:=zzm (Kd.N_mono (Kd.N_keep (Kd.N_mono (ok:=fun k_=>(((w.heap.size≤k_))∧(some k_≠(.slice c4 a4.length b9:Value).ownBlock∧(k_≠a0∧k_≠g)))) (zzN g3.out) (fun k_ hk_=>(⟨hk_,hk_.2.2.2⟩:_∧k_≠g))) hk (fun _ h=>h.2)) (fun _ h=>h.1));have b1:=zzm (KeepBut.trans (zzk3 HK) hk (.inl rfl));have b7:=zzm (hb);have d6:=zzm (hi);clear a7 a2 g3 HK HB a1;have a7:=a8;have a2:=a9;have g3:=b0;have HK:=b1;have HB:=b7;have a1:=d6;clear a8 a9 b0 b1 b7 d6
            (try clear hb)
            (try clear hb2)
            (try clear hk)
            (try clear hi);refine hK.out _ _ ⟨(zzk a2.out 0).trans rfl,(zzk a2.out 1).trans rfl,(zzk a2.out 2).trans rfl,(zzk a2.out 3).trans rfl,(zzk a2.out 4).trans rfl,(zzk a2.out 5).trans rfl,HS6_,HS7_,HS8_,HS9_,HS10_,HS11_⟩ (fun d1=>?_);clear hK K;refine zzO 57 ?_
            refine zzP 12 58 16 8191 d2 ?_
            refine zzP 13 59 16 16383 d2 ?_
            refine zzP 14 60 16 32767 d2 ?_
            refine zzP 15 5 16 65535 d2 ?_
            refine done_ (done_of d2.out (by kernel_rfl)) ?_;try go_wp2
            go_roundg d9
            case measure=>have:=HJ3.out;have:=HK2.out;have:=HJ20.out;omega
            case rel=>exact ⟨(y349),(wrap64 ((wrap64 (((Qb b2 (c8)).f0)+1))+(wrap64 ((wrap64 (Int.tdiv r9 3)) * 2)))),(wrap64 (d5+1)),(s0),(by first|rfl|(simp;done)|(simp only [← hji38] <;> (first|rfl|simp))|(simp [*];done)),(by first|rfl|(simp;done)|(simp [*];done)),H',⟨by have:=HJ3.out;have:=HK2.out;have:=HJ20.out;omega⟩,⟨by (with_reducible repeat (first|apply Kd.N_alloc|apply Kd.N_drewN|apply Kd.N_drew));exact Kd.N_mono g3.out (fun _ hk=>⟨hk.1,hk.2.2.2⟩)⟩,⟨by repeat (first|(with_reducible first|exact a1.out|apply Qc.alloc|apply Qc.drewN|apply Qc.drew|apply Qc.set_1|refine Qc.far ?_ b6.out _)|exact a1.out)⟩,⟨by repeat (first|(with_reducible first|exact HK.out|apply KeepBut.set_|apply keep_drewN|apply keep_drew|apply keep_alloc|refine keep_far ?_ k8.out _)|exact HK.out)⟩,⟨by repeat (first|(with_reducible first|exact HB.out|apply zza|apply zzb|apply zzc|refine zzd ?_ (Qc.ge a1.out)|refine zzd ?_ e0.out)|exact HB.out)⟩⟩
           ·
            rw [if_neg t3] at H;exact absurd H (by simp)
          ·
           rw [if_neg t2] at H;exact absurd H (by simp)
         ·
          rw [if_neg t1] at H;exact absurd H (by simp)
        ·
         replace t0:=Bool.eq_false_iff.mpr t0;subst t0;replace H:=zzIf H;by_cases t4:a3.length < 2513169434916
         ·
          rw [if_pos t4] at H;have LMc51:=zzm t4;clear t4;obtain ⟨y355,hy355⟩:∃ y_:List (S34),y_=(a3 ++ [(⟨b3,b4,b5,b8,c0,a4⟩:S34)]):=⟨_,rfl⟩;replace H:(if 0≤(wrap64 ((a4.length:Int) - 1)) then (if (wrap64 ((a4.length:Int) - 1)) < (a4.length:Int) then ((Qd.f d9 a5 e3 4).bind fun j5=>(Qg.l0 d9 y355 d3 (wrap64 ((wrap64 (((Qb a4 (wrap64 ((a4.length:Int) - 1))).f0)+1))+(wrap64 ((wrap64 (Int.tdiv j5.1 3)) * 2)))) (wrap64 (d5+1)) a5 j5.2)) else (none)) else (none))=some (r1,r2):=by first|(rw [hy355];with_reducible exact H)|(have H2_:=(Option.bind_some _ _).symm.trans H;rw [hy355];with_reducible exact H2_)|(have H2_:=(Option.bind_some _ _).symm.trans H;with_reducible exact H2_)|with_reducible exact H|(rw [hy355];exact H)|exact H
          have Ny355:=zzm hy355;clear hy355;obtain ⟨d0,hji52⟩:∃ j_:Int,(wrap64 ((a4.length:Int) - 1))=j_:=⟨_,rfl⟩;replace H:(if 0≤(d0) then (if (d0) < (a4.length:Int) then ((Qd.f d9 a5 e3 4).bind fun j5=>(Qg.l0 d9 y355 d3 (wrap64 ((wrap64 (((Qb a4 (d0)).f0)+1))+(wrap64 ((wrap64 (Int.tdiv j5.1 3)) * 2)))) (wrap64 (d5+1)) a5 j5.2)) else (none)) else (none))=some (r1,r2):=by first|(rw [hji52] at H;exact H)|(simp only [hji52] at H ⊢;exact H)
          have hji52w:(IntKind.i64.wrap ((a4.length:Int) - 1))=d0:=(i64_w _).trans hji52;by_cases t5 : 0≤(d0)
          ·
           rw [if_pos t5] at H;have K6:decide (0≤(d0))=true:=decide_eq_true t5;clear t5;by_cases t6:(d0) < (a4.length:Int)
           ·
            rw [if_pos t6] at H;have K7:decide ((d0) < (a4.length:Int))=true:=decide_eq_true t6;clear t6;replace H:=zzH H;obtain ⟨⟨s3,s4⟩,z8,H⟩:=H;replace H:(Qg.l0 d9 y355 d3 (wrap64 ((wrap64 (((Qb a4 (d0)).f0)+1))+(wrap64 ((wrap64 (Int.tdiv s3 3)) * 2)))) (wrap64 (d5+1)) a5 s4)=some (r1,r2):=H;have I9:=zzm z8;clear z8;have H':=zzm H;clear H;have K8:=e1.out;have K9:=b6.out;obtain ⟨G4,G5,G6,G7,G8,G9,H0,H1,H2,H3,H4,H5⟩:=zzc6 a2.out;try go_wp2_with (first|((with_reducible refine gate_builtin (b:=.append) (xs:=#[.tmp 42,.tmp 44]) rfl ?_);at_builtin;refine Kd.N_append k34 w.heap.size rfl (.tmp 42) (.tmp 44) 23 34 (.agg #[(.bool false),(.bool false),(.int .i64 0),(.int .i64 0),(.int .i64 0),(.slice none 0 0)]) 56 rfl Try.underlying23 info34 rfl (by decide) (by omega) u3 a3 (⟨b3,b4,b5,b8,c0,a4⟩:S34) [.bool b3,.bool b4,.int .i64 b5,.int .i64 b8,.int .i64 c0,.slice c4 a4.length b9] (fun k_=>(w.heap.size≤k_)∧k_≠a0∧k_≠g) (fun k_=>((fun k_=>(w.heap.size≤k_)∧k_≠a0∧k_≠g)) k_∧some k_≠(u3:Value).ownBlock) rfl rfl ?aP (fun _ hk=>hk) ?aF ?aO (Below.refl _ _) ?aS ?aL ?_;(case aP=>exact (k34_mkF _ _ (⟨b3,b4,b5,b8,c0,a4⟩:S34) (Kd.N_reads' (Kd.N_mono (ok':=(fun k_=>((fun k_=>(w.heap.size≤k_)∧k_≠a0∧k_≠g)) k_∧some k_≠(u3:Value).ownBlock)) (a7.out) (fun k_ hk=>⟨⟨hk.1,⟨hk.2.2.1,hk.2.2.2⟩⟩,hk.2.1⟩))).2.1 (Kd.N_F (Kd.N_mono (ok':=(fun k_=>((fun k_=>(w.heap.size≤k_)∧k_≠a0∧k_≠g)) k_∧some k_≠(u3:Value).ownBlock)) (a7.out) (fun k_ hk=>⟨⟨hk.1,⟨hk.2.2.1,hk.2.2.2⟩⟩,hk.2.1⟩)))));(case aF=>exact (fun k_ hk=>⟨(Nat.le_trans (keep_size (w:=w) (g:=g) (row:=none) (zzk3 HK)) hk),Kd.freshB (g:=a0) (o:=.cells #[.bool b3,.bool b4,.int .i64 b5,.int .i64 b8,.int .i64 c0,.slice c4 a4.length b9] 34 (0,0)) (zzE a2.out) k_ hk,Qc.fresh (by repeat (first|(with_reducible first|exact a1.out|apply Qc.alloc|apply Qc.drewN|apply Qc.drew|apply Qc.set_1|refine Qc.far ?_ b6.out _)|exact a1.out)) k_ hk⟩));(case aO=>exact (zzN (Kd.N_mono a6.out (fun _ hk=>⟨hk.1,⟨hk.2.2.1,hk.2.2.2⟩⟩))));(case aS=>exact (keep_size (w:=w) (g:=g) (row:=none) (zzk3 HK)));(case aL=>have:=LMc51.out;omega);intro M2 J0 ho hb hg hat;rw [← Ny355.out] at ho;have nq_:=zzm (Kd.N_afterv (ok:=fun k_=>(w.heap.size≤k_)) (by (with_reducible repeat (first|apply Kd.N_alloc|apply Kd.N_drewN|apply Kd.N_drew));exact Kd.N_mono a7.out (fun k_ hk=>by (try simp only [and_assoc] at hk);(try simp only [and_assoc]);repeat' (first|exact hk.1|exact hk.2.1|exact hk.2.2.1|exact hk.2.2.2.1|exact hk.2.2.2.2.1|exact hk.2.2.2.2.2.1|exact hk.2.2.2.2.2.2|exact hk.2.2.2.2.2|exact hk.2.2.2.2|exact hk.2.2.2|exact hk.2.2|exact hk.2|exact hk|apply And.intro))) hg hat);have a8:=zzm (blk_grown (g:=a0) (o:=.cells #[.bool b3,.bool b4,.int .i64 b5,.int .i64 b8,.int .i64 c0,.slice c4 a4.length b9] 34 (0,0)) (zzE a2.out) hg (Kd.N_away a6.out (fun _ hk=>hk.2.2.1)));have a9:=zzm (Qc.grown (by repeat (first|(with_reducible first|exact a1.out|apply Qc.alloc|apply Qc.drewN|apply Qc.drew|apply Qc.set_1|refine Qc.far ?_ b6.out _)|exact a1.out)) hg (Qc.own_neN a1.out a6.out (by decide)));have b0:=zzm (below_weaken (by repeat (first|(with_reducible first|exact HB.out|apply zza|apply zzb|apply zzc|refine zzd ?_ (Qc.ge a1.out)|refine zzd ?_ e0.out)|exact HB.out)) HL.out hb);have b1:=zzm (KeepBut.trans (zzk3 HK) (KeepBut.of_grown hg g) (Kd.N_base2 a6.out));have b7:=zzm (ho);clear a2 a1 HB HK a6 a7;have a7:=nq_;clear nq_;have a2:=a8;have a1:=a9;have HB:=b0;have HK:=b1;have g4:=b7;clear a8 a9 b0 b1 b7 ho hb hg hat))
            have a8:=zzm (Kd.N_drew g4.out);have a9:=zzm (zzg a2.out);have NQ_HO_342005:=zzm (Qc.own_neN a1.out a7.out (by decide));have b0:=zzm (Qc.drew a1.out);have b1:=zzm (keep_drew HK.out);have b7:=zzm (zzc HB.out);clear g4 a2 a1 HK HB;have g4:=a8;have a2:=a9;have a1:=b0;have HK:=b1;have HB:=b7;clear a8 a9 b0 b1 b7;have s5 : 0≤((d0):Int):=zzt;have s6:(d0) < (a4.length:Int):=zzt;obtain ⟨e2,z9,A0,A1,A4,D5,n5,n6,n7,n8,n9,o0,o1,o2,o3,o4⟩:=Ra (Kd.N_reads' a7.out).2.2 (d0) s5 s6;cases D5;have y5:=zzm o2;have H6:=zzm o1;clear o2 o1;have y6:=zzm o4;have H7:=zzm o3;clear o4 o3;replace s5:=eq_true s5;replace s6:=eq_true s6;refine start_ (n:=16) (S:=fun w'=>w'.cell? ⟨a0,0,none⟩=some (.bool b3)∧w'.cell? ⟨a0,1,none⟩=some (.bool b4)∧w'.cell? ⟨a0,2,none⟩=some (.int .i64 b5)∧w'.cell? ⟨a0,3,none⟩=some (.int .i64 b8)∧w'.cell? ⟨a0,4,none⟩=some (.int .i64 c0)∧w'.cell? ⟨a0,5,none⟩=some (.slice (some e2) a4.length b9)∧w'.cell? (e2.add (((d0)).toNat * 6))=some (.int .i64 ((Qb a4 (d0)).f0))∧w'.cell? ⟨(e2.add (((d0)).toNat * 6)).block,(e2.add (((d0)).toNat * 6)).off+1,none⟩=some (.int .i64 ((Qb a4 (d0)).f1))∧w'.cell? ⟨(e2.add (((d0)).toNat * 6)).block,(e2.add (((d0)).toNat * 6)).off+2,none⟩=some (.bool ((Qb a4 (d0)).f2))∧w'.cell? ⟨(e2.add (((d0)).toNat * 6)).block,(e2.add (((d0)).toNat * 6)).off+3,none⟩=some (.slice z9 ((Qb a4 (d0)).f3).length A0)∧w'.cell? ⟨(e2.add (((d0)).toNat * 6)).block,(e2.add (((d0)).toNat * 6)).off+4,none⟩=some (.bool ((Qb a4 (d0)).f4))∧w'.cell? ⟨(e2.add (((d0)).toNat * 6)).block,(e2.add (((d0)).toNat * 6)).off+5,none⟩=some (.slice A1 ((Qb a4 (d0)).f5).length A4)) (ds:=[]) (zzB 16 0) (by kernel_rfl) rfl rfl ⟨(zzk a2.out 0).trans rfl,(zzk a2.out 1).trans rfl,(zzk a2.out 2).trans rfl,(zzk a2.out 3).trans rfl,(zzk a2.out 4).trans rfl,(zzk a2.out 5).trans rfl,n5,n6,n7,n8,n9,o0⟩ (fun d1=>?_);refine with_tabW Qg.tab13 Qg.bits13 (fun d2 l7=>?_);generalize J0.drew=O2 at g4 a2 a1 HK HB y5 y6 n5 n6 n7 n8 n9 o0 d1 ⊢;refine zzP 0 46 16 1 d2 ?_
            refine zzP 2 48 16 5 d2 ?_
            refine zzP 10 56 16 1029 d2 ?_
            refine zzT 1 47 16 1031 d2 l7 d1 ?_
            refine zzT 3 49 16 1039 d2 l7 d1 ?_
            refine zzP 4 50 16 1055 d2 ?_
            refine zzP 5 51 16 1087 d2 ?_
            refine zzP 6 52 16 1151 d2 ?_
            refine zzP 7 53 16 1279 d2 ?_
            refine zzT 8 54 16 1535 d2 l7 d1 ?_
            refine zzP 9 55 16 2047 d2 ?_
            refine one_ (i:=11) (N:=some 57) (zzB 16 4095) rfl rfl (one_of d2.out (by kernel_rfl)) (by decide) (fun K hK=>?_);refine goes_ Try.func54 (by kernel_rfl) rfl #[.pointer (some ⟨g,0,none⟩),.int .i64 4] (by rfl) rfl rfl zzM2 ?_;with_reducible refine (Qd.calls d9 g a5 e3 4 s3 s4 w0 _ ?side1 ?side2 I9.out).mono ?_
            (case side1=>repeat (first|(with_reducible first|exact a1.out|apply Qc.alloc|apply Qc.drewN|apply Qc.drew|apply Qc.set_1|refine Qc.far ?_ b6.out _)|exact a1.out))
            (case side2=>repeat (first|(with_reducible first|exact HB.out|apply zza|apply zzb|apply zzc|refine zzd ?_ (Qc.ge a1.out)|refine zzd ?_ e0.out)|exact HB.out));rintro e O3 ⟨rfl,hi,hb,hk⟩;have HS6_:=keep_cell hk (d1.2.2.2.2.2.2.1) (by first|(rw [add_block];exact Kd.own_blk (NQ_HO_342005.out))|(show (Addr.add _ _).block≠_;rw [add_block];exact Kd.own_blk (NQ_HO_342005.out))|exact Kd.own_blk (NQ_HO_342005.out));have HS7_:=keep_cell hk (d1.2.2.2.2.2.2.2.1) (by first|(rw [add_block];exact Kd.own_blk (NQ_HO_342005.out))|(show (Addr.add _ _).block≠_;rw [add_block];exact Kd.own_blk (NQ_HO_342005.out))|exact Kd.own_blk (NQ_HO_342005.out));have HS8_:=keep_cell hk (d1.2.2.2.2.2.2.2.2.1) (by first|(rw [add_block];exact Kd.own_blk (NQ_HO_342005.out))|(show (Addr.add _ _).block≠_;rw [add_block];exact Kd.own_blk (NQ_HO_342005.out))|exact Kd.own_blk (NQ_HO_342005.out));have HS9_:=keep_cell hk (d1.2.2.2.2.2.2.2.2.2.1) (by first|(rw [add_block];exact Kd.own_blk (NQ_HO_342005.out))|(show (Addr.add _ _).block≠_;rw [add_block];exact Kd.own_blk (NQ_HO_342005.out))|exact Kd.own_blk (NQ_HO_342005.out));have HS10_:=keep_cell hk (d1.2.2.2.2.2.2.2.2.2.2.1) (by first|(rw [add_block];exact Kd.own_blk (NQ_HO_342005.out))|(show (Addr.add _ _).block≠_;rw [add_block];exact Kd.own_blk (NQ_HO_342005.out))|exact Kd.own_blk (NQ_HO_342005.out));have HS11_:=keep_cell hk (d1.2.2.2.2.2.2.2.2.2.2.2) (by first|(rw [add_block];exact Kd.own_blk (NQ_HO_342005.out))|(show (Addr.add _ _).block≠_;rw [add_block];exact Kd.own_blk (NQ_HO_342005.out))|exact Kd.own_blk (NQ_HO_342005.out));refine ⟨_,rfl,?_⟩;have a8:=zzm (KeepBut.blk hk (g':=a0) (o:=.cells #[.bool b3,.bool b4,.int .i64 b5,.int .i64 b8,.int .i64 c0,.slice (some e2) a4.length b9] 34 (0,0)) (zzE a2.out) e1.out (by simp));have a9:=zzm (Kd.N_mono (Kd.N_keep (Kd.N_mono (ok:=fun k_=>(((w.heap.size≤k_))∧(k_≠a0∧k_≠g))) (zzN g4.out) (fun k_ hk_=>(⟨hk_,hk_.2.2⟩:_∧k_≠g))) hk (fun _ h=>h.2)) (fun _ h=>h.1));have b0:=zzm (KeepBut.trans (zzk3 HK) hk (.inl rfl));have b1:=zzm (hb);have b7:=zzm (hi);clear a2 g4 HK HB a1;have a2:=a8;have g4:=a9;have HK:=b0;have HB:=b1;have a1:=b7;clear a8 a9 b0 b1 b7
            (try clear hb)
            (try clear hb2)
            (try clear hk)
            (try clear hi);refine hK.out _ _ ⟨(zzk a2.out 0).trans rfl,(zzk a2.out 1).trans rfl,(zzk a2.out 2).trans rfl,(zzk a2.out 3).trans rfl,(zzk a2.out 4).trans rfl,(zzk a2.out 5).trans rfl,HS6_,HS7_,HS8_,HS9_,HS10_,HS11_⟩ (fun d1=>?_);clear hK K;refine zzO 57 ?_
            refine zzP 12 58 16 8191 d2 ?_
            refine zzP 13 59 16 16383 d2 ?_
            refine zzP 14 60 16 32767 d2 ?_
            refine zzP 15 5 16 65535 d2 ?_
            refine done_ (done_of d2.out (by kernel_rfl)) ?_;try go_wp2
            go_roundg d9
            case measure=>have:=HJ3.out;have:=HK2.out;have:=HJ20.out;omega
            case rel=>exact ⟨(y355),(wrap64 ((wrap64 (((Qb a4 (d0)).f0)+1))+(wrap64 ((wrap64 (Int.tdiv s3 3)) * 2)))),(wrap64 (d5+1)),(s4),(by first|rfl|(simp;done)|(simp only [← hji52] <;> (first|rfl|simp))|(simp [*];done)),(by first|rfl|(simp;done)|(simp [*];done)),H',⟨by have:=HJ3.out;have:=HK2.out;have:=HJ20.out;omega⟩,⟨by (with_reducible repeat (first|apply Kd.N_alloc|apply Kd.N_drewN|apply Kd.N_drew));exact Kd.N_mono g4.out (fun _ hk=>⟨hk.1,hk.2.2⟩)⟩,⟨by repeat (first|(with_reducible first|exact a1.out|apply Qc.alloc|apply Qc.drewN|apply Qc.drew|apply Qc.set_1|refine Qc.far ?_ b6.out _)|exact a1.out)⟩,⟨by repeat (first|(with_reducible first|exact HK.out|apply KeepBut.set_|apply keep_drewN|apply keep_drew|apply keep_alloc|refine keep_far ?_ k8.out _)|exact HK.out)⟩,⟨by repeat (first|(with_reducible first|exact HB.out|apply zza|apply zzb|apply zzc|refine zzd ?_ (Qc.ge a1.out)|refine zzd ?_ e0.out)|exact HB.out)⟩⟩
           ·
            rw [if_neg t6] at H;exact absurd H (by simp)
          ·
           rw [if_neg t5] at H;exact absurd H (by simp)
         ·
          rw [if_neg t4] at H;exact absurd H (by simp)
     ·
      rw [if_neg l4] at H;have s9:decide (d5 < d3)=false:=decide_eq_false l4;clear l4;by_cases o5:d3 > 1
      ·
       rw [if_pos o5] at H;have B8:decide (1 < d3)=true:=decide_eq_true o5;clear o5;replace H:=zzH H;obtain ⟨⟨p5,l8⟩,A5,H⟩:=H;replace H:(if p5=0 then (if 0 < (a3.length:Int) then (if 1 < (a3.length:Int) then (some ((a3.set (1:Int).toNat (⟨(Qa a3 0).f0,(Qa a3 0).f1,(Qa a3 0).f2,(Qa a3 0).f3,(Qa a3 0).f4,(Qa a3 0).f5⟩:S34)),l8)) else (none)) else (none)) else (some (a3,l8)))=some (r1,r2):=H;have C9:=zzm A5;clear A5;by_cases q0:p5=0
       ·
        rw [if_pos q0] at H;obtain ⟨B9,C0⟩:=zzQ q0;clear q0;by_cases t7 : 0 < (a3.length:Int)
        ·
         rw [if_pos t7] at H;have L0:decide (0 < (a3.length:Int))=true:=decide_eq_true t7;have L1:decide (0 < a3.length)=true:=decide_eq_true (by omega);clear t7;by_cases t8 : 1 < (a3.length:Int)
         ·
          rw [if_pos t8] at H;have L2:decide (1 < (a3.length:Int))=true:=decide_eq_true t8;have L3:decide (1 < a3.length)=true:=decide_eq_true (by omega);clear t8;obtain ⟨y331,hy331⟩:∃ y_:List (S34),y_=(a3.set (1:Int).toNat (⟨(Qa a3 0).f0,(Qa a3 0).f1,(Qa a3 0).f2,(Qa a3 0).f3,(Qa a3 0).f4,(Qa a3 0).f5⟩:S34)):=⟨_,rfl⟩;replace H:(some (y331,l8))=some (r1,r2):=by first|(rw [hy331];with_reducible exact H)|(have H2_:=(Option.bind_some _ _).symm.trans H;rw [hy331];with_reducible exact H2_)|(have H2_:=(Option.bind_some _ _).symm.trans H;with_reducible exact H2_)|with_reducible exact H|(rw [hy331];exact H)|exact H
          have Ny331:=zzm hy331;clear hy331;simp only [Option.some.injEq,Prod.mk.injEq] at H;obtain ⟨rfl,rfl⟩:=H;go_wp2_with (first|(go_at_call 54;(with_reducible refine (Qd.calls k2 g a5 g0 30 p5 l8 w0 _ ?side1 ?side2 C9.out).mono ?_);(case side1=>repeat (first|(with_reducible first|exact a1.out|apply Qc.alloc|apply Qc.drewN|apply Qc.drew|apply Qc.set_1)|exact a1.out));(case side2=>repeat (first|(with_reducible first|exact HB.out|apply zza|apply zzb|apply zzc|refine zzd ?_ (Qc.ge a1.out))|exact HB.out));rintro e g1 ⟨rfl,hi,hb,hk⟩;have a8:=zzm (Kd.N_mono (Kd.N_keep (Kd.N_mono (ok:=fun k_=>(((w.heap.size≤k_))∧k_≠g)) (zzN a6.out) (fun k_ hk_=>(⟨hk_,hk_.2⟩:_∧k_≠g))) hk (fun _ h=>h.2)) (fun _ h=>h.1));have a9:=zzm (KeepBut.trans (zzk3 HK) hk (.inl rfl));have b0:=zzm (hb);have b1:=zzm (hi);clear a6 HK HB a1;have a6:=a8;have HK:=a9;have HB:=b0;have a1:=b1;clear a8 a9 b0 b1;(try clear hb);(try clear hb2);(try clear hk);(try clear hi);obtain ⟨M3,p7,eo68⟩:=Kd.N_slice a6.out;subst eo68;have p8 : 0≤(0:Int):=(by omega);have p9 : 0 < (a3.length:Int):=zzt;obtain ⟨L4,q1,q2,D6,h2,h3,h4,h5,h6,g6,o6,o7⟩:=Qx (Kd.N_reads' a6.out).2.2 0 p8 p9;cases D6;obtain ⟨L5,A6,A7,q4⟩:=Kd.N_get a6.out z34 0 p8 (by first|exact p9|exact zzt|(have e_:=(Kd.N_reads' a6.out).1;omega));obtain ⟨H8,H9,rfl,k5,k6⟩:=k34_openF A7;have h7:=q4 5 _ rfl;rw [add_field _ _ 5 (by omega)] at h7;replace h7:=Option.some.inj (h7.symm.trans g6);injection h7 with A8 D7 A9;rw [A8] at k6;rw [A9] at k5;have g7:=zzm (show Kd.V k30 30 _ w.heap.size _ _ ((Qa a3 0).f5) from Kd.V_mk k5 k6);clear A8 D7 A9 k6 k5 q4 A6;have L6:(0 < a3.length)=True:=eq_true (by omega);(try rw [show ((0:Int)).toNat=0 from rfl] at h2);(try rw [show 0 * 6=0 from rfl] at h2);(try rw [Addr.add_zero'] at h2);(try rw [show ((0:Int)).toNat=0 from rfl] at h3);(try rw [show 0 * 6=0 from rfl] at h3);(try rw [Addr.add_zero'] at h3);(try rw [show ((0:Int)).toNat=0 from rfl] at h4);(try rw [show 0 * 6=0 from rfl] at h4);(try rw [Addr.add_zero'] at h4);(try rw [show ((0:Int)).toNat=0 from rfl] at h5);(try rw [show 0 * 6=0 from rfl] at h5);(try rw [Addr.add_zero'] at h5);(try rw [show ((0:Int)).toNat=0 from rfl] at h6);(try rw [show 0 * 6=0 from rfl] at h6);(try rw [Addr.add_zero'] at h6);(try rw [show ((0:Int)).toNat=0 from rfl] at g6);(try rw [show 0 * 6=0 from rfl] at g6);(try rw [Addr.add_zero'] at g6);have I0:=zzm o7;have I1:=zzm o6;clear o7 o6;replace p8:=eq_true p8;replace p9:=eq_true p9;have B0 : 0≤(1:Int):=(by omega);have B1:(1:Int) < ((a3.length:Int):Int):=zzt;have M4:(1 < a3.length)=True:=eq_true (by omega);obtain ⟨go66,M5,eo66,B2,gl66,cl66,HG66⟩:=Kd.N_form a6.out (by omega);(first|cases eo66|(injection eo66 with ea_ en_ ec_;(first|subst ea_|(injection ea_ with ea_;subst ea_));subst ec_;clear en_));have GB66:=zzm B2;have GG66:=zzm HG66;clear B2 gl66 HG66;(first|simp only [add_plain] at h2|skip);(first|simp only [add_plain] at h3|skip);(first|simp only [add_plain] at h4|skip);(first|simp only [add_plain] at h5|skip);(first|simp only [add_plain] at h6|skip);(first|simp only [add_plain] at g6|skip);obtain ⟨M6,hcl66,hM66,g8,hfr66⟩:=Kd.N_elem a6.out z34 (1:Int) B0 B1;obtain ⟨B3,B5,rfl,J1,J2⟩:=k34_openF hM66;have q5:g1.cell? ⟨go66,(1:Int).toNat * 6,none⟩=some (.bool ((Qa a3 1).f0)):=g8 0 _ rfl;have q6:g1.cell? ⟨go66,(1:Int).toNat * 6+1,none⟩=some (.bool ((Qa a3 1).f1)):=g8 1 _ rfl;have q7:g1.cell? ⟨go66,(1:Int).toNat * 6+2,none⟩=some (.int .i64 ((Qa a3 1).f2)):=g8 2 _ rfl;have q8:g1.cell? ⟨go66,(1:Int).toNat * 6+3,none⟩=some (.int .i64 ((Qa a3 1).f3)):=g8 3 _ rfl;have q9:g1.cell? ⟨go66,(1:Int).toNat * 6+4,none⟩=some (.int .i64 ((Qa a3 1).f4)):=g8 4 _ rfl;have r0:g1.cell? ⟨go66,(1:Int).toNat * 6+5,none⟩=some (.slice B3 ((Qa a3 1).f5).length B5):=g8 5 _ rfl;have hf66_0:g1.frozen? ⟨go66,(1:Int).toNat * 6,none⟩=false:=hfr66 0;have hf66_1:g1.frozen? ⟨go66,(1:Int).toNat * 6+1,none⟩=false:=hfr66 1;have hf66_2:g1.frozen? ⟨go66,(1:Int).toNat * 6+2,none⟩=false:=hfr66 2;have hf66_3:g1.frozen? ⟨go66,(1:Int).toNat * 6+3,none⟩=false:=hfr66 3;have hf66_4:g1.frozen? ⟨go66,(1:Int).toNat * 6+4,none⟩=false:=hfr66 4;have hf66_5:g1.frozen? ⟨go66,(1:Int).toNat * 6+5,none⟩=false:=hfr66 5;clear hcl66 g8 hfr66 hM66;(try rw [show ((1:Int)).toNat=1 from rfl] at q5);(try simp only [Nat.reduceMul,Nat.zero_mul,Nat.zero_add,Nat.reduceAdd] at q5);(try rw [show ((1:Int)).toNat=1 from rfl] at hf66_0);(try simp only [Nat.reduceMul,Nat.zero_mul,Nat.zero_add,Nat.reduceAdd] at hf66_0);(try rw [show ((1:Int)).toNat=1 from rfl] at q6);(try simp only [Nat.reduceMul,Nat.zero_mul,Nat.zero_add,Nat.reduceAdd] at q6);(try rw [show ((1:Int)).toNat=1 from rfl] at hf66_1);(try simp only [Nat.reduceMul,Nat.zero_mul,Nat.zero_add,Nat.reduceAdd] at hf66_1);(try rw [show ((1:Int)).toNat=1 from rfl] at q7);(try simp only [Nat.reduceMul,Nat.zero_mul,Nat.zero_add,Nat.reduceAdd] at q7);(try rw [show ((1:Int)).toNat=1 from rfl] at hf66_2);(try simp only [Nat.reduceMul,Nat.zero_mul,Nat.zero_add,Nat.reduceAdd] at hf66_2);(try rw [show ((1:Int)).toNat=1 from rfl] at q8);(try simp only [Nat.reduceMul,Nat.zero_mul,Nat.zero_add,Nat.reduceAdd] at q8);(try rw [show ((1:Int)).toNat=1 from rfl] at hf66_3);(try simp only [Nat.reduceMul,Nat.zero_mul,Nat.zero_add,Nat.reduceAdd] at hf66_3);(try rw [show ((1:Int)).toNat=1 from rfl] at q9);(try simp only [Nat.reduceMul,Nat.zero_mul,Nat.zero_add,Nat.reduceAdd] at q9);(try rw [show ((1:Int)).toNat=1 from rfl] at hf66_4);(try simp only [Nat.reduceMul,Nat.zero_mul,Nat.zero_add,Nat.reduceAdd] at hf66_4);(try rw [show ((1:Int)).toNat=1 from rfl] at r0);(try simp only [Nat.reduceMul,Nat.zero_mul,Nat.zero_add,Nat.reduceAdd] at r0);(try rw [show ((1:Int)).toNat=1 from rfl] at hf66_5);(try simp only [Nat.reduceMul,Nat.zero_mul,Nat.zero_add,Nat.reduceAdd] at hf66_5);replace B0:=eq_true B0;replace B1:=eq_true B1;have HX69:=zzm (show Kd.N k34 34 g1 w.heap.size (fun k_=>(w.heap.size≤k_)∧k_≠g) (.slice (some ⟨go66,0,none⟩) a3.length p7) a3 from (zzN a6.out));obtain ⟨M7,hcl69,hM69,g5,hfr69⟩:=Kd.N_elem HX69.out z34 (1:Int) (by omega) (by have h_:(1:Int) < ((a3.length:Int):Int):=zzt;first|exact h_|(have e_:=(Kd.N_reads' a6.out).1;omega)|simpa using h_);obtain ⟨J3,J4,rfl,J5,J6⟩:=k34_openF hM69;have HP69:=Kd.N_seg HX69.out (1:Int) (by omega) (by have h_:(1:Int) < ((a3.length:Int):Int):=zzt;first|exact h_|(have e_:=(Kd.N_reads' a6.out).1;omega)|simpa using h_) (seg:=[.bool ((Qa a3 0).f0),.bool ((Qa a3 0).f1),.int .i64 ((Qa a3 0).f2),.int .i64 ((Qa a3 0).f3),.int .i64 ((Qa a3 0).f4),.slice q1 ((Qa a3 0).f5).length q2]) (j:=0) hcl69 g5 (show 6≤6 from by decide) (x':=(⟨(Qa a3 0).f0,(Qa a3 0).f1,(Qa a3 0).f2,(Qa a3 0).f3,(Qa a3 0).f4,(Qa a3 0).f5⟩:S34)) (k34_mkF _ _ (⟨(Qa a3 0).f0,(Qa a3 0).f1,(Qa a3 0).f2,(Qa a3 0).f3,(Qa a3 0).f4,(Qa a3 0).f5⟩:S34) (Kd.V_reads' (Kd.V_mono (ok':=(fun k_=>((fun k_=>(w.heap.size≤k_)∧k_≠g)) k_∧k_≠go66)) (g7.out) (fun k_ hk=>⟨⟨hk.1.1,hk.1.2⟩,fun e_=>(hk.2) (by rw [e_];rfl)⟩))).2.1 (Kd.V_F (Kd.V_mono (ok':=(fun k_=>((fun k_=>(w.heap.size≤k_)∧k_≠g)) k_∧k_≠go66)) (g7.out) (fun k_ hk=>⟨⟨hk.1.1,hk.1.2⟩,fun e_=>(hk.2) (by rw [e_];rfl)⟩)))) (fun _ hk=>hk);have l9:=g5 0 _ rfl;(try simp only [show (k34).sz=6 from rfl,Nat.mul_one,Nat.add_zero] at l9);(try rw [show ((1:Int)).toNat=1 from rfl] at l9);(try simp only [Nat.reduceMul,Nat.zero_mul,Nat.zero_add,Nat.reduceAdd] at l9);have hf69_0:=hfr69 0;(try simp only [show (k34).sz=6 from rfl,Nat.mul_one,Nat.add_zero] at hf69_0);(try rw [show ((1:Int)).toNat=1 from rfl] at hf69_0);(try simp only [Nat.reduceMul,Nat.zero_mul,Nat.zero_add,Nat.reduceAdd] at hf69_0);have m0:=g5 1 _ rfl;(try simp only [show (k34).sz=6 from rfl,Nat.mul_one,Nat.add_zero] at m0);(try rw [show ((1:Int)).toNat=1 from rfl] at m0);(try simp only [Nat.reduceMul,Nat.zero_mul,Nat.zero_add,Nat.reduceAdd] at m0);have hf69_1:=hfr69 1;(try simp only [show (k34).sz=6 from rfl,Nat.mul_one,Nat.add_zero] at hf69_1);(try rw [show ((1:Int)).toNat=1 from rfl] at hf69_1);(try simp only [Nat.reduceMul,Nat.zero_mul,Nat.zero_add,Nat.reduceAdd] at hf69_1);have m1:=g5 2 _ rfl;(try simp only [show (k34).sz=6 from rfl,Nat.mul_one,Nat.add_zero] at m1);(try rw [show ((1:Int)).toNat=1 from rfl] at m1);(try simp only [Nat.reduceMul,Nat.zero_mul,Nat.zero_add,Nat.reduceAdd] at m1);have hf69_2:=hfr69 2;(try simp only [show (k34).sz=6 from rfl,Nat.mul_one,Nat.add_zero] at hf69_2);(try rw [show ((1:Int)).toNat=1 from rfl] at hf69_2);(try simp only [Nat.reduceMul,Nat.zero_mul,Nat.zero_add,Nat.reduceAdd] at hf69_2);have m2:=g5 3 _ rfl;(try simp only [show (k34).sz=6 from rfl,Nat.mul_one,Nat.add_zero] at m2);(try rw [show ((1:Int)).toNat=1 from rfl] at m2);(try simp only [Nat.reduceMul,Nat.zero_mul,Nat.zero_add,Nat.reduceAdd] at m2);have hf69_3:=hfr69 3;(try simp only [show (k34).sz=6 from rfl,Nat.mul_one,Nat.add_zero] at hf69_3);(try rw [show ((1:Int)).toNat=1 from rfl] at hf69_3);(try simp only [Nat.reduceMul,Nat.zero_mul,Nat.zero_add,Nat.reduceAdd] at hf69_3);have m3:=g5 4 _ rfl;(try simp only [show (k34).sz=6 from rfl,Nat.mul_one,Nat.add_zero] at m3);(try rw [show ((1:Int)).toNat=1 from rfl] at m3);(try simp only [Nat.reduceMul,Nat.zero_mul,Nat.zero_add,Nat.reduceAdd] at m3);have hf69_4:=hfr69 4;(try simp only [show (k34).sz=6 from rfl,Nat.mul_one,Nat.add_zero] at hf69_4);(try rw [show ((1:Int)).toNat=1 from rfl] at hf69_4);(try simp only [Nat.reduceMul,Nat.zero_mul,Nat.zero_add,Nat.reduceAdd] at hf69_4);have m4:=g5 5 _ rfl;(try simp only [show (k34).sz=6 from rfl,Nat.mul_one,Nat.add_zero] at m4);(try rw [show ((1:Int)).toNat=1 from rfl] at m4);(try simp only [Nat.reduceMul,Nat.zero_mul,Nat.zero_add,Nat.reduceAdd] at m4);have hf69_5:=hfr69 5;(try simp only [show (k34).sz=6 from rfl,Nat.mul_one,Nat.add_zero] at hf69_5);(try rw [show ((1:Int)).toNat=1 from rfl] at hf69_5);(try simp only [Nat.reduceMul,Nat.zero_mul,Nat.zero_add,Nat.reduceAdd] at hf69_5);clear hcl69 g5 hfr69 hM69)|((with_reducible refine gate_store (t:=34) (p:=72) rfl ?_);refine store_event (t:=34) (p:=72) (v:=?vo_w70) (w1:=((((((g1.setCell ⟨go66,6,none⟩ (.bool ((Qa a3 0).f0))).setCell ⟨go66,7,none⟩ (.bool ((Qa a3 0).f1))).setCell ⟨go66,8,none⟩ (.int .i64 ((Qa a3 0).f2))).setCell ⟨go66,9,none⟩ (.int .i64 ((Qa a3 0).f3))).setCell ⟨go66,10,none⟩ (.int .i64 ((Qa a3 0).f4))).setCell ⟨go66,11,none⟩ (.slice q1 ((Qa a3 0).f5).length q2))) ?hg ?ho ?hn ?hr ?_;(case ho=>rfl);(case hg=>rfl);(case hn=>rfl);(case hr=>first|(go_simp;done)|(go_simp;rfl));intro B7 hw;have hg:g1.grownBy B7 (some go66):=(by rw [hw];exact HP69.2);have hp_:Kd.N k34 34 B7 w.heap.size (fun k_=>(w.heap.size≤k_)∧k_≠g) (.slice (some ⟨go66,0,none⟩) a3.length p7) y331:=(by rw [hw,Ny331.out];exact HP69.1);clear HP69;have a8:=zzm (hp_);have a9:=zzm (Qc.grown (by repeat (first|(with_reducible first|exact a1.out|apply Qc.alloc|apply Qc.drewN|apply Qc.drew|apply Qc.set_1)|exact a1.out)) hg (Qc.own_neN a1.out a6.out (by decide)));have b0:=zzm (Kd.V_afterv (v:=(.slice (some ⟨go66,0,none⟩) a3.length p7)) (v1:=(.slice (some ⟨go66,0,none⟩) a3.length p7)) (ok:=(fun k_=>(w.heap.size≤k_)∧k_≠g)) (zzV g7.out) hg (.inl rfl));have b1:=zzm ((by rw [hw];exact zzd (zzd (zzd (zzd (zzd (zzd (HB.out) (Nat.le_trans HL.out GB66.out)) (Nat.le_trans HL.out GB66.out)) (Nat.le_trans HL.out GB66.out)) (Nat.le_trans HL.out GB66.out)) (Nat.le_trans HL.out GB66.out)) (Nat.le_trans HL.out GB66.out):Below w0.heap.size w0 B7));have b7:=zzm (KeepBut.trans (zzk3 HK) (KeepBut.of_grown hg g) (Kd.N_base2 a6.out));clear a6 a1 g7 HB HK;have a6:=a8;have a1:=a9;have g7:=b0;have HB:=b1;have HK:=b7;clear a8 a9 b0 b1 b7 hg hw hp_));go_ret;exact ⟨_,zzR,by (with_reducible repeat (first|apply Kd.N_alloc|apply Kd.N_drewN|apply Kd.N_drew));exact Kd.N_mono a6.out (fun _ hk=>hk.1),by repeat (first|(with_reducible first|exact a1.out|apply Qc.alloc|apply Qc.drewN|apply Qc.drew|apply Qc.set_1)|exact a1.out),by repeat (first|(with_reducible first|exact HB.out|apply zza|apply zzb|apply zzc|refine zzd ?_ (Qc.ge a1.out))|exact HB.out),by repeat (first|(with_reducible first|exact HK.out|apply KeepBut.set_|apply keep_drewN|apply keep_drew|apply keep_alloc)|exact HK.out)⟩
         ·
          rw [if_neg t8] at H;exact absurd H (by simp)
        ·
         rw [if_neg t7] at H;exact absurd H (by simp)
       ·
        rw [if_neg q0] at H;obtain ⟨B9,C0⟩:=zzY q0;simp only [Option.some.injEq,Prod.mk.injEq] at H;obtain ⟨rfl,rfl⟩:=H;go_wp2_with (first|(go_at_call 54;(with_reducible refine (Qd.calls k2 g a5 g0 30 p5 l8 w0 _ ?side1 ?side2 C9.out).mono ?_);(case side1=>repeat (first|(with_reducible first|exact a1.out|apply Qc.alloc|apply Qc.drewN|apply Qc.drew|apply Qc.set_1)|exact a1.out));(case side2=>repeat (first|(with_reducible first|exact HB.out|apply zza|apply zzb|apply zzc|refine zzd ?_ (Qc.ge a1.out))|exact HB.out));rintro e O4 ⟨rfl,hi,hb,hk⟩;have a8:=zzm (Kd.N_mono (Kd.N_keep (Kd.N_mono (ok:=fun k_=>(((w.heap.size≤k_))∧k_≠g)) (zzN a6.out) (fun k_ hk_=>(⟨hk_,hk_.2⟩:_∧k_≠g))) hk (fun _ h=>h.2)) (fun _ h=>h.1));have a9:=zzm (KeepBut.trans (zzk3 HK) hk (.inl rfl));have b0:=zzm (hb);have b1:=zzm (hi);clear a6 HK HB a1;have a6:=a8;have HK:=a9;have HB:=b0;have a1:=b1;clear a8 a9 b0 b1;(try clear hb);(try clear hb2);(try clear hk);(try clear hi)));go_ret;exact ⟨_,zzR,by (with_reducible repeat (first|apply Kd.N_alloc|apply Kd.N_drewN|apply Kd.N_drew));exact Kd.N_mono a6.out (fun _ hk=>hk.1),by repeat (first|(with_reducible first|exact a1.out|apply Qc.alloc|apply Qc.drewN|apply Qc.drew|apply Qc.set_1)|exact a1.out),by repeat (first|(with_reducible first|exact HB.out|apply zza|apply zzb|apply zzc|refine zzd ?_ (Qc.ge a1.out))|exact HB.out),by repeat (first|(with_reducible first|exact HK.out|apply KeepBut.set_|apply keep_drewN|apply keep_drew|apply keep_alloc)|exact HK.out)⟩
      ·
       rw [if_neg o5] at H;have B8:decide (1 < d3)=false:=decide_eq_false o5;clear o5;simp only [Option.some.injEq,Prod.mk.injEq] at H;obtain ⟨rfl,rfl⟩:=H;go_wp2;go_ret;exact ⟨_,zzR,by (with_reducible repeat (first|apply Kd.N_alloc|apply Kd.N_drewN|apply Kd.N_drew));exact Kd.N_mono a6.out (fun _ hk=>hk.1),by repeat (first|(with_reducible first|exact a1.out|apply Qc.alloc|apply Qc.drewN|apply Qc.drew|apply Qc.set_1)|exact a1.out),by repeat (first|(with_reducible first|exact HB.out|apply zza|apply zzb|apply zzc|refine zzd ?_ (Qc.ge a1.out))|exact HB.out),by repeat (first|(with_reducible first|exact HK.out|apply KeepBut.set_|apply keep_drewN|apply keep_drew|apply keep_alloc)|exact HK.out)⟩
def Ry.f (l0:List Int):Option (List Int×Int):=if (l0.length:Int) > 2000 then (if 2000≤(l0.length:Int) then (some (l0.take 2000,0)) else (none)) else (some (l0,0))
set_option maxHeartbeats 8000000 in
theorem Ry.calls (A0:Option Addr) (c0:Nat) (l0:List Int) (r1:List Int) (r2:Int) (w0 w:World) (hB:Below w0.heap.size w0 w) (b5:Kd.C (Kd.int .u8) w0 A0 l0.length l0) (b6:l0.length≤c0) (h:Ry.f l0=some (r1,r2)) :
  Calls Try.prog 39 #[.slice A0 l0.length c0] w fun e w'=>∃ g_:Nat,e = .returned (.pointer (some ⟨g_,0,none⟩))∧Qc w0 w' g_ r1 r2∧Below w0.heap.size w0 w'∧Below w.heap.size w w':=by
 have hu79:=Try.underlying79;have b7:=zzm b5;have c1:=zzm b6;clear b5 b6;have HBW:=zzm (Below.refl w.heap.size w);have HW0:=zzm hB.size;have HB:=zzm hB;clear hB;have H:(if (l0.length:Int) > 2000 then (if 2000≤(l0.length:Int) then (some (l0.take 2000,0)) else (none)) else (some (l0,0)))=some (r1,r2):=h;clear h;by_cases c2:(l0.length:Int) > 2000
 ·
  rw [if_pos c2] at H;have b8:decide (2000 < (l0.length:Int))=true:=decide_eq_true c2;have b9:decide (2000 < l0.length)=true:=decide_eq_true (by omega);clear c2;by_cases c3 : 2000≤(l0.length:Int)
  ·
   rw [if_pos c3] at H;have c5:=eq_true c3;have c7:decide (2000≤(l0.length:Int))=true:=decide_eq_true c3;clear c3;simp only [Option.some.injEq,Prod.mk.injEq] at H;obtain ⟨rfl,rfl⟩:=H;obtain ⟨i04,a7,_,hsz4,_⟩:=info_parts info5;obtain ⟨hcut4,hA4,hC4⟩:=print_take_of (P:=Try.prog) (Value.int .u8) 0 22 5 .i64 Try.underlying22 a7 hsz4 A0 c0 l0 2000 (by omega) (zzt) c1.out;have a8:=zzm (Kd.C_of_reads (h1:=fun _=>rfl) (hA4 _ (Kd.reads_of_C b7.out)));have c4:=zzm hC4;clear hA4 hC4 a7 hsz4;go_enter Try.func39,Try.ntmps39;go_wp2_with (first|((with_reducible refine gate_dst (N:=10) rfl ?_);refine box_event ?hg (N:=10) ?hd (cs:=#[.slice A0 (l0.take 2000).length c0,.int .i64 0]) (t:=79) ?hr ?_;(case hd=>rfl);(case hg=>rfl);(case hr=>first|(go_simp;done)|(go_simp;rfl));intro a0 hg w5 hbox hb;have a2:=zzm (zzp HBW.out hb);have a3:=zzm (zzp zzh1 hb);have a4:=zzm (hbox);have a5:=zzm ((by rw [hg];exact (zzo (by repeat (first|(with_reducible first|exact HBW.out|apply zza|apply zzb|apply zzc)|exact HBW.out))):w.heap.size≤a0));have a6:=zzm ((Nat.le_trans HW0.out (by rw [hg];exact (zzo (by repeat (first|(with_reducible first|exact HBW.out|apply zza|apply zzb|apply zzc)|exact HBW.out))):w.heap.size≤a0):w0.heap.size≤a0));clear HBW HB;have HBW:=a2;have HB:=a3;have a9:=a4;have b0:=a5;have b1:=a6;clear a2 a3 a4 a5 a6 hb hbox hg));go_ret;exact ⟨_,rfl,(show Qc w0 _ a0 (l0.take 2000) 0 from ⟨_,_,zzE a9.out,b1.out,a8.out⟩),zzh3,by repeat (first|(with_reducible first|exact HBW.out|apply zza|apply zzb|apply zzc|refine zzd ?_ b0.out)|exact HBW.out)⟩
  ·
   rw [if_neg c3] at H;exact absurd H (by simp)
 ·
  rw [if_neg c2] at H;have b8:decide (2000 < (l0.length:Int))=false:=decide_eq_false c2;have b9:decide (2000 < l0.length)=false:=decide_eq_false (by omega);clear c2;simp only [Option.some.injEq,Prod.mk.injEq] at H;obtain ⟨rfl,rfl⟩:=H;go_enter Try.func39,Try.ntmps39;go_wp2_with (first|((with_reducible refine gate_dst (N:=10) rfl ?_);refine box_event ?hg (N:=10) ?hd (cs:=#[.slice A0 l0.length c0,.int .i64 0]) (t:=79) ?hr ?_;(case hd=>rfl);(case hg=>rfl);(case hr=>first|(go_simp;done)|(go_simp;rfl));intro a1 hg w6 hbox hb;have a2:=zzm (zzp HBW.out hb);have a3:=zzm (zzp zzh1 hb);have a4:=zzm (hbox);have a5:=zzm ((by rw [hg];exact (zzo (by repeat (first|(with_reducible first|exact HBW.out|apply zza|apply zzb|apply zzc)|exact HBW.out))):w.heap.size≤a1));have a6:=zzm ((Nat.le_trans HW0.out (by rw [hg];exact (zzo (by repeat (first|(with_reducible first|exact HBW.out|apply zza|apply zzb|apply zzc)|exact HBW.out))):w.heap.size≤a1):w0.heap.size≤a1));clear HBW HB;have HBW:=a2;have HB:=a3;have b2:=a4;have b3:=a5;have b4:=a6;clear a2 a3 a4 a5 a6 hb hbox hg));go_ret;exact ⟨_,rfl,(show Qc w0 _ a1 l0 0 from ⟨_,_,zzE b2.out,b4.out,b7.out⟩),zzh3,by repeat (first|(with_reducible first|exact HBW.out|apply zza|apply zzb|apply zzc|refine zzd ?_ b3.out)|exact HBW.out)⟩
def Rh.f (k:Nat) (l0:List Int):Option ((List (S34))×Bool):=(Ry.f l0).bind fun bt364=>((Qg.f k bt364.1 bt364.2).bind fun bt367=>((Qd.f k bt364.1 bt367.2 2).bind fun bt371=>(some (bt367.1,(bt371.1==0)))))
set_option maxHeartbeats 8000000 in
theorem Rh.calls (k:Nat) (A0:Option Addr) (c0:Nat) (l0:List Int) (r1:List (S34)) (r2:Bool) (w:World) (b4:Kd.C (Kd.int .u8) w A0 l0.length l0) (b5:l0.length≤c0) (h:Rh.f k l0=some (r1,r2)) :
  Calls Try.prog 25 #[.slice A0 l0.length c0] w fun e w'=>∃ b6:Value,e = .returned (.tuple #[b6,.bool r2])∧Kd.N k34 34 w' w.heap.size (fun k_=>(w.heap.size≤k_)) b6 r1∧Below w.heap.size w w':=by
 have c2:=zzm b4;have c3:=zzm b5;clear b4 b5;have HB:=zzm (Below.refl w.heap.size w);have H:((Ry.f l0).bind fun a8=>((Qg.f k a8.1 a8.2).bind fun a2=>((Qd.f k a8.1 a2.2 2).bind fun a3=>(some (a2.1,(a3.1==0))))))=some (r1,r2):=h;clear h;replace H:=zzH H;obtain ⟨⟨a4,b0⟩,b7,H⟩:=H;replace H:((Qg.f k a4 b0).bind fun a2=>((Qd.f k a4 a2.2 2).bind fun a3=>(some (a2.1,(a3.1==0)))))=some (r1,r2):=H;have A2:=zzm b7;clear b7;replace H:=zzH H;obtain ⟨⟨b1,b2⟩,b8,H⟩:=H;replace H:((Qd.f k a4 b2 2).bind fun a3=>(some (b1,(a3.1==0))))=some (r1,r2):=H;have A3:=zzm b8;clear b8;replace H:=zzH H;obtain ⟨⟨b3,c1⟩,b9,H⟩:=H;replace H:(some (b1,(b3==0)))=some (r1,r2):=H;have A4:=zzm b9;clear b9;simp only [Option.some.injEq,Prod.mk.injEq] at H;obtain ⟨rfl,rfl⟩:=H;go_enter Try.func25,Try.ntmps25;go_wp2_with (first|((with_reducible refine gate_callee (f:=39) rfl ?_);refine goesL_ (some 7) rfl rfl Try.func39 (by kernel_rfl) rfl #[.slice A0 l0.length c0] rfl zzM2 ?_;(with_reducible refine (Ry.calls _ _ l0 a4 b0 w _ ?side1 ?side2 ?side3 A2.out).mono ?_);(case side1=>repeat (first|(with_reducible first|exact HB.out|apply zza|apply zzb|apply zzc)|exact HB.out));(case side2=>exact c2.out);(case side3=>exact c3.out);rintro e w5 ⟨a1,rfl,hi,hb,hb2⟩;refine ⟨_,rfl,?_⟩;have a5:=zzm (hb);have a6:=zzm (hi);clear HB;have HB:=a5;have a0:=a6;clear a5 a6;(try clear hb);(try clear hb2);(try clear hk);(try clear hi))|((with_reducible refine gate_callee (f:=38) rfl ?_);refine goesL_ (some 9) rfl rfl Try.func38 (by kernel_rfl) rfl #[.pointer (some ⟨a1,0,none⟩)] rfl zzM2 ?_;(with_reducible refine (Qg.calls k a1 a4 b0 b1 b2 w _ ?side1 ?side2 A3.out).mono ?_);(case side1=>repeat (first|(with_reducible first|exact a0.out|apply Qc.alloc|apply Qc.drewN|apply Qc.drew|apply Qc.set_1)|exact a0.out));(case side2=>repeat (first|(with_reducible first|exact HB.out|apply zza|apply zzb|apply zzc|refine zzd ?_ (Qc.ge a0.out))|exact HB.out));rintro e w6 ⟨c4,rfl,ho0,hi,hb,hk⟩;refine ⟨_,rfl,?_⟩;have a5:=zzm (Kd.N_lower (Kd.N_mono (ok':=fun k_=>(w.heap.size≤k_)∧k_≠a1) ho0 (fun k_ hk_=>⟨(Nat.le_trans (zzo (by repeat (first|(with_reducible first|exact HB.out|apply zza|apply zzb|apply zzc|refine zzd ?_ (Qc.ge a0.out))|exact HB.out))) hk_),(Qc.fresh (by repeat (first|(with_reducible first|exact a0.out|apply Qc.alloc|apply Qc.drewN|apply Qc.drew|apply Qc.set_1)|exact a0.out)) k_ hk_)⟩)) (zzo (by repeat (first|(with_reducible first|exact HB.out|apply zza|apply zzb|apply zzc|refine zzd ?_ (Qc.ge a0.out))|exact HB.out))));have a6:=zzm (hb);have a9:=zzm (hi);clear HB a0;have a7:=a5;have HB:=a6;have a0:=a9;clear a5 a6 a9;(try clear hb);(try clear hb2);(try clear hk);(try clear hi);(try clear ho0))|((with_reducible refine gate_callee (f:=54) rfl ?_);refine goesL_ (some 12) rfl rfl Try.func54 (by kernel_rfl) rfl #[.pointer (some ⟨a1,0,none⟩),.int .i64 2] rfl zzM2 ?_;(with_reducible refine (Qd.calls k a1 a4 b2 2 b3 c1 w _ ?side1 ?side2 A4.out).mono ?_);(case side1=>repeat (first|(with_reducible first|exact a0.out|apply Qc.alloc|apply Qc.drewN|apply Qc.drew|apply Qc.set_1)|exact a0.out));(case side2=>repeat (first|(with_reducible first|exact HB.out|apply zza|apply zzb|apply zzc|refine zzd ?_ (Qc.ge a0.out))|exact HB.out));rintro e w7 ⟨rfl,hi,hb,hk⟩;refine ⟨_,rfl,?_⟩;have a5:=zzm (Kd.N_mono (Kd.N_keep (Kd.N_mono (ok:=fun k_=>(((w.heap.size≤k_))∧k_≠a1)) (zzN a7.out) (fun k_ hk_=>(⟨hk_,hk_.2⟩:_∧k_≠a1))) hk (fun _ h=>h.2)) (fun _ h=>h.1));have a6:=zzm (hb);have a9:=zzm (hi);clear a7 HB a0;have a7:=a5;have HB:=a6;have a0:=a9;clear a5 a6 a9;(try clear hb);(try clear hb2);(try clear hk);(try clear hi)));go_ret2;exact ⟨_,zzR,by (with_reducible repeat (first|apply Kd.N_alloc|apply Kd.N_drewN|apply Kd.N_drew));exact Kd.N_mono a7.out (fun _ hk=>hk.1),by repeat (first|(with_reducible first|exact HB.out|apply zza|apply zzb|apply zzc|refine zzd ?_ (Qc.ge a0.out))|exact HB.out)⟩
def Rv.f (a0_0:Bool) (a0_1:Bool) (a0_2:Int) (a0_3:Int) (a0_4:Int) (l0_5:List (S30)):Option (Int):=if 0≤(wrap64 ((l0_5.length:Int) - 1)) then (if (wrap64 ((l0_5.length:Int) - 1)) < (l0_5.length:Int) then (some ((Qb l0_5 (wrap64 ((l0_5.length:Int) - 1))).f0)) else (none)) else (none)
set_option maxHeartbeats 8000000 in
theorem Rv.calls (b2:Bool) (b3:Bool) (b4:Int) (b5:Int) (b6:Int) (b7:Option Addr) (b8:Nat) (a0:List (S30)) (r:Int) (w:World) (c1:Kd.C k30 w b7 a0.length a0) (c2:a0.length≤b8) (h:Rv.f b2 b3 b4 b5 b6 a0=some r) :
  Calls Try.prog 72 #[.agg #[.bool b2,.bool b3,.int .i64 b4,.int .i64 b5,.int .i64 b6,.slice b7 a0.length b8]] w fun e w'=>e = .returned (.int .i64 r)∧Below w.heap.size w w':=by
 have hu34:=Try.underlying34;have c7:=zzm c1;have g4:=zzm c2;clear c1 c2;have HB:=zzm (Below.refl w.heap.size w);have H:(if 0≤(wrap64 ((a0.length:Int) - 1)) then (if (wrap64 ((a0.length:Int) - 1)) < (a0.length:Int) then (some ((Qb a0 (wrap64 ((a0.length:Int) - 1))).f0)) else (none)) else (none))=some r:=h;clear h;obtain ⟨a1,hji2⟩:∃ j_:Int,(wrap64 ((a0.length:Int) - 1))=j_:=⟨_,rfl⟩;replace H:(if 0≤(a1) then (if (a1) < (a0.length:Int) then (some ((Qb a0 (a1)).f0)) else (none)) else (none))=some r:=by first|(rw [hji2] at H;exact H)|(simp only [hji2] at H ⊢;exact H)
 have hji2w:(IntKind.i64.wrap ((a0.length:Int) - 1))=a1:=(i64_w _).trans hji2;by_cases c3 : 0≤(a1)
 ·
  rw [if_pos c3] at H;have g8:decide (0≤(a1))=true:=decide_eq_true c3;clear c3;by_cases c4:(a1) < (a0.length:Int)
  ·
   rw [if_pos c4] at H;have g9:decide ((a1) < (a0.length:Int))=true:=decide_eq_true c4;clear c4;obtain rfl:=Option.some.inj H;go_enter Try.func72,Try.ntmps72;go_wp2_with (first|((with_reducible refine gate_dst (N:=1) rfl ?_);refine box_event ?hg (N:=1) ?hd (cs:=#[.bool b2,.bool b3,.int .i64 b4,.int .i64 b5,.int .i64 b6,.slice b7 a0.length b8]) (t:=34) ?hr ?_;(case hd=>rfl);(case hg=>rfl);(case hr=>first|(go_simp;done)|(go_simp;rfl));intro c5 hg w5 hbox hb;have c9:=zzm (zzp zzh1 hb);have d0:=zzm (hbox);have d1:=zzm ((by rw [hg];exact (zzo zzh1):w.heap.size≤c5));have d2:=zzm ((by rw [hg];exact (zzo zzh1):w.heap.size≤c5));clear HB;have HB:=c9;have c8:=d0;have g5:=d1;have g6:=d2;clear c9 d0 d1 d2 hb hbox hg;obtain ⟨d8,d9,e0,e1,e2,e3,e4,e5,e6,e7,e8,e9⟩:=zzc6 c8.out;have b9 : 0≤((a1):Int):=zzt;have c0:(a1) < (a0.length:Int):=zzt;obtain ⟨g7,g0,g1,g2,g3,d3,a2,a3,a4,a5,a6,a7,a8,a9,b0,b1⟩:=Ra c7.out (a1) b9 c0;cases d3;replace a2:=zzx HB.out a2;replace a3:=zzx HB.out a3;replace a4:=zzx HB.out a4;replace a5:=zzx HB.out a5;replace a6:=zzx HB.out a6;replace a7:=zzx HB.out a7;have d4:=zzm a9;have d5:=zzm a8;clear a9 a8;have d6:=zzm b1;have d7:=zzm b0;clear b1 b0;replace b9:=eq_true b9;replace c0:=eq_true c0));go_ret;exact ⟨by first|rfl|(simp [errW_none,errW_some] <;> rfl)|(simp only [← hji2];first|rfl|(simp [errW_none,errW_some] <;> rfl))|(simp [*,errW_none,errW_some] <;> rfl),zzh3⟩
  ·
   rw [if_neg c4] at H;exact absurd H (by simp)
 ·
  rw [if_neg c3] at H;exact absurd H (by simp)
def Qp.l0:Nat→List (S34)→Int→Option (Bool)
 | 0,_,_=>none
 | k+1,x0,x3=>if x3 < (x0.length:Int) then (if 0≤x3 then ((Qo.f k ((Qa x0 x3).f0) ((Qa x0 x3).f1) ((Qa x0 x3).f2) ((Qa x0 x3).f3) ((Qa x0 x3).f4) ((Qa x0 x3).f5)).bind fun t376=>(if t376=true then (if x3 > 0 then (if 0≤(wrap64 (x3 - 1)) then (if (wrap64 (x3 - 1)) < (x0.length:Int) then ((Rv.f ((Qa x0 (wrap64 (x3 - 1))).f0) ((Qa x0 (wrap64 (x3 - 1))).f1) ((Qa x0 (wrap64 (x3 - 1))).f2) ((Qa x0 (wrap64 (x3 - 1))).f3) ((Qa x0 (wrap64 (x3 - 1))).f4) ((Qa x0 (wrap64 (x3 - 1))).f5)).bind fun t378=>(if 0 < (((Qa x0 x3).f5).length:Int) then (if t378 ≥ ((Qb ((Qa x0 x3).f5) 0).f0) then (some false) else (Qp.l0 k x0 (wrap64 (x3+1)))) else (none))) else (none)) else (none)) else (Qp.l0 k x0 (wrap64 (x3+1)))) else (some false))) else (none)) else (some (decide ((x0.length:Int)≤8)))
def Qp.f (k:Nat) (l0:List (S34)):Option (Bool):=Qp.l0 k l0 0
def Qp.T4:Bool×List (List Nat×List Nat):=(true,[([],[]),([],[]),([0,1],[0,1]),([2],[2]),([3],[3]),([4],[4]),([5,4],[5]),([6],[6]),([7,6],[6,7]),([8,6,6],[6,8]),([9],[9]),([9],[9]),([11,9],[9,11]),([10,12,9],[9,10,12]),([13,9],[9,13]),([14,9,9],[9,14]),([9],[9]),([9],[9]),([16,17,9],[9,16,17]),([18,9],[9,18]),([19,9],[9,19]),([20,9],[9,20]),([21,9],[9,21]),([22,9],[9,22]),([15,23,9],[9,15,23]),([9,24,6],[6,9,24]),([6,25],[6,25])])
def Qp.B4:List Nat:=[0,0,3,7,15,31,63,127,255,511,1023,1023,3071,8191,16383,32767,1023,1023,197631,459775,984063,2032639,4129791,8324095,16777215,33554431,67108863]
theorem Qp.tab4:rtab .any (opsOf Try.f43 4)=Qp.T4:=by kernel_rfl
theorem Qp.bits4:waitsOk Qp.T4.2 Qp.B4=true:=by kernel_rfl
set_option maxHeartbeats 8000000 in
theorem Qp.calls (k:Nat) (A0:Option Addr) (c0:Nat) (l0:List (S34)) (r:Bool) (w:World) (o1:Kd.C k34 w A0 l0.length l0) (o2:l0.length≤c0) (h:Qp.f k l0=some r) :
  Calls Try.prog 43 #[.slice A0 l0.length c0] w fun e w'=>e = .returned (.bool r)∧Below w.heap.size w w':=by
 have hu34:=Try.underlying34;have m2:=zzm o1;have p2:=zzm o2;clear o1 o2;have HB:=zzm (Below.refl w.heap.size w);have H:(Qp.l0 k l0 0)=some r:=h;clear h;have H':=zzm H;clear H;go_enter Try.func43,Try.ntmps43;go_wp2;go_loopg [3] k (fun kq v3 w'=>∃ (a0:Int),v3 = .int .i64 a0∧Aside0 (Qp.l0 kq l0 a0=some r)∧Aside0 (kq≤k)∧Aside0 (Below w.heap.size w w'))
 case atStart=>exact ⟨(0),(by first|rfl|(simp;done)|(simp [*];done)),H',⟨Nat.le_refl _⟩,⟨zzh1⟩⟩
 case round=>
  clear H';obtain ⟨a0,rfl,HA,HK1,HB⟩:=hrel;cases gk with
  | zero=>exact absurd HA.out (by simp [Qp.l0])
  | succ k1=>
   have H:=HA.out;clear HA;simp only [Qp.l0] at H;by_cases c2:a0 < (l0.length:Int)
   ·
    rw [if_pos c2] at H;have o4:decide (a0 < (l0.length:Int))=true:=decide_eq_true c2;clear c2;by_cases c3 : 0≤a0
    ·
     rw [if_pos c3] at H;have o9:decide (0≤a0)=true:=decide_eq_true c3;clear c3;obtain ⟨o5,A4,H⟩:=zzG H;by_cases c5:o5=true
     ·
      subst c5;replace H:=zzIt H;by_cases c6:a0 > 0
      ·
       rw [if_pos c6] at H;have o6:decide (0 < a0)=true:=decide_eq_true c6;clear c6;obtain ⟨a3,hji7⟩:∃ j_:Int,(wrap64 (a0 - 1))=j_:=⟨_,rfl⟩;replace H:(if 0≤(a3) then (if (a3) < (l0.length:Int) then ((Rv.f ((Qa l0 (a3)).f0) ((Qa l0 (a3)).f1) ((Qa l0 (a3)).f2) ((Qa l0 (a3)).f3) ((Qa l0 (a3)).f4) ((Qa l0 (a3)).f5)).bind fun k9=>(if 0 < (((Qa l0 a0).f5).length:Int) then (if k9 ≥ ((Qb ((Qa l0 a0).f5) 0).f0) then (some false) else (Qp.l0 k1 l0 (wrap64 (a0+1)))) else (none))) else (none)) else (none))=some r:=by first|(rw [hji7] at H;exact H)|(simp only [hji7] at H ⊢;exact H)
       (try rw [hji7] at A4);have hji7w:(IntKind.i64.wrap (a0 - 1))=a3:=(i64_w _).trans hji7;by_cases c8 : 0≤(a3)
       ·
        rw [if_pos c8] at H;have p0:decide (0≤(a3))=true:=decide_eq_true c8;clear c8;by_cases c9:(a3) < (l0.length:Int)
        ·
         rw [if_pos c9] at H;have p1:decide ((a3) < (l0.length:Int))=true:=decide_eq_true c9;clear c9;obtain ⟨k9,o3,H⟩:=zzG H;by_cases n5 : 0 < (((Qa l0 a0).f5).length:Int)
         ·
          rw [if_pos n5] at H;have o7:decide (0 < (((Qa l0 a0).f5).length:Int))=true:=decide_eq_true n5;have o8:decide (0 < ((Qa l0 a0).f5).length)=true:=decide_eq_true (by omega);clear n5;by_cases m7:k9 ≥ ((Qb ((Qa l0 a0).f5) 0).f0)
          ·
           rw [if_pos m7] at H;have n9:decide (((Qb ((Qa l0 a0).f5) 0).f0)≤k9)=true:=decide_eq_true m7;clear m7;obtain rfl:=Option.some.inj H;try go_wp2
           have d8:=zzm (zzc HB.out);clear HB;have HB:=d8;clear d8;have g5 : 0≤(a0:Int):=zzt;have g6:a0 < (l0.length:Int):=zzt;obtain ⟨a1,g7,d7,l2,a5,a6,a7,a8,a9,b0,d9,e0⟩:=Qx m2.out a0 g5 g6;have b1:=b0;have b9:=a9;have c1:=a8;have c4:=a7;have c7:=a6;have d0:=a5;cases l2;replace a5:=zzx HB.out a5;replace a6:=zzx HB.out a6;replace a7:=zzx HB.out a7;replace a8:=zzx HB.out a8;replace a9:=zzx HB.out a9;replace b0:=zzx HB.out b0;have e1:=zzm e0;have g8:=zzm d9;clear e0 d9;replace g5:=eq_true g5;replace g6:=eq_true g6;have l3 : 0≤((a3):Int):=zzt;have l4:(a3) < (l0.length:Int):=zzt;obtain ⟨m8,k5,k6,n2,e3,e4,e5,e6,e7,e8,j3,j4⟩:=Qx m2.out (a3) l3 l4;have g9:=e8;have h0:=e7;have h1:=e6;have h2:=e5;have h3:=e4;have h4:=e3;obtain rfl:a1=m8:=(by injection n2);replace e3:=zzx HB.out e3;replace e4:=zzx HB.out e4;replace e5:=zzx HB.out e5;replace e6:=zzx HB.out e6;replace e7:=zzx HB.out e7;replace e8:=zzx HB.out e8;have j5:=zzm j4;have l9:=zzm j3;clear j4 j3;replace l3:=eq_true l3;replace l4:=eq_true l4;have l5 : 0≤(a0:Int):=zzt;have l6:a0 < (l0.length:Int):=zzt;obtain ⟨m9,k7,k8,n3,e9,g0,g1,g2,g3,g4,j6,j7⟩:=Qx m2.out a0 l5 l6;have e2:=g4;have h5:=g3;have h6:=g2;have h7:=g1;have h8:=g0;have h9:=e9;obtain rfl:a1=m9:=(by injection n3);replace e9:=zzx HB.out e9;replace g0:=zzx HB.out g0;replace g1:=zzx HB.out g1;replace g2:=zzx HB.out g2;replace g3:=zzx HB.out g3;replace g4:=zzx HB.out g4;have j8:=zzm j7;have n6:=zzm j6;clear j7 j6;replace l5:=eq_true l5;replace l6:=eq_true l6;have l7 : 0≤(0:Int):=(by omega);have l8 : 0 < (((Qa l0 a0).f5).length:Int):=zzt;have eA_:k7=g7:=by have e_:=Option.some.inj (b1.symm.trans e2);injection e_ with n0 _ n1;exact n0.symm
           have eC_:k8=d7:=by have e_:=Option.some.inj (b1.symm.trans e2);injection e_ with n0 _ n1;exact n1.symm
           subst k7;subst k8;obtain ⟨a4,m3,m4,m5,m6,n4,b3,b4,b5,b6,b7,b8,j9,k0,k2,k3⟩:=Ra j8.out 0 l7 l8;have d1:=b8
           (try rw [show ((0:Int)).toNat=0 from rfl] at d1)
           (try rw [show 0 * 6=0 from rfl] at d1)
           (try rw [Addr.add_zero'] at d1);have d2:=b7
           (try rw [show ((0:Int)).toNat=0 from rfl] at d2)
           (try rw [show 0 * 6=0 from rfl] at d2)
           (try rw [Addr.add_zero'] at d2);have d3:=b6
           (try rw [show ((0:Int)).toNat=0 from rfl] at d3)
           (try rw [show 0 * 6=0 from rfl] at d3)
           (try rw [Addr.add_zero'] at d3);have d4:=b5
           (try rw [show ((0:Int)).toNat=0 from rfl] at d4)
           (try rw [show 0 * 6=0 from rfl] at d4)
           (try rw [Addr.add_zero'] at d4);have d5:=b4
           (try rw [show ((0:Int)).toNat=0 from rfl] at d5)
           (try rw [show 0 * 6=0 from rfl] at d5)
           (try rw [Addr.add_zero'] at d5);have d6:=b3
           (try rw [show ((0:Int)).toNat=0 from rfl] at d6)
           (try rw [show 0 * 6=0 from rfl] at d6)
           (try rw [Addr.add_zero'] at d6);cases n4;have o0:(0 < ((Qa l0 a0).f5).length)=True:=eq_true (by omega)
           (try rw [show ((0:Int)).toNat=0 from rfl] at b3)
           (try rw [show 0 * 6=0 from rfl] at b3)
           (try rw [Addr.add_zero'] at b3)
           (try rw [show ((0:Int)).toNat=0 from rfl] at b4)
           (try rw [show 0 * 6=0 from rfl] at b4)
           (try rw [Addr.add_zero'] at b4)
           (try rw [show ((0:Int)).toNat=0 from rfl] at b5)
           (try rw [show 0 * 6=0 from rfl] at b5)
           (try rw [Addr.add_zero'] at b5)
           (try rw [show ((0:Int)).toNat=0 from rfl] at b6)
           (try rw [show 0 * 6=0 from rfl] at b6)
           (try rw [Addr.add_zero'] at b6)
           (try rw [show ((0:Int)).toNat=0 from rfl] at b7)
           (try rw [show 0 * 6=0 from rfl] at b7)
           (try rw [Addr.add_zero'] at b7)
           (try rw [show ((0:Int)).toNat=0 from rfl] at b8)
           (try rw [show 0 * 6=0 from rfl] at b8)
           (try rw [Addr.add_zero'] at b8);replace b3:=zzx HB.out b3;replace b4:=zzx HB.out b4;replace b5:=zzx HB.out b5;replace b6:=zzx HB.out b6;replace b7:=zzx HB.out b7;replace b8:=zzx HB.out b8;have m0:=zzm k0;have n7:=zzm j9;clear k0 j9;have m1:=zzm k3;have n8:=zzm k2;clear k3 k2;replace l7:=eq_true l7;replace l8:=eq_true l8;refine start_ (n:=27) (S:=fun w'=>w'.cell? (a1.add ((a0).toNat * 6))=some (.bool ((Qa l0 a0).f0))∧w'.cell? ⟨(a1.add ((a0).toNat * 6)).block,(a1.add ((a0).toNat * 6)).off+1,none⟩=some (.bool ((Qa l0 a0).f1))∧w'.cell? ⟨(a1.add ((a0).toNat * 6)).block,(a1.add ((a0).toNat * 6)).off+2,none⟩=some (.int .i64 ((Qa l0 a0).f2))∧w'.cell? ⟨(a1.add ((a0).toNat * 6)).block,(a1.add ((a0).toNat * 6)).off+3,none⟩=some (.int .i64 ((Qa l0 a0).f3))∧w'.cell? ⟨(a1.add ((a0).toNat * 6)).block,(a1.add ((a0).toNat * 6)).off+4,none⟩=some (.int .i64 ((Qa l0 a0).f4))∧w'.cell? ⟨(a1.add ((a0).toNat * 6)).block,(a1.add ((a0).toNat * 6)).off+5,none⟩=some (.slice (some a4) ((Qa l0 a0).f5).length d7)∧w'.cell? (a1.add (((a3)).toNat * 6))=some (.bool ((Qa l0 (a3)).f0))∧w'.cell? ⟨(a1.add (((a3)).toNat * 6)).block,(a1.add (((a3)).toNat * 6)).off+1,none⟩=some (.bool ((Qa l0 (a3)).f1))∧w'.cell? ⟨(a1.add (((a3)).toNat * 6)).block,(a1.add (((a3)).toNat * 6)).off+2,none⟩=some (.int .i64 ((Qa l0 (a3)).f2))∧w'.cell? ⟨(a1.add (((a3)).toNat * 6)).block,(a1.add (((a3)).toNat * 6)).off+3,none⟩=some (.int .i64 ((Qa l0 (a3)).f3))∧w'.cell? ⟨(a1.add (((a3)).toNat * 6)).block,(a1.add (((a3)).toNat * 6)).off+4,none⟩=some (.int .i64 ((Qa l0 (a3)).f4))∧w'.cell? ⟨(a1.add (((a3)).toNat * 6)).block,(a1.add (((a3)).toNat * 6)).off+5,none⟩=some (.slice k5 ((Qa l0 (a3)).f5).length k6)∧w'.cell? (a1.add ((a0).toNat * 6))=some (.bool ((Qa l0 a0).f0))∧w'.cell? ⟨(a1.add ((a0).toNat * 6)).block,(a1.add ((a0).toNat * 6)).off+1,none⟩=some (.bool ((Qa l0 a0).f1))∧w'.cell? ⟨(a1.add ((a0).toNat * 6)).block,(a1.add ((a0).toNat * 6)).off+2,none⟩=some (.int .i64 ((Qa l0 a0).f2))∧w'.cell? ⟨(a1.add ((a0).toNat * 6)).block,(a1.add ((a0).toNat * 6)).off+3,none⟩=some (.int .i64 ((Qa l0 a0).f3))∧w'.cell? ⟨(a1.add ((a0).toNat * 6)).block,(a1.add ((a0).toNat * 6)).off+4,none⟩=some (.int .i64 ((Qa l0 a0).f4))∧w'.cell? ⟨(a1.add ((a0).toNat * 6)).block,(a1.add ((a0).toNat * 6)).off+5,none⟩=some (.slice (some a4) ((Qa l0 a0).f5).length d7)∧w'.cell? a4=some (.int .i64 ((Qb ((Qa l0 a0).f5) 0).f0))∧w'.cell? ⟨a4.block,a4.off+1,none⟩=some (.int .i64 ((Qb ((Qa l0 a0).f5) 0).f1))∧w'.cell? ⟨a4.block,a4.off+2,none⟩=some (.bool ((Qb ((Qa l0 a0).f5) 0).f2))∧w'.cell? ⟨a4.block,a4.off+3,none⟩=some (.slice m3 ((Qb ((Qa l0 a0).f5) 0).f3).length m4)∧w'.cell? ⟨a4.block,a4.off+4,none⟩=some (.bool ((Qb ((Qa l0 a0).f5) 0).f4))∧w'.cell? ⟨a4.block,a4.off+5,none⟩=some (.slice m5 ((Qb ((Qa l0 a0).f5) 0).f5).length m6)) (ds:=[]) (zzB 27 0) (by kernel_rfl) rfl rfl ⟨(zzx HB.out d0),(zzx HB.out c7),(zzx HB.out c4),(zzx HB.out c1),(zzx HB.out b9),(zzx HB.out b1),(zzx HB.out h4),(zzx HB.out h3),(zzx HB.out h2),(zzx HB.out h1),(zzx HB.out h0),(zzx HB.out g9),(zzx HB.out h9),(zzx HB.out h8),(zzx HB.out h7),(zzx HB.out h6),(zzx HB.out h5),(zzx HB.out e2),(zzx HB.out d6),(zzx HB.out d5),(zzx HB.out d4),(zzx HB.out d3),(zzx HB.out d2),(zzx HB.out d1)⟩ (fun b2=>?_);refine with_tabW Qp.tab4 Qp.bits4 (fun a2 k4=>?_);generalize wr.drew=p3 at HB e1 j5 j8 m0 m1 a5 a6 a7 a8 a9 b0 e3 e4 e5 e6 e7 e8 e9 g0 g1 g2 g3 g4 b3 b4 b5 b6 b7 b8 b2 ⊢;refine zzP 0 10 27 1 a2 ?_
           refine zzP 1 11 27 3 a2 ?_
           refine zzP 2 12 27 7 a2 ?_
           refine zzT 3 13 27 15 a2 k4 b2 ?_
           refine one_ (i:=4) (N:=some 14) (zzB 27 31) rfl rfl (one_of a2.out (by kernel_rfl)) (by decide) (fun K hK=>?_);refine goes_ Try.func66 (by kernel_rfl) rfl #[.agg #[.bool ((Qa l0 a0).f0),.bool ((Qa l0 a0).f1),.int .i64 ((Qa l0 a0).f2),.int .i64 ((Qa l0 a0).f3),.int .i64 ((Qa l0 a0).f4),.slice (some a4) ((Qa l0 a0).f5).length d7]] (by rfl) rfl rfl zzM2 ?_;with_reducible refine (Qo.calls k1 ((Qa l0 a0).f0) ((Qa l0 a0).f1) ((Qa l0 a0).f2) ((Qa l0 a0).f3) ((Qa l0 a0).f4) _ _ ((Qa l0 a0).f5) true _ ?side1 ?side2 A4.out).mono ?_
           (case side1=>exact zzcb e1 HB)
           (case side2=>exact g8.out);rintro e p4 ⟨rfl,hb⟩;refine ⟨_,rfl,?_⟩;have d8:=zzm (zzp zzh1 hb);clear HB;have HB:=d8;clear d8
           (try clear hb)
           (try clear hb2)
           (try clear hk)
           (try clear hi);refine hK.out _ _ ⟨(zzx HB.out d0),(zzx HB.out c7),(zzx HB.out c4),(zzx HB.out c1),(zzx HB.out b9),(zzx HB.out b1),(zzx HB.out h4),(zzx HB.out h3),(zzx HB.out h2),(zzx HB.out h1),(zzx HB.out h0),(zzx HB.out g9),(zzx HB.out h9),(zzx HB.out h8),(zzx HB.out h7),(zzx HB.out h6),(zzx HB.out h5),(zzx HB.out e2),(zzx HB.out d6),(zzx HB.out d5),(zzx HB.out d4),(zzx HB.out d3),(zzx HB.out d2),(zzx HB.out d1)⟩ (fun b2=>?_);clear hK K;refine zzO 14 ?_
           refine zzP 5 15 27 63 a2 ?_
           refine zzP 6 16 27 127 a2 ?_
           refine zzP 7 17 27 255 a2 ?_
           refine zzP 8 18 27 511 a2 ?_
           refine zzP 9 19 27 1023 a2 ?_
           refine zzP 10 20 27 2047 a2 ?_
           refine zzP 11 21 27 4095 a2 ?_
           refine zzP 12 22 27 8191 a2 ?_
           refine zzP 13 23 27 16383 a2 ?_
           refine zzP 16 26 27 81919 a2 ?_
           refine zzP 17 27 27 212991 a2 ?_
           refine zzP 18 28 27 475135 a2 ?_
           refine zzP 19 29 27 999423 a2 ?_
           refine zzT 14 24 27 1015807 a2 k4 b2 ?_
           refine zzT 20 30 27 2064383 a2 k4 b2 ?_
           refine zzP 21 31 27 4161535 a2 ?_
           refine zzP 22 32 27 8355839 a2 ?_
           refine zzT 23 33 27 16744447 a2 k4 b2 ?_
           refine one_ (i:=15) (N:=some 25) (zzB 27 16777215) rfl rfl (one_of a2.out (by kernel_rfl)) (by decide) (fun K hK=>?_);refine goes_ Try.func72 (by kernel_rfl) rfl #[.agg #[.bool ((Qa l0 (a3)).f0),.bool ((Qa l0 (a3)).f1),.int .i64 ((Qa l0 (a3)).f2),.int .i64 ((Qa l0 (a3)).f3),.int .i64 ((Qa l0 (a3)).f4),.slice k5 ((Qa l0 (a3)).f5).length k6]] (by rfl) rfl rfl (by (try simp only [map_toArray,map_cons,map_nil]);first|done|(simp only [hji7];rfl)|rfl|(simp only [length_drop,length_take];rfl)) ?_;with_reducible refine (Rv.calls ((Qa l0 (a3)).f0) ((Qa l0 (a3)).f1) ((Qa l0 (a3)).f2) ((Qa l0 (a3)).f3) ((Qa l0 (a3)).f4) _ _ ((Qa l0 (a3)).f5) k9 _ ?side1 ?side2 o3.out).mono ?_
           (case side1=>exact zzcb j5 HB)
           (case side2=>exact l9.out);rintro e p5 ⟨rfl,hb⟩;refine ⟨_,rfl,?_⟩;have d8:=zzm (zzp zzh1 hb);clear HB;have HB:=d8;clear d8
           (try clear hb)
           (try clear hb2)
           (try clear hk)
           (try clear hi);refine hK.out _ _ ⟨(zzx HB.out d0),(zzx HB.out c7),(zzx HB.out c4),(zzx HB.out c1),(zzx HB.out b9),(zzx HB.out b1),(zzx HB.out h4),(zzx HB.out h3),(zzx HB.out h2),(zzx HB.out h1),(zzx HB.out h0),(zzx HB.out g9),(zzx HB.out h9),(zzx HB.out h8),(zzx HB.out h7),(zzx HB.out h6),(zzx HB.out h5),(zzx HB.out e2),(zzx HB.out d6),(zzx HB.out d5),(zzx HB.out d4),(zzx HB.out d3),(zzx HB.out d2),(zzx HB.out d1)⟩ (fun b2=>?_);clear hK K;refine zzO 25 ?_
           refine zzP 24 34 27 33554431 a2 ?_
           refine zzP 25 35 27 67108863 a2 ?_
           refine zzP 26 36 27 134217727 a2 ?_
           refine done_ (done_of a2.out (by kernel_rfl)) ?_;try go_wp2
           go_ret;exact ⟨by first|rfl|(simp [errW_none,errW_some] <;> rfl)|(simp only [← hji7];first|rfl|(simp [errW_none,errW_some] <;> rfl))|(simp [*,errW_none,errW_some] <;> rfl),zzh1⟩
          ·
           rw [if_neg m7] at H;have n9:decide (((Qb ((Qa l0 a0).f5) 0).f0)≤k9)=false:=decide_eq_false m7;clear m7;have H':=zzm H;clear H;try go_wp2
           have d8:=zzm (zzc HB.out);clear HB;have HB:=d8;clear d8;have g5 : 0≤(a0:Int):=zzt;have g6:a0 < (l0.length:Int):=zzt;obtain ⟨a1,g7,d7,l2,a5,a6,a7,a8,a9,b0,d9,e0⟩:=Qx m2.out a0 g5 g6;have b1:=b0;have b9:=a9;have c1:=a8;have c4:=a7;have c7:=a6;have d0:=a5;cases l2;replace a5:=zzx HB.out a5;replace a6:=zzx HB.out a6;replace a7:=zzx HB.out a7;replace a8:=zzx HB.out a8;replace a9:=zzx HB.out a9;replace b0:=zzx HB.out b0;have e1:=zzm e0;have g8:=zzm d9;clear e0 d9;replace g5:=eq_true g5;replace g6:=eq_true g6;have l3 : 0≤((a3):Int):=zzt;have l4:(a3) < (l0.length:Int):=zzt;obtain ⟨m8,k5,k6,n2,e3,e4,e5,e6,e7,e8,j3,j4⟩:=Qx m2.out (a3) l3 l4;have g9:=e8;have h0:=e7;have h1:=e6;have h2:=e5;have h3:=e4;have h4:=e3;obtain rfl:a1=m8:=(by injection n2);replace e3:=zzx HB.out e3;replace e4:=zzx HB.out e4;replace e5:=zzx HB.out e5;replace e6:=zzx HB.out e6;replace e7:=zzx HB.out e7;replace e8:=zzx HB.out e8;have j5:=zzm j4;have l9:=zzm j3;clear j4 j3;replace l3:=eq_true l3;replace l4:=eq_true l4;have l5 : 0≤(a0:Int):=zzt;have l6:a0 < (l0.length:Int):=zzt;obtain ⟨m9,k7,k8,n3,e9,g0,g1,g2,g3,g4,j6,j7⟩:=Qx m2.out a0 l5 l6;have e2:=g4;have h5:=g3;have h6:=g2;have h7:=g1;have h8:=g0;have h9:=e9;obtain rfl:a1=m9:=(by injection n3);replace e9:=zzx HB.out e9;replace g0:=zzx HB.out g0;replace g1:=zzx HB.out g1;replace g2:=zzx HB.out g2;replace g3:=zzx HB.out g3;replace g4:=zzx HB.out g4;have j8:=zzm j7;have n6:=zzm j6;clear j7 j6;replace l5:=eq_true l5;replace l6:=eq_true l6;have l7 : 0≤(0:Int):=(by omega);have l8 : 0 < (((Qa l0 a0).f5).length:Int):=zzt;have eA_:k7=g7:=by have e_:=Option.some.inj (b1.symm.trans e2);injection e_ with n0 _ n1;exact n0.symm
           have eC_:k8=d7:=by have e_:=Option.some.inj (b1.symm.trans e2);injection e_ with n0 _ n1;exact n1.symm
           subst k7;subst k8;obtain ⟨a4,m3,m4,m5,m6,n4,b3,b4,b5,b6,b7,b8,j9,k0,k2,k3⟩:=Ra j8.out 0 l7 l8;have d1:=b8
           (try rw [show ((0:Int)).toNat=0 from rfl] at d1)
           (try rw [show 0 * 6=0 from rfl] at d1)
           (try rw [Addr.add_zero'] at d1);have d2:=b7
           (try rw [show ((0:Int)).toNat=0 from rfl] at d2)
           (try rw [show 0 * 6=0 from rfl] at d2)
           (try rw [Addr.add_zero'] at d2);have d3:=b6
           (try rw [show ((0:Int)).toNat=0 from rfl] at d3)
           (try rw [show 0 * 6=0 from rfl] at d3)
           (try rw [Addr.add_zero'] at d3);have d4:=b5
           (try rw [show ((0:Int)).toNat=0 from rfl] at d4)
           (try rw [show 0 * 6=0 from rfl] at d4)
           (try rw [Addr.add_zero'] at d4);have d5:=b4
           (try rw [show ((0:Int)).toNat=0 from rfl] at d5)
           (try rw [show 0 * 6=0 from rfl] at d5)
           (try rw [Addr.add_zero'] at d5);have d6:=b3
           (try rw [show ((0:Int)).toNat=0 from rfl] at d6)
           (try rw [show 0 * 6=0 from rfl] at d6)
           (try rw [Addr.add_zero'] at d6);cases n4;have o0:(0 < ((Qa l0 a0).f5).length)=True:=eq_true (by omega)
           (try rw [show ((0:Int)).toNat=0 from rfl] at b3)
           (try rw [show 0 * 6=0 from rfl] at b3)
           (try rw [Addr.add_zero'] at b3)
           (try rw [show ((0:Int)).toNat=0 from rfl] at b4)
           (try rw [show 0 * 6=0 from rfl] at b4)
           (try rw [Addr.add_zero'] at b4)
           (try rw [show ((0:Int)).toNat=0 from rfl] at b5)
           (try rw [show 0 * 6=0 from rfl] at b5)
           (try rw [Addr.add_zero'] at b5)
           (try rw [show ((0:Int)).toNat=0 from rfl] at b6)
           (try rw [show 0 * 6=0 from rfl] at b6)
           (try rw [Addr.add_zero'] at b6)
           (try rw [show ((0:Int)).toNat=0 from rfl] at b7)
           (try rw [show 0 * 6=0 from rfl] at b7)
           (try rw [Addr.add_zero'] at b7)
           (try rw [show ((0:Int)).toNat=0 from rfl] at b8)
           (try rw [show 0 * 6=0 from rfl] at b8)
           (try rw [Addr.add_zero'] at b8);replace b3:=zzx HB.out b3;replace b4:=zzx HB.out b4;replace b5:=zzx HB.out b5;replace b6:=zzx HB.out b6;replace b7:=zzx HB.out b7;replace b8:=zzx HB.out b8;have m0:=zzm k0;have n7:=zzm j9;clear k0 j9;have m1:=zzm k3;have n8:=zzm k2;clear k3 k2;replace l7:=eq_true l7;replace l8:=eq_true l8;refine start_ (n:=27) (S:=fun w'=>w'.cell? (a1.add ((a0).toNat * 6))=some (.bool ((Qa l0 a0).f0))∧w'.cell? ⟨(a1.add ((a0).toNat * 6)).block,(a1.add ((a0).toNat * 6)).off+1,none⟩=some (.bool ((Qa l0 a0).f1))∧w'.cell? ⟨(a1.add ((a0).toNat * 6)).block,(a1.add ((a0).toNat * 6)).off+2,none⟩=some (.int .i64 ((Qa l0 a0).f2))∧w'.cell? ⟨(a1.add ((a0).toNat * 6)).block,(a1.add ((a0).toNat * 6)).off+3,none⟩=some (.int .i64 ((Qa l0 a0).f3))∧w'.cell? ⟨(a1.add ((a0).toNat * 6)).block,(a1.add ((a0).toNat * 6)).off+4,none⟩=some (.int .i64 ((Qa l0 a0).f4))∧w'.cell? ⟨(a1.add ((a0).toNat * 6)).block,(a1.add ((a0).toNat * 6)).off+5,none⟩=some (.slice (some a4) ((Qa l0 a0).f5).length d7)∧w'.cell? (a1.add (((a3)).toNat * 6))=some (.bool ((Qa l0 (a3)).f0))∧w'.cell? ⟨(a1.add (((a3)).toNat * 6)).block,(a1.add (((a3)).toNat * 6)).off+1,none⟩=some (.bool ((Qa l0 (a3)).f1))∧w'.cell? ⟨(a1.add (((a3)).toNat * 6)).block,(a1.add (((a3)).toNat * 6)).off+2,none⟩=some (.int .i64 ((Qa l0 (a3)).f2))∧w'.cell? ⟨(a1.add (((a3)).toNat * 6)).block,(a1.add (((a3)).toNat * 6)).off+3,none⟩=some (.int .i64 ((Qa l0 (a3)).f3))∧w'.cell? ⟨(a1.add (((a3)).toNat * 6)).block,(a1.add (((a3)).toNat * 6)).off+4,none⟩=some (.int .i64 ((Qa l0 (a3)).f4))∧w'.cell? ⟨(a1.add (((a3)).toNat * 6)).block,(a1.add (((a3)).toNat * 6)).off+5,none⟩=some (.slice k5 ((Qa l0 (a3)).f5).length k6)∧w'.cell? (a1.add ((a0).toNat * 6))=some (.bool ((Qa l0 a0).f0))∧w'.cell? ⟨(a1.add ((a0).toNat * 6)).block,(a1.add ((a0).toNat * 6)).off+1,none⟩=some (.bool ((Qa l0 a0).f1))∧w'.cell? ⟨(a1.add ((a0).toNat * 6)).block,(a1.add ((a0).toNat * 6)).off+2,none⟩=some (.int .i64 ((Qa l0 a0).f2))∧w'.cell? ⟨(a1.add ((a0).toNat * 6)).block,(a1.add ((a0).toNat * 6)).off+3,none⟩=some (.int .i64 ((Qa l0 a0).f3))∧w'.cell? ⟨(a1.add ((a0).toNat * 6)).block,(a1.add ((a0).toNat * 6)).off+4,none⟩=some (.int .i64 ((Qa l0 a0).f4))∧w'.cell? ⟨(a1.add ((a0).toNat * 6)).block,(a1.add ((a0).toNat * 6)).off+5,none⟩=some (.slice (some a4) ((Qa l0 a0).f5).length d7)∧w'.cell? a4=some (.int .i64 ((Qb ((Qa l0 a0).f5) 0).f0))∧w'.cell? ⟨a4.block,a4.off+1,none⟩=some (.int .i64 ((Qb ((Qa l0 a0).f5) 0).f1))∧w'.cell? ⟨a4.block,a4.off+2,none⟩=some (.bool ((Qb ((Qa l0 a0).f5) 0).f2))∧w'.cell? ⟨a4.block,a4.off+3,none⟩=some (.slice m3 ((Qb ((Qa l0 a0).f5) 0).f3).length m4)∧w'.cell? ⟨a4.block,a4.off+4,none⟩=some (.bool ((Qb ((Qa l0 a0).f5) 0).f4))∧w'.cell? ⟨a4.block,a4.off+5,none⟩=some (.slice m5 ((Qb ((Qa l0 a0).f5) 0).f5).length m6)) (ds:=[]) (zzB 27 0) (by kernel_rfl) rfl rfl ⟨(zzx HB.out d0),(zzx HB.out c7),(zzx HB.out c4),(zzx HB.out c1),(zzx HB.out b9),(zzx HB.out b1),(zzx HB.out h4),(zzx HB.out h3),(zzx HB.out h2),(zzx HB.out h1),(zzx HB.out h0),(zzx HB.out g9),(zzx HB.out h9),(zzx HB.out h8),(zzx HB.out h7),(zzx HB.out h6),(zzx HB.out h5),(zzx HB.out e2),(zzx HB.out d6),(zzx HB.out d5),(zzx HB.out d4),(zzx HB.out d3),(zzx HB.out d2),(zzx HB.out d1)⟩ (fun b2=>?_);refine with_tabW Qp.tab4 Qp.bits4 (fun a2 k4=>?_);generalize wr.drew=p6 at HB e1 j5 j8 m0 m1 a5 a6 a7 a8 a9 b0 e3 e4 e5 e6 e7 e8 e9 g0 g1 g2 g3 g4 b3 b4 b5 b6 b7 b8 b2 ⊢;refine zzP 0 10 27 1 a2 ?_
           refine zzP 1 11 27 3 a2 ?_
           refine zzP 2 12 27 7 a2 ?_
           refine zzT 3 13 27 15 a2 k4 b2 ?_
           refine one_ (i:=4) (N:=some 14) (zzB 27 31) rfl rfl (one_of a2.out (by kernel_rfl)) (by decide) (fun K hK=>?_);refine goes_ Try.func66 (by kernel_rfl) rfl #[.agg #[.bool ((Qa l0 a0).f0),.bool ((Qa l0 a0).f1),.int .i64 ((Qa l0 a0).f2),.int .i64 ((Qa l0 a0).f3),.int .i64 ((Qa l0 a0).f4),.slice (some a4) ((Qa l0 a0).f5).length d7]] (by rfl) rfl rfl zzM2 ?_;with_reducible refine (Qo.calls k1 ((Qa l0 a0).f0) ((Qa l0 a0).f1) ((Qa l0 a0).f2) ((Qa l0 a0).f3) ((Qa l0 a0).f4) _ _ ((Qa l0 a0).f5) true _ ?side1 ?side2 A4.out).mono ?_
           (case side1=>exact zzcb e1 HB)
           (case side2=>exact g8.out);rintro e p7 ⟨rfl,hb⟩;refine ⟨_,rfl,?_⟩;have d8:=zzm (zzp zzh1 hb);clear HB;have HB:=d8;clear d8
           (try clear hb)
           (try clear hb2)
           (try clear hk)
           (try clear hi);refine hK.out _ _ ⟨(zzx HB.out d0),(zzx HB.out c7),(zzx HB.out c4),(zzx HB.out c1),(zzx HB.out b9),(zzx HB.out b1),(zzx HB.out h4),(zzx HB.out h3),(zzx HB.out h2),(zzx HB.out h1),(zzx HB.out h0),(zzx HB.out g9),(zzx HB.out h9),(zzx HB.out h8),(zzx HB.out h7),(zzx HB.out h6),(zzx HB.out h5),(zzx HB.out e2),(zzx HB.out d6),(zzx HB.out d5),(zzx HB.out d4),(zzx HB.out d3),(zzx HB.out d2),(zzx HB.out d1)⟩ (fun b2=>?_);clear hK K;refine zzO 14 ?_
           refine zzP 5 15 27 63 a2 ?_
           refine zzP 6 16 27 127 a2 ?_
           refine zzP 7 17 27 255 a2 ?_
           refine zzP 8 18 27 511 a2 ?_
           refine zzP 9 19 27 1023 a2 ?_
           refine zzP 10 20 27 2047 a2 ?_
           refine zzP 11 21 27 4095 a2 ?_
           refine zzP 12 22 27 8191 a2 ?_
           refine zzP 13 23 27 16383 a2 ?_
           refine zzP 16 26 27 81919 a2 ?_
           refine zzP 17 27 27 212991 a2 ?_
           refine zzP 18 28 27 475135 a2 ?_
           refine zzP 19 29 27 999423 a2 ?_
           refine zzT 14 24 27 1015807 a2 k4 b2 ?_
           refine zzT 20 30 27 2064383 a2 k4 b2 ?_
           refine zzP 21 31 27 4161535 a2 ?_
           refine zzP 22 32 27 8355839 a2 ?_
           refine zzT 23 33 27 16744447 a2 k4 b2 ?_
           refine one_ (i:=15) (N:=some 25) (zzB 27 16777215) rfl rfl (one_of a2.out (by kernel_rfl)) (by decide) (fun K hK=>?_);refine goes_ Try.func72 (by kernel_rfl) rfl #[.agg #[.bool ((Qa l0 (a3)).f0),.bool ((Qa l0 (a3)).f1),.int .i64 ((Qa l0 (a3)).f2),.int .i64 ((Qa l0 (a3)).f3),.int .i64 ((Qa l0 (a3)).f4),.slice k5 ((Qa l0 (a3)).f5).length k6]] (by rfl) rfl rfl (by (try simp only [map_toArray,map_cons,map_nil]);first|done|(simp only [hji7];rfl)|rfl|(simp only [length_drop,length_take];rfl)) ?_;with_reducible refine (Rv.calls ((Qa l0 (a3)).f0) ((Qa l0 (a3)).f1) ((Qa l0 (a3)).f2) ((Qa l0 (a3)).f3) ((Qa l0 (a3)).f4) _ _ ((Qa l0 (a3)).f5) k9 _ ?side1 ?side2 o3.out).mono ?_
           (case side1=>exact zzcb j5 HB)
           (case side2=>exact l9.out);rintro e p8 ⟨rfl,hb⟩;refine ⟨_,rfl,?_⟩;have d8:=zzm (zzp zzh1 hb);clear HB;have HB:=d8;clear d8
           (try clear hb)
           (try clear hb2)
           (try clear hk)
           (try clear hi);refine hK.out _ _ ⟨(zzx HB.out d0),(zzx HB.out c7),(zzx HB.out c4),(zzx HB.out c1),(zzx HB.out b9),(zzx HB.out b1),(zzx HB.out h4),(zzx HB.out h3),(zzx HB.out h2),(zzx HB.out h1),(zzx HB.out h0),(zzx HB.out g9),(zzx HB.out h9),(zzx HB.out h8),(zzx HB.out h7),(zzx HB.out h6),(zzx HB.out h5),(zzx HB.out e2),(zzx HB.out d6),(zzx HB.out d5),(zzx HB.out d4),(zzx HB.out d3),(zzx HB.out d2),(zzx HB.out d1)⟩ (fun b2=>?_);clear hK K;refine zzO 25 ?_
           refine zzP 24 34 27 33554431 a2 ?_
           refine zzP 25 35 27 67108863 a2 ?_
           refine zzP 26 36 27 134217727 a2 ?_
           refine done_ (done_of a2.out (by kernel_rfl)) ?_;try go_wp2
           go_roundg k1
           case measure=>have:=HK1.out;omega
           case rel=>exact ⟨(wrap64 (a0+1)),(by first|rfl|(simp;done)|(simp [*];done)),H',⟨by have:=HK1.out;omega⟩,⟨zzh1⟩⟩
         ·
          rw [if_neg n5] at H;exact absurd H (by simp)
        ·
         rw [if_neg c9] at H;exact absurd H (by simp)
       ·
        rw [if_neg c8] at H;exact absurd H (by simp)
      ·
       rw [if_neg c6] at H;have o6:decide (0 < a0)=false:=decide_eq_false c6;clear c6;have H':=zzm H;clear H;try go_wp2
       have d8:=zzm (zzc HB.out);clear HB;have HB:=d8;clear d8;have g5 : 0≤(a0:Int):=zzt;have g6:a0 < (l0.length:Int):=zzt;obtain ⟨a1,g7,d7,l2,a5,a6,a7,a8,a9,b0,d9,e0⟩:=Qx m2.out a0 g5 g6;have b1:=b0;have b9:=a9;have c1:=a8;have c4:=a7;have c7:=a6;have d0:=a5;cases l2;replace a5:=zzx HB.out a5;replace a6:=zzx HB.out a6;replace a7:=zzx HB.out a7;replace a8:=zzx HB.out a8;replace a9:=zzx HB.out a9;replace b0:=zzx HB.out b0;have e1:=zzm e0;have g8:=zzm d9;clear e0 d9;replace g5:=eq_true g5;replace g6:=eq_true g6;refine start_ (n:=27) (S:=fun w'=>w'.cell? (a1.add ((a0).toNat * 6))=some (.bool ((Qa l0 a0).f0))∧w'.cell? ⟨(a1.add ((a0).toNat * 6)).block,(a1.add ((a0).toNat * 6)).off+1,none⟩=some (.bool ((Qa l0 a0).f1))∧w'.cell? ⟨(a1.add ((a0).toNat * 6)).block,(a1.add ((a0).toNat * 6)).off+2,none⟩=some (.int .i64 ((Qa l0 a0).f2))∧w'.cell? ⟨(a1.add ((a0).toNat * 6)).block,(a1.add ((a0).toNat * 6)).off+3,none⟩=some (.int .i64 ((Qa l0 a0).f3))∧w'.cell? ⟨(a1.add ((a0).toNat * 6)).block,(a1.add ((a0).toNat * 6)).off+4,none⟩=some (.int .i64 ((Qa l0 a0).f4))∧w'.cell? ⟨(a1.add ((a0).toNat * 6)).block,(a1.add ((a0).toNat * 6)).off+5,none⟩=some (.slice g7 ((Qa l0 a0).f5).length d7)) (ds:=[]) (zzB 27 0) (by kernel_rfl) rfl rfl ⟨(zzx HB.out d0),(zzx HB.out c7),(zzx HB.out c4),(zzx HB.out c1),(zzx HB.out b9),(zzx HB.out b1)⟩ (fun b2=>?_);refine with_tabW Qp.tab4 Qp.bits4 (fun a2 k4=>?_);generalize wr.drew=p9 at HB e1 a5 a6 a7 a8 a9 b0 b2 ⊢;refine zzP 0 10 27 1 a2 ?_
       refine zzP 1 11 27 3 a2 ?_
       refine zzP 2 12 27 7 a2 ?_
       refine zzT 3 13 27 15 a2 k4 b2 ?_
       refine one_ (i:=4) (N:=some 14) (zzB 27 31) rfl rfl (one_of a2.out (by kernel_rfl)) (by decide) (fun K hK=>?_);refine goes_ Try.func66 (by kernel_rfl) rfl #[.agg #[.bool ((Qa l0 a0).f0),.bool ((Qa l0 a0).f1),.int .i64 ((Qa l0 a0).f2),.int .i64 ((Qa l0 a0).f3),.int .i64 ((Qa l0 a0).f4),.slice g7 ((Qa l0 a0).f5).length d7]] (by rfl) rfl rfl zzM2 ?_;with_reducible refine (Qo.calls k1 ((Qa l0 a0).f0) ((Qa l0 a0).f1) ((Qa l0 a0).f2) ((Qa l0 a0).f3) ((Qa l0 a0).f4) _ _ ((Qa l0 a0).f5) true _ ?side1 ?side2 A4.out).mono ?_
       (case side1=>exact zzcb e1 HB)
       (case side2=>exact g8.out);rintro e q0 ⟨rfl,hb⟩;refine ⟨_,rfl,?_⟩;have d8:=zzm (zzp zzh1 hb);clear HB;have HB:=d8;clear d8
       (try clear hb)
       (try clear hb2)
       (try clear hk)
       (try clear hi);refine hK.out _ _ ⟨(zzx HB.out d0),(zzx HB.out c7),(zzx HB.out c4),(zzx HB.out c1),(zzx HB.out b9),(zzx HB.out b1)⟩ (fun b2=>?_);clear hK K;refine zzO 14 ?_
       refine zzP 5 15 27 63 a2 ?_
       refine zzP 6 16 27 127 a2 ?_
       refine zzP 7 17 27 255 a2 ?_
       refine zzP 8 18 27 511 a2 ?_
       refine zzP 9 19 27 1023 a2 ?_
       refine zzU 10 20 27 2047 a2 ?_
       refine zzU 11 21 27 4095 a2 ?_
       refine zzU 12 22 27 8191 a2 ?_
       refine zzU 13 23 27 16383 a2 ?_
       refine zzU 14 24 27 32767 a2 ?_
       refine zzU 15 25 27 65535 a2 ?_
       refine zzU 16 26 27 131071 a2 ?_
       refine zzU 17 27 27 262143 a2 ?_
       refine zzU 18 28 27 524287 a2 ?_
       refine zzU 19 29 27 1048575 a2 ?_
       refine zzU 20 30 27 2097151 a2 ?_
       refine zzU 21 31 27 4194303 a2 ?_
       refine zzU 22 32 27 8388607 a2 ?_
       refine zzU 23 33 27 16777215 a2 ?_
       refine zzU 24 34 27 33554431 a2 ?_
       refine zzP 25 35 27 67108863 a2 ?_
       refine zzP 26 36 27 134217727 a2 ?_
       refine done_ (done_of a2.out (by kernel_rfl)) ?_;try go_wp2
       go_roundg k1
       case measure=>have:=HK1.out;omega
       case rel=>exact ⟨(wrap64 (a0+1)),(by first|rfl|(simp;done)|(simp [*];done)),H',⟨by have:=HK1.out;omega⟩,⟨zzh1⟩⟩
     ·
      replace c5:=Bool.eq_false_iff.mpr c5;subst c5;replace H:=zzIf H;obtain rfl:=Option.some.inj H;try go_wp2
      have d8:=zzm (zzc HB.out);clear HB;have HB:=d8;clear d8;have g5 : 0≤(a0:Int):=zzt;have g6:a0 < (l0.length:Int):=zzt;obtain ⟨a1,g7,d7,l2,a5,a6,a7,a8,a9,b0,d9,e0⟩:=Qx m2.out a0 g5 g6;have b1:=b0;have b9:=a9;have c1:=a8;have c4:=a7;have c7:=a6;have d0:=a5;cases l2;replace a5:=zzx HB.out a5;replace a6:=zzx HB.out a6;replace a7:=zzx HB.out a7;replace a8:=zzx HB.out a8;replace a9:=zzx HB.out a9;replace b0:=zzx HB.out b0;have e1:=zzm e0;have g8:=zzm d9;clear e0 d9;replace g5:=eq_true g5;replace g6:=eq_true g6;refine start_ (n:=27) (S:=fun w'=>w'.cell? (a1.add ((a0).toNat * 6))=some (.bool ((Qa l0 a0).f0))∧w'.cell? ⟨(a1.add ((a0).toNat * 6)).block,(a1.add ((a0).toNat * 6)).off+1,none⟩=some (.bool ((Qa l0 a0).f1))∧w'.cell? ⟨(a1.add ((a0).toNat * 6)).block,(a1.add ((a0).toNat * 6)).off+2,none⟩=some (.int .i64 ((Qa l0 a0).f2))∧w'.cell? ⟨(a1.add ((a0).toNat * 6)).block,(a1.add ((a0).toNat * 6)).off+3,none⟩=some (.int .i64 ((Qa l0 a0).f3))∧w'.cell? ⟨(a1.add ((a0).toNat * 6)).block,(a1.add ((a0).toNat * 6)).off+4,none⟩=some (.int .i64 ((Qa l0 a0).f4))∧w'.cell? ⟨(a1.add ((a0).toNat * 6)).block,(a1.add ((a0).toNat * 6)).off+5,none⟩=some (.slice g7 ((Qa l0 a0).f5).length d7)) (ds:=[]) (zzB 27 0) (by kernel_rfl) rfl rfl ⟨(zzx HB.out d0),(zzx HB.out c7),(zzx HB.out c4),(zzx HB.out c1),(zzx HB.out b9),(zzx HB.out b1)⟩ (fun b2=>?_);refine with_tabW Qp.tab4 Qp.bits4 (fun a2 k4=>?_);generalize wr.drew=q1 at HB e1 a5 a6 a7 a8 a9 b0 b2 ⊢;refine zzP 0 10 27 1 a2 ?_
      refine zzP 1 11 27 3 a2 ?_
      refine zzP 2 12 27 7 a2 ?_
      refine zzT 3 13 27 15 a2 k4 b2 ?_
      refine one_ (i:=4) (N:=some 14) (zzB 27 31) rfl rfl (one_of a2.out (by kernel_rfl)) (by decide) (fun K hK=>?_);refine goes_ Try.func66 (by kernel_rfl) rfl #[.agg #[.bool ((Qa l0 a0).f0),.bool ((Qa l0 a0).f1),.int .i64 ((Qa l0 a0).f2),.int .i64 ((Qa l0 a0).f3),.int .i64 ((Qa l0 a0).f4),.slice g7 ((Qa l0 a0).f5).length d7]] (by rfl) rfl rfl zzM2 ?_;with_reducible refine (Qo.calls k1 ((Qa l0 a0).f0) ((Qa l0 a0).f1) ((Qa l0 a0).f2) ((Qa l0 a0).f3) ((Qa l0 a0).f4) _ _ ((Qa l0 a0).f5) false _ ?side1 ?side2 A4.out).mono ?_
      (case side1=>exact zzcb e1 HB)
      (case side2=>exact g8.out);rintro e q2 ⟨rfl,hb⟩;refine ⟨_,rfl,?_⟩;have d8:=zzm (zzp zzh1 hb);clear HB;have HB:=d8;clear d8
      (try clear hb)
      (try clear hb2)
      (try clear hk)
      (try clear hi);refine hK.out _ _ ⟨(zzx HB.out d0),(zzx HB.out c7),(zzx HB.out c4),(zzx HB.out c1),(zzx HB.out b9),(zzx HB.out b1)⟩ (fun b2=>?_);clear hK K;refine zzO 14 ?_
      refine zzP 5 15 27 63 a2 ?_
      refine zzP 6 16 27 127 a2 ?_
      refine zzU 7 17 27 255 a2 ?_
      refine zzU 8 18 27 511 a2 ?_
      refine zzU 9 19 27 1023 a2 ?_
      refine zzU 10 20 27 2047 a2 ?_
      refine zzU 11 21 27 4095 a2 ?_
      refine zzU 12 22 27 8191 a2 ?_
      refine zzU 13 23 27 16383 a2 ?_
      refine zzU 14 24 27 32767 a2 ?_
      refine zzU 15 25 27 65535 a2 ?_
      refine zzU 16 26 27 131071 a2 ?_
      refine zzU 17 27 27 262143 a2 ?_
      refine zzU 18 28 27 524287 a2 ?_
      refine zzU 19 29 27 1048575 a2 ?_
      refine zzU 20 30 27 2097151 a2 ?_
      refine zzU 21 31 27 4194303 a2 ?_
      refine zzU 22 32 27 8388607 a2 ?_
      refine zzU 23 33 27 16777215 a2 ?_
      refine zzU 24 34 27 33554431 a2 ?_
      refine zzU 25 35 27 67108863 a2 ?_
      refine zzP 26 36 27 134217727 a2 ?_
      refine done_ (done_of a2.out (by kernel_rfl)) ?_;try go_wp2
      go_ret;exact ⟨zzR,zzh1⟩
    ·
     rw [if_neg c3] at H;exact absurd H (by simp)
   ·
    rw [if_neg c2] at H;have o4:decide (a0 < (l0.length:Int))=false:=decide_eq_false c2;clear c2;obtain rfl:=Option.some.inj H;go_wp2;go_ret;exact ⟨zzR,zzh1⟩
def Qw.l0:Nat→List Int→Int→List Int→Int→Option (Bool)
 | 0,_,_,_,_=>none
 | k+1,x0,x1,x2,x7=>if x7 < (x2.length:Int) then (if 0≤(wrap64 (x1+x7)) then (if (wrap64 (x1+x7)) < (x0.length:Int) then (if 0≤x7 then (if (rd x0 (wrap64 (x1+x7)))=(rd x2 x7) then (Qw.l0 k x0 x1 x2 (wrap64 (x7+1))) else (some false)) else (none)) else (none)) else (none)) else (some true)
def Qw.f (k:Nat) (l0:List Int) (a1:Int) (l2:List Int):Option (Bool):=if (wrap64 (a1+(l2.length:Int))) > (l0.length:Int) then (some false) else (Qw.l0 k l0 a1 l2 0)
set_option maxHeartbeats 8000000 in
theorem Qw.calls (k:Nat) (A0:Option Addr) (c0:Nat) (l0:List Int) (a1:Int) (A2:Option Addr) (c2:Nat) (l2:List Int) (r:Bool) (w:World) (b7:Kd.C (Kd.int .i64) w A0 l0.length l0) (b8:l0.length≤c0) (b9:Kd.C (Kd.int .i64) w A2 l2.length l2) (c1:l2.length≤c2) (h:Qw.f k l0 a1 l2=some r) :
  Calls Try.prog 98 #[.slice A0 l0.length c0,.int .i64 a1,.slice A2 l2.length c2] w fun e w'=>e = .returned (.bool r)∧Drawn0 w w':=by
 have c3:=zzm b7;have d5:=zzm b8;clear b7 b8;have d0:=zzm b9;have d6:=zzm c1;clear b9 c1;have H:(if (wrap64 (a1+(l2.length:Int))) > (l0.length:Int) then (some false) else (Qw.l0 k l0 a1 l2 0))=some r:=h;clear h;by_cases c4:(wrap64 (a1+(l2.length:Int))) > (l0.length:Int)
 ·
  rw [if_pos c4] at H;have b2:decide ((l0.length:Int) < (wrap64 (a1+(l2.length:Int))))=true:=decide_eq_true c4;clear c4;obtain rfl:=Option.some.inj H;go_enter Try.func98,Try.ntmps98;go_wp2;repeat (go_quiet (fail);try go_wp2)
  go_ret;exact ⟨by first|rfl|(simp;done)|(simp [*];done),by repeat (first|exact Drawn0.refl _|apply Drawn0.step)⟩
 ·
  rw [if_neg c4] at H;have b2:decide ((l0.length:Int) < (wrap64 (a1+(l2.length:Int))))=false:=decide_eq_false c4;clear c4;have H':=zzm H;clear H;go_enter Try.func98,Try.ntmps98;go_wp2;repeat (go_quiet (fail);try go_wp2)
  go_loopg [7] k (fun kq v7 w'=>∃ (a0:Int),v7 = .int .i64 a0∧Aside0 (Qw.l0 kq l0 a1 l2 a0=some r)∧Aside0 (kq≤k)∧Drawn0 w w')
  case atStart=>exact ⟨(0),(by first|rfl|(simp;done)|(simp [*];done)),H',⟨Nat.le_refl _⟩,by repeat (first|exact Drawn0.refl _|apply Drawn0.step)⟩
  case round=>
   clear H';try clear c2
   try clear p2
   try clear c4
   try clear b2
   obtain ⟨a0,rfl,HA,HK1,⟨m1,rfl⟩⟩:=hrel;cases gk with
   | zero=>exact absurd HA.out (by simp [Qw.l0])
   | succ k1=>
    have H:=HA.out;clear HA;simp only [Qw.l0] at H;by_cases c5:a0 < (l2.length:Int)
    ·
     rw [if_pos c5] at H;have d1:decide (a0 < (l2.length:Int))=true:=decide_eq_true c5;clear c5;obtain ⟨a2,hji6⟩:∃ j_:Int,(wrap64 (a1+a0))=j_:=⟨_,rfl⟩;replace H:(if 0≤(a2) then (if (a2) < (l0.length:Int) then (if 0≤a0 then (if (rd l0 (a2))=(rd l2 a0) then (Qw.l0 k1 l0 a1 l2 (wrap64 (a0+1))) else (some false)) else (none)) else (none)) else (none))=some r:=by first|(rw [hji6] at H;exact H)|(simp only [hji6] at H ⊢;exact H)
     have hji6w:(IntKind.i64.wrap (a1+a0))=a2:=(i64_w _).trans hji6;by_cases c7 : 0≤(a2)
     ·
      rw [if_pos c7] at H;have d2:decide (0≤(a2))=true:=decide_eq_true c7;clear c7;by_cases c8:(a2) < (l0.length:Int)
      ·
       rw [if_pos c8] at H;have d3:decide ((a2) < (l0.length:Int))=true:=decide_eq_true c8;clear c8;by_cases c9 : 0≤a0
       ·
        rw [if_pos c9] at H;have d4:decide (0≤a0)=true:=decide_eq_true c9;clear c9;by_cases a7:(rd l0 (a2))=(rd l2 a0)
        ·
         rw [if_pos a7] at H;obtain ⟨b3,b4⟩:=zzQ a7;clear a7;have H':=zzm H;clear H;have a3 : 0≤((a2):Int):=zzt;have a4:(a2) < (l0.length:Int):=zzt;obtain ⟨b5,a8,b0⟩:=Kd.at_int c3.out (a2) a3 a4;cases a8;replace a3:=eq_true a3;replace a4:=eq_true a4;have a5 : 0≤(a0:Int):=zzt;have a6:a0 < (l2.length:Int):=zzt;obtain ⟨b6,a9,b1⟩:=Kd.at_int d0.out a0 a5 a6;cases a9;replace a5:=eq_true a5;replace a6:=eq_true a6;go_wp2;repeat (go_quiet (fail);try go_wp2)
         go_roundg k1
         case measure=>have:=HK1.out;omega
         case rel=>exact ⟨(wrap64 (a0+1)),(by first|rfl|(simp;done)|(simp [*];done)),H',⟨by have:=HK1.out;omega⟩,by repeat (first|exact Drawn0.refl _|apply Drawn0.step)⟩
        ·
         rw [if_neg a7] at H;obtain ⟨b3,b4⟩:=zzY a7;obtain rfl:=Option.some.inj H;have a3 : 0≤((a2):Int):=zzt;have a4:(a2) < (l0.length:Int):=zzt;obtain ⟨b5,a8,b0⟩:=Kd.at_int c3.out (a2) a3 a4;cases a8;replace a3:=eq_true a3;replace a4:=eq_true a4;have a5 : 0≤(a0:Int):=zzt;have a6:a0 < (l2.length:Int):=zzt;obtain ⟨b6,a9,b1⟩:=Kd.at_int d0.out a0 a5 a6;cases a9;replace a5:=eq_true a5;replace a6:=eq_true a6;go_wp2;repeat (go_quiet (fail);try go_wp2)
         go_ret;exact ⟨by first|rfl|(simp;done)|(simp only [← hji6] <;> (first|rfl|simp))|(simp [*];done),by repeat (first|exact Drawn0.refl _|apply Drawn0.step)⟩
       ·
        rw [if_neg c9] at H;exact absurd H (by simp)
      ·
       rw [if_neg c8] at H;exact absurd H (by simp)
     ·
      rw [if_neg c7] at H;exact absurd H (by simp)
    ·
     rw [if_neg c5] at H;have d1:decide (a0 < (l2.length:Int))=false:=decide_eq_false c5;clear c5;obtain rfl:=Option.some.inj H;go_wp2;repeat (go_quiet (fail);try go_wp2)
     go_ret;exact ⟨by first|rfl|(simp;done)|(simp [*];done),by repeat (first|exact Drawn0.refl _|apply Drawn0.step)⟩
def Ro.f (k:Nat) (l0:List Int) (l1:List Int):Option (Bool):=if (l0.length:Int)=(l1.length:Int) then ((Qw.f k l0 0 l1).bind fun t383=>(some t383)) else (some false)
set_option maxHeartbeats 8000000 in
theorem Ro.calls (k:Nat) (A0:Option Addr) (c0:Nat) (l0:List Int) (A1:Option Addr) (c1:Nat) (l1:List Int) (r:Bool) (w:World) (a1:Kd.C (Kd.int .i64) w A0 l0.length l0) (a2:l0.length≤c0) (a3:Kd.C (Kd.int .i64) w A1 l1.length l1) (a4:l1.length≤c1) (h:Ro.f k l0 l1=some r) :
  Calls Try.prog 89 #[.slice A0 l0.length c0,.slice A1 l1.length c1] w fun e w'=>e = .returned (.bool r)∧Drawn0 w w':=by
 have a8:=zzm a1;have a9:=zzm a2;clear a1 a2;have b0:=zzm a3;have b1:=zzm a4;clear a3 a4;have H:(if (l0.length:Int)=(l1.length:Int) then ((Qw.f k l0 0 l1).bind fun a0=>(some a0)) else (some false))=some r:=h;clear h;by_cases c3:(l0.length:Int)=(l1.length:Int)
 ·
  rw [if_pos c3] at H;obtain ⟨a5,a6⟩:=zzQ c3;have a7:(l0.length==l1.length)=true:=by first|simpa using c3|(simp at c3 ⊢;omega)
  clear c3;obtain ⟨a0,A4,H⟩:=zzG H;obtain rfl:=Option.some.inj H;go_enter Try.func89,Try.ntmps89;go_wp2_with (first|(go_at_call 98;(with_reducible refine (Qw.calls k _ _ l0 0 _ _ l1 a0 _ ?side1 ?side2 ?side3 ?side4 A4.out).mono ?_);(case side1=>repeat (first|exact a8.out|(with_reducible refine Kd.C_alloc ?_ _)|(with_reducible refine Kd.C_drewN ?_ _)|(with_reducible refine Kd.C_drew ?_)));(case side2=>exact a9.out);(case side3=>repeat (first|exact b0.out|(with_reducible refine Kd.C_alloc ?_ _)|(with_reducible refine Kd.C_drewN ?_ _)|(with_reducible refine Kd.C_drew ?_)));(case side4=>exact b1.out);rintro e w' ⟨rfl,⟨nd,rfl⟩⟩));go_ret;exact ⟨by first|rfl|(simp;done)|(simp [*];done),by repeat (first|exact Drawn0.refl _|apply Drawn0.step)⟩
 ·
  rw [if_neg c3] at H;obtain ⟨a5,a6⟩:=zzY c3;have a7:(l0.length==l1.length)=false:=by first|simpa using c3|(simp at c3 ⊢;omega)
  obtain rfl:=Option.some.inj H;go_enter Try.func89,Try.ntmps89;go_wp2;go_ret;exact ⟨by first|rfl|(simp;done)|(simp [*];done),by repeat (first|exact Drawn0.refl _|apply Drawn0.step)⟩
end Go.Proofs.Ytkhjmhdgcmffaaa.V
