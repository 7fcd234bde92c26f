/- The law FnExactStableRecords holds (part 4 of 5; merged by pack2.py). -/
import Derived.RegionTactic
import Derived.LaidEqlPtr
import Derived.Lib.Builder
import Derived.Test.YtmloblepcbimkaaFnExactStableRecordsK2
set_option maxRecDepth 1000000
open List (setIfInBounds_toArray set_cons_zero set_cons_succ map_toArray map_cons map_nil length_drop length_take)
namespace Go.Proofs.Ytmloblepcbimkaa.T
open Go.RowKit Go.Proofs.YtmloblepcbimkaaW.PrintWords Go.Proofs.YtmloblepcbimkaaW.PrintLast Go.Proofs.YtmloblepcbimkaaW.PrintMore

set_option linter.unusedVariables false
set_option linter.unusedSimpArgs false
def Ri.f (a0_0:Bool) (a0_1:Bool) (a0_2:Int) (a0_3:Int) (a0_4:Int) (l0_5:List (S42)):Option (Int):=if 0≤(wrap64 ((l0_5.length:Int) - 1)) then (if (wrap64 ((l0_5.length:Int) - 1)) < (l0_5.length:Int) then (some ((Qb l0_5 (wrap64 ((l0_5.length:Int) - 1))).f0)) else (none)) else (none)
set_option maxHeartbeats 8000000 in
theorem Ri.calls (b2:Bool) (b3:Bool) (b4:Int) (b5:Int) (b6:Int) (b7:Option Addr) (b8:Nat) (a0:List (S42)) (r:Int) (w:World) (c1:Kd.C k42 w b7 a0.length a0) (c2:a0.length≤b8) (h:Ri.f b2 b3 b4 b5 b6 a0=some r) :
  Calls Try.prog 33 #[.agg #[.bool b2,.bool b3,.int .i64 b4,.int .i64 b5,.int .i64 b6,.slice b7 a0.length b8]] w fun e w'=>e = .returned (.int .i64 r)∧Below w.heap.size w w':=by
 have hu39:=Try.underlying39;have c6:=zzm c1;have g3:=zzm c2;clear c1 c2;have HB:=zzm (Below.refl w.heap.size w);have H:(if 0≤(wrap64 ((a0.length:Int) - 1)) then (if (wrap64 ((a0.length:Int) - 1)) < (a0.length:Int) then (some ((Qb a0 (wrap64 ((a0.length:Int) - 1))).f0)) else (none)) else (none))=some r:=h;clear h;obtain ⟨a1,hji2⟩:∃ j_:Int,(wrap64 ((a0.length:Int) - 1))=j_:=⟨_,rfl⟩;replace H:(if 0≤(a1) then (if (a1) < (a0.length:Int) then (some ((Qb a0 (a1)).f0)) else (none)) else (none))=some r:=by first|(rw [hji2] at H;exact H)|(simp only [hji2] at H ⊢;exact H)
 have hji2w:(IntKind.i64.wrap ((a0.length:Int) - 1))=a1:=(i64_w _).trans hji2;by_cases c3 : 0≤(a1)
 ·
  rw [if_pos c3] at H;have g7:decide (0≤(a1))=true:=decide_eq_true c3;clear c3;by_cases c4:(a1) < (a0.length:Int)
  ·
   rw [if_pos c4] at H;have g8:decide ((a1) < (a0.length:Int))=true:=decide_eq_true c4;clear c4;obtain rfl:=Option.some.inj H;go_enter Try.func33,Try.ntmps33;go_wp2_with (first|((with_reducible refine gate_dst (N:=1) rfl ?_);refine box_event ?hg (N:=1) ?hd (cs:=#[.bool b2,.bool b3,.int .i64 b4,.int .i64 b5,.int .i64 b6,.slice b7 a0.length b8]) (t:=39) ?hr ?_;(case hd=>rfl);(case hg=>rfl);(case hr=>first|(go_simp;done)|(go_simp;rfl));intro c5 hg w5 hbox hb;have c8:=zzm (zzp zzh1 hb);have c9:=zzm (hbox);have d0:=zzm ((by rw [hg];exact (zzo zzh1):w.heap.size≤c5));have d1:=zzm ((by rw [hg];exact (zzo zzh1):w.heap.size≤c5));clear HB;have HB:=c8;have c7:=c9;have g4:=d0;have g5:=d1;clear c8 c9 d0 d1 hb hbox hg;obtain ⟨d7,d8,d9,e0,e1,e2,e3,e4,e5,e6,e7,e8⟩:=zzc6 c7.out;have b9 : 0≤((a1):Int):=zzt;have c0:(a1) < (a0.length:Int):=zzt;obtain ⟨g6,e9,g0,g1,g2,d2,a2,a3,a4,a5,a6,a7,a8,a9,b0,b1⟩:=Qt c6.out (a1) b9 c0;cases d2;replace a2:=zzx HB.out a2;replace a3:=zzx HB.out a3;replace a4:=zzx HB.out a4;replace a5:=zzx HB.out a5;replace a6:=zzx HB.out a6;replace a7:=zzx HB.out a7;have d3:=zzm a9;have d4:=zzm a8;clear a9 a8;have d5:=zzm b1;have d6:=zzm b0;clear b1 b0;replace b9:=eq_true b9;replace c0:=eq_true c0));go_ret;exact ⟨by first|rfl|(simp [errW_none,errW_some] <;> rfl)|(simp only [← hji2];first|rfl|(simp [errW_none,errW_some] <;> rfl))|(simp [*,errW_none,errW_some] <;> rfl),zzh3⟩
  ·
   rw [if_neg c4] at H;exact absurd H (by simp)
 ·
  rw [if_neg c3] at H;exact absurd H (by simp)
def Re.f (a0_0:Bool) (a0_1:Bool) (a0_2:Int) (a0_3:Int) (a0_4:Int) (l0_5:List (S42)):Option (Int):=if 0 < (l0_5.length:Int) then (some ((Qb l0_5 0).f0)) else (none)
set_option maxHeartbeats 8000000 in
theorem Re.calls (b1:Bool) (b2:Bool) (b3:Int) (b4:Int) (b5:Int) (b6:Option Addr) (b7:Nat) (a0:List (S42)) (r:Int) (w:World) (c0:Kd.C k42 w b6 a0.length a0) (c1:a0.length≤b7) (h:Re.f b1 b2 b3 b4 b5 a0=some r) :
  Calls Try.prog 34 #[.agg #[.bool b1,.bool b2,.int .i64 b3,.int .i64 b4,.int .i64 b5,.slice b6 a0.length b7]] w fun e w'=>e = .returned (.int .i64 r)∧Below w.heap.size w w':=by
 have hu39:=Try.underlying39;have c4:=zzm c0;have g1:=zzm c1;clear c0 c1;have HB:=zzm (Below.refl w.heap.size w);have H:(if 0 < (a0.length:Int) then (some ((Qb a0 0).f0)) else (none))=some r:=h;clear h;by_cases c2 : 0 < (a0.length:Int)
 ·
  rw [if_pos c2] at H;have g6:decide (0 < (a0.length:Int))=true:=decide_eq_true c2;have g7:decide (0 < a0.length)=true:=decide_eq_true (by omega);clear c2;obtain rfl:=Option.some.inj H;go_enter Try.func34,Try.ntmps34;go_wp2_with (first|((with_reducible refine gate_dst (N:=1) rfl ?_);refine box_event ?hg (N:=1) ?hd (cs:=#[.bool b1,.bool b2,.int .i64 b3,.int .i64 b4,.int .i64 b5,.slice b6 a0.length b7]) (t:=39) ?hr ?_;(case hd=>rfl);(case hg=>rfl);(case hr=>first|(go_simp;done)|(go_simp;rfl));intro c3 hg w3 hbox hb;have c6:=zzm (zzp zzh1 hb);have c7:=zzm (hbox);have c8:=zzm ((by rw [hg];exact (zzo zzh1):w.heap.size≤c3));have c9:=zzm ((by rw [hg];exact (zzo zzh1):w.heap.size≤c3));clear HB;have HB:=c6;have c5:=c7;have g2:=c8;have g3:=c9;clear c6 c7 c8 c9 hb hbox hg;obtain ⟨d5,d6,d7,d8,d9,e0,e1,e2,e3,e4,e5,e6⟩:=zzc6 c5.out;have b8 : 0≤(0:Int):=(by omega);have b9 : 0 < (a0.length:Int):=zzt;obtain ⟨g4,e7,e8,e9,g0,d0,a1,a2,a3,a4,a5,a6,a7,a8,a9,b0⟩:=Qt c4.out 0 b8 b9;cases d0;have g5:(0 < a0.length)=True:=eq_true (by omega);(try rw [show ((0:Int)).toNat=0 from rfl] at a1);(try rw [show 0 * 6=0 from rfl] at a1);(try rw [Addr.add_zero'] at a1);(try rw [show ((0:Int)).toNat=0 from rfl] at a2);(try rw [show 0 * 6=0 from rfl] at a2);(try rw [Addr.add_zero'] at a2);(try rw [show ((0:Int)).toNat=0 from rfl] at a3);(try rw [show 0 * 6=0 from rfl] at a3);(try rw [Addr.add_zero'] at a3);(try rw [show ((0:Int)).toNat=0 from rfl] at a4);(try rw [show 0 * 6=0 from rfl] at a4);(try rw [Addr.add_zero'] at a4);(try rw [show ((0:Int)).toNat=0 from rfl] at a5);(try rw [show 0 * 6=0 from rfl] at a5);(try rw [Addr.add_zero'] at a5);(try rw [show ((0:Int)).toNat=0 from rfl] at a6);(try rw [show 0 * 6=0 from rfl] at a6);(try rw [Addr.add_zero'] at a6);replace a1:=zzx HB.out a1;replace a2:=zzx HB.out a2;replace a3:=zzx HB.out a3;replace a4:=zzx HB.out a4;replace a5:=zzx HB.out a5;replace a6:=zzx HB.out a6;have d1:=zzm a8;have d2:=zzm a7;clear a8 a7;have d3:=zzm b0;have d4:=zzm a9;clear b0 a9;replace b8:=eq_true b8;replace b9:=eq_true b9));go_ret;exact ⟨zzR,zzh3⟩
 ·
  rw [if_neg c2] at H;exact absurd H (by simp)

set_option linter.unusedVariables false
set_option linter.unusedSimpArgs false
def Qi.l0:Nat→List (S39)→List (S39)→Int→Int→Option (Bool)
 | 0,_,_,_,_=>none
 | k+1,x0,x8,x9,x10=>if x10 < x9 then (if 0≤x10 then (if x10 < (x8.length:Int) then ((Qd.f k ((Qa x8 x10).f0) ((Qa x8 x10).f1) ((Qa x8 x10).f2) ((Qa x8 x10).f3) ((Qa x8 x10).f4) ((Qa x8 x10).f5)).bind fun t268=>(if t268=true then (if x10 > 0 then (if 0≤(wrap64 (x10 - 1)) then (if (wrap64 (x10 - 1)) < (x0.length:Int) then ((Ri.f ((Qa x0 (wrap64 (x10 - 1))).f0) ((Qa x0 (wrap64 (x10 - 1))).f1) ((Qa x0 (wrap64 (x10 - 1))).f2) ((Qa x0 (wrap64 (x10 - 1))).f3) ((Qa x0 (wrap64 (x10 - 1))).f4) ((Qa x0 (wrap64 (x10 - 1))).f5)).bind fun t270=>((Re.f ((Qa x8 x10).f0) ((Qa x8 x10).f1) ((Qa x8 x10).f2) ((Qa x8 x10).f3) ((Qa x8 x10).f4) ((Qa x8 x10).f5)).bind fun t271=>(if t270 ≥ t271 then (some false) else (Qi.l0 k x0 x8 x9 (wrap64 (x10+1)))))) else (none)) else (none)) else (Qi.l0 k x0 x8 x9 (wrap64 (x10+1)))) else (some false))) else (none)) else (none)) else (some true)
def Qi.f (k:Nat) (l0:List (S39)):Option (Bool):=if (l0.length:Int) > 8 then (some false) else (Qi.l0 k l0 l0 (l0.length:Int) 0)
def Qi.T6:Bool×List (List Nat×List Nat):=(true,[([],[]),([0],[0]),([1],[1]),([2,1],[2]),([3],[3]),([4,3],[3,4]),([5,3,3],[3,5]),([6],[6]),([6],[6]),([8,6],[6,8]),([7,9,6],[6,7,9]),([10,6],[6,10]),([11,6,6],[6,11]),([6],[6]),([13,12,6],[6,13]),([12,14,6],[6,12,14]),([6,15,3],[3,6,15]),([3,16],[3,16])])
def Qi.B6:List Nat:=[0,1,3,7,15,31,63,127,127,383,1023,2047,4095,127,16383,32767,65535,131071]
theorem Qi.tab6:rtab .any (opsOf Try.f21 6)=Qi.T6:=by kernel_rfl
theorem Qi.bits6:waitsOk Qi.T6.2 Qi.B6=true:=by kernel_rfl
set_option maxHeartbeats 8000000 in
theorem Qi.calls (k:Nat) (A0:Option Addr) (c0:Nat) (l0:List (S39)) (r:Bool) (w:World) (j5:Kd.C k39 w A0 l0.length l0) (j6:l0.length≤c0) (h:Qi.f k l0=some r) :
  Calls Try.prog 21 #[.slice A0 l0.length c0] w fun e w'=>e = .returned (.bool r)∧Below w.heap.size w w':=by
 have hu39:=Try.underlying39;have g6:=zzm j5;have q3:=zzm j6;clear j5 j6;have HB:=zzm (Below.refl w.heap.size w);have H:(if (l0.length:Int) > 8 then (some false) else (Qi.l0 k l0 l0 (l0.length:Int) 0))=some r:=h;clear h;by_cases c2:(l0.length:Int) > 8
 ·
  rw [if_pos c2] at H;have h4:decide (8 < (l0.length:Int))=true:=decide_eq_true c2;have h5:decide (8 < l0.length)=true:=decide_eq_true (by omega);clear c2;obtain rfl:=Option.some.inj H;go_enter Try.func21,Try.ntmps21;go_wp2;go_ret;exact ⟨zzR,zzh1⟩
 ·
  rw [if_neg c2] at H;have h4:decide (8 < (l0.length:Int))=false:=decide_eq_false c2;have h5:decide (8 < l0.length)=false:=decide_eq_false (by omega);clear c2;have H':=zzm H;clear H;go_enter Try.func21,Try.ntmps21;go_wp2;go_loopg [10] k (fun kq p4 w'=>∃ (a0:Int),p4 = .int .i64 a0∧Aside0 (Qi.l0 kq l0 l0 (l0.length:Int) a0=some r)∧Aside0 (kq≤k)∧Aside0 (Below w.heap.size w w'))
  case atStart=>exact ⟨(0),(by first|rfl|(simp;done)|(simp [*];done)),H',⟨Nat.le_refl _⟩,⟨zzh1⟩⟩
  case round=>
   clear H';try clear c2
   try clear h4
   try clear h5
   try clear p2
   obtain ⟨a0,rfl,HA,HK1,HB⟩:=hrel;cases gk with
   | zero=>exact absurd HA.out (by simp [Qi.l0])
   | succ k1=>
    have H:=HA.out;clear HA;simp only [Qi.l0] at H;by_cases c3:a0 < (l0.length:Int)
    ·
     rw [if_pos c3] at H;have j9:decide (a0 < (l0.length:Int))=true:=decide_eq_true c3;clear c3;by_cases c4 : 0≤a0
     ·
      rw [if_pos c4] at H;have q1:decide (0≤a0)=true:=decide_eq_true c4;clear c4;by_cases c5:a0 < (l0.length:Int)
      ·
       rw [if_pos c5] at H;have q2:decide (a0 < (l0.length:Int))=true:=decide_eq_true c5;clear c5;obtain ⟨k0,A6,H⟩:=zzG H;by_cases c7:k0=true
       ·
        subst c7;replace H:=zzIt H;by_cases c8:a0 > 0
        ·
         rw [if_pos c8] at H;have k2:decide (0 < a0)=true:=decide_eq_true c8;clear c8;obtain ⟨a4,hji9⟩:∃ j_:Int,(wrap64 (a0 - 1))=j_:=⟨_,rfl⟩;replace H:(if 0≤(a4) then (if (a4) < (l0.length:Int) then ((Ri.f ((Qa l0 (a4)).f0) ((Qa l0 (a4)).f1) ((Qa l0 (a4)).f2) ((Qa l0 (a4)).f3) ((Qa l0 (a4)).f4) ((Qa l0 (a4)).f5)).bind fun g0=>((Re.f ((Qa l0 a0).f0) ((Qa l0 a0).f1) ((Qa l0 a0).f2) ((Qa l0 a0).f3) ((Qa l0 a0).f4) ((Qa l0 a0).f5)).bind fun g1=>(if g0 ≥ g1 then (some false) else (Qi.l0 k1 l0 l0 (l0.length:Int) (wrap64 (a0+1)))))) else (none)) else (none))=some r:=by first|(rw [hji9] at H;exact H)|(simp only [hji9] at H ⊢;exact H)
         (try rw [hji9] at A6);have hji9w:(IntKind.i64.wrap (a0 - 1))=a4:=(i64_w _).trans hji9;by_cases h2 : 0≤(a4)
         ·
          rw [if_pos h2] at H;have p9:decide (0≤(a4))=true:=decide_eq_true h2;clear h2;by_cases h3:(a4) < (l0.length:Int)
          ·
           rw [if_pos h3] at H;have q0:decide ((a4) < (l0.length:Int))=true:=decide_eq_true h3;clear h3;obtain ⟨g0,j7,H⟩:=zzG H;obtain ⟨g1,j8,H⟩:=zzG H;by_cases g7:g0 ≥ g1
           ·
            rw [if_pos g7] at H;have j4:decide (g1≤g0)=true:=decide_eq_true g7;clear g7;obtain rfl:=Option.some.inj H;have e0 : 0≤(a0:Int):=zzt;have e1:a0 < (l0.length:Int):=zzt;obtain ⟨a9,a5,a6,g2,b1,b2,b3,b4,b5,b6,b7,b8⟩:=Q6 g6.out a0 e0 e1;cases g2;replace b1:=zzx HB.out b1;replace b2:=zzx HB.out b2;replace b3:=zzx HB.out b3;replace b4:=zzx HB.out b4;replace b5:=zzx HB.out b5;replace b6:=zzx HB.out b6;have b9:=zzm b8;have c1:=zzm b7;clear b8 b7;replace e0:=eq_true e0;replace e1:=eq_true e1;try go_wp2_with (first|((with_reducible refine gate_dst (N:=4) rfl ?_);refine box_event ?hg (N:=4) ?hd (cs:=#[.bool false,.bool false,.int .i64 0,.int .i64 0,.int .i64 0,.slice none 0 0]) (t:=39) ?hr ?_;(case hd=>rfl);(case hg=>rfl);(case hr=>first|(go_simp;done)|(go_simp;rfl));intro a2 hg h6 hbox hb;have a7:=zzm (zzp zzh1 hb);have a8:=zzm (hbox);have e5:=zzm ((by rw [hg];exact (zzo zzh1):w.heap.size≤a2));have e6:=zzm ((by rw [hg];exact (zzo zzh1):w.heap.size≤a2));clear HB;have HB:=a7;have a1:=a8;have g8:=e5;have g9:=e6;clear a7 a8 e5 e6 hb hbox hg;obtain ⟨k3,k4,k5,k6,k7,k8,k9,l2,l3,l4,l5,l6⟩:=zzc6 a1.out))
            have a7:Aside0 (((((((h6.setCell ⟨a2,0,none⟩ (.bool ((Qa l0 a0).f0))).setCell ⟨a2,1,none⟩ (.bool ((Qa l0 a0).f1))).setCell ⟨a2,2,none⟩ (.int .i64 ((Qa l0 a0).f2))).setCell ⟨a2,3,none⟩ (.int .i64 ((Qa l0 a0).f3))).setCell ⟨a2,4,none⟩ (.int .i64 ((Qa l0 a0).f4))).setCell ⟨a2,5,none⟩ (.slice a5 ((Qa l0 a0).f5).length a6)).heap[a2]? = some (.cells #[.bool ((Qa l0 a0).f0),.bool ((Qa l0 a0).f1),.int .i64 ((Qa l0 a0).f2),.int .i64 ((Qa l0 a0).f3),.int .i64 ((Qa l0 a0).f4),.slice a5 ((Qa l0 a0).f5).length a6] 39 (0,0))):=⟨by (with_reducible repeat (first|apply zzf|apply zzg|apply zze));refine zzi (cs:=#[.bool ((Qa l0 a0).f0),.bool ((Qa l0 a0).f1),.int .i64 ((Qa l0 a0).f2),.int .i64 ((Qa l0 a0).f3),.int .i64 ((Qa l0 a0).f4),.slice none 0 0]) ?_ 5 _ rfl;refine zzi (cs:=#[.bool ((Qa l0 a0).f0),.bool ((Qa l0 a0).f1),.int .i64 ((Qa l0 a0).f2),.int .i64 ((Qa l0 a0).f3),.int .i64 0,.slice none 0 0]) ?_ 4 _ rfl;refine zzi (cs:=#[.bool ((Qa l0 a0).f0),.bool ((Qa l0 a0).f1),.int .i64 ((Qa l0 a0).f2),.int .i64 0,.int .i64 0,.slice none 0 0]) ?_ 3 _ rfl;refine zzi (cs:=#[.bool ((Qa l0 a0).f0),.bool ((Qa l0 a0).f1),.int .i64 0,.int .i64 0,.int .i64 0,.slice none 0 0]) ?_ 2 _ rfl;refine zzi (cs:=#[.bool ((Qa l0 a0).f0),.bool false,.int .i64 0,.int .i64 0,.int .i64 0,.slice none 0 0]) ?_ 1 _ rfl;refine zzi (cs:=#[.bool false,.bool false,.int .i64 0,.int .i64 0,.int .i64 0,.slice none 0 0]) ?_ 0 _ rfl;(with_reducible repeat (first|apply zzf|apply zzg|apply zze));exact a1.out⟩;have a8:Aside0 (Below w.heap.size w ((((((h6.setCell ⟨a2,0,none⟩ (.bool ((Qa l0 a0).f0))).setCell ⟨a2,1,none⟩ (.bool ((Qa l0 a0).f1))).setCell ⟨a2,2,none⟩ (.int .i64 ((Qa l0 a0).f2))).setCell ⟨a2,3,none⟩ (.int .i64 ((Qa l0 a0).f3))).setCell ⟨a2,4,none⟩ (.int .i64 ((Qa l0 a0).f4))).setCell ⟨a2,5,none⟩ (.slice a5 ((Qa l0 a0).f5).length a6))):=⟨zzh3⟩
            (try clear a1)
            (try clear HB);generalize ((((((h6.setCell ⟨a2,0,none⟩ (.bool ((Qa l0 a0).f0))).setCell ⟨a2,1,none⟩ (.bool ((Qa l0 a0).f1))).setCell ⟨a2,2,none⟩ (.int .i64 ((Qa l0 a0).f2))).setCell ⟨a2,3,none⟩ (.int .i64 ((Qa l0 a0).f3))).setCell ⟨a2,4,none⟩ (.int .i64 ((Qa l0 a0).f4))).setCell ⟨a2,5,none⟩ (.slice a5 ((Qa l0 a0).f5).length a6))=p5 at a7 a8 ⊢;have a1:=a7;have HB:=a8;clear a7 a8;have a7:=zzm (zzg a1.out);have a8:=zzm (zzc HB.out);clear a1 HB;have a1:=a7;have HB:=a8;clear a7 a8;have g3 : 0≤((a4):Int):=zzt;have g4:(a4) < (l0.length:Int):=zzt;obtain ⟨h0,e7,e8,h1,c6,c9,d0,d1,d2,d3,e2,e3⟩:=Q6 g6.out (a4) g3 g4;have d4:=d3;have d5:=d2;have d6:=d1;have d7:=d0;have d8:=c9;have d9:=c6;obtain rfl:a9=h0:=(by injection h1);replace c6:=zzx HB.out c6;replace c9:=zzx HB.out c9;replace d0:=zzx HB.out d0;replace d1:=zzx HB.out d1;replace d2:=zzx HB.out d2;replace d3:=zzx HB.out d3;have e4:=zzm e3;have g5:=zzm e2;clear e3 e2;replace g3:=eq_true g3;replace g4:=eq_true g4;refine start_ (n:=18) (S:=fun w'=>w'.cell? ⟨a2,0,none⟩=some (.bool ((Qa l0 a0).f0))∧w'.cell? ⟨a2,1,none⟩=some (.bool ((Qa l0 a0).f1))∧w'.cell? ⟨a2,2,none⟩=some (.int .i64 ((Qa l0 a0).f2))∧w'.cell? ⟨a2,3,none⟩=some (.int .i64 ((Qa l0 a0).f3))∧w'.cell? ⟨a2,4,none⟩=some (.int .i64 ((Qa l0 a0).f4))∧w'.cell? ⟨a2,5,none⟩=some (.slice a5 ((Qa l0 a0).f5).length a6)∧w'.cell? (a9.add (((a4)).toNat * 6))=some (.bool ((Qa l0 (a4)).f0))∧w'.cell? ⟨(a9.add (((a4)).toNat * 6)).block,(a9.add (((a4)).toNat * 6)).off+1,none⟩=some (.bool ((Qa l0 (a4)).f1))∧w'.cell? ⟨(a9.add (((a4)).toNat * 6)).block,(a9.add (((a4)).toNat * 6)).off+2,none⟩=some (.int .i64 ((Qa l0 (a4)).f2))∧w'.cell? ⟨(a9.add (((a4)).toNat * 6)).block,(a9.add (((a4)).toNat * 6)).off+3,none⟩=some (.int .i64 ((Qa l0 (a4)).f3))∧w'.cell? ⟨(a9.add (((a4)).toNat * 6)).block,(a9.add (((a4)).toNat * 6)).off+4,none⟩=some (.int .i64 ((Qa l0 (a4)).f4))∧w'.cell? ⟨(a9.add (((a4)).toNat * 6)).block,(a9.add (((a4)).toNat * 6)).off+5,none⟩=some (.slice e7 ((Qa l0 (a4)).f5).length e8)) (ds:=[]) (zzB 18 0) (by kernel_rfl) rfl rfl ⟨(zzk a1.out 0).trans rfl,(zzk a1.out 1).trans rfl,(zzk a1.out 2).trans rfl,(zzk a1.out 3).trans rfl,(zzk a1.out 4).trans rfl,(zzk a1.out 5).trans rfl,(zzx HB.out d9 :),(zzx HB.out d8 :),(zzx HB.out d7 :),(zzx HB.out d6 :),(zzx HB.out d5 :),(zzx HB.out d4 :)⟩ (fun b0=>?_);refine with_tabW Qi.tab6 Qi.bits6 (fun a3 e9=>?_);generalize p5.drew=q4 at a1 HB e4 c6 c9 d0 d1 d2 d3 b0 ⊢;refine zzT 0 15 18 1 a3 e9 b0 ?_
            refine one_ (i:=1) (N:=some 16) (zzB 18 3) rfl rfl (one_of a3.out (by kernel_rfl)) (by decide) (fun K hK=>?_);refine goes_ Try.func32 (by kernel_rfl) rfl #[.agg #[.bool ((Qa l0 a0).f0),.bool ((Qa l0 a0).f1),.int .i64 ((Qa l0 a0).f2),.int .i64 ((Qa l0 a0).f3),.int .i64 ((Qa l0 a0).f4),.slice a5 ((Qa l0 a0).f5).length a6]] (by rfl) rfl rfl zzM2 ?_;with_reducible refine (Qd.calls k1 ((Qa l0 a0).f0) ((Qa l0 a0).f1) ((Qa l0 a0).f2) ((Qa l0 a0).f3) ((Qa l0 a0).f4) _ _ ((Qa l0 a0).f5) true _ ?side1 ?side2 A6.out).mono ?_
            (case side1=>exact zzcb b9 HB)
            (case side2=>exact c1.out);rintro e q5 ⟨rfl,hb⟩;refine ⟨_,rfl,?_⟩;have a7:=zzm (zzh (g:=a2) (o:=.cells #[.bool ((Qa l0 a0).f0),.bool ((Qa l0 a0).f1),.int .i64 ((Qa l0 a0).f2),.int .i64 ((Qa l0 a0).f3),.int .i64 ((Qa l0 a0).f4),.slice a5 ((Qa l0 a0).f5).length a6] 39 (0,0)) (zzE a1.out) hb);have a8:=zzm (zzp zzh2 hb);clear a1 HB;have a1:=a7;have HB:=a8;clear a7 a8
            (try clear hb)
            (try clear hb2)
            (try clear hk)
            (try clear hi);refine hK.out _ _ ⟨(zzk a1.out 0).trans rfl,(zzk a1.out 1).trans rfl,(zzk a1.out 2).trans rfl,(zzk a1.out 3).trans rfl,(zzk a1.out 4).trans rfl,(zzk a1.out 5).trans rfl,(zzx HB.out d9 :),(zzx HB.out d8 :),(zzx HB.out d7 :),(zzx HB.out d6 :),(zzx HB.out d5 :),(zzx HB.out d4 :)⟩ (fun b0=>?_);clear hK K;refine zzO 16 ?_
            refine zzP 2 17 18 7 a3 ?_
            refine zzP 3 18 18 15 a3 ?_
            refine zzP 4 19 18 31 a3 ?_
            refine zzP 5 20 18 63 a3 ?_
            refine zzP 6 21 18 127 a3 ?_
            refine zzP 7 22 18 255 a3 ?_
            refine zzP 8 23 18 511 a3 ?_
            refine zzP 9 24 18 1023 a3 ?_
            refine zzP 10 25 18 2047 a3 ?_
            refine zzT 11 26 18 4095 a3 e9 b0 ?_
            refine zzT 13 28 18 12287 a3 e9 b0 ?_
            refine one_ (i:=12) (N:=some 27) (zzB 18 16383) rfl rfl (one_of a3.out (by kernel_rfl)) (by decide) (fun K hK=>?_);refine goes_ Try.func33 (by kernel_rfl) rfl #[.agg #[.bool ((Qa l0 (a4)).f0),.bool ((Qa l0 (a4)).f1),.int .i64 ((Qa l0 (a4)).f2),.int .i64 ((Qa l0 (a4)).f3),.int .i64 ((Qa l0 (a4)).f4),.slice e7 ((Qa l0 (a4)).f5).length e8]] (by rfl) rfl rfl (by (try simp only [map_toArray,map_cons,map_nil]);first|done|(simp only [hji9];rfl)|rfl|(simp only [length_drop,length_take];rfl)) ?_;with_reducible refine (Ri.calls ((Qa l0 (a4)).f0) ((Qa l0 (a4)).f1) ((Qa l0 (a4)).f2) ((Qa l0 (a4)).f3) ((Qa l0 (a4)).f4) _ _ ((Qa l0 (a4)).f5) g0 _ ?side1 ?side2 j7.out).mono ?_
            (case side1=>exact zzcb e4 HB)
            (case side2=>exact g5.out);rintro e q6 ⟨rfl,hb⟩;refine ⟨_,rfl,?_⟩;have a7:=zzm (zzh (g:=a2) (o:=.cells #[.bool ((Qa l0 a0).f0),.bool ((Qa l0 a0).f1),.int .i64 ((Qa l0 a0).f2),.int .i64 ((Qa l0 a0).f3),.int .i64 ((Qa l0 a0).f4),.slice a5 ((Qa l0 a0).f5).length a6] 39 (0,0)) (zzE a1.out) hb);have a8:=zzm (zzp zzh2 hb);clear a1 HB;have a1:=a7;have HB:=a8;clear a7 a8
            (try clear hb)
            (try clear hb2)
            (try clear hk)
            (try clear hi);refine hK.out _ _ ⟨(zzk a1.out 0).trans rfl,(zzk a1.out 1).trans rfl,(zzk a1.out 2).trans rfl,(zzk a1.out 3).trans rfl,(zzk a1.out 4).trans rfl,(zzk a1.out 5).trans rfl,(zzx HB.out d9 :),(zzx HB.out d8 :),(zzx HB.out d7 :),(zzx HB.out d6 :),(zzx HB.out d5 :),(zzx HB.out d4 :)⟩ (fun b0=>?_);clear hK K;refine zzO 27 ?_
            refine one_ (i:=14) (N:=some 29) (zzB 18 32767) rfl rfl (one_of a3.out (by kernel_rfl)) (by decide) (fun K hK=>?_);refine goes_ Try.func34 (by kernel_rfl) rfl #[.agg #[.bool ((Qa l0 a0).f0),.bool ((Qa l0 a0).f1),.int .i64 ((Qa l0 a0).f2),.int .i64 ((Qa l0 a0).f3),.int .i64 ((Qa l0 a0).f4),.slice a5 ((Qa l0 a0).f5).length a6]] (by rfl) rfl rfl zzM2 ?_;with_reducible refine (Re.calls ((Qa l0 a0).f0) ((Qa l0 a0).f1) ((Qa l0 a0).f2) ((Qa l0 a0).f3) ((Qa l0 a0).f4) _ _ ((Qa l0 a0).f5) g1 _ ?side1 ?side2 j8.out).mono ?_
            (case side1=>exact zzcb b9 HB)
            (case side2=>exact c1.out);rintro e q7 ⟨rfl,hb⟩;refine ⟨_,rfl,?_⟩;have a7:=zzm (zzh (g:=a2) (o:=.cells #[.bool ((Qa l0 a0).f0),.bool ((Qa l0 a0).f1),.int .i64 ((Qa l0 a0).f2),.int .i64 ((Qa l0 a0).f3),.int .i64 ((Qa l0 a0).f4),.slice a5 ((Qa l0 a0).f5).length a6] 39 (0,0)) (zzE a1.out) hb);have a8:=zzm (zzp zzh2 hb);clear a1 HB;have a1:=a7;have HB:=a8;clear a7 a8
            (try clear hb)
            (try clear hb2)
            (try clear hk)
            (try clear hi);refine hK.out _ _ ⟨(zzk a1.out 0).trans rfl,(zzk a1.out 1).trans rfl,(zzk a1.out 2).trans rfl,(zzk a1.out 3).trans rfl,(zzk a1.out 4).trans rfl,(zzk a1.out 5).trans rfl,(zzx HB.out d9 :),(zzx HB.out d8 :),(zzx HB.out d7 :),(zzx HB.out d6 :),(zzx HB.out d5 :),(zzx HB.out d4 :)⟩ (fun b0=>?_);clear hK K;refine zzO 29 ?_
            refine zzP 15 30 18 65535 a3 ?_
            refine zzP 16 31 18 131071 a3 ?_
            refine zzP 17 32 18 262143 a3 ?_
            refine done_ (done_of a3.out (by kernel_rfl)) ?_;try go_wp2
            go_ret;exact ⟨by first|rfl|(simp [errW_none,errW_some] <;> rfl)|(simp only [← hji9];first|rfl|(simp [errW_none,errW_some] <;> rfl))|(simp [*,errW_none,errW_some] <;> rfl),zzh3⟩
           ·
            rw [if_neg g7] at H;have j4:decide (g1≤g0)=false:=decide_eq_false g7;clear g7;have H':=zzm H;clear H;have e0 : 0≤(a0:Int):=zzt;have e1:a0 < (l0.length:Int):=zzt;obtain ⟨a9,a5,a6,g2,b1,b2,b3,b4,b5,b6,b7,b8⟩:=Q6 g6.out a0 e0 e1;cases g2;replace b1:=zzx HB.out b1;replace b2:=zzx HB.out b2;replace b3:=zzx HB.out b3;replace b4:=zzx HB.out b4;replace b5:=zzx HB.out b5;replace b6:=zzx HB.out b6;have b9:=zzm b8;have c1:=zzm b7;clear b8 b7;replace e0:=eq_true e0;replace e1:=eq_true e1;try go_wp2_with (first|((with_reducible refine gate_dst (N:=4) rfl ?_);refine box_event ?hg (N:=4) ?hd (cs:=#[.bool false,.bool false,.int .i64 0,.int .i64 0,.int .i64 0,.slice none 0 0]) (t:=39) ?hr ?_;(case hd=>rfl);(case hg=>rfl);(case hr=>first|(go_simp;done)|(go_simp;rfl));intro a2 hg h7 hbox hb;have a7:=zzm (zzp zzh1 hb);have a8:=zzm (hbox);have e5:=zzm ((by rw [hg];exact (zzo zzh1):w.heap.size≤a2));have e6:=zzm ((by rw [hg];exact (zzo zzh1):w.heap.size≤a2));clear HB;have HB:=a7;have a1:=a8;have g8:=e5;have g9:=e6;clear a7 a8 e5 e6 hb hbox hg;obtain ⟨l7,l8,l9,m0,m1,m2,m3,m4,m5,m6,m7,m8⟩:=zzc6 a1.out))
            have a7:Aside0 (((((((h7.setCell ⟨a2,0,none⟩ (.bool ((Qa l0 a0).f0))).setCell ⟨a2,1,none⟩ (.bool ((Qa l0 a0).f1))).setCell ⟨a2,2,none⟩ (.int .i64 ((Qa l0 a0).f2))).setCell ⟨a2,3,none⟩ (.int .i64 ((Qa l0 a0).f3))).setCell ⟨a2,4,none⟩ (.int .i64 ((Qa l0 a0).f4))).setCell ⟨a2,5,none⟩ (.slice a5 ((Qa l0 a0).f5).length a6)).heap[a2]? = some (.cells #[.bool ((Qa l0 a0).f0),.bool ((Qa l0 a0).f1),.int .i64 ((Qa l0 a0).f2),.int .i64 ((Qa l0 a0).f3),.int .i64 ((Qa l0 a0).f4),.slice a5 ((Qa l0 a0).f5).length a6] 39 (0,0))):=⟨by (with_reducible repeat (first|apply zzf|apply zzg|apply zze));refine zzi (cs:=#[.bool ((Qa l0 a0).f0),.bool ((Qa l0 a0).f1),.int .i64 ((Qa l0 a0).f2),.int .i64 ((Qa l0 a0).f3),.int .i64 ((Qa l0 a0).f4),.slice none 0 0]) ?_ 5 _ rfl;refine zzi (cs:=#[.bool ((Qa l0 a0).f0),.bool ((Qa l0 a0).f1),.int .i64 ((Qa l0 a0).f2),.int .i64 ((Qa l0 a0).f3),.int .i64 0,.slice none 0 0]) ?_ 4 _ rfl;refine zzi (cs:=#[.bool ((Qa l0 a0).f0),.bool ((Qa l0 a0).f1),.int .i64 ((Qa l0 a0).f2),.int .i64 0,.int .i64 0,.slice none 0 0]) ?_ 3 _ rfl;refine zzi (cs:=#[.bool ((Qa l0 a0).f0),.bool ((Qa l0 a0).f1),.int .i64 0,.int .i64 0,.int .i64 0,.slice none 0 0]) ?_ 2 _ rfl;refine zzi (cs:=#[.bool ((Qa l0 a0).f0),.bool false,.int .i64 0,.int .i64 0,.int .i64 0,.slice none 0 0]) ?_ 1 _ rfl;refine zzi (cs:=#[.bool false,.bool false,.int .i64 0,.int .i64 0,.int .i64 0,.slice none 0 0]) ?_ 0 _ rfl;(with_reducible repeat (first|apply zzf|apply zzg|apply zze));exact a1.out⟩;have a8:Aside0 (Below w.heap.size w ((((((h7.setCell ⟨a2,0,none⟩ (.bool ((Qa l0 a0).f0))).setCell ⟨a2,1,none⟩ (.bool ((Qa l0 a0).f1))).setCell ⟨a2,2,none⟩ (.int .i64 ((Qa l0 a0).f2))).setCell ⟨a2,3,none⟩ (.int .i64 ((Qa l0 a0).f3))).setCell ⟨a2,4,none⟩ (.int .i64 ((Qa l0 a0).f4))).setCell ⟨a2,5,none⟩ (.slice a5 ((Qa l0 a0).f5).length a6))):=⟨zzh3⟩
            (try clear a1)
            (try clear HB);generalize ((((((h7.setCell ⟨a2,0,none⟩ (.bool ((Qa l0 a0).f0))).setCell ⟨a2,1,none⟩ (.bool ((Qa l0 a0).f1))).setCell ⟨a2,2,none⟩ (.int .i64 ((Qa l0 a0).f2))).setCell ⟨a2,3,none⟩ (.int .i64 ((Qa l0 a0).f3))).setCell ⟨a2,4,none⟩ (.int .i64 ((Qa l0 a0).f4))).setCell ⟨a2,5,none⟩ (.slice a5 ((Qa l0 a0).f5).length a6))=p6 at a7 a8 ⊢;have a1:=a7;have HB:=a8;clear a7 a8;have a7:=zzm (zzg a1.out);have a8:=zzm (zzc HB.out);clear a1 HB;have a1:=a7;have HB:=a8;clear a7 a8;have g3 : 0≤((a4):Int):=zzt;have g4:(a4) < (l0.length:Int):=zzt;obtain ⟨h0,e7,e8,h1,c6,c9,d0,d1,d2,d3,e2,e3⟩:=Q6 g6.out (a4) g3 g4;have d4:=d3;have d5:=d2;have d6:=d1;have d7:=d0;have d8:=c9;have d9:=c6;obtain rfl:a9=h0:=(by injection h1);replace c6:=zzx HB.out c6;replace c9:=zzx HB.out c9;replace d0:=zzx HB.out d0;replace d1:=zzx HB.out d1;replace d2:=zzx HB.out d2;replace d3:=zzx HB.out d3;have e4:=zzm e3;have g5:=zzm e2;clear e3 e2;replace g3:=eq_true g3;replace g4:=eq_true g4;refine start_ (n:=18) (S:=fun w'=>w'.cell? ⟨a2,0,none⟩=some (.bool ((Qa l0 a0).f0))∧w'.cell? ⟨a2,1,none⟩=some (.bool ((Qa l0 a0).f1))∧w'.cell? ⟨a2,2,none⟩=some (.int .i64 ((Qa l0 a0).f2))∧w'.cell? ⟨a2,3,none⟩=some (.int .i64 ((Qa l0 a0).f3))∧w'.cell? ⟨a2,4,none⟩=some (.int .i64 ((Qa l0 a0).f4))∧w'.cell? ⟨a2,5,none⟩=some (.slice a5 ((Qa l0 a0).f5).length a6)∧w'.cell? (a9.add (((a4)).toNat * 6))=some (.bool ((Qa l0 (a4)).f0))∧w'.cell? ⟨(a9.add (((a4)).toNat * 6)).block,(a9.add (((a4)).toNat * 6)).off+1,none⟩=some (.bool ((Qa l0 (a4)).f1))∧w'.cell? ⟨(a9.add (((a4)).toNat * 6)).block,(a9.add (((a4)).toNat * 6)).off+2,none⟩=some (.int .i64 ((Qa l0 (a4)).f2))∧w'.cell? ⟨(a9.add (((a4)).toNat * 6)).block,(a9.add (((a4)).toNat * 6)).off+3,none⟩=some (.int .i64 ((Qa l0 (a4)).f3))∧w'.cell? ⟨(a9.add (((a4)).toNat * 6)).block,(a9.add (((a4)).toNat * 6)).off+4,none⟩=some (.int .i64 ((Qa l0 (a4)).f4))∧w'.cell? ⟨(a9.add (((a4)).toNat * 6)).block,(a9.add (((a4)).toNat * 6)).off+5,none⟩=some (.slice e7 ((Qa l0 (a4)).f5).length e8)) (ds:=[]) (zzB 18 0) (by kernel_rfl) rfl rfl ⟨(zzk a1.out 0).trans rfl,(zzk a1.out 1).trans rfl,(zzk a1.out 2).trans rfl,(zzk a1.out 3).trans rfl,(zzk a1.out 4).trans rfl,(zzk a1.out 5).trans rfl,(zzx HB.out d9 :),(zzx HB.out d8 :),(zzx HB.out d7 :),(zzx HB.out d6 :),(zzx HB.out d5 :),(zzx HB.out d4 :)⟩ (fun b0=>?_);refine with_tabW Qi.tab6 Qi.bits6 (fun a3 e9=>?_);generalize p6.drew=q8 at a1 HB e4 c6 c9 d0 d1 d2 d3 b0 ⊢;refine zzT 0 15 18 1 a3 e9 b0 ?_
            refine one_ (i:=1) (N:=some 16) (zzB 18 3) rfl rfl (one_of a3.out (by kernel_rfl)) (by decide) (fun K hK=>?_);refine goes_ Try.func32 (by kernel_rfl) rfl #[.agg #[.bool ((Qa l0 a0).f0),.bool ((Qa l0 a0).f1),.int .i64 ((Qa l0 a0).f2),.int .i64 ((Qa l0 a0).f3),.int .i64 ((Qa l0 a0).f4),.slice a5 ((Qa l0 a0).f5).length a6]] (by rfl) rfl rfl zzM2 ?_;with_reducible refine (Qd.calls k1 ((Qa l0 a0).f0) ((Qa l0 a0).f1) ((Qa l0 a0).f2) ((Qa l0 a0).f3) ((Qa l0 a0).f4) _ _ ((Qa l0 a0).f5) true _ ?side1 ?side2 A6.out).mono ?_
            (case side1=>exact zzcb b9 HB)
            (case side2=>exact c1.out);rintro e q9 ⟨rfl,hb⟩;refine ⟨_,rfl,?_⟩;have a7:=zzm (zzh (g:=a2) (o:=.cells #[.bool ((Qa l0 a0).f0),.bool ((Qa l0 a0).f1),.int .i64 ((Qa l0 a0).f2),.int .i64 ((Qa l0 a0).f3),.int .i64 ((Qa l0 a0).f4),.slice a5 ((Qa l0 a0).f5).length a6] 39 (0,0)) (zzE a1.out) hb);have a8:=zzm (zzp zzh2 hb);clear a1 HB;have a1:=a7;have HB:=a8;clear a7 a8
            (try clear hb)
            (try clear hb2)
            (try clear hk)
            (try clear hi);refine hK.out _ _ ⟨(zzk a1.out 0).trans rfl,(zzk a1.out 1).trans rfl,(zzk a1.out 2).trans rfl,(zzk a1.out 3).trans rfl,(zzk a1.out 4).trans rfl,(zzk a1.out 5).trans rfl,(zzx HB.out d9 :),(zzx HB.out d8 :),(zzx HB.out d7 :),(zzx HB.out d6 :),(zzx HB.out d5 :),(zzx HB.out d4 :)⟩ (fun b0=>?_);clear hK K;refine zzO 16 ?_
            refine zzP 2 17 18 7 a3 ?_
            refine zzP 3 18 18 15 a3 ?_
            refine zzP 4 19 18 31 a3 ?_
            refine zzP 5 20 18 63 a3 ?_
            refine zzP 6 21 18 127 a3 ?_
            refine zzP 7 22 18 255 a3 ?_
            refine zzP 8 23 18 511 a3 ?_
            refine zzP 9 24 18 1023 a3 ?_
            refine zzP 10 25 18 2047 a3 ?_
            refine zzT 11 26 18 4095 a3 e9 b0 ?_
            refine zzT 13 28 18 12287 a3 e9 b0 ?_
            refine one_ (i:=12) (N:=some 27) (zzB 18 16383) rfl rfl (one_of a3.out (by kernel_rfl)) (by decide) (fun K hK=>?_);refine goes_ Try.func33 (by kernel_rfl) rfl #[.agg #[.bool ((Qa l0 (a4)).f0),.bool ((Qa l0 (a4)).f1),.int .i64 ((Qa l0 (a4)).f2),.int .i64 ((Qa l0 (a4)).f3),.int .i64 ((Qa l0 (a4)).f4),.slice e7 ((Qa l0 (a4)).f5).length e8]] (by rfl) rfl rfl (by (try simp only [map_toArray,map_cons,map_nil]);first|done|(simp only [hji9];rfl)|rfl|(simp only [length_drop,length_take];rfl)) ?_;with_reducible refine (Ri.calls ((Qa l0 (a4)).f0) ((Qa l0 (a4)).f1) ((Qa l0 (a4)).f2) ((Qa l0 (a4)).f3) ((Qa l0 (a4)).f4) _ _ ((Qa l0 (a4)).f5) g0 _ ?side1 ?side2 j7.out).mono ?_
            (case side1=>exact zzcb e4 HB)
            (case side2=>exact g5.out);rintro e r0 ⟨rfl,hb⟩;refine ⟨_,rfl,?_⟩;have a7:=zzm (zzh (g:=a2) (o:=.cells #[.bool ((Qa l0 a0).f0),.bool ((Qa l0 a0).f1),.int .i64 ((Qa l0 a0).f2),.int .i64 ((Qa l0 a0).f3),.int .i64 ((Qa l0 a0).f4),.slice a5 ((Qa l0 a0).f5).length a6] 39 (0,0)) (zzE a1.out) hb);have a8:=zzm (zzp zzh2 hb);clear a1 HB;have a1:=a7;have HB:=a8;clear a7 a8
            (try clear hb)
            (try clear hb2)
            (try clear hk)
            (try clear hi);refine hK.out _ _ ⟨(zzk a1.out 0).trans rfl,(zzk a1.out 1).trans rfl,(zzk a1.out 2).trans rfl,(zzk a1.out 3).trans rfl,(zzk a1.out 4).trans rfl,(zzk a1.out 5).trans rfl,(zzx HB.out d9 :),(zzx HB.out d8 :),(zzx HB.out d7 :),(zzx HB.out d6 :),(zzx HB.out d5 :),(zzx HB.out d4 :)⟩ (fun b0=>?_);clear hK K;refine zzO 27 ?_
            refine one_ (i:=14) (N:=some 29) (zzB 18 32767) rfl rfl (one_of a3.out (by kernel_rfl)) (by decide) (fun K hK=>?_);refine goes_ Try.func34 (by kernel_rfl) rfl #[.agg #[.bool ((Qa l0 a0).f0),.bool ((Qa l0 a0).f1),.int .i64 ((Qa l0 a0).f2),.int .i64 ((Qa l0 a0).f3),.int .i64 ((Qa l0 a0).f4),.slice a5 ((Qa l0 a0).f5).length a6]] (by rfl) rfl rfl zzM2 ?_;with_reducible refine (Re.calls ((Qa l0 a0).f0) ((Qa l0 a0).f1) ((Qa l0 a0).f2) ((Qa l0 a0).f3) ((Qa l0 a0).f4) _ _ ((Qa l0 a0).f5) g1 _ ?side1 ?side2 j8.out).mono ?_
            (case side1=>exact zzcb b9 HB)
            (case side2=>exact c1.out);rintro e r1 ⟨rfl,hb⟩;refine ⟨_,rfl,?_⟩;have a7:=zzm (zzh (g:=a2) (o:=.cells #[.bool ((Qa l0 a0).f0),.bool ((Qa l0 a0).f1),.int .i64 ((Qa l0 a0).f2),.int .i64 ((Qa l0 a0).f3),.int .i64 ((Qa l0 a0).f4),.slice a5 ((Qa l0 a0).f5).length a6] 39 (0,0)) (zzE a1.out) hb);have a8:=zzm (zzp zzh2 hb);clear a1 HB;have a1:=a7;have HB:=a8;clear a7 a8
            (try clear hb)
            (try clear hb2)
            (try clear hk)
            (try clear hi);refine hK.out _ _ ⟨(zzk a1.out 0).trans rfl,(zzk a1.out 1).trans rfl,(zzk a1.out 2).trans rfl,(zzk a1.out 3).trans rfl,(zzk a1.out 4).trans rfl,(zzk a1.out 5).trans rfl,(zzx HB.out d9 :),(zzx HB.out d8 :),(zzx HB.out d7 :),(zzx HB.out d6 :),(zzx HB.out d5 :),(zzx HB.out d4 :)⟩ (fun b0=>?_);clear hK K;refine zzO 29 ?_
            refine zzP 15 30 18 65535 a3 ?_
            refine zzP 16 31 18 131071 a3 ?_
            refine zzP 17 32 18 262143 a3 ?_
            refine done_ (done_of a3.out (by kernel_rfl)) ?_;try go_wp2
            go_roundg k1
            case measure=>have:=HK1.out;omega
            case rel=>exact ⟨(wrap64 (a0+1)),(by first|rfl|(simp;done)|(simp [*];done)),H',⟨by have:=HK1.out;omega⟩,⟨zzh3⟩⟩
          ·
           rw [if_neg h3] at H;exact absurd H (by simp)
         ·
          rw [if_neg h2] at H;exact absurd H (by simp)
        ·
         rw [if_neg c8] at H;have k2:decide (0 < a0)=false:=decide_eq_false c8;clear c8;have H':=zzm H;clear H;have e0 : 0≤(a0:Int):=zzt;have e1:a0 < (l0.length:Int):=zzt;obtain ⟨a9,a5,a6,g2,b1,b2,b3,b4,b5,b6,b7,b8⟩:=Q6 g6.out a0 e0 e1;cases g2;replace b1:=zzx HB.out b1;replace b2:=zzx HB.out b2;replace b3:=zzx HB.out b3;replace b4:=zzx HB.out b4;replace b5:=zzx HB.out b5;replace b6:=zzx HB.out b6;have b9:=zzm b8;have c1:=zzm b7;clear b8 b7;replace e0:=eq_true e0;replace e1:=eq_true e1;try go_wp2_with (first|((with_reducible refine gate_dst (N:=4) rfl ?_);refine box_event ?hg (N:=4) ?hd (cs:=#[.bool false,.bool false,.int .i64 0,.int .i64 0,.int .i64 0,.slice none 0 0]) (t:=39) ?hr ?_;(case hd=>rfl);(case hg=>rfl);(case hr=>first|(go_simp;done)|(go_simp;rfl));intro a2 hg h8 hbox hb;have a7:=zzm (zzp zzh1 hb);have a8:=zzm (hbox);have e5:=zzm ((by rw [hg];exact (zzo zzh1):w.heap.size≤a2));have e6:=zzm ((by rw [hg];exact (zzo zzh1):w.heap.size≤a2));clear HB;have HB:=a7;have a1:=a8;have g8:=e5;have g9:=e6;clear a7 a8 e5 e6 hb hbox hg;obtain ⟨m9,n0,n1,n2,n3,n4,n5,n6,n7,n8,n9,o0⟩:=zzc6 a1.out))
         have a7:Aside0 (((((((h8.setCell ⟨a2,0,none⟩ (.bool ((Qa l0 a0).f0))).setCell ⟨a2,1,none⟩ (.bool ((Qa l0 a0).f1))).setCell ⟨a2,2,none⟩ (.int .i64 ((Qa l0 a0).f2))).setCell ⟨a2,3,none⟩ (.int .i64 ((Qa l0 a0).f3))).setCell ⟨a2,4,none⟩ (.int .i64 ((Qa l0 a0).f4))).setCell ⟨a2,5,none⟩ (.slice a5 ((Qa l0 a0).f5).length a6)).heap[a2]? = some (.cells #[.bool ((Qa l0 a0).f0),.bool ((Qa l0 a0).f1),.int .i64 ((Qa l0 a0).f2),.int .i64 ((Qa l0 a0).f3),.int .i64 ((Qa l0 a0).f4),.slice a5 ((Qa l0 a0).f5).length a6] 39 (0,0))):=⟨by (with_reducible repeat (first|apply zzf|apply zzg|apply zze));refine zzi (cs:=#[.bool ((Qa l0 a0).f0),.bool ((Qa l0 a0).f1),.int .i64 ((Qa l0 a0).f2),.int .i64 ((Qa l0 a0).f3),.int .i64 ((Qa l0 a0).f4),.slice none 0 0]) ?_ 5 _ rfl;refine zzi (cs:=#[.bool ((Qa l0 a0).f0),.bool ((Qa l0 a0).f1),.int .i64 ((Qa l0 a0).f2),.int .i64 ((Qa l0 a0).f3),.int .i64 0,.slice none 0 0]) ?_ 4 _ rfl;refine zzi (cs:=#[.bool ((Qa l0 a0).f0),.bool ((Qa l0 a0).f1),.int .i64 ((Qa l0 a0).f2),.int .i64 0,.int .i64 0,.slice none 0 0]) ?_ 3 _ rfl;refine zzi (cs:=#[.bool ((Qa l0 a0).f0),.bool ((Qa l0 a0).f1),.int .i64 0,.int .i64 0,.int .i64 0,.slice none 0 0]) ?_ 2 _ rfl;refine zzi (cs:=#[.bool ((Qa l0 a0).f0),.bool false,.int .i64 0,.int .i64 0,.int .i64 0,.slice none 0 0]) ?_ 1 _ rfl;refine zzi (cs:=#[.bool false,.bool false,.int .i64 0,.int .i64 0,.int .i64 0,.slice none 0 0]) ?_ 0 _ rfl;(with_reducible repeat (first|apply zzf|apply zzg|apply zze));exact a1.out⟩;have a8:Aside0 (Below w.heap.size w ((((((h8.setCell ⟨a2,0,none⟩ (.bool ((Qa l0 a0).f0))).setCell ⟨a2,1,none⟩ (.bool ((Qa l0 a0).f1))).setCell ⟨a2,2,none⟩ (.int .i64 ((Qa l0 a0).f2))).setCell ⟨a2,3,none⟩ (.int .i64 ((Qa l0 a0).f3))).setCell ⟨a2,4,none⟩ (.int .i64 ((Qa l0 a0).f4))).setCell ⟨a2,5,none⟩ (.slice a5 ((Qa l0 a0).f5).length a6))):=⟨zzh3⟩
         (try clear a1)
         (try clear HB);generalize ((((((h8.setCell ⟨a2,0,none⟩ (.bool ((Qa l0 a0).f0))).setCell ⟨a2,1,none⟩ (.bool ((Qa l0 a0).f1))).setCell ⟨a2,2,none⟩ (.int .i64 ((Qa l0 a0).f2))).setCell ⟨a2,3,none⟩ (.int .i64 ((Qa l0 a0).f3))).setCell ⟨a2,4,none⟩ (.int .i64 ((Qa l0 a0).f4))).setCell ⟨a2,5,none⟩ (.slice a5 ((Qa l0 a0).f5).length a6))=p7 at a7 a8 ⊢;have a1:=a7;have HB:=a8;clear a7 a8;have a7:=zzm (zzg a1.out);have a8:=zzm (zzc HB.out);clear a1 HB;have a1:=a7;have HB:=a8;clear a7 a8;refine start_ (n:=18) (S:=fun w'=>w'.cell? ⟨a2,0,none⟩=some (.bool ((Qa l0 a0).f0))∧w'.cell? ⟨a2,1,none⟩=some (.bool ((Qa l0 a0).f1))∧w'.cell? ⟨a2,2,none⟩=some (.int .i64 ((Qa l0 a0).f2))∧w'.cell? ⟨a2,3,none⟩=some (.int .i64 ((Qa l0 a0).f3))∧w'.cell? ⟨a2,4,none⟩=some (.int .i64 ((Qa l0 a0).f4))∧w'.cell? ⟨a2,5,none⟩=some (.slice a5 ((Qa l0 a0).f5).length a6)) (ds:=[]) (zzB 18 0) (by kernel_rfl) rfl rfl ⟨(zzk a1.out 0).trans rfl,(zzk a1.out 1).trans rfl,(zzk a1.out 2).trans rfl,(zzk a1.out 3).trans rfl,(zzk a1.out 4).trans rfl,(zzk a1.out 5).trans rfl⟩ (fun b0=>?_);refine with_tabW Qi.tab6 Qi.bits6 (fun a3 e9=>?_);generalize p7.drew=r2 at a1 HB b0 ⊢;refine zzT 0 15 18 1 a3 e9 b0 ?_
         refine one_ (i:=1) (N:=some 16) (zzB 18 3) rfl rfl (one_of a3.out (by kernel_rfl)) (by decide) (fun K hK=>?_);refine goes_ Try.func32 (by kernel_rfl) rfl #[.agg #[.bool ((Qa l0 a0).f0),.bool ((Qa l0 a0).f1),.int .i64 ((Qa l0 a0).f2),.int .i64 ((Qa l0 a0).f3),.int .i64 ((Qa l0 a0).f4),.slice a5 ((Qa l0 a0).f5).length a6]] (by rfl) rfl rfl zzM2 ?_;with_reducible refine (Qd.calls k1 ((Qa l0 a0).f0) ((Qa l0 a0).f1) ((Qa l0 a0).f2) ((Qa l0 a0).f3) ((Qa l0 a0).f4) _ _ ((Qa l0 a0).f5) true _ ?side1 ?side2 A6.out).mono ?_
         (case side1=>exact zzcb b9 HB)
         (case side2=>exact c1.out);rintro e r3 ⟨rfl,hb⟩;refine ⟨_,rfl,?_⟩;have a7:=zzm (zzh (g:=a2) (o:=.cells #[.bool ((Qa l0 a0).f0),.bool ((Qa l0 a0).f1),.int .i64 ((Qa l0 a0).f2),.int .i64 ((Qa l0 a0).f3),.int .i64 ((Qa l0 a0).f4),.slice a5 ((Qa l0 a0).f5).length a6] 39 (0,0)) (zzE a1.out) hb);have a8:=zzm (zzp zzh2 hb);clear a1 HB;have a1:=a7;have HB:=a8;clear a7 a8
         (try clear hb)
         (try clear hb2)
         (try clear hk)
         (try clear hi);refine hK.out _ _ ⟨(zzk a1.out 0).trans rfl,(zzk a1.out 1).trans rfl,(zzk a1.out 2).trans rfl,(zzk a1.out 3).trans rfl,(zzk a1.out 4).trans rfl,(zzk a1.out 5).trans rfl⟩ (fun b0=>?_);clear hK K;refine zzO 16 ?_
         refine zzP 2 17 18 7 a3 ?_
         refine zzP 3 18 18 15 a3 ?_
         refine zzP 4 19 18 31 a3 ?_
         refine zzP 5 20 18 63 a3 ?_
         refine zzP 6 21 18 127 a3 ?_
         refine zzU 7 22 18 255 a3 ?_
         refine zzU 8 23 18 511 a3 ?_
         refine zzU 9 24 18 1023 a3 ?_
         refine zzU 10 25 18 2047 a3 ?_
         refine zzU 11 26 18 4095 a3 ?_
         refine zzU 12 27 18 8191 a3 ?_
         refine zzU 13 28 18 16383 a3 ?_
         refine zzU 14 29 18 32767 a3 ?_
         refine zzU 15 30 18 65535 a3 ?_
         refine zzP 16 31 18 131071 a3 ?_
         refine zzP 17 32 18 262143 a3 ?_
         refine done_ (done_of a3.out (by kernel_rfl)) ?_;try go_wp2
         go_roundg k1
         case measure=>have:=HK1.out;omega
         case rel=>exact ⟨(wrap64 (a0+1)),(by first|rfl|(simp;done)|(simp [*];done)),H',⟨by have:=HK1.out;omega⟩,⟨zzh3⟩⟩
       ·
        replace c7:=Bool.eq_false_iff.mpr c7;subst c7;replace H:=zzIf H;obtain rfl:=Option.some.inj H;have e0 : 0≤(a0:Int):=zzt;have e1:a0 < (l0.length:Int):=zzt;obtain ⟨a9,a5,a6,g2,b1,b2,b3,b4,b5,b6,b7,b8⟩:=Q6 g6.out a0 e0 e1;cases g2;replace b1:=zzx HB.out b1;replace b2:=zzx HB.out b2;replace b3:=zzx HB.out b3;replace b4:=zzx HB.out b4;replace b5:=zzx HB.out b5;replace b6:=zzx HB.out b6;have b9:=zzm b8;have c1:=zzm b7;clear b8 b7;replace e0:=eq_true e0;replace e1:=eq_true e1;try go_wp2_with (first|((with_reducible refine gate_dst (N:=4) rfl ?_);refine box_event ?hg (N:=4) ?hd (cs:=#[.bool false,.bool false,.int .i64 0,.int .i64 0,.int .i64 0,.slice none 0 0]) (t:=39) ?hr ?_;(case hd=>rfl);(case hg=>rfl);(case hr=>first|(go_simp;done)|(go_simp;rfl));intro a2 hg h9 hbox hb;have a7:=zzm (zzp zzh1 hb);have a8:=zzm (hbox);have e5:=zzm ((by rw [hg];exact (zzo zzh1):w.heap.size≤a2));have e6:=zzm ((by rw [hg];exact (zzo zzh1):w.heap.size≤a2));clear HB;have HB:=a7;have a1:=a8;have g8:=e5;have g9:=e6;clear a7 a8 e5 e6 hb hbox hg;obtain ⟨o1,o2,o3,o4,o5,o6,o7,o8,o9,p0,p1,p3⟩:=zzc6 a1.out))
        have a7:Aside0 (((((((h9.setCell ⟨a2,0,none⟩ (.bool ((Qa l0 a0).f0))).setCell ⟨a2,1,none⟩ (.bool ((Qa l0 a0).f1))).setCell ⟨a2,2,none⟩ (.int .i64 ((Qa l0 a0).f2))).setCell ⟨a2,3,none⟩ (.int .i64 ((Qa l0 a0).f3))).setCell ⟨a2,4,none⟩ (.int .i64 ((Qa l0 a0).f4))).setCell ⟨a2,5,none⟩ (.slice a5 ((Qa l0 a0).f5).length a6)).heap[a2]? = some (.cells #[.bool ((Qa l0 a0).f0),.bool ((Qa l0 a0).f1),.int .i64 ((Qa l0 a0).f2),.int .i64 ((Qa l0 a0).f3),.int .i64 ((Qa l0 a0).f4),.slice a5 ((Qa l0 a0).f5).length a6] 39 (0,0))):=⟨by (with_reducible repeat (first|apply zzf|apply zzg|apply zze));refine zzi (cs:=#[.bool ((Qa l0 a0).f0),.bool ((Qa l0 a0).f1),.int .i64 ((Qa l0 a0).f2),.int .i64 ((Qa l0 a0).f3),.int .i64 ((Qa l0 a0).f4),.slice none 0 0]) ?_ 5 _ rfl;refine zzi (cs:=#[.bool ((Qa l0 a0).f0),.bool ((Qa l0 a0).f1),.int .i64 ((Qa l0 a0).f2),.int .i64 ((Qa l0 a0).f3),.int .i64 0,.slice none 0 0]) ?_ 4 _ rfl;refine zzi (cs:=#[.bool ((Qa l0 a0).f0),.bool ((Qa l0 a0).f1),.int .i64 ((Qa l0 a0).f2),.int .i64 0,.int .i64 0,.slice none 0 0]) ?_ 3 _ rfl;refine zzi (cs:=#[.bool ((Qa l0 a0).f0),.bool ((Qa l0 a0).f1),.int .i64 0,.int .i64 0,.int .i64 0,.slice none 0 0]) ?_ 2 _ rfl;refine zzi (cs:=#[.bool ((Qa l0 a0).f0),.bool false,.int .i64 0,.int .i64 0,.int .i64 0,.slice none 0 0]) ?_ 1 _ rfl;refine zzi (cs:=#[.bool false,.bool false,.int .i64 0,.int .i64 0,.int .i64 0,.slice none 0 0]) ?_ 0 _ rfl;(with_reducible repeat (first|apply zzf|apply zzg|apply zze));exact a1.out⟩;have a8:Aside0 (Below w.heap.size w ((((((h9.setCell ⟨a2,0,none⟩ (.bool ((Qa l0 a0).f0))).setCell ⟨a2,1,none⟩ (.bool ((Qa l0 a0).f1))).setCell ⟨a2,2,none⟩ (.int .i64 ((Qa l0 a0).f2))).setCell ⟨a2,3,none⟩ (.int .i64 ((Qa l0 a0).f3))).setCell ⟨a2,4,none⟩ (.int .i64 ((Qa l0 a0).f4))).setCell ⟨a2,5,none⟩ (.slice a5 ((Qa l0 a0).f5).length a6))):=⟨zzh3⟩
        (try clear a1)
        (try clear HB);generalize ((((((h9.setCell ⟨a2,0,none⟩ (.bool ((Qa l0 a0).f0))).setCell ⟨a2,1,none⟩ (.bool ((Qa l0 a0).f1))).setCell ⟨a2,2,none⟩ (.int .i64 ((Qa l0 a0).f2))).setCell ⟨a2,3,none⟩ (.int .i64 ((Qa l0 a0).f3))).setCell ⟨a2,4,none⟩ (.int .i64 ((Qa l0 a0).f4))).setCell ⟨a2,5,none⟩ (.slice a5 ((Qa l0 a0).f5).length a6))=p8 at a7 a8 ⊢;have a1:=a7;have HB:=a8;clear a7 a8;have a7:=zzm (zzg a1.out);have a8:=zzm (zzc HB.out);clear a1 HB;have a1:=a7;have HB:=a8;clear a7 a8;refine start_ (n:=18) (S:=fun w'=>w'.cell? ⟨a2,0,none⟩=some (.bool ((Qa l0 a0).f0))∧w'.cell? ⟨a2,1,none⟩=some (.bool ((Qa l0 a0).f1))∧w'.cell? ⟨a2,2,none⟩=some (.int .i64 ((Qa l0 a0).f2))∧w'.cell? ⟨a2,3,none⟩=some (.int .i64 ((Qa l0 a0).f3))∧w'.cell? ⟨a2,4,none⟩=some (.int .i64 ((Qa l0 a0).f4))∧w'.cell? ⟨a2,5,none⟩=some (.slice a5 ((Qa l0 a0).f5).length a6)) (ds:=[]) (zzB 18 0) (by kernel_rfl) rfl rfl ⟨(zzk a1.out 0).trans rfl,(zzk a1.out 1).trans rfl,(zzk a1.out 2).trans rfl,(zzk a1.out 3).trans rfl,(zzk a1.out 4).trans rfl,(zzk a1.out 5).trans rfl⟩ (fun b0=>?_);refine with_tabW Qi.tab6 Qi.bits6 (fun a3 e9=>?_);generalize p8.drew=r4 at a1 HB b0 ⊢;refine zzT 0 15 18 1 a3 e9 b0 ?_
        refine one_ (i:=1) (N:=some 16) (zzB 18 3) rfl rfl (one_of a3.out (by kernel_rfl)) (by decide) (fun K hK=>?_);refine goes_ Try.func32 (by kernel_rfl) rfl #[.agg #[.bool ((Qa l0 a0).f0),.bool ((Qa l0 a0).f1),.int .i64 ((Qa l0 a0).f2),.int .i64 ((Qa l0 a0).f3),.int .i64 ((Qa l0 a0).f4),.slice a5 ((Qa l0 a0).f5).length a6]] (by rfl) rfl rfl zzM2 ?_;with_reducible refine (Qd.calls k1 ((Qa l0 a0).f0) ((Qa l0 a0).f1) ((Qa l0 a0).f2) ((Qa l0 a0).f3) ((Qa l0 a0).f4) _ _ ((Qa l0 a0).f5) false _ ?side1 ?side2 A6.out).mono ?_
        (case side1=>exact zzcb b9 HB)
        (case side2=>exact c1.out);rintro e r5 ⟨rfl,hb⟩;refine ⟨_,rfl,?_⟩;have a7:=zzm (zzh (g:=a2) (o:=.cells #[.bool ((Qa l0 a0).f0),.bool ((Qa l0 a0).f1),.int .i64 ((Qa l0 a0).f2),.int .i64 ((Qa l0 a0).f3),.int .i64 ((Qa l0 a0).f4),.slice a5 ((Qa l0 a0).f5).length a6] 39 (0,0)) (zzE a1.out) hb);have a8:=zzm (zzp zzh2 hb);clear a1 HB;have a1:=a7;have HB:=a8;clear a7 a8
        (try clear hb)
        (try clear hb2)
        (try clear hk)
        (try clear hi);refine hK.out _ _ ⟨(zzk a1.out 0).trans rfl,(zzk a1.out 1).trans rfl,(zzk a1.out 2).trans rfl,(zzk a1.out 3).trans rfl,(zzk a1.out 4).trans rfl,(zzk a1.out 5).trans rfl⟩ (fun b0=>?_);clear hK K;refine zzO 16 ?_
        refine zzP 2 17 18 7 a3 ?_
        refine zzP 3 18 18 15 a3 ?_
        refine zzU 4 19 18 31 a3 ?_
        refine zzU 5 20 18 63 a3 ?_
        refine zzU 6 21 18 127 a3 ?_
        refine zzU 7 22 18 255 a3 ?_
        refine zzU 8 23 18 511 a3 ?_
        refine zzU 9 24 18 1023 a3 ?_
        refine zzU 10 25 18 2047 a3 ?_
        refine zzU 11 26 18 4095 a3 ?_
        refine zzU 12 27 18 8191 a3 ?_
        refine zzU 13 28 18 16383 a3 ?_
        refine zzU 14 29 18 32767 a3 ?_
        refine zzU 15 30 18 65535 a3 ?_
        refine zzU 16 31 18 131071 a3 ?_
        refine zzP 17 32 18 262143 a3 ?_
        refine done_ (done_of a3.out (by kernel_rfl)) ?_;try go_wp2
        go_ret;exact ⟨zzR,zzh3⟩
      ·
       rw [if_neg c5] at H;exact absurd H (by simp)
     ·
      rw [if_neg c4] at H;exact absurd H (by simp)
    ·
     rw [if_neg c3] at H;have j9:decide (a0 < (l0.length:Int))=false:=decide_eq_false c3;clear c3;obtain rfl:=Option.some.inj H;go_wp2;go_ret;exact ⟨zzR,zzh1⟩

set_option linter.unusedVariables false
set_option linter.unusedSimpArgs false
def slices_Equal_int_int.l0:Nat→List Int→List Int→Int→Int→Option (Bool)
 | 0,_,_,_,_=>none
 | k+1,x0,x1,x12,x13=>if x13 < x12 then (if 0≤x13 then (if x13 < (x0.length:Int) then (if x13 < (x1.length:Int) then (if (rd x0 x13)=(rd x1 x13) then (slices_Equal_int_int.l0 k x0 x1 x12 (wrap64 (x13+1))) else (some false)) else (none)) else (none)) else (none)) else (some true)
def slices_Equal_int_int.f (k:Nat) (l0:List Int) (l1:List Int):Option (Bool):=if (l0.length:Int)=(l1.length:Int) then (slices_Equal_int_int.l0 k l0 l1 (l0.length:Int) 0) else (some false)
set_option maxHeartbeats 8000000 in
theorem slices_Equal_int_int.calls (k:Nat) (A0:Option Addr) (c0:Nat) (l0:List Int) (A1:Option Addr) (c1:Nat) (l1:List Int) (r:Bool) (w:World) (b4:Kd.C (Kd.int .i64) w A0 l0.length l0) (b5:l0.length≤c0) (b6:Kd.C (Kd.int .i64) w A1 l1.length l1) (b7:l1.length≤c1) (h:slices_Equal_int_int.f k l0 l1=some r) :
  Calls Try.prog 53 #[.slice A0 l0.length c0,.slice A1 l1.length c1] w fun e w'=>e = .returned (.bool r)∧Drawn0 w w':=by
 have b8:=zzm b4;have d5:=zzm b5;clear b4 b5;have b9:=zzm b6;have d6:=zzm b7;clear b6 b7;have H:(if (l0.length:Int)=(l1.length:Int) then (slices_Equal_int_int.l0 k l0 l1 (l0.length:Int) 0) else (some false))=some r:=h;clear h;by_cases c3:(l0.length:Int)=(l1.length:Int)
 ·
  rw [if_pos c3] at H;obtain ⟨a9,b0⟩:=zzQ c3;have b1:(l0.length==l1.length)=true:=by first|simpa using c3|(simp at c3 ⊢;omega)
  clear c3;have H':=zzm H;clear H;go_enter Try.func53,Try.ntmps53;go_wp2;repeat (go_quiet (fail);try go_wp2)
  go_loopg [13] k (fun kq d1 w'=>∃ (a0:Int),d1 = .int .i64 a0∧Aside0 (slices_Equal_int_int.l0 kq l0 l1 (l0.length:Int) a0=some r)∧Aside0 (kq≤k)∧Drawn0 w w')
  case atStart=>exact ⟨(0),(by first|rfl|(simp;done)|(simp [*];done)),H',⟨Nat.le_refl _⟩,by repeat (first|exact Drawn0.refl _|apply Drawn0.step)⟩
  case round=>
   clear H';try clear c1
   try clear p2
   try clear c3
   try clear a9
   try clear b0
   try clear b1
   obtain ⟨a0,rfl,HA,HK1,⟨m1,rfl⟩⟩:=hrel;cases gk with
   | zero=>exact absurd HA.out (by simp [slices_Equal_int_int.l0])
   | succ k1=>
    have H:=HA.out;clear HA;simp only [slices_Equal_int_int.l0] at H;by_cases c4:a0 < (l0.length:Int)
    ·
     rw [if_pos c4] at H;have c2:decide (a0 < (l0.length:Int))=true:=decide_eq_true c4;clear c4;by_cases c5 : 0≤a0
     ·
      rw [if_pos c5] at H;have d2:decide (0≤a0)=true:=decide_eq_true c5;clear c5;by_cases c6:a0 < (l0.length:Int)
      ·
       rw [if_pos c6] at H;have d3:decide (a0 < (l0.length:Int))=true:=decide_eq_true c6;clear c6;by_cases c7:a0 < (l1.length:Int)
       ·
        rw [if_pos c7] at H;have d4:decide (a0 < (l1.length:Int))=true:=decide_eq_true c7;clear c7;by_cases c8:(rd l0 a0)=(rd l1 a0)
        ·
         rw [if_pos c8] at H;obtain ⟨c9,d0⟩:=zzQ c8;clear c8;have H':=zzm H;clear H;have a1 : 0≤(a0:Int):=zzt;have a2:a0 < (l0.length:Int):=zzt;obtain ⟨b2,a5,a7⟩:=Kd.at_int b8.out a0 a1 a2;cases a5;replace a1:=eq_true a1;replace a2:=eq_true a2;have a3 : 0≤(a0:Int):=zzt;have a4:a0 < (l1.length:Int):=zzt;obtain ⟨b3,a6,a8⟩:=Kd.at_int b9.out a0 a3 a4;cases a6;replace a3:=eq_true a3;replace a4:=eq_true a4;go_wp2;repeat (go_quiet (fail);try go_wp2)
         go_roundg k1
         case measure=>have:=HK1.out;omega
         case rel=>exact ⟨(wrap64 (a0+1)),(by first|rfl|(simp;done)|(simp [*];done)),H',⟨by have:=HK1.out;omega⟩,by repeat (first|exact Drawn0.refl _|apply Drawn0.step)⟩
        ·
         rw [if_neg c8] at H;obtain ⟨c9,d0⟩:=zzY c8;obtain rfl:=Option.some.inj H;have a1 : 0≤(a0:Int):=zzt;have a2:a0 < (l0.length:Int):=zzt;obtain ⟨b2,a5,a7⟩:=Kd.at_int b8.out a0 a1 a2;cases a5;replace a1:=eq_true a1;replace a2:=eq_true a2;have a3 : 0≤(a0:Int):=zzt;have a4:a0 < (l1.length:Int):=zzt;obtain ⟨b3,a6,a8⟩:=Kd.at_int b9.out a0 a3 a4;cases a6;replace a3:=eq_true a3;replace a4:=eq_true a4;go_wp2;repeat (go_quiet (fail);try go_wp2)
         go_ret;exact ⟨by first|rfl|(simp;done)|(simp [*];done),by repeat (first|exact Drawn0.refl _|apply Drawn0.step)⟩
       ·
        rw [if_neg c7] at H;exact absurd H (by simp)
      ·
       rw [if_neg c6] at H;exact absurd H (by simp)
     ·
      rw [if_neg c5] at H;exact absurd H (by simp)
    ·
     rw [if_neg c4] at H;have c2:decide (a0 < (l0.length:Int))=false:=decide_eq_false c4;clear c4;obtain rfl:=Option.some.inj H;go_wp2;repeat (go_quiet (fail);try go_wp2)
     go_ret;exact ⟨by first|rfl|(simp;done)|(simp [*];done),by repeat (first|exact Drawn0.refl _|apply Drawn0.step)⟩
 ·
  rw [if_neg c3] at H;obtain ⟨a9,b0⟩:=zzY c3;have b1:(l0.length==l1.length)=false:=by first|simpa using c3|(simp at c3 ⊢;omega)
  obtain rfl:=Option.some.inj H;go_enter Try.func53,Try.ntmps53;go_wp2;repeat (go_quiet (fail);try go_wp2)
  go_ret;exact ⟨by first|rfl|(simp;done)|(simp [*];done),by repeat (first|exact Drawn0.refl _|apply Drawn0.step)⟩

set_option linter.unusedVariables false
set_option linter.unusedSimpArgs false
def Rx.f (k:Nat) (a0_0:Bool) (a0_1:Bool) (a0_2:Int) (a0_3:Int) (a0_4:Int) (l0_5:List (S42)):Option (Bool):=if 0 < (l0_5.length:Int) then ((slices_Equal_int_int.f k ((Qb l0_5 0).f5) (([1]:List Int))).bind fun t279=>(some t279)) else (none)
set_option maxHeartbeats 8000000 in
theorem Rx.calls (k:Nat) (b3:Bool) (b4:Bool) (b5:Int) (b6:Int) (b7:Int) (c5:Option Addr) (b8:Nat) (a0:List (S42)) (r:Bool) (w:World) (c8:Kd.C k42 w c5 a0.length a0) (c9:a0.length≤b8) (h:Rx.f k b3 b4 b5 b6 b7 a0=some r) :
  Calls Try.prog 39 #[.agg #[.bool b3,.bool b4,.int .i64 b5,.int .i64 b6,.int .i64 b7,.slice c5 a0.length b8]] w fun e w'=>e = .returned (.bool r)∧Below w.heap.size w w':=by
 have hu39:=Try.underlying39;have d4:=zzm c8;have g6:=zzm c9;clear c8 c9;have HB:=zzm (Below.refl w.heap.size w);have H:(if 0 < (a0.length:Int) then ((slices_Equal_int_int.f k ((Qb a0 0).f5) (([1]:List Int))).bind fun a8=>(some a8)) else (none))=some r:=h;clear h;by_cases c2 : 0 < (a0.length:Int)
 ·
  rw [if_pos c2] at H;have h0:decide (0 < (a0.length:Int))=true:=decide_eq_true c2;have h1:decide (0 < a0.length)=true:=decide_eq_true (by omega);clear c2;obtain ⟨y276,hy276⟩:∃ y_:List Int,y_=(([1]:List Int)):=⟨_,rfl⟩;replace H:((slices_Equal_int_int.f k ((Qb a0 0).f5) y276).bind fun a8=>(some a8))=some r:=by first|(rw [hy276];with_reducible exact H)|(have H2_:=(Option.bind_some _ _).symm.trans H;rw [hy276];with_reducible exact H2_)|(have H2_:=(Option.bind_some _ _).symm.trans H;with_reducible exact H2_)|with_reducible exact H|(rw [hy276];exact H)|exact H
  have Ny276:=zzm hy276;clear hy276;obtain ⟨a8,A3,H⟩:=zzG H;obtain rfl:=Option.some.inj H;go_enter Try.func39,Try.ntmps39;go_wp2_with (first|((with_reducible refine gate_dst (N:=1) rfl ?_);refine box_event ?hg (N:=1) ?hd (cs:=#[.bool b3,.bool b4,.int .i64 b5,.int .i64 b6,.int .i64 b7,.slice c5 a0.length b8]) (t:=39) ?hr ?_;(case hd=>rfl);(case hg=>rfl);(case hr=>first|(go_simp;done)|(go_simp;rfl));intro b9 hg w4 hbox hb;have c1:=zzm (zzp zzh1 hb);have c3:=zzm (hbox);have c4:=zzm ((by rw [hg];exact (zzo zzh1):w.heap.size≤b9));have d6:=zzm ((by rw [hg];exact (zzo zzh1):w.heap.size≤b9));clear HB;have HB:=c1;have a7:=c3;have g7:=c4;have g8:=d6;clear c1 c3 c4 d6 hb hbox hg;obtain ⟨e0,e1,e2,e3,e4,e5,e6,e7,e8,e9,g0,g1⟩:=zzc6 a7.out;have c6 : 0≤(0:Int):=(by omega);have c7 : 0 < (a0.length:Int):=zzt;obtain ⟨d5,g2,g3,d2,d3,d7,a1,a2,a3,a4,a5,a6,a9,b0,b1,b2⟩:=Qt d4.out 0 c6 c7;cases d7;have g9:(0 < a0.length)=True:=eq_true (by omega);(try rw [show ((0:Int)).toNat=0 from rfl] at a1);(try rw [show 0 * 6=0 from rfl] at a1);(try rw [Addr.add_zero'] at a1);(try rw [show ((0:Int)).toNat=0 from rfl] at a2);(try rw [show 0 * 6=0 from rfl] at a2);(try rw [Addr.add_zero'] at a2);(try rw [show ((0:Int)).toNat=0 from rfl] at a3);(try rw [show 0 * 6=0 from rfl] at a3);(try rw [Addr.add_zero'] at a3);(try rw [show ((0:Int)).toNat=0 from rfl] at a4);(try rw [show 0 * 6=0 from rfl] at a4);(try rw [Addr.add_zero'] at a4);(try rw [show ((0:Int)).toNat=0 from rfl] at a5);(try rw [show 0 * 6=0 from rfl] at a5);(try rw [Addr.add_zero'] at a5);(try rw [show ((0:Int)).toNat=0 from rfl] at a6);(try rw [show 0 * 6=0 from rfl] at a6);(try rw [Addr.add_zero'] at a6);replace a1:=zzx HB.out a1;replace a2:=zzx HB.out a2;replace a3:=zzx HB.out a3;replace a4:=zzx HB.out a4;replace a5:=zzx HB.out a5;replace a6:=zzx HB.out a6;have d8:=zzm b0;have d9:=zzm a9;clear b0 a9;have d0:=zzm b2;have d1:=zzm b1;clear b2 b1;replace c6:=eq_true c6;replace c7:=eq_true c7)|((with_reducible refine gate_dst (N:=8) rfl ?_);refine Kd.R_lit (Kd.int .i64) _ 3 ?hg (N:=8) ?hd (xs:=([1]:List Int)) (inner:=[.int .i64 1]) (ok:=fun _=>True) (okp:=fun _=>True) ?hr ?hp (fun _ hk=>hk) trivial (Below.refl _ _) (Nat.le_refl _) (by simp) ?_;(case hd=>rfl);(case hg=>rfl);(case hr=>first|(go_simp;done)|(go_simp;rfl));(case hp=>exact (Reps.one (show Kd.M (Kd.int .i64) _ _ _ 1 [.int .i64 1] from rfl) (Reps.none _ _)));intro h2 w6 ho7 hb hg_ hnew_;clear hg_ hnew_;(first|rw [← Ny276.out] at ho7|(simp only [Int.reduceToNat] at ho7;rw [← Ny276.out] at ho7));have c1:=zzm (Kd.R_lower ho7 (zzo zzh2));have c3:=zzm (zzh (g:=b9) (o:=.cells #[.bool b3,.bool b4,.int .i64 b5,.int .i64 b6,.int .i64 b7,.slice (some d5) a0.length b8] 39 (0,0)) (zzE a7.out) hb);have c4:=zzm (zzp zzh2 hb);clear a7 HB;have c0:=c1;have a7:=c3;have HB:=c4;clear c1 c3 c4 hb ho7;obtain ⟨g4,g5,eo8⟩:=Kd.R_slice c0.out;subst eo8)|((with_reducible refine gate_callee (f:=53) rfl ?_);refine goesL_ (some 9) rfl rfl Try.func53 (by kernel_rfl) rfl #[.slice d2 ((Qb a0 0).f5).length d3,.slice g4 y276.length g5] rfl zzM2 ?_;(with_reducible refine (slices_Equal_int_int.calls k _ _ ((Qb a0 0).f5) _ _ y276 a8 _ ?side1 ?side2 ?side3 ?side4 A3.out).mono ?_);(case side1=>exact zzcb d0 HB);(case side2=>exact d1.out);(case side3=>repeat (first|exact (Kd.R_reads' c0.out).2.2|(with_reducible refine Kd.C_alloc ?_ _)|(with_reducible refine Kd.C_drewN ?_ _)|(with_reducible refine Kd.C_drew ?_)));(case side4=>exact (Kd.R_reads' c0.out).2.1);rintro e w' ⟨rfl,⟨nd,rfl⟩⟩;refine ⟨_,rfl,?_⟩));go_ret;exact ⟨zzR,zzh3⟩
 ·
  rw [if_neg c2] at H;exact absurd H (by simp)

set_option linter.unusedVariables false
set_option linter.unusedSimpArgs false
abbrev rootCells (a c n:Nat):Array Value:=#[.pointer (some ⟨a,0,none⟩),.pointer (some ⟨c,0,none⟩),.pointer none,.nilIface,.int .i64 (n:Int)]
abbrev nodeCells (a c g v:Nat):Array Value:=#[.pointer (some ⟨a,0,none⟩),.pointer (some ⟨c,0,none⟩),.pointer (some ⟨g,0,none⟩),.iface 3 (.int .i64 (v:Int))]
structure IsList (w:World) (g:Nat) (r:Nat→Nat) (vs:List Nat):Prop where
 r0:r 0=g
 rn:r (vs.length+1)=g
 inj:∀ i j,i≤vs.length→j≤vs.length→r i=r j→i=j
 root:w.heap[g]? = some (.cells (rootCells (r 1) (r vs.length) vs.length) 79 (0,0))
 node:∀ j (h:j < vs.length),w.heap[r (j+1)]? = some (.cells (nodeCells (r (j+2)) (r j) g vs[j]) 66 (0,0))
theorem IsList.of_heap {w w1:World} {g:Nat} {r:Nat→Nat} {vs:List Nat} (h:IsList w g r vs) (hm:∀ i,i≤vs.length→w1.heap[r i]? = w.heap[r i]?):IsList w1 g r vs:=
 ⟨h.r0,h.rn,h.inj,by have:=hm 0 (Nat.zero_le _);rw [h.r0] at this;exact this.trans h.root,fun j hj=>(hm (j+1) hj).trans (h.node j hj)⟩
theorem IsList.lt {w:World} {g:Nat} {r:Nat→Nat} {vs:List Nat} (h:IsList w g r vs) (i:Nat) (hi:i≤vs.length):r i < w.heap.size:=by
 cases i with
 | zero=>rw [h.r0];exact blk_lt h.root
 | succ i=>exact blk_lt (h.node i hi)
theorem IsList.below {w w1:World} {g:Nat} {r:Nat→Nat} {vs:List Nat} (h:IsList w g r vs) (hb:Below w.heap.size w w1):IsList w1 g r vs:=h.of_heap fun i hi=>hb.block _ (h.lt i hi)
abbrev zeroRoot:Array Value:=#[.pointer none,.pointer none,.pointer none,.nilIface,.int .i64 0]
set_option maxHeartbeats 8000000 in
theorem list_Init.calls (g:Nat) (w:World) (hg:w.heap[g]? = some (.cells zeroRoot 79 (0,0))) :
  Calls Try.prog 50 #[.pointer (some ⟨g,0,none⟩)] w fun e w'=>e = .returned (.pointer (some ⟨g,0,none⟩))∧w'.heap[g]? = some (.cells (rootCells g g 0) 79 (0,0))∧∀ B,B≤g→Below B w w':=by
 have HG:=zzm hg;have hf0:=zzl hg 0;have hf1:=zzl hg 1;have hf4:=zzl hg 4;have a0:w.cell? ⟨g,0,none⟩=some (.pointer none):=(zzk hg 0).trans rfl;have a1:w.cell? ⟨g,1,none⟩=some (.pointer none):=(zzk hg 1).trans rfl;have a2:w.cell? ⟨g,4,none⟩=some (.int .i64 0):=(zzk hg 4).trans rfl;clear hg;go_enter Try.func50,Try.ntmps50;go_wp2;go_ret;exact ⟨rfl,zzi (zzi (zzi HG.out 0 _ rfl) 1 _ rfl) 4 _ rfl,fun B hB=>(((Below.refl _ _).setCell (p:=⟨g,0,none⟩) hB _).setCell (p:=⟨g,1,none⟩) hB _).setCell (p:=⟨g,4,none⟩) hB _⟩
theorem alloc_root {o:Oper} (ρ:Operand→Value) (ho:o.op = .alloc 79) (W:World):(execOp ρ o).run Try.prog W = .ok (.value (.pointer (some ⟨W.heap.size,0,none⟩))) (W.alloc (.cells zeroRoot 79 (0,0))):=by
 obtain ⟨i0,hi,hz0,hz1,hz2⟩:=info_parts (show (Try.prog.info? 79).map (fun i=>(i.zero,i.size,i.bytes))=some (some (.agg zeroRoot),5,48) by kernel_rfl);have hz:(zeroValue 79).run Try.prog W = .ok (.agg zeroRoot) W:=by simp [zeroValue,typeInfo,hi,hz0,go_sem]
 obtain ⟨op,dst,guard,pos,x1,x2⟩:=o;subst ho;simp [execOp,Instr.alloc,hz,newVar,newRow,go_sem]
set_option maxHeartbeats 8000000 in
theorem list_New.calls (w:World) :
  Calls Try.prog 35 #[] w fun e w'=>∃ g r,e = .returned (.pointer (some ⟨g,0,none⟩))∧IsList w' g r []∧w.heap.size≤g∧Below w.heap.size w w':=by
 have HB:=zzm (Below.refl w.heap.size w);go_enter Try.func35,Try.ntmps35;go_wp2_with (first|((with_reducible refine gate_dst (N:=1) rfl ?_);refine box_event ?hg (N:=1) ?hd (cs:=zeroRoot) (t:=79) ?hr ?_;(case hd=>rfl);(case hg=>rfl);(case hr=>exact alloc_root _ rfl _);intro g hg w1 hbox hb;have BK:=zzm hbox;have HB0:=zzm (zzp HB.out hb);have HG:=zzm (show w.heap.size≤g by rw [hg];exact HB.out.size);clear hb hbox hg)|((with_reducible refine gate_callee (f:=50) rfl ?_);refine goesL_ (some 2) rfl rfl Try.func50 (by kernel_rfl) rfl #[.pointer (some ⟨g,0,none⟩)] rfl (by (try simp only [map_toArray,map_cons,map_nil]);first|done|rfl) ?_;(with_reducible refine (list_Init.calls _ _ BK.out).mono ?_);rintro e w9 ⟨rfl,hx,hb⟩;refine ⟨_,rfl,?_⟩;have a0:=zzm hx;have HB2:=zzm (below_weaken HB0.out HG.out (hb _ (Nat.le_refl _)));clear hb hx));go_ret;refine ⟨g,fun _=>g,rfl,⟨rfl,rfl,fun i j hi hj _=>by simp at hi hj;omega,a0.out,fun j h=>absurd h (by simp)⟩,HG.out,HB2.out⟩
theorem neq_ptr_other {w:World} {c g:Nat} {cc cg:Array Value} {tc tg:TypeId} (hne:c≠g) (hc:w.heap[c]? = some (.cells cc tc (0,0))) (hg:w.heap[g]? = some (.cells cg tg (0,0))) :
  (binOp .neq 62 (.pointer (some ⟨c,0,none⟩)) (.pointer (some ⟨g,0,none⟩))).run Try.prog w = .ok (.bool true) w:=by
 obtain ⟨i0,hi,hz0,hz1,hz2⟩:=info_parts (show (Try.prog.info? 66).map (fun i=>(i.zero,i.size,i.bytes))=some (some (.agg #[.pointer none,.pointer none,.pointer none,.nilIface]),4,40) by kernel_rfl);have hne' : (⟨c,0,none⟩:Addr)≠⟨g,0,none⟩:=fun e=>hne (by injection e);have h:∀ d:Nat,(Op.equalIn (d+1) 62 (.pointer (some ⟨c,0,none⟩)) (.pointer (some ⟨g,0,none⟩))).run Try.prog w = .ok false w:=fun d=>by
  simp [Op.equalIn,run_underlying Try.underlying62,sizeOf,typeInfo,hi,show i0.size≠0 by omega,run_sameAddr_other w hne' hc hg]
 simp only [binOp];simp [Op.equal,Op.maxDepth,h 9999]
theorem neq_ptr_same {w:World} {g:Nat} : (binOp .neq 62 (.pointer (some ⟨g,0,none⟩)) (.pointer (some ⟨g,0,none⟩))).run Try.prog w = .ok (.bool false) w:=by
 obtain ⟨i0,hi,hz0,hz1,hz2⟩:=info_parts (show (Try.prog.info? 66).map (fun i=>(i.zero,i.size,i.bytes))=some (some (.agg #[.pointer none,.pointer none,.pointer none,.nilIface]),4,40) by kernel_rfl);exact Lib.run_neq_ptr_same w _ Try.underlying62 hi
theorem eql_ptr_same {w:World} {g:Nat} : (binOp .eql 60 (.pointer (some ⟨g,0,none⟩)) (.pointer (some ⟨g,0,none⟩))).run Try.prog w = .ok (.bool true) w:=by
 obtain ⟨i0,hi,hz0,hz1,hz2⟩:=info_parts (show (Try.prog.info? 79).map (fun i=>(i.zero,i.size,i.bytes))=some (some (.agg zeroRoot),5,48) by kernel_rfl);exact run_eql_ptr_same w _ Try.underlying60 hi
set_option maxHeartbeats 8000000 in
theorem list_Front.calls (g:Nat) (r:Nat→Nat) (vs:List Nat) (w:World) (h:IsList w g r vs) (hn:vs.length < 1000000000000) :
  Calls Try.prog 37 #[.pointer (some ⟨g,0,none⟩)] w fun e w'=>e = .returned (.pointer (if 0 < vs.length then some ⟨r 1,0,none⟩ else none))∧Drawn0 w w':=by
 have a1:w.cell? ⟨g,0,none⟩=some (.pointer (some ⟨r 1,0,none⟩)):=(zzk h.root 0).trans rfl;have a0:w.cell? ⟨g,4,none⟩=some (.int .i64 (vs.length:Int)):=(zzk h.root 4).trans rfl;clear h;by_cases hz:vs.length=0
 ·rw [hz] at a0
  rw [if_neg (by omega)];clear hz;go_enter Try.func37,Try.ntmps37;go_wp2;go_ret;exact ⟨rfl,by repeat (first|exact Drawn0.refl _|apply Drawn0.step)⟩
 ·have hz' : ((vs.length:Int)==0)=false:=by simpa using hz
  rw [if_pos (by omega)];clear hz;go_enter Try.func37,Try.ntmps37;go_wp2;go_ret;exact ⟨rfl,by repeat (first|exact Drawn0.refl _|apply Drawn0.step)⟩
set_option maxHeartbeats 8000000 in
theorem list_Next.calls (g:Nat) (r:Nat→Nat) (vs:List Nat) (w:World) (h:IsList w g r vs) (p:Nat) (hp:p < vs.length) :
  Calls Try.prog 38 #[.pointer (some ⟨r (p+1),0,none⟩)] w fun e w'=>e = .returned (.pointer (if p+1 < vs.length then some ⟨r (p+2),0,none⟩ else none))∧Drawn0 w w':=by
 have a0:w.cell? ⟨r (p+1),0,none⟩=some (.pointer (some ⟨r (p+2),0,none⟩)):=(zzk (h.node p hp) 0).trans rfl;have a1:w.cell? ⟨r (p+1),2,none⟩=some (.pointer (some ⟨g,0,none⟩)):=(zzk (h.node p hp) 2).trans rfl;by_cases hz:p+1 < vs.length
 ·have hne:r (p+2)≠g:=by
   intro e;have:=h.inj (p+2) 0 (by omega) (by omega) (by rw [e,h.r0]);omega
  rw [if_pos hz];have hq:=neq_ptr_other hne (h.node (p+1) hz) h.root;generalize r (p+2)=c at a0 hne hq ⊢;generalize r (p+1)=b at a0 a1 ⊢;clear h hz;go_enter Try.func38,Try.ntmps38;go_wp2;go_ret;exact ⟨rfl,by repeat (first|exact Drawn0.refl _|apply Drawn0.step)⟩
 ·have he:r (p+2)=g:=by rw [show p+2=vs.length+1 by omega];exact h.rn
  rw [if_neg hz];have hq:=neq_ptr_same (w:=w) (g:=g);rw [he] at a0;generalize r (p+1)=b at a0 a1 ⊢;clear h hz he;go_enter Try.func38,Try.ntmps38;go_wp2;go_ret;exact ⟨rfl,by repeat (first|exact Drawn0.refl _|apply Drawn0.step)⟩
set_option maxHeartbeats 8000000 in
theorem list_lazyInit.calls (g:Nat) (r:Nat→Nat) (vs:List Nat) (w:World) (h:IsList w g r vs) :
  Calls Try.prog 51 #[.pointer (some ⟨g,0,none⟩)] w fun e w'=>e = .returned (.tuple #[])∧Drawn0 w w':=by
 have a0:w.cell? ⟨g,0,none⟩=some (.pointer (some ⟨r 1,0,none⟩)):=(zzk h.root 0).trans rfl;generalize r 1=c at a0;clear h;go_enter Try.func51,Try.ntmps51;go_wp2;go_end0;exact ⟨rfl,by repeat (first|exact Drawn0.refl _|apply Drawn0.step)⟩
abbrev freshNode (v:Nat):Array Value:=#[.pointer none,.pointer none,.pointer none,.iface 3 (.int .i64 (v:Int))]
def insW (w:World) (g a b n:Nat):World:=(((((w.setCell ⟨b,1,none⟩ (.pointer (some ⟨a,0,none⟩))).setCell ⟨b,0,none⟩ (.pointer (some ⟨g,0,none⟩))).setCell ⟨a,0,none⟩ (.pointer (some ⟨b,0,none⟩))).setCell ⟨g,1,none⟩ (.pointer (some ⟨b,0,none⟩))).setCell ⟨b,2,none⟩ (.pointer (some ⟨g,0,none⟩))).setCell ⟨g,4,none⟩ (.int .i64 ((n:Int)+1))
set_option maxHeartbeats 8000000 in
theorem insert_core (w:World) (g a b n:Nat) (x4:Value) (hb0:w.cell? ⟨b,0,none⟩=some (.pointer none)) (hb1:w.cell? ⟨b,1,none⟩=some (.pointer none)) (hb2:w.cell? ⟨b,2,none⟩=some (.pointer none)) (ha0:w.cell? ⟨a,0,none⟩=some (.pointer (some ⟨g,0,none⟩))) (hg1:w.cell? ⟨g,1,none⟩=some x4) (hg4:w.cell? ⟨g,4,none⟩=some (.int .i64 (n:Int)))
  (fb0:w.frozen? ⟨b,0,none⟩=false) (fb1:w.frozen? ⟨b,1,none⟩=false) (fb2:w.frozen? ⟨b,2,none⟩=false) (fa0:w.frozen? ⟨a,0,none⟩=false) (fg1:w.frozen? ⟨g,1,none⟩=false) (fg4:w.frozen? ⟨g,4,none⟩=false)
  (hgb:g≠b) (hab:a≠b) (hw:wrap64 ((n:Int)+1)=(n:Int)+1) :
  Calls Try.prog 61 #[.pointer (some ⟨g,0,none⟩),.pointer (some ⟨b,0,none⟩),.pointer (some ⟨a,0,none⟩)] w fun e w'=>e = .returned (.pointer (some ⟨b,0,none⟩))∧w' = insW w g a b n:=by
 have hbg:b≠g:=fun e=>hgb e.symm;have hba:b≠a:=fun e=>hab e.symm;by_cases hag:a=g
 ·subst hag
  go_enter Try.func61,Try.ntmps61;go_wp2;go_ret;exact ⟨rfl,rfl⟩
 ·have hga:g≠a:=fun e=>hag e.symm
  go_enter Try.func61,Try.ntmps61;go_wp2;go_ret;exact ⟨rfl,rfl⟩
def rAdd (r:Nat→Nat) (n b g:Nat):Nat→Nat:=fun i=>if i≤n then r i else if i=n+1 then b else g
theorem far_eq {w:World} {k:Nat} {p:Addr} {u:Value} {o:Option Obj} (hne:k≠p.block) (h:w.heap[k]? = o):(w.setCell p u).heap[k]? = o:=(Below.heap_setCell w p u k hne).trans h
theorem insW_far {w:World} {g a b n k:Nat} (h1:k≠g) (h2:k≠a) (h3:k≠b):(insW w g a b n).heap[k]? = w.heap[k]?:=
 far_eq h1 (far_eq h3 (far_eq h1 (far_eq h2 (far_eq h3 (far_eq h3 rfl)))))
theorem insW_b {w:World} {g a b n v:Nat} (hgb:g≠b) (hab:a≠b) (h:w.heap[b]? = some (.cells (freshNode v) 66 (0,0))):(insW w g a b n).heap[b]? = some (.cells (nodeCells g a g v) 66 (0,0)):=
 far_eq (Ne.symm hgb) (zzi (far_eq (Ne.symm hgb) (far_eq (Ne.symm hab) (zzi (zzi h 1 _ rfl) 0 _ rfl))) 2 _ rfl)
theorem insW_g {w:World} {g a b n c d:Nat} (hgb:g≠b) (hga:g≠a) (h:w.heap[g]? = some (.cells (rootCells c d n) 79 (0,0))):(insW w g a b n).heap[g]? = some (.cells (rootCells c b (n+1)) 79 (0,0)):=
 zzi (far_eq hgb (zzi (far_eq hga (far_eq hgb (far_eq hgb h))) 1 _ rfl)) 4 _ rfl
theorem insW_g0 {w:World} {g b n c d:Nat} (hgb:g≠b) (h:w.heap[g]? = some (.cells (rootCells c d n) 79 (0,0))):(insW w g g b n).heap[g]? = some (.cells (rootCells b b (n+1)) 79 (0,0)):=
 zzi (far_eq hgb (zzi (zzi (far_eq hgb (far_eq hgb h)) 0 _ rfl) 1 _ rfl)) 4 _ rfl
theorem insW_a {w:World} {g a b n c d v:Nat} (hag:a≠g) (hab:a≠b) (h:w.heap[a]? = some (.cells (nodeCells c d g v) 66 (0,0))):(insW w g a b n).heap[a]? = some (.cells (nodeCells b d g v) 66 (0,0)):=
 far_eq hag (far_eq hab (far_eq hag (zzi (far_eq hab (far_eq hab h)) 0 _ rfl)))
theorem insW_size {w:World} {g a b n:Nat} : (insW w g a b n).heap.size=w.heap.size:=by simp [insW]
theorem insW_list {w:World} {g:Nat} {r:Nat→Nat} {vs:List Nat} {v b:Nat} (h:IsList w g r vs) (hb:w.heap[b]? = some (.cells (freshNode v) 66 (0,0))) (hbn:∀ i,i≤vs.length→r i≠b):IsList (insW w g (r vs.length) b vs.length) g (rAdd r vs.length b g) (vs ++ [v]):=by
 have hgb:g≠b:=by have:=hbn 0 (Nat.zero_le _);rwa [h.r0] at this
 have hlen:(vs ++ [v]).length=vs.length+1:=by simp
 refine ⟨?_,?_,?_,?_,?_⟩
 ·unfold rAdd;rw [if_pos (Nat.zero_le _)];exact h.r0
 ·unfold rAdd;rw [hlen,if_neg (by omega),if_neg (by omega)]
 ·intro i j hi hj he
  rw [hlen] at hi hj;unfold rAdd at he;by_cases h1:i≤vs.length
  ·by_cases h2:j≤vs.length
   ·rw [if_pos h1,if_pos h2] at he;exact h.inj i j h1 h2 he
   ·rw [if_pos h1,if_neg h2,if_pos (by omega)] at he;exact absurd he (hbn i h1)
  ·by_cases h2:j≤vs.length
   ·rw [if_neg h1,if_pos (by omega),if_pos h2] at he;exact absurd he.symm (hbn j h2)
   ·omega
 ·rw [hlen]
  unfold rAdd;rw [if_neg (show ¬ vs.length+1≤vs.length by omega),if_pos rfl];by_cases hz:vs.length=0
  ·rw [if_neg (by omega),if_pos (by omega)]
   have:r vs.length=g:=by rw [hz];exact h.r0
   rw [this];exact insW_g0 hgb h.root
  ·rw [if_pos (by omega)]
   have hga:g≠r vs.length:=fun e=>hz (h.inj vs.length 0 (Nat.le_refl _) (Nat.zero_le _) (by rw [h.r0];exact e.symm));exact insW_g hgb hga h.root
 ·intro j hj
  rw [hlen] at hj;by_cases hl:j=vs.length
  ·subst hl
   have e1:(vs ++ [v])[vs.length]'(by simp)=v:=by simp
   rw [e1];unfold rAdd;rw [if_neg (show ¬ vs.length+1≤vs.length by omega),if_pos rfl,if_neg (show ¬ vs.length+2≤vs.length by omega),if_neg (show ¬ vs.length+2=vs.length+1 by omega),if_pos (Nat.le_refl _)];exact insW_b hgb (hbn _ (Nat.le_refl _)) hb
  ·have hj' : j < vs.length:=by omega
   have e1:(vs ++ [v])[j]'(by simp;omega)=vs[j]:=by simp [List.getElem_append,hj']
   rw [e1];have hne0:r (j+1)≠g:=fun e=>by have:=h.inj (j+1) 0 (by omega) (Nat.zero_le _) (by rw [h.r0];exact e);omega
   unfold rAdd;rw [if_pos (show j+1≤vs.length by omega),if_pos (show j≤vs.length by omega)];by_cases hlast:j+1=vs.length
   ·rw [if_neg (show ¬ j+2≤vs.length by omega),if_pos (show j+2=vs.length+1 by omega)]
    have h3:=h.node j hj';rw [hlast] at h3 hne0 ⊢;exact insW_a hne0 (hbn _ (Nat.le_refl _)) h3
   ·rw [if_pos (show j+2≤vs.length by omega)]
    refine (insW_far hne0 (fun e=>?_) (hbn _ (by omega))).trans (h.node j hj');have:=h.inj (j+1) vs.length (by omega) (Nat.le_refl _) e;omega
theorem insW_below {w:World} {B g a b n:Nat} (h1:B≤g) (h2:B≤a) (h3:B≤b):Below B w (insW w g a b n):=
 ((((((Below.refl _ _).setCell (p:=⟨b,1,none⟩) h3 _).setCell (p:=⟨b,0,none⟩) h3 _).setCell (p:=⟨a,0,none⟩) h2 _).setCell (p:=⟨g,1,none⟩) h1 _).setCell (p:=⟨b,2,none⟩) h3 _).setCell (p:=⟨g,4,none⟩) h1 _
theorem list_insert.calls (g:Nat) (r:Nat→Nat) (vs:List Nat) (v b:Nat) (w:World) (h:IsList w g r vs) (hn:vs.length < 1000000000000) (hb:w.heap[b]? = some (.cells (freshNode v) 66 (0,0))) (hbn:∀ i,i≤vs.length→r i≠b) :
  Calls Try.prog 61 #[.pointer (some ⟨g,0,none⟩),.pointer (some ⟨b,0,none⟩),.pointer (some ⟨r vs.length,0,none⟩)] w fun e w'=>e = .returned (.pointer (some ⟨b,0,none⟩))∧w' = insW w g (r vs.length) b vs.length:=by
 have hgb:g≠b:=by have:=hbn 0 (Nat.zero_le _);rwa [h.r0] at this
 have ha0:w.cell? ⟨r vs.length,0,none⟩=some (.pointer (some ⟨g,0,none⟩))∧w.frozen? ⟨r vs.length,0,none⟩=false:=by
  by_cases hz:vs.length=0
  ·have e0:r vs.length=g:=by rw [hz];exact h.r0
   have e1:r 1=g:=by have:=h.rn;rwa [hz] at this
   have h1:=(zzk h.root 0).trans rfl;rw [e1] at h1;rw [e0];exact ⟨h1,zzl h.root 0⟩
  ·obtain ⟨m,hm⟩:∃ m,vs.length=m+1:=⟨vs.length - 1,by omega⟩
   have h2:=h.node m (by omega);have h1:=(zzk h2 0).trans rfl;have e1:r (m+2)=g:=by have:=h.rn;rwa [hm] at this
   rw [e1] at h1;rw [hm];exact ⟨h1,zzl h2 0⟩
 exact insert_core w g (r vs.length) b vs.length _ ((zzk hb 0).trans rfl) ((zzk hb 1).trans rfl) ((zzk hb 2).trans rfl) ha0.1 ((zzk h.root 1).trans rfl) ((zzk h.root 4).trans rfl) (zzl hb 0) (zzl hb 1) (zzl hb 2) ha0.2 (zzl h.root 1) (zzl h.root 4) hgb (hbn _ (Nat.le_refl _)) (by unfold wrap64;omega)
theorem IsList.fresh {w:World} {g:Nat} {r:Nat→Nat} {vs:List Nat} (h:IsList w g r vs) {b:Nat} (hb:w.heap.size≤b):∀ i,i≤vs.length→r i≠b:=fun i hi e=>by have:=h.lt i hi;omega
def ListKept (w w' : World) (r:Nat→Nat) (n:Nat):Prop:=Kept w w' (fun k=>∃ i,i≤n∧k=r i)
theorem kept_ins {w w1:World} {g b:Nat} {r:Nat→Nat} {n:Nat} (hr0:r 0=g) (hb:Below w.heap.size w w1) (hbs:w.heap.size≤b):ListKept w (insW w1 g (r n) b n) r n:=by
 refine ⟨by rw [insW_size];exact hb.size,fun k hk hS=>?_⟩;refine (insW_far (fun e=>hS ⟨0,Nat.zero_le _,by rw [hr0];exact e⟩) (fun e=>hS ⟨n,Nat.le_refl _,e⟩) (by omega)).trans (hb.block k hk)
set_option maxHeartbeats 8000000 in
theorem list_insertValue.calls (g:Nat) (r:Nat→Nat) (vs:List Nat) (v:Nat) (w:World) (h:IsList w g r vs) (hn:vs.length < 1000000000000) :
  Calls Try.prog 52 #[.pointer (some ⟨g,0,none⟩),.iface 3 (.int .i64 (v:Int)),.pointer (some ⟨r vs.length,0,none⟩)] w fun e w'=>∃ b,e = .returned (.pointer (some ⟨b,0,none⟩))∧w.heap.size≤b∧IsList w' g (rAdd r vs.length b g) (vs ++ [v])∧ListKept w w' r vs.length∧∀ B,B≤w.heap.size→(∀ i,i≤vs.length→B≤r i)→Below B w w':=by
 have HL:=zzm h;have HN:=zzm hn;have HB:=zzm (Below.refl w.heap.size w);have a0:=zzm h.r0;clear hn h;generalize ha:r vs.length=a;have HA:=zzm ha;clear ha;go_enter Try.func52,Try.ntmps52;go_wp2_with (first|((with_reducible refine gate_dst (N:=10) rfl ?_);refine box_event ?hg (N:=10) ?hd (cs:=freshNode v) (t:=66) ?hr ?_;(case hd=>rfl);(case hg=>rfl);(case hr=>first|(go_simp;done)|(go_simp;rfl));intro b hg w1 hbox hb;have BK:=zzm hbox;have HB0:=zzm (zzp HB.out hb);have HG:=zzm (show w.heap.size≤b by rw [hg];exact HB.out.size);have a1:=zzm (HL.out.below hb);clear hb hbox hg)|((with_reducible refine gate_callee (f:=61) rfl ?_);refine goesL_ (some 12) rfl rfl Try.func61 (by kernel_rfl) rfl #[.pointer (some ⟨g,0,none⟩),.pointer (some ⟨b,0,none⟩),.pointer (some ⟨a,0,none⟩)] rfl (by (try simp only [map_toArray,map_cons,map_nil]);first|done|rfl) ?_;rw [← HA.out];(with_reducible refine (list_insert.calls g r vs v b _ a1.out HN.out BK.out (HL.out.fresh HG.out)).mono ?_);rintro e w9 ⟨rfl,hx⟩;refine ⟨_,rfl,?_⟩;have HX:=zzm hx;clear hx));go_ret;have hL:=HL.out;refine ⟨b,rfl,HG.out,?_,?_,?_⟩
 ·rw [HX.out];exact insW_list a1.out BK.out (hL.fresh HG.out)
 ·rw [HX.out];exact kept_ins a0.out HB0.out HG.out
 ·intro B hB hi
  rw [HX.out];exact (HB0.out.mono hB).trans (insW_below (by rw [← a0.out];exact hi 0 (Nat.zero_le _)) (hi _ (Nat.le_refl _)) (Nat.le_trans hB HG.out))
set_option maxHeartbeats 8000000 in
theorem list_PushBack.calls (g:Nat) (r:Nat→Nat) (vs:List Nat) (v:Nat) (w:World) (h:IsList w g r vs) (hn:vs.length < 1000000000000) :
  Calls Try.prog 36 #[.pointer (some ⟨g,0,none⟩),.iface 3 (.int .i64 (v:Int))] w fun e w'=>∃ b,e = .returned (.pointer (some ⟨b,0,none⟩))∧w.heap.size≤b∧IsList w' g (rAdd r vs.length b g) (vs ++ [v])∧ListKept w w' r vs.length∧∀ B,B≤w.heap.size→(∀ i,i≤vs.length→B≤r i)→Below B w w':=by
 have HL:=zzm h;have HN:=zzm hn;have a0:w.cell? ⟨g,1,none⟩=some (.pointer (some ⟨r vs.length,0,none⟩)):=(zzk h.root 1).trans rfl;clear hn h;generalize ha:r vs.length=a at a0;have HA:=zzm ha;clear ha;go_enter Try.func36,Try.ntmps36;go_wp2_with (first|((with_reducible refine gate_callee (f:=51) rfl ?_);refine goesL_ (some 6) rfl rfl Try.func51 (by kernel_rfl) rfl #[.pointer (some ⟨g,0,none⟩)] rfl (by (try simp only [map_toArray,map_cons,map_nil]);first|done|rfl) ?_;(with_reducible refine (list_lazyInit.calls g r vs _ HL.out).mono ?_);rintro e w9 ⟨rfl,hd⟩;refine ⟨_,rfl,?_⟩;obtain ⟨m,rfl⟩:=hd.out;have a1:=zzm (show IsList (w.drewN m) g r vs from HL.out.below (zzb (Below.refl _ _) m));clear hd)|((with_reducible refine gate_callee (f:=52) rfl ?_);refine goesL_ (some 14) rfl rfl Try.func52 (by kernel_rfl) rfl #[.pointer (some ⟨g,0,none⟩),.iface 3 (.int .i64 (v:Int)),.pointer (some ⟨a,0,none⟩)] rfl (by (try simp only [map_toArray,map_cons,map_nil]);first|done|rfl) ?_;rw [← HA.out];(with_reducible refine (list_insertValue.calls g r vs v _ a1.out HN.out).mono ?_);rintro e w9 ⟨b,rfl,hx⟩;refine ⟨_,rfl,?_⟩;have HX:=zzm hx;clear hx));go_ret;obtain ⟨h1,h2,h3,h4⟩:=HX.out;exact ⟨b,rfl,h1,h2,h3,fun B h5 h6=>(zzb (Below.refl _ _) m).trans (h4 B h5 h6)⟩
def remW (w:World) (g a b c n:Nat):World:=(((((w.setCell ⟨a,0,none⟩ (.pointer (some ⟨c,0,none⟩))).setCell ⟨c,1,none⟩ (.pointer (some ⟨a,0,none⟩))).setCell ⟨b,0,none⟩ (.pointer none)).setCell ⟨b,1,none⟩ (.pointer none)).setCell ⟨b,2,none⟩ (.pointer none)).setCell ⟨g,4,none⟩ (.int .i64 ((n:Int) - 1))
set_option maxHeartbeats 8000000 in
theorem remove_core (w:World) (g a b c n:Nat) (x2 x4 x5:Value) (hb0:w.cell? ⟨b,0,none⟩=some (.pointer (some ⟨c,0,none⟩))) (hb1:w.cell? ⟨b,1,none⟩=some (.pointer (some ⟨a,0,none⟩))) (hb2:w.cell? ⟨b,2,none⟩=some x2) (ha0:w.cell? ⟨a,0,none⟩=some x4) (hc1:w.cell? ⟨c,1,none⟩=some x5) (hg4:w.cell? ⟨g,4,none⟩=some (.int .i64 (n:Int)))
  (fb0:w.frozen? ⟨b,0,none⟩=false) (fb1:w.frozen? ⟨b,1,none⟩=false) (fb2:w.frozen? ⟨b,2,none⟩=false) (fa0:w.frozen? ⟨a,0,none⟩=false) (fc1:w.frozen? ⟨c,1,none⟩=false) (fg4:w.frozen? ⟨g,4,none⟩=false)
  (hgb:g≠b) (hab:a≠b) (hcb:c≠b) (hag:a=g∨a≠g) (hcg:c=g∨c≠g) (hac:a=c∨a≠c) (h3:a=c→a=g) (hw:wrap64 ((n:Int) - 1)=(n:Int) - 1) :
  Calls Try.prog 54 #[.pointer (some ⟨g,0,none⟩),.pointer (some ⟨b,0,none⟩)] w fun e w'=>e = .returned (.tuple #[])∧w' = (remW w g a b c n).drew.drew:=by
 have hbg:b≠g:=fun e=>hgb e.symm;have hba:b≠a:=fun e=>hab e.symm;have hbc:b≠c:=fun e=>hcb e.symm;rcases hac with rfl|hac
 ·rcases hag with rfl|hag
  ·clear hcg
   go_enter Try.func54,Try.ntmps54;go_wp2;go_region;go_wp2;go_region;go_wp2;go_end0;exact ⟨rfl,rfl⟩
  ·exact absurd (h3 rfl) hag
 ·have hca:c≠a:=fun e=>hac e.symm
  rcases hag with rfl|hag
  ·clear hcg
   go_enter Try.func54,Try.ntmps54;go_wp2;go_region;go_wp2;go_region;go_wp2;go_end0;exact ⟨rfl,rfl⟩
  ·have hga:g≠a:=fun e=>hag e.symm
   rcases hcg with rfl|hcg
   ·go_enter Try.func54,Try.ntmps54
    go_wp2;go_region;go_wp2;go_region;go_wp2;go_end0;exact ⟨rfl,rfl⟩
   ·have hgc:g≠c:=fun e=>hcg e.symm
    go_enter Try.func54,Try.ntmps54;go_wp2;go_region;go_wp2;go_region;go_wp2;go_end0;exact ⟨rfl,rfl⟩
section
variable {w:World} {g a b c n k x y d v:Nat}
theorem remW_far (h1:k≠g) (h2:k≠a) (h3:k≠b) (h4:k≠c):(remW w g a b c n).heap[k]? = w.heap[k]?:=
 far_eq h1 (far_eq h3 (far_eq h3 (far_eq h3 (far_eq h4 (far_eq h2 rfl)))))
theorem remW_size:(remW w g a b c n).heap.size=w.heap.size:=by simp [remW]
theorem cast_pred:(.int .i64 (((n+1:Nat):Int) - 1):Value) = .int .i64 (n:Int):=by
 congr 1;omega
theorem remW_g (hgb:g≠b) (hga:g≠a) (hgc:g≠c) (h:w.heap[g]? = some (.cells (rootCells x y (n+1)) 79 (0,0))):(remW w g a b c (n+1)).heap[g]? = some (.cells (rootCells x y n) 79 (0,0)):=
 zzi (far_eq hgb (far_eq hgb (far_eq hgb (far_eq hgc (far_eq hga h))))) 4 _ (by rw [cast_pred];rfl)
theorem remW_ga (hgb:g≠b) (hgc:g≠c) (h:w.heap[g]? = some (.cells (rootCells x y (n+1)) 79 (0,0))):(remW w g g b c (n+1)).heap[g]? = some (.cells (rootCells c y n) 79 (0,0)):=
 zzi (far_eq hgb (far_eq hgb (far_eq hgb (far_eq hgc (zzi h 0 _ rfl))))) 4 _ (by rw [cast_pred];rfl)
theorem remW_gc (hgb:g≠b) (hga:g≠a) (h:w.heap[g]? = some (.cells (rootCells x y (n+1)) 79 (0,0))):(remW w g a b g (n+1)).heap[g]? = some (.cells (rootCells x a n) 79 (0,0)):=
 zzi (far_eq hgb (far_eq hgb (far_eq hgb (zzi (far_eq hga h) 1 _ rfl)))) 4 _ (by rw [cast_pred];rfl)
theorem remW_gg (hgb:g≠b) (h:w.heap[g]? = some (.cells (rootCells x y (n+1)) 79 (0,0))):(remW w g g b g (n+1)).heap[g]? = some (.cells (rootCells g g n) 79 (0,0)):=
 zzi (far_eq hgb (far_eq hgb (far_eq hgb (zzi (zzi h 0 _ rfl) 1 _ rfl)))) 4 _ (by rw [cast_pred];rfl)
theorem remW_a (hag:a≠g) (hab:a≠b) (hac:a≠c) (h:w.heap[a]? = some (.cells (nodeCells x y d v) 66 (0,0))):(remW w g a b c n).heap[a]? = some (.cells (nodeCells c y d v) 66 (0,0)):=
 far_eq hag (far_eq hab (far_eq hab (far_eq hab (far_eq hac (zzi h 0 _ rfl)))))
theorem remW_c (hcg:c≠g) (hcb:c≠b) (hca:c≠a) (h:w.heap[c]? = some (.cells (nodeCells x y d v) 66 (0,0))):(remW w g a b c n).heap[c]? = some (.cells (nodeCells x a d v) 66 (0,0)):=
 far_eq hcg (far_eq hcb (far_eq hcb (far_eq hcb (zzi (far_eq hca h) 1 _ rfl))))
theorem remW_v (hbg:b≠g) (hba:b≠a) (hbc:b≠c) (h:w.heap[b]? = some (.cells (nodeCells x y d v) 66 (0,0))):(remW w g a b c n).cell? ⟨b,3,none⟩=some (.iface 3 (.int .i64 (v:Int))):=by
 have h1:(remW w g a b c n).heap[b]? = some (.cells #[.pointer none,.pointer none,.pointer none,.iface 3 (.int .i64 (v:Int))] 66 (0,0)):=far_eq hbg (zzi (zzi (zzi (far_eq hbc (far_eq hba h)) 0 _ rfl) 1 _ rfl) 2 _ rfl);exact (zzk h1 3).trans rfl
theorem remW_below {B:Nat} (h1:B≤g) (h2:B≤a) (h3:B≤b) (h4:B≤c):Below B w (remW w g a b c n):=
 ((((((Below.refl _ _).setCell (p:=⟨a,0,none⟩) h2 _).setCell (p:=⟨c,1,none⟩) h4 _).setCell (p:=⟨b,0,none⟩) h3 _).setCell (p:=⟨b,1,none⟩) h3 _).setCell (p:=⟨b,2,none⟩) h3 _).setCell (p:=⟨g,4,none⟩) h1 _
end
def rRem (r:Nat→Nat) (p:Nat):Nat→Nat:=fun i=>if i≤p then r i else r (i+1)
theorem IsList.ne_root {w:World} {g:Nat} {r:Nat→Nat} {vs:List Nat} (h:IsList w g r vs) {i:Nat} (h0 : 0 < i) (hi:i≤vs.length):r i≠g:=fun e=>by
 have:=h.inj i 0 hi (Nat.zero_le _) (by rw [h.r0];exact e)
 omega
theorem IsList.ne_of {w:World} {g:Nat} {r:Nat→Nat} {vs:List Nat} (h:IsList w g r vs) {i j:Nat} (hi:i≤vs.length) (hj:j≤vs.length+1) (hne:i≠j) (h0:i=0→j≠vs.length+1):r i≠r j:=fun e=>by
 by_cases hl:j=vs.length+1
 ·rw [hl,h.rn] at e
  by_cases hz:i=0
  ·exact h0 hz hl
  ·exact h.ne_root (by omega) hi e
 ·exact hne (h.inj i j hi (by omega) e)
theorem remW_list {w:World} {g:Nat} {r:Nat→Nat} {vs:List Nat} (h:IsList w g r vs) (p:Nat) (hp:p < vs.length):IsList (remW w g (r p) (r (p+1)) (r (p+2)) vs.length) g (rRem r p) (vs.eraseIdx p):=by
 obtain ⟨m,hm⟩:∃ m,vs.length=m+1:=⟨vs.length - 1,by omega⟩;have hlen:(vs.eraseIdx p).length=m:=by rw [List.length_eraseIdx_of_lt hp];omega
 have hgb:g≠r (p+1):=(h.ne_root (by omega) (by omega)).symm;refine ⟨?_,?_,?_,?_,?_⟩
 ·unfold rRem;rw [if_pos (Nat.zero_le _)];exact h.r0
 ·unfold rRem;rw [hlen,if_neg (by omega)];have:=h.rn;rwa [hm] at this
 ·intro i j hi hj he
  rw [hlen] at hi hj;unfold rRem at he;by_cases h1:i≤p
  ·by_cases h2:j≤p
   ·rw [if_pos h1,if_pos h2] at he;exact h.inj i j (by omega) (by omega) he
   ·rw [if_pos h1,if_neg h2] at he;have:=h.inj i (j+1) (by omega) (by omega) he;omega
  ·by_cases h2:j≤p
   ·rw [if_neg h1,if_pos h2] at he;have:=h.inj (i+1) j (by omega) (by omega) he;omega
   ·rw [if_neg h1,if_neg h2] at he;have:=h.inj (i+1) (j+1) (by omega) (by omega) he;omega
 ·rw [hlen,hm]
  have hroot:=h.root;rw [hm] at hroot;unfold rRem;by_cases h1:p=0
  ·subst h1
   rw [if_neg (show ¬ 1≤0 by omega)];by_cases h2:m=0
   ·subst h2
    rw [if_pos (Nat.le_refl _)];have e1:r (0+2)=g:=by have:=h.rn;rwa [hm] at this
    rw [e1,h.r0];exact remW_gg hgb hroot
   ·rw [if_neg (show ¬ m≤0 by omega),h.r0]
    exact remW_ga hgb (h.ne_root (show 0 < 0+2 by omega) (by omega)).symm hroot
  ·rw [if_pos (show 1≤p by omega)]
   by_cases h2:p=m
   ·subst h2
    rw [if_pos (Nat.le_refl _)];have e1:r (p+2)=g:=by have:=h.rn;rwa [hm] at this
    rw [e1];exact remW_gc hgb (h.ne_root (by omega) (by omega)).symm hroot
   ·rw [if_neg (show ¬ m≤p by omega)]
    exact remW_g hgb (h.ne_root (by omega) (by omega)).symm (h.ne_root (by omega) (by omega)).symm hroot
 ·intro j hj
  rw [hlen] at hj;rw [List.getElem_eraseIdx];unfold rRem;by_cases h1:j+1≤p
  ·rw [dif_pos (show j < p by omega),if_pos h1,if_pos (show j≤p by omega)]
   have hj':=h.node j (by omega);have n1:r (j+1)≠g:=h.ne_root (by omega) (by omega);have n2:r (j+1)≠r (p+1):=h.ne_of (by omega) (by omega) (by omega) (by omega);have n3:r (j+1)≠r (p+2):=h.ne_of (by omega) (by omega) (by omega) (by omega);by_cases h2:j+1=p
   ·rw [if_neg (show ¬ j+2≤p by omega)]
    subst h2;exact remW_a n1 n2 n3 hj'
   ·rw [if_pos (show j+2≤p by omega)]
    exact (remW_far n1 (h.ne_of (by omega) (by omega) (by omega) (by omega)) n2 n3).trans hj'
  ·rw [dif_neg (show ¬ j < p by omega),if_neg h1,if_neg (show ¬ j+2≤p by omega)]
   have hj':=h.node (j+1) (by omega);have n1:r (j+2)≠g:=h.ne_root (by omega) (by omega);have n2:r (j+2)≠r (p+1):=h.ne_of (by omega) (by omega) (by omega) (by omega);have n3:r (j+2)≠r p:=h.ne_of (by omega) (by omega) (by omega) (by omega);by_cases h2:j=p
   ·rw [if_pos (show j≤p by omega)]
    subst h2;exact remW_c n1 n2 n3 hj'
   ·rw [if_neg (show ¬ j≤p by omega)]
    exact (remW_far n1 n3 n2 (h.ne_of (by omega) (by omega) (by omega) (by omega))).trans hj'
theorem IsList.drew {w:World} {g:Nat} {r:Nat→Nat} {vs:List Nat} (h:IsList w g r vs):IsList w.drew g r vs:=⟨h.r0,h.rn,h.inj,h.root,h.node⟩
theorem heap_drew2 (W:World):W.drew.drew.heap=W.heap:=rfl
theorem cell_drew2 (W:World) (a:Addr):W.drew.drew.cell? a=W.cell? a:=rfl
set_option maxHeartbeats 8000000 in
theorem list_Remove.calls (g:Nat) (r:Nat→Nat) (vs:List Nat) (p:Nat) (w:World) (h:IsList w g r vs) (hn:vs.length < 1000000000000) (hp:p < vs.length) :
  Calls Try.prog 40 #[.pointer (some ⟨g,0,none⟩),.pointer (some ⟨r (p+1),0,none⟩)] w fun e w'=>e = .returned (.iface 3 (.int .i64 (vs[p]:Int)))∧IsList w' g (rRem r p) (vs.eraseIdx p)∧ListKept w w' r vs.length∧∀ B,(∀ i,i≤vs.length→B≤r i)→Below B w w':=by
 have hb:=h.node p hp;have hb2:w.cell? ⟨r (p+1),2,none⟩=some (.pointer (some ⟨g,0,none⟩)):=(zzk hb 2).trans rfl;have hgb:g≠r (p+1):=(h.ne_root (by omega) (by omega)).symm;have hba:r (p+1)≠r p:=h.ne_of (by omega) (by omega) (by omega) (by omega);have hbc:r (p+1)≠r (p+2):=h.ne_of (by omega) (by omega) (by omega) (by omega);have hlast:p+2=vs.length+1→r (p+2)=g:=fun e=>by rw [e];exact h.rn
 have hfirst:p=0→r p=g:=fun e=>by rw [e];exact h.r0
 have ha:(∃ x,w.cell? ⟨r p,0,none⟩=some x)∧w.frozen? ⟨r p,0,none⟩=false:=by
  by_cases hz:p=0
  ·rw [hfirst hz];exact ⟨⟨_,(zzk h.root 0).trans rfl⟩,zzl h.root 0⟩
  ·have h2:=h.node (p - 1) (by omega)
   rw [show p - 1+1=p by omega] at h2;exact ⟨⟨_,(zzk h2 0).trans rfl⟩,zzl h2 0⟩
 have hc:(∃ x,w.cell? ⟨r (p+2),1,none⟩=some x)∧w.frozen? ⟨r (p+2),1,none⟩=false:=by
  by_cases hz:p+2=vs.length+1
  ·rw [hlast hz];exact ⟨⟨_,(zzk h.root 1).trans rfl⟩,zzl h.root 1⟩
  ·have h2:=h.node (p+1) (by omega)
   exact ⟨⟨_,(zzk h2 1).trans rfl⟩,zzl h2 1⟩
 obtain ⟨⟨x4,ha0⟩,fa0⟩:=ha;obtain ⟨⟨x5,a0⟩,fc1⟩:=hc;have hac:r p=r (p+2)→r p=g:=fun e=>by
  by_cases hz:p=0
  ·exact hfirst hz
  ·exact absurd e (h.ne_of (by omega) (by omega) (by omega) (by omega))
 have core:=remove_core w g (r p) (r (p+1)) (r (p+2)) vs.length _ _ _ ((zzk hb 0).trans rfl) ((zzk hb 1).trans rfl) hb2 ha0 a0 ((zzk h.root 4).trans rfl) (zzl hb 0) (zzl hb 1) (zzl hb 2) fa0 fc1 (zzl h.root 4) hgb hba.symm hbc.symm (Decidable.em _) (Decidable.em _) (Decidable.em _) hac (by unfold wrap64;omega);have hL:IsList (remW w g (r p) (r (p+1)) (r (p+2)) vs.length).drew.drew g (rRem r p) (vs.eraseIdx p):=(remW_list h p hp).drew.drew;have hK:ListKept w (remW w g (r p) (r (p+1)) (r (p+2)) vs.length).drew.drew r vs.length:=by
  refine ⟨by rw [World.size_drew,World.size_drew,remW_size];exact Nat.le_refl _,fun k hk hS=>?_⟩;rw [heap_drew2];refine remW_far (fun e=>hS ⟨0,Nat.zero_le _,by rw [h.r0];exact e⟩) (fun e=>hS ⟨p,by omega,e⟩) (fun e=>hS ⟨p+1,by omega,e⟩) (fun e=>?_);by_cases hz:p+2=vs.length+1
  ·exact hS ⟨0,Nat.zero_le _,by rw [h.r0,e];exact hlast hz⟩
  ·exact hS ⟨p+2,by omega,e⟩
 have hB:∀ B,(∀ i,i≤vs.length→B≤r i)→Below B w (remW w g (r p) (r (p+1)) (r (p+2)) vs.length).drew.drew:=fun B hi=>by
  have h0:B≤g:=by rw [← h.r0];exact hi 0 (Nat.zero_le _)
  refine (remW_below h0 (hi _ (by omega)) (hi _ (by omega)) ?_).drew.drew;by_cases hz:p+2=vs.length+1
  ·rw [hlast hz];exact h0
  ·exact hi _ (by omega)
 have hv:(remW w g (r p) (r (p+1)) (r (p+2)) vs.length).drew.drew.cell? ⟨r (p+1),3,none⟩=some (.iface 3 (.int .i64 (vs[p]:Int))):=by rw [cell_drew2];exact remW_v hgb.symm hba hbc hb
 have hq:=eql_ptr_same (w:=w) (g:=g);have CO:=zzm core;have HR:=zzm (And.intro hL (And.intro hK hB));clear core hL hK hB ha0 fa0 a0 fc1 hac hlast hfirst hgb hba hbc hb h hn;generalize (remW w g (r p) (r (p+1)) (r (p+2)) vs.length).drew.drew=W at CO HR hv;generalize r (p+1)=b at CO HR hv hb2 ⊢;generalize vs[p]=v at hv ⊢;go_enter Try.func40,Try.ntmps40;go_wp2_with ((with_reducible refine gate_callee (f:=54) rfl ?_);refine goesL_ (some 13) rfl rfl Try.func54 (by kernel_rfl) rfl #[.pointer (some ⟨g,0,none⟩),.pointer (some ⟨b,0,none⟩)] rfl (by (try simp only [map_toArray,map_cons,map_nil]);first|done|rfl) ?_;(with_reducible refine CO.out.mono ?_);rintro e w9 ⟨rfl,hx⟩;refine ⟨_,rfl,?_⟩;rw [← hx] at hv HR;clear hx);go_ret;exact ⟨rfl,HR.out.1,HR.out.2.1,HR.out.2.2⟩
def ints (l:List Int):Array Value:=(l.map fun x=>Value.int .i64 x).toArray
theorem ints_at {l:List Int} {i:Nat} (h:i < l.length):(ints l)[i]? = some (.int .i64 (l.getD i 0)):=by
 simp [ints,List.getD_eq_getElem?_getD,h]
theorem ints_set (l:List Int) (i:Nat) (x:Int):(ints l).setIfInBounds i (.int .i64 x)=ints (l.set i x):=by
 simp [ints,List.map_set]
structure FSt where
 ws:List Int
 bs:List Int
 op:List Nat
def tellsP (b:S39):Bool:=decide ((Qb b.f5 0).f5 = [1])
def fin1 (l:List S39) (i:Nat) (s:FSt) (k:Nat):FSt:=
 if (Qa l (k:Int)).f2=(Qa l (i:Int)).f2 then ⟨s.ws.set k (if tellsP (Qa l (i:Int))=true then 1 else 2),s.bs.set k (i:Int),s.op⟩ else ⟨s.ws,s.bs,s.op ++ [k]⟩
def fstep (l:List S39) (s:FSt) (i:Nat):FSt:=
 if (Qa l (i:Int)).f2=255 then ⟨s.ws.set i 1,s.bs.set i (-1),s.op⟩
 else if (Qa l (i:Int)).f1=false then ⟨s.ws,s.bs.set i (-1),s.op ++ [i]⟩
 else s.op.foldl (fin1 l i) ⟨s.ws.set i 3,s.bs.set i (-1),[]⟩
def fates0 (n:Nat):FSt:=⟨List.replicate n 0,List.replicate n 0,[]⟩
def fatesTo (l:List S39) (k:Nat):FSt:=(List.range k).foldl (fstep l) (fates0 l.length)
theorem fatesTo_succ (l:List S39) (k:Nat):fatesTo l (k+1)=fstep l (fatesTo l k) k:=by
 unfold fatesTo;rw [List.range_succ,List.foldl_append];rfl
structure FOk (n:Nat) (m:Nat) (s:FSt):Prop where
 lw:s.ws.length=n
 lb:s.bs.length=n
 lo:s.op.length≤m
 op:∀ x∈s.op,x < n
theorem FOk.fin1 {n m:Nat} {s:FSt} (h:FOk n m s) (l:List S39) (i k:Nat) (hk:k < n):FOk n (m+1) (fin1 l i s k):=by
 unfold Ytmloblepcbimkaa.T.fin1;split
 ·exact ⟨by simpa using h.lw,by simpa using h.lb,by have:=h.lo;simp only;omega,h.op⟩
 ·refine ⟨h.lw,h.lb,by have:=h.lo;simp;omega,fun x hx=>?_⟩
  rcases List.mem_append.1 hx with hx|hx
  ·exact h.op x hx
  ·rw [List.mem_singleton.1 hx];exact hk
theorem FOk.mono {n m m' : Nat} {s:FSt} (h:FOk n m s) (hm:m≤m'):FOk n m' s:=⟨h.lw,h.lb,Nat.le_trans h.lo hm,h.op⟩
theorem FOk.fold {n:Nat} (l:List S39) (i:Nat):∀ (xs:List Nat) (m:Nat) (s:FSt),FOk n m s→(∀ x∈xs,x < n)→FOk n (m+xs.length) (xs.foldl (Ytmloblepcbimkaa.T.fin1 l i) s)
 | [],_,_,h,_=>h
 | x::xs,m,s,h,hx=>by
  have:=FOk.fold l i xs (m+1) _ (h.fin1 l i x (hx x (by simp))) (fun y hy=>hx y (by simp [hy]))
  rw [List.foldl_cons,List.length_cons,show m+(xs.length+1)=m+1+xs.length by omega]
  exact this
theorem FOk.step {n m:Nat} {s:FSt} (h:FOk n m s) (l:List S39) (i:Nat) (hi:i < n):FOk n (m+1) (fstep l s i):=by
 unfold fstep;split
 ·exact ⟨by simpa using h.lw,by simpa using h.lb,by have:=h.lo;simp only;omega,h.op⟩
 ·split
  ·refine ⟨h.lw,by simpa using h.lb,by have:=h.lo;simp;omega,fun x hx=>?_⟩
   rcases List.mem_append.1 hx with hx|hx
   ·exact h.op x hx
   ·rw [List.mem_singleton.1 hx];exact hi
  ·have:=FOk.fold l i s.op 0 ⟨s.ws.set i 3,s.bs.set i (-1),[]⟩ ⟨by simpa using h.lw,by simpa using h.lb,by simp,by simp⟩ h.op
   exact this.mono (by have:=h.lo;omega)
theorem fates_ok (l:List S39):∀ k,k≤l.length→FOk l.length k (fatesTo l k)
 | 0,_=>⟨by simp [fatesTo,fates0],by simp [fatesTo,fates0],by simp [fatesTo,fates0],by simp [fatesTo,fates0]⟩
 | k+1,h=>by
  rw [fatesTo_succ]
  exact (fates_ok l k (by omega)).step l k (by omega)
structure FS (w W:World) (n g2 g3 gW gB gl:Nat) (r:Nat→Nat) (s:FSt):Prop where
 ok:FOk n n s
 res:W.heap[g2]? = some (.cells #[.slice none 0 0,.slice none 0 0] 49 (0,0))
 f:W.heap[g3]? = some (.cells #[.slice (some ⟨gW,0,none⟩) n n,.slice (some ⟨gB,0,none⟩) n n] 49 (0,0))
 ww:W.heap[gW]? = some (.cells (ints s.ws) 51 (0,0))
 bb:W.heap[gB]? = some (.cells (ints s.bs) 3 (0,0))
 l:IsList W gl r s.op
 n23:g2≠g3
 below:Below w.heap.size w W
 ge2:w.heap.size≤g2
 ge3:w.heap.size≤g3
 geW:w.heap.size≤gW
 geB:w.heap.size≤gB
 geL:∀ i,i≤s.op.length→w.heap.size≤r i
theorem IsList.ne_ty {W:World} {g x t:Nat} {r:Nat→Nat} {vs:List Nat} {cs:Array Value} (h:IsList W g r vs) (hx:W.heap[x]? = some (.cells cs t (0,0))) (h1 : 79≠t) (h2 : 66≠t):∀ i,i≤vs.length→r i≠x
 | 0,_=>by rw [h.r0];exact blk_ne h.root hx h1
 | i+1,hi=>blk_ne (h.node i hi) hx h2
section
variable {w W W' : World} {n g2 g3 gW gB gl:Nat} {r:Nat→Nat} {s:FSt}
theorem FS.mono (h:FS w W n g2 g3 gW gB gl r s) (hb:Below W.heap.size W W'):FS w W' n g2 g3 gW gB gl r s:=
 ⟨h.ok,zzh h.res hb,zzh h.f hb,zzh h.ww hb,zzh h.bb hb,h.l.below hb,h.n23,zzp h.below hb,h.ge2,h.ge3,h.geW,h.geB,h.geL⟩
theorem FS.setW (h:FS w W n g2 g3 gW gB gl r s) (k:Nat) (x:Int):FS w (W.setCell ⟨gW,k,none⟩ (.int .i64 x)) n g2 g3 gW gB gl r ⟨s.ws.set k x,s.bs,s.op⟩:=
  ⟨⟨by simpa using h.ok.lw,h.ok.lb,h.ok.lo,h.ok.op⟩,zzj h.res (blk_ne h.res h.ww (by decide)) _,zzj h.f (blk_ne h.f h.ww (by decide)) _,zzi h.ww k _ (ints_set _ _ _),zzj h.bb (blk_ne h.bb h.ww (by decide)) _,
   h.l.of_heap (fun i hi=>Below.heap_setCell _ _ _ _ (h.l.ne_ty h.ww (by decide) (by decide) i hi)),h.n23,zzd h.below h.geW,h.ge2,h.ge3,h.geW,h.geB,h.geL⟩
theorem FS.setB (h:FS w W n g2 g3 gW gB gl r s) (k:Nat) (x:Int):FS w (W.setCell ⟨gB,k,none⟩ (.int .i64 x)) n g2 g3 gW gB gl r ⟨s.ws,s.bs.set k x,s.op⟩:=
  ⟨⟨h.ok.lw,by simpa using h.ok.lb,h.ok.lo,h.ok.op⟩,zzj h.res (blk_ne h.res h.bb (by decide)) _,zzj h.f (blk_ne h.f h.bb (by decide)) _,zzj h.ww (blk_ne h.ww h.bb (by decide)) _,zzi h.bb k _ (ints_set _ _ _),
   h.l.of_heap (fun i hi=>Below.heap_setCell _ _ _ _ (h.l.ne_ty h.bb (by decide) (by decide) i hi)),h.n23,zzd h.below h.geB,h.ge2,h.ge3,h.geW,h.geB,h.geL⟩
theorem kept_at {r:Nat→Nat} {m x t:Nat} {cs:Array Value} {gl:Nat} {vs:List Nat} (hl:IsList W gl r vs) (hk:ListKept W W' r vs.length) (hx:W.heap[x]? = some (.cells cs t (0,0))) (h1 : 79≠t) (h2 : 66≠t):W'.heap[x]? = some (.cells cs t (0,0)):=
 (hk.2 x (blk_lt hx) (fun ⟨i,hi,he⟩=>hl.ne_ty hx h1 h2 i hi he.symm)).trans hx
theorem FS.list (h:FS w W n g2 g3 gW gB gl r s) {r' : Nat→Nat} {op' : List Nat} (hl:IsList W' gl r' op') (hk:ListKept W W' r s.op.length) (hb:Below w.heap.size W W') (hr:∀ i,i≤op'.length→w.heap.size≤r' i) (ho:op'.length≤n) (hx:∀ x∈op',x < n):FS w W' n g2 g3 gW gB gl r' ⟨s.ws,s.bs,op'⟩:=
 ⟨⟨h.ok.lw,h.ok.lb,ho,hx⟩,kept_at (m:=0) h.l hk h.res (by decide) (by decide),kept_at (m:=0) h.l hk h.f (by decide) (by decide),kept_at (m:=0) h.l hk h.ww (by decide) (by decide),kept_at (m:=0) h.l hk h.bb (by decide) (by decide),hl,h.n23,h.below.trans hb,h.ge2,h.ge3,h.geW,h.geB,hr⟩
theorem FS.cellW (h:FS w W n g2 g3 gW gB gl r s) (k:Nat) (hk:k < n):(∃ v,W.cell? ⟨gW,k,none⟩=some v)∧W.frozen? ⟨gW,k,none⟩=false:=
 ⟨⟨_,(zzk h.ww k).trans (ints_at (by rw [h.ok.lw];exact hk))⟩,zzl h.ww k⟩
theorem FS.cellB (h:FS w W n g2 g3 gW gB gl r s) (k:Nat) (hk:k < n):(∃ v,W.cell? ⟨gB,k,none⟩=some v)∧W.frozen? ⟨gB,k,none⟩=false:=
 ⟨⟨_,(zzk h.bb k).trans (ints_at (by rw [h.ok.lb];exact hk))⟩,zzl h.bb k⟩
theorem FS.f0 (h:FS w W n g2 g3 gW gB gl r s):W.cell? ⟨g3,0,none⟩=some (.slice (some ⟨gW,0,none⟩) n n):=(zzk h.f 0).trans rfl
theorem FS.f1 (h:FS w W n g2 g3 gW gB gl r s):W.cell? ⟨g3,1,none⟩=some (.slice (some ⟨gB,0,none⟩) n n):=(zzk h.f 1).trans rfl
theorem ints_R {e:Nat} {l:List Int} {g base:Nat} (h:W.heap[g]? = some (.cells (ints l) e (0,0))) (hg:base≤g) (hm:l.length≤maxLen):(Kd.int .i64).R e W base (fun _=>True) (.slice (some ⟨g,0,none⟩) l.length l.length) l:=by
 refine Kd.R_of_own ?_ (fun _ _=>trivial);refine ⟨by simp [encs],.inr ⟨g,l.length,ints l,rfl,hg,h,Nat.le_refl _,hm,by simp [ints],?_⟩⟩;simp [ints,encs];rw [← List.map_take,List.take_length]
end
theorem eq_loop (a b:List Int) (hl:a.length=b.length) (hm:a.length≤9223372036854775807):∀ (d i:Nat),a.length - i=d→i≤a.length→∀ k,d < k→slices_Equal_int_int.l0 k a b (a.length:Int) (i:Int)=some (decide (a.drop i=b.drop i)):=by
 intro d;induction d with
 | zero=>
  intro i hd hi k hk;obtain ⟨k,rfl⟩:∃ k',k=k' + 1:=⟨k - 1,by omega⟩;rw [show a.drop i = [] from List.drop_eq_nil_of_le (by omega),show b.drop i = [] from List.drop_eq_nil_of_le (by omega)];simp only [slices_Equal_int_int.l0,if_neg (show ¬ (i:Int) < (a.length:Int) by omega),decide_true]
 | succ d ih=>
  intro i hd hi k hk;obtain ⟨k,rfl⟩:∃ k',k=k' + 1:=⟨k - 1,by omega⟩;have e1:wrap64 ((i:Int)+1)=((i+1:Nat):Int):=by unfold wrap64;omega
  have r1:∀ l:List Int,i < l.length→l.drop i=rd l (i:Int)::l.drop (i+1):=fun l h=>by
   rw [List.drop_eq_getElem_cons h];simp [rd,List.getD_eq_getElem?_getD,List.getElem?_eq_getElem h]
  rw [r1 a (by omega),r1 b (by omega)];simp only [slices_Equal_int_int.l0,if_pos (show (i:Int) < (a.length:Int) by omega),if_pos (show (0:Int)≤i by omega),if_pos (show (i:Int) < (b.length:Int) by omega),e1];by_cases h0:rd a i=rd b i
  ·rw [if_pos h0,ih (i+1) (by omega) (by omega) k (by omega)]
   simp [h0]
  ·rw [if_neg h0,decide_eq_false (by simp [h0])]
theorem eq_f (a b:List Int) (hm:a.length≤9223372036854775807):slices_Equal_int_int.f (a.length+1) a b=some (decide (a=b)):=by
 unfold slices_Equal_int_int.f;by_cases h:(a.length:Int)=(b.length:Int)
 ·rw [if_pos h]
  have:=eq_loop a b (by omega) hm a.length 0 (by omega) (by omega) (a.length+1) (by omega);simpa using this
 ·rw [if_neg h,decide_eq_false (fun e=>h (by rw [e]))]
theorem tells_calls (b0 b1:Bool) (b2 b3 b4:Int) (A5:Option Addr) (c5:Nat) (l5:List S42) (w:World) (hr:Kd.C k42 w A5 l5.length l5) (hc:l5.length≤c5) (hp : 0 < l5.length) :
  Calls Try.prog 39 #[.agg #[.bool b0,.bool b1,.int .i64 b2,.int .i64 b3,.int .i64 b4,.slice A5 l5.length c5]] w fun e w'=>e = .returned (.bool (decide ((Qb l5 0).f5 = [1])))∧Below w.heap.size w w':=by
 obtain ⟨_,_,_,_,_,_,_,_,_,_,_,_,_,_,_,g5⟩:=Qt hr 0 (by omega) (by omega);have hm:=Kd.C_max g5;refine Rx.calls ((Qb l5 0).f5.length+1) b0 b1 b2 b3 b4 A5 c5 l5 _ w hr hc ?_;unfold Rx.f;rw [if_pos (show (0:Int) < (l5.length:Int) by omega),eq_f _ _ hm];rfl
theorem made_ints (n:Nat):madeCells (Value.int .i64 0).cells n=ints (List.replicate n 0):=by
 apply Array.ext
 ·simp [madeCells,ints]
 ·intro i h1 h2
  have:i % 1=0:=by omega
  simp [madeCells,ints,Value.cells,this]
theorem make70 (n:Nat) (hn:n≤1000000) (W:World):(Instr.makeSlice 47 (.int .i64 (n:Int)) (.int .i64 (n:Int))).run Try.prog W = .ok (.slice (some ⟨W.heap.size,0,none⟩) n n) (W.alloc (.cells (ints (List.replicate n 0)) 51 (0,0))):=by
 obtain ⟨i0,hi,hz0,hz1,hz2⟩:=info_parts (show (Try.prog.info? 51).map (fun i=>(i.zero,i.size,i.bytes))=some (some (.int .i64 0),1,8) by kernel_rfl);have:=run_make (P:=Try.prog) W 47 51 i0 _ Try.underlying47 hi hz0 .i64 .i64 (n:Int) (n:Int) (by omega) (by omega) (by rw [hz2];omega) (by omega);rw [this,hz1,Nat.mul_one,Int.toNat_natCast,made_ints]
theorem make32 (n:Nat) (hn:n≤1000000) (W:World):(Instr.makeSlice 40 (.int .i64 (n:Int)) (.int .i64 (n:Int))).run Try.prog W = .ok (.slice (some ⟨W.heap.size,0,none⟩) n n) (W.alloc (.cells (ints (List.replicate n 0)) 3 (0,0))):=by
 obtain ⟨i0,hi,hz0,hz1,hz2⟩:=info_parts info3;have:=run_make (P:=Try.prog) W 40 3 i0 _ Try.underlying40 hi hz0 .i64 .i64 (n:Int) (n:Int) (by omega) (by omega) (by rw [hz2];omega) (by omega);rw [this,hz1,Nat.mul_one,Int.toNat_natCast,made_ints]
theorem al3_0 (W:World) (a b c:Obj):(((W.alloc a).alloc b).alloc c).heap[W.heap.size]? = some a:=zze (zze (blk_new W a) b) c
theorem al3_1 (W:World) (a b c:Obj):(((W.alloc a).alloc b).alloc c).heap[W.heap.size+1]? = some b:=by
 have:=blk_new (W.alloc a) b;rw [World.size_alloc] at this;exact zze this c
theorem al3_2 (W:World) (a b c:Obj):(((W.alloc a).alloc b).alloc c).heap[W.heap.size+1+1]? = some c:=by
 have:=blk_new ((W.alloc a).alloc b) c;rw [World.size_alloc,World.size_alloc] at this;exact this
theorem assert_int (x:Int) (W:World):(Instr.typeAssert (.iface 3 (.int .i64 x)) 20 3 false).run Try.prog W = .ok (.int .i64 x) W:=by
 simp [Instr.typeAssert,run_underlying Try.underlying3]
set_option maxHeartbeats 8000000 in
theorem Rg.core (A0:Option Addr) (c0:Nat) (l0:List S39) (w:World) (b9:Kd.C k39 w A0 l0.length l0) (a2:l0.length≤c0) (hn:l0.length≤1000000) (hp:∀ j:Nat,j < l0.length→0 < (Qa l0 (j:Int)).f5.length) :
  Calls Try.prog 22 #[.slice A0 l0.length c0] w fun e w'=>∃ v1 v2:Value,e = .returned (.agg #[v1,v2])∧Kd.R (Kd.int .i64) 51 w' w.heap.size (fun _=>True) v1 (fatesTo l0 l0.length).ws∧Kd.R (Kd.int .i64) 3 w' w.heap.size (fun _=>True) v2 (fatesTo l0 l0.length).bs∧Below w.heap.size w w':=by
 have HR:=zzm b9;have HN:=zzm hn;have HP:=zzm hp;have HB:=zzm (Below.refl w.heap.size w);have hm1:=make70 l0.length hn;have hm2:=make32 l0.length hn;clear b9 a2 hn hp;go_enter Try.func22,Try.ntmps22;go_upto_region 1 with ((with_reducible refine gate_dst (N:=2) rfl ?_);refine box_event ?hg (N:=2) ?hd (cs:=#[.slice none 0 0,.slice none 0 0]) (t:=49) ?hr ?_;(case hd=>rfl);(case hg=>rfl);(case hr=>first|(go_simp;done)|(go_simp;rfl));intro g2 hg w1 hbox hb;have HB1:=zzm (zzp HB.out hb);have a0:=zzm hbox;have c7:=zzm (show w.heap.size≤g2 by rw [hg];exact HB.out.size);clear hb hbox hg);refine wp_mono (Q:=fun e a' W=>match e with | .normal=>∃ gW gB g3:Nat,a' = ⟨#[.slice A0 l0.length c0,undef,.pointer (some ⟨g2,0,none⟩),.pointer (some ⟨g3,0,none⟩),undef,undef,undef,undef,undef,undef,.slice A0 l0.length c0,.int .i64 (l0.length:Int),.slice (some ⟨gW,0,none⟩) l0.length l0.length,.slice A0 l0.length c0,.int .i64 (l0.length:Int),.slice (some ⟨gB,0,none⟩) l0.length l0.length,.agg #[.slice (some ⟨gW,0,none⟩) l0.length l0.length,.slice (some ⟨gB,0,none⟩) l0.length l0.length],undef,undef,undef,undef,undef,undef,undef,undef,undef,undef,undef,undef,undef,undef,undef,undef,undef,undef,undef,undef,undef,undef,undef,undef,undef,undef,undef,undef,undef,undef,undef,undef,undef,undef,undef,undef,undef,undef,undef,undef,undef,undef,undef,undef,undef,undef,undef,undef,undef,undef,undef,undef,undef,undef,undef,undef,undef,undef,undef,undef,undef,undef,undef,undef,undef,undef,undef,undef,undef,undef,undef,undef],[]⟩∧Aside0 (W.heap[g2]? = some (.cells #[.slice none 0 0,.slice none 0 0] 49 (0,0)))∧Aside0 (W.heap[g3]? = some (.cells #[.slice (some ⟨gW,0,none⟩) l0.length l0.length,.slice (some ⟨gB,0,none⟩) l0.length l0.length] 49 (0,0)))∧Aside0 (W.heap[gW]? = some (.cells (ints (List.replicate l0.length 0)) 51 (0,0)))∧Aside0 (W.heap[gB]? = some (.cells (ints (List.replicate l0.length 0)) 3 (0,0)))∧Aside0 (Below w.heap.size w W)∧Aside0 (w.heap.size≤g3∧w.heap.size≤gW∧w.heap.size≤gB∧g2≠g3)|_=>False) ?_ ?_
 ·refine wp_region_any (by kernel_rfl) ?_
  change wpAny _ _ _ _ _ _ _ (World.drew _);refine wpAny_take (i:=0) (v:=.slice A0 l0.length c0) rfl (by kernel_rfl) (by kernel_rfl) (by kernel_rfl) (fun _ _ _ h=>h) (Or.inl ⟨by rfl,by intro w;go_simp⟩) ?_;refine wpAny_take (i:=3) (v:=.slice A0 l0.length c0) rfl (by kernel_rfl) (by kernel_rfl) (by kernel_rfl) (fun _ _ _ h=>h) (Or.inl ⟨by rfl,by intro w;go_simp⟩) ?_;refine wpAny_take (i:=1) (v:=.int .i64 (l0.length:Int)) rfl (by kernel_rfl) (by kernel_rfl) (by kernel_rfl) (fun _ _ _ h=>h) (Or.inl ⟨by rfl,by intro w;go_simp⟩) ?_;refine wpAny_take (i:=4) (v:=.int .i64 (l0.length:Int)) rfl (by kernel_rfl) (by kernel_rfl) (by kernel_rfl) (fun _ _ _ h=>h) (Or.inl ⟨by rfl,by intro w;go_simp⟩) ?_;refine wpAny_ready (rs:=[2,5,7]) (by kernel_rfl) (by simp) ?_;refine AllReady.cons rfl (fun K hK=>?_) ?_
  ·go_simp
   refine hK _ _ ?_;clear hK K;refine wpAny_ready (rs:=[5,7]) (by kernel_rfl) (by simp) ?_;refine AllReady.cons rfl (fun K hK=>?_) ?_
   ·go_simp
    refine hK _ _ ?_;clear hK K;refine wpAny_take (i:=6) (v:=?_) rfl (by kernel_rfl) (by kernel_rfl) (by kernel_rfl) (fun _ _ _ h=>h) (Or.inl ⟨by rfl,?_⟩) ?_;rotate_left
    ·intro w
     go_simp;with_reducible rfl
    refine wpAny_ready (rs:=[7]) (by kernel_rfl) (by simp) ?_;refine AllReady.cons rfl (fun K hK=>?_) ?_
    ·go_simp
     refine hK _ _ ?_;clear hK K;refine wpAny_ready (rs:=[8]) (by kernel_rfl) (by simp) ?_;refine AllReady.cons rfl (fun K hK=>?_) AllReady.nil;go_simp;refine hK _ _ ?_;clear hK K;refine wpAny_done (by kernel_rfl) ?_ _;refine ⟨_,_,_,rfl,?_,?_,?_,?_,?_,?_⟩
     ·exact ⟨zzg (zze (zze (zze a0.out _) _) _)⟩
     ·exact ⟨by first|exact zzg (al3_0 _ _ _ _)|exact zzg (al3_1 _ _ _ _)|exact zzg (al3_2 _ _ _ _)⟩
     ·exact ⟨by first|exact zzg (al3_0 _ _ _ _)|exact zzg (al3_1 _ _ _ _)|exact zzg (al3_2 _ _ _ _)⟩
     ·exact ⟨by first|exact zzg (al3_0 _ _ _ _)|exact zzg (al3_1 _ _ _ _)|exact zzg (al3_2 _ _ _ _)⟩
     ·exact ⟨zzc (zza (zza (zza HB1.out _) _) _)⟩
     ·exact ⟨by have h1:=HB1.out.size;have h2:=blk_lt a0.out;refine ⟨?_,?_,?_,?_⟩ <;> omega⟩
    exact AllReady.nil
   refine AllReady.cons rfl (fun K hK=>?_) ?_
   ·go_simp
    refine hK _ _ ?_;clear hK K;refine wpAny_ready (rs:=[5]) (by kernel_rfl) (by simp) ?_;refine AllReady.cons rfl (fun K hK=>?_) ?_
    ·go_simp
     refine hK _ _ ?_;clear hK K;refine wpAny_take (i:=6) (v:=?_) rfl (by kernel_rfl) (by kernel_rfl) (by kernel_rfl) (fun _ _ _ h=>h) (Or.inl ⟨by rfl,?_⟩) ?_;rotate_left
     ·intro w
      go_simp;with_reducible rfl
     refine wpAny_ready (rs:=[8]) (by kernel_rfl) (by simp) ?_;refine AllReady.cons rfl (fun K hK=>?_) AllReady.nil;go_simp;refine hK _ _ ?_;clear hK K;refine wpAny_done (by kernel_rfl) ?_ _;refine ⟨_,_,_,rfl,?_,?_,?_,?_,?_,?_⟩
     ·exact ⟨zzg (zze (zze (zze a0.out _) _) _)⟩
     ·exact ⟨by first|exact zzg (al3_0 _ _ _ _)|exact zzg (al3_1 _ _ _ _)|exact zzg (al3_2 _ _ _ _)⟩
     ·exact ⟨by first|exact zzg (al3_0 _ _ _ _)|exact zzg (al3_1 _ _ _ _)|exact zzg (al3_2 _ _ _ _)⟩
     ·exact ⟨by first|exact zzg (al3_0 _ _ _ _)|exact zzg (al3_1 _ _ _ _)|exact zzg (al3_2 _ _ _ _)⟩
     ·exact ⟨zzc (zza (zza (zza HB1.out _) _) _)⟩
     ·exact ⟨by have h1:=HB1.out.size;have h2:=blk_lt a0.out;refine ⟨?_,?_,?_,?_⟩ <;> omega⟩
    exact AllReady.nil
   exact AllReady.nil
  refine AllReady.cons rfl (fun K hK=>?_) ?_
  ·go_simp
   refine hK _ _ ?_;clear hK K;refine wpAny_ready (rs:=[2,7]) (by kernel_rfl) (by simp) ?_;refine AllReady.cons rfl (fun K hK=>?_) ?_
   ·go_simp
    refine hK _ _ ?_;clear hK K;refine wpAny_take (i:=6) (v:=?_) rfl (by kernel_rfl) (by kernel_rfl) (by kernel_rfl) (fun _ _ _ h=>h) (Or.inl ⟨by rfl,?_⟩) ?_;rotate_left
    ·intro w
     go_simp;with_reducible rfl
    refine wpAny_ready (rs:=[7]) (by kernel_rfl) (by simp) ?_;refine AllReady.cons rfl (fun K hK=>?_) ?_
    ·go_simp
     refine hK _ _ ?_;clear hK K;refine wpAny_ready (rs:=[8]) (by kernel_rfl) (by simp) ?_;refine AllReady.cons rfl (fun K hK=>?_) AllReady.nil;go_simp;refine hK _ _ ?_;clear hK K;refine wpAny_done (by kernel_rfl) ?_ _;refine ⟨_,_,_,rfl,?_,?_,?_,?_,?_,?_⟩
     ·exact ⟨zzg (zze (zze (zze a0.out _) _) _)⟩
     ·exact ⟨by first|exact zzg (al3_0 _ _ _ _)|exact zzg (al3_1 _ _ _ _)|exact zzg (al3_2 _ _ _ _)⟩
     ·exact ⟨by first|exact zzg (al3_0 _ _ _ _)|exact zzg (al3_1 _ _ _ _)|exact zzg (al3_2 _ _ _ _)⟩
     ·exact ⟨by first|exact zzg (al3_0 _ _ _ _)|exact zzg (al3_1 _ _ _ _)|exact zzg (al3_2 _ _ _ _)⟩
     ·exact ⟨zzc (zza (zza (zza HB1.out _) _) _)⟩
     ·exact ⟨by have h1:=HB1.out.size;have h2:=blk_lt a0.out;refine ⟨?_,?_,?_,?_⟩ <;> omega⟩
    exact AllReady.nil
   refine AllReady.cons rfl (fun K hK=>?_) ?_
   ·go_simp
    refine hK _ _ ?_;clear hK K;refine wpAny_ready (rs:=[2]) (by kernel_rfl) (by simp) ?_;refine AllReady.cons rfl (fun K hK=>?_) ?_
    ·go_simp
     refine hK _ _ ?_;clear hK K;refine wpAny_take (i:=6) (v:=?_) rfl (by kernel_rfl) (by kernel_rfl) (by kernel_rfl) (fun _ _ _ h=>h) (Or.inl ⟨by rfl,?_⟩) ?_;rotate_left
     ·intro w
      go_simp;with_reducible rfl
     refine wpAny_ready (rs:=[8]) (by kernel_rfl) (by simp) ?_;refine AllReady.cons rfl (fun K hK=>?_) AllReady.nil;go_simp;refine hK _ _ ?_;clear hK K;refine wpAny_done (by kernel_rfl) ?_ _;refine ⟨_,_,_,rfl,?_,?_,?_,?_,?_,?_⟩
     ·exact ⟨zzg (zze (zze (zze a0.out _) _) _)⟩
     ·exact ⟨by first|exact zzg (al3_0 _ _ _ _)|exact zzg (al3_1 _ _ _ _)|exact zzg (al3_2 _ _ _ _)⟩
     ·exact ⟨by first|exact zzg (al3_0 _ _ _ _)|exact zzg (al3_1 _ _ _ _)|exact zzg (al3_2 _ _ _ _)⟩
     ·exact ⟨by first|exact zzg (al3_0 _ _ _ _)|exact zzg (al3_1 _ _ _ _)|exact zzg (al3_2 _ _ _ _)⟩
     ·exact ⟨zzc (zza (zza (zza HB1.out _) _) _)⟩
     ·exact ⟨by have h1:=HB1.out.size;have h2:=blk_lt a0.out;refine ⟨?_,?_,?_,?_⟩ <;> omega⟩
    exact AllReady.nil
   exact AllReady.nil
  refine AllReady.cons rfl (fun K hK=>?_) ?_
  ·go_simp
   refine hK _ _ ?_;clear hK K;refine wpAny_ready (rs:=[2,5]) (by kernel_rfl) (by simp) ?_;refine AllReady.cons rfl (fun K hK=>?_) ?_
   ·go_simp
    refine hK _ _ ?_;clear hK K;refine wpAny_ready (rs:=[5]) (by kernel_rfl) (by simp) ?_;refine AllReady.cons rfl (fun K hK=>?_) ?_
    ·go_simp
     refine hK _ _ ?_;clear hK K;refine wpAny_take (i:=6) (v:=?_) rfl (by kernel_rfl) (by kernel_rfl) (by kernel_rfl) (fun _ _ _ h=>h) (Or.inl ⟨by rfl,?_⟩) ?_;rotate_left
     ·intro w
      go_simp;with_reducible rfl
     refine wpAny_ready (rs:=[8]) (by kernel_rfl) (by simp) ?_;refine AllReady.cons rfl (fun K hK=>?_) AllReady.nil;go_simp;refine hK _ _ ?_;clear hK K;refine wpAny_done (by kernel_rfl) ?_ _;refine ⟨_,_,_,rfl,?_,?_,?_,?_,?_,?_⟩
     ·exact ⟨zzg (zze (zze (zze a0.out _) _) _)⟩
     ·exact ⟨by first|exact zzg (al3_0 _ _ _ _)|exact zzg (al3_1 _ _ _ _)|exact zzg (al3_2 _ _ _ _)⟩
     ·exact ⟨by first|exact zzg (al3_0 _ _ _ _)|exact zzg (al3_1 _ _ _ _)|exact zzg (al3_2 _ _ _ _)⟩
     ·exact ⟨by first|exact zzg (al3_0 _ _ _ _)|exact zzg (al3_1 _ _ _ _)|exact zzg (al3_2 _ _ _ _)⟩
     ·exact ⟨zzc (zza (zza (zza HB1.out _) _) _)⟩
     ·exact ⟨by have h1:=HB1.out.size;have h2:=blk_lt a0.out;refine ⟨?_,?_,?_,?_⟩ <;> omega⟩
    exact AllReady.nil
   refine AllReady.cons rfl (fun K hK=>?_) ?_
   ·go_simp
    refine hK _ _ ?_;clear hK K;refine wpAny_ready (rs:=[2]) (by kernel_rfl) (by simp) ?_;refine AllReady.cons rfl (fun K hK=>?_) ?_
    ·go_simp
     refine hK _ _ ?_;clear hK K;refine wpAny_take (i:=6) (v:=?_) rfl (by kernel_rfl) (by kernel_rfl) (by kernel_rfl) (fun _ _ _ h=>h) (Or.inl ⟨by rfl,?_⟩) ?_;rotate_left
     ·intro w
      go_simp;with_reducible rfl
     refine wpAny_ready (rs:=[8]) (by kernel_rfl) (by simp) ?_;refine AllReady.cons rfl (fun K hK=>?_) AllReady.nil;go_simp;refine hK _ _ ?_;clear hK K;refine wpAny_done (by kernel_rfl) ?_ _;refine ⟨_,_,_,rfl,?_,?_,?_,?_,?_,?_⟩
     ·exact ⟨zzg (zze (zze (zze a0.out _) _) _)⟩
     ·exact ⟨by first|exact zzg (al3_0 _ _ _ _)|exact zzg (al3_1 _ _ _ _)|exact zzg (al3_2 _ _ _ _)⟩
     ·exact ⟨by first|exact zzg (al3_0 _ _ _ _)|exact zzg (al3_1 _ _ _ _)|exact zzg (al3_2 _ _ _ _)⟩
     ·exact ⟨by first|exact zzg (al3_0 _ _ _ _)|exact zzg (al3_1 _ _ _ _)|exact zzg (al3_2 _ _ _ _)⟩
     ·exact ⟨zzc (zza (zza (zza HB1.out _) _) _)⟩
     ·exact ⟨by have h1:=HB1.out.size;have h2:=blk_lt a0.out;refine ⟨?_,?_,?_,?_⟩ <;> omega⟩
    exact AllReady.nil
   exact AllReady.nil
  exact AllReady.nil
 ·intro e a' w2 hq
  cases e with
  | normal=>?_
  | _=>exact hq.elim
  obtain ⟨gW,gB,g3,rfl,H2,H3,HW0,HY0,HB2,HGE⟩:=hq;clear hm1 hm2 HB1 a0;have HS0:=zzm (And.intro H2.out (And.intro H3.out (And.intro HW0.out HY0.out)));go_wp2_with ((with_reducible refine gate_callee (f:=35) rfl ?_);refine goesL_ (some 17) rfl rfl Try.func35 (by kernel_rfl) rfl #[] rfl (by (try simp only [map_toArray,map_cons,map_nil]);first|done|rfl) ?_;(with_reducible refine (list_New.calls _).mono ?_);rintro e w3 ⟨gl,r0,rfl,hl,hge,hb⟩;refine ⟨_,rfl,?_⟩;have HS1:=zzm (show FS w w3 l0.length g2 g3 gW gB gl r0 (fatesTo l0 0) from ⟨(fates_ok l0 0 (Nat.zero_le _)).mono (Nat.zero_le _),zzh HS0.out.1 hb,zzh HS0.out.2.1 hb,zzh HS0.out.2.2.1 hb,zzh HS0.out.2.2.2 hb,hl,HGE.out.2.2.2,zzp HB2.out hb,c7.out,HGE.out.1,HGE.out.2.1,HGE.out.2.2.1,fun i hi=>by have h0:i=0:=Nat.le_zero.1 hi;subst h0;exact Nat.le_trans (Nat.le_trans HB2.out.size hge) (Nat.le_of_eq hl.r0.symm)⟩);clear hl hge hb);clear HS0 H2 H3 HW0 HY0 HB2 HGE;go_loopw [20] (fun i W=>∃ k:Nat,∃ r,k≤l0.length∧i = .int .i64 k∧Aside0 (FS w W l0.length g2 g3 gW gB gl r (fatesTo l0 k))) (fun i _=>l0.length - (intOf i).toNat)
  case atStart=>exact ⟨0,r0,Nat.zero_le _,rfl,HS1⟩
  case round=>
   clear HS1;obtain ⟨k,r,hk,rfl,HS⟩:=hrel;by_cases hlt:k < l0.length
   ·obtain ⟨ad,A5,c5,he,a4,a5,a6,a7,a8,a9,l5,g5⟩:=Q6 HR.out (k:Int) (by omega) (by omega)
    subst he;have hbl:=HS.out.below;replace a4:=(hbl.cell (zzn w _ a4)).trans a4;replace a5:=(hbl.cell (zzn w _ a5)).trans a5;replace a6:=(hbl.cell (zzn w _ a6)).trans a6;replace a7:=(hbl.cell (zzn w _ a7)).trans a7;replace a8:=(hbl.cell (zzn w _ a8)).trans a8;replace a9:=(hbl.cell (zzn w _ a9)).trans a9;simp only [Int.toNat_natCast] at a4 a5 a6 a7 a8 a9;have L5:=zzm l5;have G5:=zzm g5;have P5:=zzm (HP.out k hlt);have hsu:=fatesTo_succ l0 k;unfold fstep at hsu;have HF:=zzm (fates_ok l0 k hk);clear hbl l5 g5;obtain ⟨b,hb_⟩:∃ b,b=Qa l0 (k:Int):=⟨_,rfl⟩;rw [← hb_] at a4 a5 a6 a7 a8 a9 L5 G5 P5 hsu;have HSU:=zzm hsu;have HBE:=zzm hb_;clear hsu hb_;obtain ⟨s,hs_⟩:∃ s,s=fatesTo l0 k:=⟨_,rfl⟩;rw [← hs_] at HS HSU HF;clear hs_;have hks:k < 1000000:=by have:=HN.out;omega
    have hki:(k:Int) < (l0.length:Int):=by omega
    have hki0 : 0≤(k:Int):=by omega
    go_upto_region 6 with ((with_reducible refine gate_dst (N:=6) rfl ?_);refine box_event ?hg (N:=6) ?hd (cs:=#[.bool false,.bool false,.int .i64 0,.int .i64 0,.int .i64 0,.slice none 0 0]) (t:=39) ?hr ?_;(case hd=>rfl);(case hg=>rfl);(case hr=>first|(go_simp;done)|(go_simp;rfl));intro gb hg a3 hbox hb;have HX:=zzm hb;have BX:=zzm hbox;have GX:=zzm (Nat.le_of_eq hg.symm);clear hb hbox hg;have hz0:a3.cell? ⟨_,0,none⟩=some _:=(zzk BX.out 0).trans rfl;have hf0:=zzl BX.out 0;have hz1:a3.cell? ⟨_,1,none⟩=some _:=(zzk BX.out 1).trans rfl;have hf1:=zzl BX.out 1;have hz2:a3.cell? ⟨_,2,none⟩=some _:=(zzk BX.out 2).trans rfl;have hf2:=zzl BX.out 2;have hz3:a3.cell? ⟨_,3,none⟩=some _:=(zzk BX.out 3).trans rfl;have hf3:=zzl BX.out 3;have hz4:a3.cell? ⟨_,4,none⟩=some _:=(zzk BX.out 4).trans rfl;have hf4:=zzl BX.out 4;have hz5:a3.cell? ⟨_,5,none⟩=some _:=(zzk BX.out 5).trans rfl;have hf5:=zzl BX.out 5);have HS4:=zzm (HS.out.mono (((((((HX.out).setCell (p:=⟨gb,0,none⟩) GX.out (.bool b.f0)).setCell (p:=⟨gb,1,none⟩) GX.out (.bool b.f1)).setCell (p:=⟨gb,2,none⟩) GX.out (.int .i64 b.f2)).setCell (p:=⟨gb,3,none⟩) GX.out (.int .i64 b.f3)).setCell (p:=⟨gb,4,none⟩) GX.out (.int .i64 b.f4)).setCell (p:=⟨gb,5,none⟩) GX.out (.slice A5 b.f5.length c5)));have BG4:=zzm (zzi (cs:=#[.bool b.f0,.bool b.f1,.int .i64 b.f2,.int .i64 b.f3,.int .i64 b.f4,.slice none 0 0]) (cs':=#[.bool b.f0,.bool b.f1,.int .i64 b.f2,.int .i64 b.f3,.int .i64 b.f4,.slice A5 b.f5.length c5]) (zzi (cs:=#[.bool b.f0,.bool b.f1,.int .i64 b.f2,.int .i64 b.f3,.int .i64 0,.slice none 0 0]) (cs':=#[.bool b.f0,.bool b.f1,.int .i64 b.f2,.int .i64 b.f3,.int .i64 b.f4,.slice none 0 0]) (zzi (cs:=#[.bool b.f0,.bool b.f1,.int .i64 b.f2,.int .i64 0,.int .i64 0,.slice none 0 0]) (cs':=#[.bool b.f0,.bool b.f1,.int .i64 b.f2,.int .i64 b.f3,.int .i64 0,.slice none 0 0]) (zzi (cs:=#[.bool b.f0,.bool b.f1,.int .i64 0,.int .i64 0,.int .i64 0,.slice none 0 0]) (cs':=#[.bool b.f0,.bool b.f1,.int .i64 b.f2,.int .i64 0,.int .i64 0,.slice none 0 0]) (zzi (cs:=#[.bool b.f0,.bool false,.int .i64 0,.int .i64 0,.int .i64 0,.slice none 0 0]) (cs':=#[.bool b.f0,.bool b.f1,.int .i64 0,.int .i64 0,.int .i64 0,.slice none 0 0]) (zzi (cs:=#[.bool false,.bool false,.int .i64 0,.int .i64 0,.int .i64 0,.slice none 0 0]) (cs':=#[.bool b.f0,.bool false,.int .i64 0,.int .i64 0,.int .i64 0,.slice none 0 0]) (BX.out) 0 (.bool b.f0) rfl) 1 (.bool b.f1) rfl) 2 (.int .i64 b.f2) rfl) 3 (.int .i64 b.f3) rfl) 4 (.int .i64 b.f4) rfl) 5 (.slice A5 b.f5.length c5) rfl);clear hz0 hz1 hz2 hz3 hz4 hz5 hf0 hf1 hf2 hf3 hf4 hf5 a4 a5 a6 a7 a8 a9 HS BX;generalize (((((a3.setCell ⟨gb,0,none⟩ (.bool b.f0)).setCell ⟨gb,1,none⟩ (.bool b.f1)).setCell ⟨gb,2,none⟩ (.int .i64 b.f2)).setCell ⟨gb,3,none⟩ (.int .i64 b.f3)).setCell ⟨gb,4,none⟩ (.int .i64 b.f4)).setCell ⟨gb,5,none⟩ (.slice A5 b.f5.length c5)=c8 at HS4 BG4 ⊢;have b6:=HS4.out.f1;obtain ⟨⟨vy,hy⟩,hfy⟩:=HS4.out.cellB k hlt;go_upto_region 19 with fail;have HS5:=zzm (HS4.out.setB k (-1));have BG5:=zzm (zzj (p:=⟨gB,k,none⟩) BG4.out (blk_ne BG4.out HS4.out.bb (by decide)) (.int .i64 (-1)));clear b6 hy hfy HS4 BG4;generalize c8.setCell ⟨gB,k,none⟩ (.int .i64 (-1))=c1 at HS5 BG5 ⊢;have d1:c1.cell? ⟨gb,1,none⟩=some (.bool b.f1):=(zzk BG5.out 1).trans rfl;have d2:c1.cell? ⟨gb,2,none⟩=some (.int .i64 b.f2):=(zzk BG5.out 2).trans rfl;have a2:=HS5.out.f0;obtain ⟨⟨vw,hw_⟩,hfw⟩:=HS5.out.cellW k hlt;by_cases h255:b.f2=255
    ·have HQ:=zzm (HSU.out.trans (if_pos h255))
     rw [h255] at d2;clear h255;go_wp2;go_roundw
     case rel=>exact ⟨k+1,r,by omega,by go_num,⟨by rw [HQ.out];exact HS5.out.setW k 1⟩⟩
     case measure=>simp [intOf];omega
    ·have h255' : (b.f2==255)=false:=by simpa using h255
     rw [if_neg h255] at HSU;clear h255;have HSU0:=HSU.out;cases hm:b.f1 with
     | false=>
      have HQ:=zzm (HSU0.trans (if_pos hm));rw [hm] at d1;clear HSU0 hm;go_wp2_with ((with_reducible refine gate_callee (f:=36) rfl ?_);refine goesL_ (some 86) rfl rfl Try.func36 (by kernel_rfl) rfl #[.pointer (some ⟨gl,0,none⟩),.iface 3 (.int .i64 (k:Int))] rfl (by (try simp only [map_toArray,map_cons,map_nil]);first|done|rfl) ?_;(with_reducible refine (list_PushBack.calls gl r s.op k _ HS5.out.l (by have:=HF.out.lo;have:=HN.out;omega)).mono ?_);rintro e c4 ⟨nb,rfl,hge,hl,hkp,hbl⟩;refine ⟨_,rfl,?_⟩;have HNB:=zzm hge;have c9:=zzm hl;have HK6:=zzm hkp;have HB6:=zzm (hbl w.heap.size HS5.out.below.size HS5.out.geL);clear hge hl hkp hbl);go_roundw
      case rel=>
       have hge:∀ i,i≤(s.op ++ [k]).length→w.heap.size≤rAdd r s.op.length nb gl i:=by
        intro i hi;unfold rAdd;split
        ·exact HS5.out.geL i (by assumption)
        ·split
         ·exact Nat.le_trans HS5.out.below.size HNB.out
         ·have:=HS5.out.geL 0 (Nat.zero_le _);rw [HS5.out.l.r0] at this;exact this
       have hlo:=HF.out.lo;exact ⟨k+1,rAdd r s.op.length nb gl,by omega,by go_num,⟨by rw [HQ.out];exact HS5.out.list c9.out HK6.out HB6.out hge (by simp;omega) (fun x hx=>by rcases List.mem_append.1 hx with hx|hx;exact HF.out.op x hx;rw [List.mem_singleton.1 hx];exact hlt)⟩⟩
      case measure=>simp [intOf];omega
     | true=>
      rw [if_neg (by rw [hm];simp)] at HSU0;have HQ:=zzm HSU0;rw [hm] at d1;clear HSU0 hm;have BG0:=BG5;go_upto_region 8 with fail;have HS6:=zzm (HS5.out.setW k 3);have BG6:=zzm (zzj (p:=⟨gW,k,none⟩) BG5.out (blk_ne BG5.out HS5.out.ww (by decide)) (.int .i64 3));clear a2 hw_ hfw d1 d2 HS5 BG5 BG0;generalize c1.setCell ⟨gW,k,none⟩ (.int .i64 3)=c4 at HS6 BG6 ⊢;go_wp2_with ((with_reducible refine gate_callee (f:=37) rfl ?_);refine goesL_ (some 34) rfl rfl Try.func37 (by kernel_rfl) rfl #[.pointer (some ⟨gl,0,none⟩)] rfl (by (try simp only [map_toArray,map_cons,map_nil]);first|done|rfl) ?_;(with_reducible refine (list_Front.calls gl r s.op _ HS6.out.l (by have:=HF.out.lo;have:=HN.out;omega)).mono ?_);rintro e d0 ⟨he,hd⟩;obtain ⟨ev,rfl⟩:∃ ev,e = .returned ev:=⟨_,he⟩;have HEV:=zzm (Ending.returned.inj he);clear he;refine ⟨_,rfl,?_⟩;obtain ⟨m,rfl⟩:=hd.out;have HS7:=zzm (HS6.out.mono (zzb (Below.refl _ _) m));have BG7:=zzm (zzf BG6.out m);clear hd HS6 BG6;generalize c4.drewN m=d0 at HS7 BG7 ⊢);go_loopg [7] s.op.length (fun gk v W=>∃ j:Nat,∃ r' : Nat→Nat,∃ st:FSt,j+gk=s.op.length∧st=(s.op.take j).foldl (fin1 l0 k) ⟨s.ws.set k 3,s.bs.set k (-1),[]⟩∧v = .pointer (if j < s.op.length then some ⟨r' (st.op.length+1),0,none⟩ else none)∧Aside0 (FS w W l0.length g2 g3 gW gB gl r' ⟨st.ws,st.bs,st.op++s.op.drop j⟩)∧Aside0 (W.heap[gb]? = some (.cells #[.bool b.f0,.bool b.f1,.int .i64 b.f2,.int .i64 b.f3,.int .i64 b.f4,.slice A5 b.f5.length c5] 39 (0,0))))
      case atStart=>exact ⟨0,r,_,by omega,rfl,by simpa using HEV.out,⟨by simpa using HS7.out⟩,BG7⟩
      case round=>
       clear HS7 BG7;obtain ⟨j,r',st,hjk,hst,rfl,HS,BG⟩:=hrel;by_cases hj:j < s.op.length
       ·have hst2:=hst
        rw [if_pos hj] at *;obtain ⟨x,hx⟩:∃ x,x=s.op[j]:=⟨_,rfl⟩;have hdrop:s.op.drop j=x::s.op.drop (j+1):=by rw [hx];exact List.drop_eq_getElem_cons hj
        have hxn:x < l0.length:=by rw [hx];exact HF.out.op _ (List.getElem_mem hj)
        have htk:s.op.take (j+1)=s.op.take j ++ [x]:=by rw [hx];exact List.take_succ_eq_append_getElem hj
        have hnx:(s.op.take (j+1)).foldl (fin1 l0 k) ⟨s.ws.set k 3,s.bs.set k (-1),[]⟩=fin1 l0 k st x:=by rw [htk,List.foldl_append,← hst];rfl
        have hlen:(st.op++s.op.drop j).length=st.op.length+(s.op.length - j):=by simp
        have hp:st.op.length < (st.op++s.op.drop j).length:=by omega
        have hvx:(st.op++s.op.drop j)[st.op.length]'hp=x:=by simp [hdrop]
        have hlo:st.op.length≤1000000:=by have:=HS.out.ok.lo;have h2:=HN.out;simp only [hlen] at this;omega
        have hlo2:(st.op++s.op.drop j).length < 1000000000000:=by have:=HS.out.ok.lo;have h2:=HN.out;simp only at this;omega
        have hL:=HS.out.l;have hvc:wr.cell? ⟨r' (st.op.length+1),3,none⟩=some (.iface 3 (.int .i64 (x:Int))):=by have:=(zzk (hL.node st.op.length hp) 3).trans rfl;rw [hvx] at this;exact this
        have hNX:=zzm (And.intro hnx (And.intro hst2 (And.intro hdrop (And.intro hxn hjk))));have HLO:=zzm (And.intro hlo2 hp);have HJ:=zzm hj;obtain ⟨d6,A6,c6,he2,ha0,ha1,ha2,ha3,ha4,ha5,l6,g6⟩:=Q6 HR.out (x:Int) (by omega) (by omega);injection he2 with he2;subst he2;replace ha2:=(HS.out.below.cell (zzn w _ ha2)).trans ha2;simp only [Int.toNat_natCast] at ha2;have d2:wr.cell? ⟨gb,2,none⟩=some (.int .i64 b.f2):=(zzk BG.out 2).trans rfl;have hxi:(x:Int) < (l0.length:Int):=by omega
        have hxi0 : 0≤(x:Int):=by omega
        clear hst2 hnx htk hdrop hxn hvx hlo hlo2 hp hlen hL hst hjk hj ha0 ha1 ha3 ha4 ha5 l6 g6 hx;have hxn:x < l0.length:=by omega
        have hta:∀ W:World,(Instr.typeAssert (.iface 3 (.int .i64 (x:Int))) 20 3 false).run Try.prog W = .ok (.int .i64 (x:Int)) W:=fun W=>assert_int _ W;have hP8:∀ W:World,Below wr.heap.size wr W→Aside0 (FS w W l0.length g2 g3 gW gB gl r' ⟨st.ws,st.bs,st.op++s.op.drop j⟩)∧Aside0 (W.heap[gb]? = some (.cells #[.bool b.f0,.bool b.f1,.int .i64 b.f2,.int .i64 b.f3,.int .i64 b.f4,.slice A5 b.f5.length c5] 39 (0,0))):=fun W hb=>⟨⟨HS.out.mono hb⟩,⟨zzh BG.out hb⟩⟩;have HP8:=zzm hP8;clear hP8;by_cases hxe:(Qa l0 (x:Int)).f2=b.f2
        ·have HXE:=zzm hxe
         rw [hxe] at ha2;clear hxe;go_upto_region 12 with (((with_reducible refine gate_callee (f:=38) rfl ?_);refine goesL_ (some 38) rfl rfl Try.func38 (by kernel_rfl) rfl #[.pointer (some ⟨r' (st.op.length+1),0,none⟩)] rfl (by (try simp only [map_toArray,map_cons,map_nil]);first|done|rfl) ?_;(with_reducible refine (list_Next.calls gl r' (st.op++s.op.drop j) _ HS.out.l st.op.length HLO.out.2).mono ?_);rintro e b7 ⟨he,hd⟩;obtain ⟨ev2,rfl⟩:∃ ev,e = .returned ev:=⟨_,he⟩;have HEV2:=zzm (Ending.returned.inj he);clear he;refine ⟨_,rfl,?_⟩;obtain ⟨m2,rfl⟩:=hd.out;clear hd));go_region;obtain ⟨HS8,BG8⟩:=HP8.out _ (zzb (Below.refl _ _) (m2+1));clear hvc ha2 d2 HS BG HP8 hta;generalize wr.drewN (m2+1)=b7 at HS8 BG8 ⊢;obtain ⟨tv,htl⟩:∃ tv,tellsP b=tv:=⟨_,rfl⟩;have HTL:=zzm htl;clear htl;cases tv with
         | true=>
          have a2:=HS8.out.f0;obtain ⟨⟨vw,hw_⟩,hfw⟩:=HS8.out.cellW x hxn;go_upto_region 14 with fail;have HS9:=zzm (HS8.out.setW x 2);have BG9:=zzm (zzj (p:=⟨gW,x,none⟩) BG8.out (blk_ne BG8.out HS8.out.ww (by decide)) (.int .i64 2));clear a2 hw_ hfw HS8 BG8;generalize b7.setCell ⟨gW,x,none⟩ (.int .i64 2)=a1 at HS9 BG9 ⊢;have b0:a1.cell? ⟨gb,0,none⟩=some (.bool b.f0):=(zzk BG9.out 0).trans rfl;have b1:a1.cell? ⟨gb,1,none⟩=some (.bool b.f1):=(zzk BG9.out 1).trans rfl;have b2:a1.cell? ⟨gb,2,none⟩=some (.int .i64 b.f2):=(zzk BG9.out 2).trans rfl;have b3:a1.cell? ⟨gb,3,none⟩=some (.int .i64 b.f3):=(zzk BG9.out 3).trans rfl;have b4:a1.cell? ⟨gb,4,none⟩=some (.int .i64 b.f4):=(zzk BG9.out 4).trans rfl;have b5:a1.cell? ⟨gb,5,none⟩=some (.slice A5 b.f5.length c5):=(zzk BG9.out 5).trans rfl;go_upto_region 15 with (((with_reducible refine gate_callee (f:=39) rfl ?_);refine goesL_ (some 57) rfl rfl Try.func39 (by kernel_rfl) rfl #[.agg #[.bool b.f0,.bool b.f1,.int .i64 b.f2,.int .i64 b.f3,.int .i64 b.f4,.slice A5 b.f5.length c5]] rfl (by (try simp only [map_toArray,map_cons,map_nil]);first|done|rfl) ?_;(with_reducible refine (tells_calls _ _ _ _ _ _ _ b.f5 _ ?s1 L5.out P5.out).mono ?_);(case s1=>exact Kd.C_below G5.out HS9.out.below);rintro e c2 ⟨he,hb⟩;rw [show decide ((Qb b.f5 0).f5 = [1])=true from HTL.out] at he;subst he;refine ⟨_,rfl,?_⟩;have HS10:=zzm (HS9.out.mono hb);have BG10:=zzm (zzh BG9.out hb);clear hb));clear b0 b1 b2 b3 b4 b5 HS9 BG9;have a2:=HS10.out.f0;obtain ⟨⟨vw,hw_⟩,hfw⟩:=HS10.out.cellW x hxn;go_upto_region 16 with fail;have HS11:=zzm (HS10.out.setW x 1);have BG11:=zzm (zzj (p:=⟨gW,x,none⟩) BG10.out (blk_ne BG10.out HS10.out.ww (by decide)) (.int .i64 1));rw [List.set_set] at HS11;clear a2 hw_ hfw HS10 BG10;generalize c2.setCell ⟨gW,x,none⟩ (.int .i64 1)=d3 at HS11 BG11 ⊢;have b6:=HS11.out.f1;obtain ⟨⟨vy,hy⟩,hfy⟩:=HS11.out.cellB x hxn;go_upto_region 17 with fail;have HS12:=zzm (HS11.out.setB x (k:Int));have BG12:=zzm (zzj (p:=⟨gB,x,none⟩) BG11.out (blk_ne BG11.out HS11.out.bb (by decide)) (.int .i64 (k:Int)));clear b6 hy hfy HS11 BG11;generalize d3.setCell ⟨gB,x,none⟩ (.int .i64 (k:Int))=d4 at HS12 BG12 ⊢;go_wp2_with (((with_reducible refine gate_callee (f:=40) rfl ?_);refine goesL_ (some 69) rfl rfl Try.func40 (by kernel_rfl) rfl #[.pointer (some ⟨gl,0,none⟩),.pointer (some ⟨r' (st.op.length+1),0,none⟩)] rfl (by (try simp only [map_toArray,map_cons,map_nil]);first|done|rfl) ?_;(with_reducible refine (list_Remove.calls gl r' (st.op++s.op.drop j) st.op.length _ HS12.out.l HLO.out.1 HLO.out.2).mono ?_);rintro e d5 ⟨rfl,hl,hkp,hbl⟩;refine ⟨_,rfl,?_⟩;have b8:=zzm hl;have HK13:=zzm hkp;have HB13:=zzm (hbl w.heap.size HS12.out.geL);have BG13:=zzm (kept_at (m:=0) HS12.out.l hkp BG12.out (by decide) (by decide));clear hl hkp hbl));go_roundg (gk - 1)
          case measure=>have h1:=hNX.out.2.2.2.2;have h2:=HJ.out;omega
          case rel=>
           obtain ⟨hnx,hst2,hdrop,hxn_,hjk⟩:=hNX.out;have hj:=HJ.out;have hf:fin1 l0 k st x=⟨st.ws.set x 1,st.bs.set x (k:Int),st.op⟩:=by unfold fin1;rw [if_pos (by rw [← HBE.out];exact HXE.out),← HBE.out,HTL.out];rfl
           have her:(st.op++s.op.drop j).eraseIdx st.op.length=st.op++s.op.drop (j+1):=by rw [hdrop];simp [List.eraseIdx_append_of_length_le]
           have hlen:(st.op++s.op.drop j).length=st.op.length+(s.op.length - j):=by simp
           have hEV:=HEV2.out;have hgl:=HS12.out.geL;have hll:=b8.out;rw [her] at hll;refine ⟨j+1,rRem r' st.op.length,_,by omega,hnx.symm,?_,?_,BG13⟩
           ·rw [hf,hEV,hlen]
            unfold rRem;rw [if_neg (show ¬ st.op.length+1≤st.op.length by omega)];by_cases hj2:j+1 < s.op.length
            ·rw [if_pos (show st.op.length+1 < st.op.length+(s.op.length - j) by omega),if_pos hj2]
            ·rw [if_neg (show ¬ st.op.length+1 < st.op.length+(s.op.length - j) by omega),if_neg hj2]
           ·rw [hf]
            refine ⟨HS12.out.list hll HK13.out HB13.out (fun i hi=>?_) ?_ (fun y hy=>?_)⟩
            ·have c3:i+1≤(st.op++s.op.drop j).length:=by rw [hlen];simp at hi;omega
             unfold rRem;split
             ·exact hgl i (by simp only;omega)
             ·exact hgl (i+1) c3
            ·have:=HS12.out.ok.lo;simp only [hlen] at this;simp;omega
            ·refine HS12.out.ok.op y ?_
             rw [show (st.op++s.op.drop j)=st.op++x::s.op.drop (j+1) by rw [hdrop]];rcases List.mem_append.1 hy with h|h
             ·exact List.mem_append_left _ h
             ·exact List.mem_append_right _ (List.mem_cons_of_mem _ h)
         | false=>
          have a2:=HS8.out.f0;obtain ⟨⟨vw,hw_⟩,hfw⟩:=HS8.out.cellW x hxn;go_upto_region 14 with fail;have HS9:=zzm (HS8.out.setW x 2);have BG9:=zzm (zzj (p:=⟨gW,x,none⟩) BG8.out (blk_ne BG8.out HS8.out.ww (by decide)) (.int .i64 2));clear a2 hw_ hfw HS8 BG8;generalize b7.setCell ⟨gW,x,none⟩ (.int .i64 2)=a1 at HS9 BG9 ⊢;have b0:a1.cell? ⟨gb,0,none⟩=some (.bool b.f0):=(zzk BG9.out 0).trans rfl;have b1:a1.cell? ⟨gb,1,none⟩=some (.bool b.f1):=(zzk BG9.out 1).trans rfl;have b2:a1.cell? ⟨gb,2,none⟩=some (.int .i64 b.f2):=(zzk BG9.out 2).trans rfl;have b3:a1.cell? ⟨gb,3,none⟩=some (.int .i64 b.f3):=(zzk BG9.out 3).trans rfl;have b4:a1.cell? ⟨gb,4,none⟩=some (.int .i64 b.f4):=(zzk BG9.out 4).trans rfl;have b5:a1.cell? ⟨gb,5,none⟩=some (.slice A5 b.f5.length c5):=(zzk BG9.out 5).trans rfl;go_upto_region 16 with (((with_reducible refine gate_callee (f:=39) rfl ?_);refine goesL_ (some 57) rfl rfl Try.func39 (by kernel_rfl) rfl #[.agg #[.bool b.f0,.bool b.f1,.int .i64 b.f2,.int .i64 b.f3,.int .i64 b.f4,.slice A5 b.f5.length c5]] rfl (by (try simp only [map_toArray,map_cons,map_nil]);first|done|rfl) ?_;(with_reducible refine (tells_calls _ _ _ _ _ _ _ b.f5 _ ?s1 L5.out P5.out).mono ?_);(case s1=>exact Kd.C_below G5.out HS9.out.below);rintro e c2 ⟨he,hb⟩;rw [show decide ((Qb b.f5 0).f5 = [1])=false from HTL.out] at he;subst he;refine ⟨_,rfl,?_⟩;have HS10:=zzm (HS9.out.mono hb);have BG10:=zzm (zzh BG9.out hb);clear hb));clear b0 b1 b2 b3 b4 b5 HS9 BG9;have HS11:=HS10;have BG11:=BG10;clear HS10 BG10;have b6:=HS11.out.f1;obtain ⟨⟨vy,hy⟩,hfy⟩:=HS11.out.cellB x hxn;go_upto_region 17 with fail;have HS12:=zzm (HS11.out.setB x (k:Int));have BG12:=zzm (zzj (p:=⟨gB,x,none⟩) BG11.out (blk_ne BG11.out HS11.out.bb (by decide)) (.int .i64 (k:Int)));clear b6 hy hfy HS11 BG11;generalize c2.setCell ⟨gB,x,none⟩ (.int .i64 (k:Int))=d4 at HS12 BG12 ⊢;go_wp2_with (((with_reducible refine gate_callee (f:=40) rfl ?_);refine goesL_ (some 69) rfl rfl Try.func40 (by kernel_rfl) rfl #[.pointer (some ⟨gl,0,none⟩),.pointer (some ⟨r' (st.op.length+1),0,none⟩)] rfl (by (try simp only [map_toArray,map_cons,map_nil]);first|done|rfl) ?_;(with_reducible refine (list_Remove.calls gl r' (st.op++s.op.drop j) st.op.length _ HS12.out.l HLO.out.1 HLO.out.2).mono ?_);rintro e d5 ⟨rfl,hl,hkp,hbl⟩;refine ⟨_,rfl,?_⟩;have b8:=zzm hl;have HK13:=zzm hkp;have HB13:=zzm (hbl w.heap.size HS12.out.geL);have BG13:=zzm (kept_at (m:=0) HS12.out.l hkp BG12.out (by decide) (by decide));clear hl hkp hbl));go_roundg (gk - 1)
          case measure=>have h1:=hNX.out.2.2.2.2;have h2:=HJ.out;omega
          case rel=>
           obtain ⟨hnx,hst2,hdrop,hxn_,hjk⟩:=hNX.out;have hj:=HJ.out;have hf:fin1 l0 k st x=⟨st.ws.set x 2,st.bs.set x (k:Int),st.op⟩:=by unfold fin1;rw [if_pos (by rw [← HBE.out];exact HXE.out),← HBE.out,HTL.out];rfl
           have her:(st.op++s.op.drop j).eraseIdx st.op.length=st.op++s.op.drop (j+1):=by rw [hdrop];simp [List.eraseIdx_append_of_length_le]
           have hlen:(st.op++s.op.drop j).length=st.op.length+(s.op.length - j):=by simp
           have hEV:=HEV2.out;have hgl:=HS12.out.geL;have hll:=b8.out;rw [her] at hll;refine ⟨j+1,rRem r' st.op.length,_,by omega,hnx.symm,?_,?_,BG13⟩
           ·rw [hf,hEV,hlen]
            unfold rRem;rw [if_neg (show ¬ st.op.length+1≤st.op.length by omega)];by_cases hj2:j+1 < s.op.length
            ·rw [if_pos (show st.op.length+1 < st.op.length+(s.op.length - j) by omega),if_pos hj2]
            ·rw [if_neg (show ¬ st.op.length+1 < st.op.length+(s.op.length - j) by omega),if_neg hj2]
           ·rw [hf]
            refine ⟨HS12.out.list hll HK13.out HB13.out (fun i hi=>?_) ?_ (fun y hy=>?_)⟩
            ·have c3:i+1≤(st.op++s.op.drop j).length:=by rw [hlen];simp at hi;omega
             unfold rRem;split
             ·exact hgl i (by simp only;omega)
             ·exact hgl (i+1) c3
            ·have:=HS12.out.ok.lo;simp only [hlen] at this;simp;omega
            ·refine HS12.out.ok.op y ?_
             rw [show (st.op++s.op.drop j)=st.op++x::s.op.drop (j+1) by rw [hdrop]];rcases List.mem_append.1 hy with h|h
             ·exact List.mem_append_left _ h
             ·exact List.mem_append_right _ (List.mem_cons_of_mem _ h)
        ·have hxeb:((Qa l0 (x:Int)).f2==b.f2)=false:=by simpa using hxe
         have HXE:=zzm hxe;clear hxe;go_upto_region 12 with (((with_reducible refine gate_callee (f:=38) rfl ?_);refine goesL_ (some 38) rfl rfl Try.func38 (by kernel_rfl) rfl #[.pointer (some ⟨r' (st.op.length+1),0,none⟩)] rfl (by (try simp only [map_toArray,map_cons,map_nil]);first|done|rfl) ?_;(with_reducible refine (list_Next.calls gl r' (st.op++s.op.drop j) _ HS.out.l st.op.length HLO.out.2).mono ?_);rintro e b7 ⟨he,hd⟩;obtain ⟨ev2,rfl⟩:∃ ev,e = .returned ev:=⟨_,he⟩;have HEV2:=zzm (Ending.returned.inj he);clear he;refine ⟨_,rfl,?_⟩;obtain ⟨m2,rfl⟩:=hd.out;clear hd));go_region;obtain ⟨HS8,BG8⟩:=HP8.out _ (zzb (Below.refl _ _) (m2+1));clear hvc ha2 d2 HS BG HP8 hta hxeb;generalize wr.drewN (m2+1)=b7 at HS8 BG8 ⊢;go_wp2;go_roundg (gk - 1)
         case measure=>have h1:=hNX.out.2.2.2.2;have h2:=HJ.out;omega
         case rel=>
          obtain ⟨hnx,hst2,hdrop,hxn_,hjk⟩:=hNX.out;have hj:=HJ.out;have hf:fin1 l0 k st x=⟨st.ws,st.bs,st.op ++ [x]⟩:=by unfold fin1;rw [if_neg (by rw [← HBE.out];exact HXE.out)]
          have hlen:(st.op++s.op.drop j).length=st.op.length+(s.op.length - j):=by simp
          have hEV:=HEV2.out;refine ⟨j+1,r',_,by omega,hnx.symm,?_,?_,BG8⟩
          ·rw [hf,hEV,hlen]
           simp only [List.length_append,List.length_singleton];by_cases hj2:j+1 < s.op.length
           ·rw [if_pos (show st.op.length+1 < st.op.length+(s.op.length - j) by omega),if_pos hj2]
           ·rw [if_neg (show ¬ st.op.length+1 < st.op.length+(s.op.length - j) by omega),if_neg hj2]
          ·rw [hf]
           have:=HS8.out;rw [hdrop] at this;refine ⟨?_⟩;simpa using this
       ·have hjl:j=s.op.length:=by omega
        have hfull:st=s.op.foldl (fin1 l0 k) ⟨s.ws.set k 3,s.bs.set k (-1),[]⟩:=by rw [hst,hjl,List.take_length]
        have HFU:=zzm hfull;have HS':=HS.out;rw [hjl,List.drop_length,List.append_nil] at HS';have HSE:=zzm HS';rw [if_neg hj];clear hst hfull HS' HS hjl hj;go_wp2;go_roundw
        case rel=>exact ⟨k+1,r',by omega,by go_num,⟨by rw [HQ.out,← HFU.out];exact HSE.out⟩⟩
        case measure=>simp [intOf];omega
   ·have hk2:k=l0.length:=by omega
    subst hk2;have a2:=HS.out.f0;have b6:=HS.out.f1;have b9:wr.cell? ⟨g2,0,none⟩=some (.slice none 0 0):=(zzk HS.out.res 0).trans rfl;have d7:wr.cell? ⟨g2,1,none⟩=some (.slice none 0 0):=(zzk HS.out.res 1).trans rfl;have fr0:=zzl HS.out.res 0;have fr1:=zzl HS.out.res 1;have h23:=HS.out.n23;go_wp2;refine bodyPost_ret (results_cell_row rfl _ _ g2 49 #[.slice (some ⟨gW,0,none⟩) l0.length l0.length,.slice (some ⟨gB,0,none⟩) l0.length l0.length] (0,0) _ rfl (zzi (zzi HS.out.res 0 _ rfl) 1 _ rfl) Try.underlying49 rfl (by kernel_rfl)) rfl ?_;have hH:=HS.out;have hmx:l0.length≤maxLen:=by have:=HN.out;unfold maxLen;omega
    have r1:=ints_R (e:=51) (zzj (p:=⟨g2,1,none⟩) (zzj (p:=⟨g2,0,none⟩) hH.ww (blk_ne hH.ww hH.res (by decide)) (.slice (some ⟨gW,0,none⟩) l0.length l0.length)) (blk_ne hH.ww hH.res (by decide)) (.slice (some ⟨gB,0,none⟩) l0.length l0.length)) hH.geW (by rw [hH.ok.lw];exact hmx);have r2:=ints_R (e:=3) (zzj (p:=⟨g2,1,none⟩) (zzj (p:=⟨g2,0,none⟩) hH.bb (blk_ne hH.bb hH.res (by decide)) (.slice (some ⟨gW,0,none⟩) l0.length l0.length)) (blk_ne hH.bb hH.res (by decide)) (.slice (some ⟨gB,0,none⟩) l0.length l0.length)) hH.geB (by rw [hH.ok.lb];exact hmx);rw [hH.ok.lw] at r1;rw [hH.ok.lb] at r2;exact ⟨_,_,rfl,r1,r2,zzd (zzd hH.below hH.ge2) hH.ge2⟩
def fatesFit (l0:List S39):Bool:=decide (l0.length≤1000000)&&l0.all fun b=>decide (0 < b.f5.length)
def Rg.f (l0:List S39):Option (List Int×List Int):=if fatesFit l0=true then some ((fatesTo l0 l0.length).ws,(fatesTo l0 l0.length).bs) else none
theorem Rg.calls (A0:Option Addr) (c0:Nat) (l0:List (S39)) (r1:List Int) (r2:List Int) (w:World) (hr0:Kd.C k39 w A0 l0.length l0) (hc0:l0.length≤c0) (h:Rg.f l0=some (r1,r2)) :
  Calls Try.prog 22 #[.slice A0 l0.length c0] w fun e w'=>∃ v0_ v1_:Value,e = .returned (.agg #[v0_,v1_])∧Kd.R (Kd.int .i64) 51 w' w.heap.size (fun _=>True) v0_ r1∧Kd.R (Kd.int .i64) 3 w' w.heap.size (fun _=>True) v1_ r2∧Below w.heap.size w w':=by
 unfold Rg.f at h;split at h
 ·rename_i hf
  obtain ⟨rfl,rfl⟩:=Prod.mk.inj (Option.some.inj h);unfold fatesFit at hf;rw [Bool.and_eq_true,decide_eq_true_eq,List.all_eq_true] at hf;refine Rg.core A0 c0 l0 w hr0 hc0 hf.1 (fun j hj=>?_);have h2:Qa l0 (j:Int)=l0[j]:=by simp [Qa,List.getD_eq_getElem?_getD,List.getElem?_eq_getElem hj]
  rw [h2];simpa using hf.2 _ (List.getElem_mem hj)
 ·cases h
theorem field_fates (v1 v2:Value) (W:World):(Instr.field 49 (.agg #[v1,v2]) 0).run Try.prog W = .ok v1 W:=by
 have hu:=Try.underlying49;simp [Instr.field,go_sem,asAgg]

set_option linter.unusedVariables false
set_option linter.unusedSimpArgs false
def Qe.l0:Nat→List (S39)→List (S42)→List Int→Int→Int→Option ((List (S42)))
 | 0,_,_,_,_,_=>none
 | k+1,x0,x3,x13,x14,x15=>if x15 < x14 then (if 0≤x15 then (if x15 < (x13.length:Int) then (if (rd x13 x15)=0 then (some x3) else (if (rd x13 x15)=1 then (if x15 < (x0.length:Int) then ((Qn.f k ((Qa x0 x15).f5)).bind fun t318=>(if x3.length+t318.length < 1759218604441 then (Qe.l0 k x0 (x3++t318) x13 x14 (wrap64 (x15+1))) else (none))) else (none)) else (Qe.l0 k x0 x3 x13 x14 (wrap64 (x15+1))))) else (none)) else (none)) else (some x3)
def Qe.f (k:Nat) (l0:List (S39)):Option ((List (S42))):=(some (([]:List (S42)):List (S42))).bind fun y306=>((Qi.f k l0).bind fun t309=>(if t309=true then ((Rg.f l0).bind fun bt310=>(Qe.l0 k l0 y306 bt310.1 (bt310.1.length:Int) 0)) else (some y306)))
set_option maxHeartbeats 8000000 in
theorem Qe.calls (k:Nat) (A0:Option Addr) (c0:Nat) (l0:List (S39)) (r:List (S42)) (w:World) (g3:Kd.C k39 w A0 l0.length l0) (g4:l0.length≤c0) (h:Qe.f k l0=some r) :
  Calls Try.prog 7 #[.slice A0 l0.length c0] w fun e w'=>∃ g5:Value,e = .returned (g5)∧Kd.S kA 42 w' w.heap.size (fun k_=>(w.heap.size≤k_)) g5 r∧Below w.heap.size w w':=by
 have hfld_:=field_fates;have d5:=zzm g3;have e4:=zzm g4;clear g3 g4;have HB:=zzm (Below.refl w.heap.size w);have H:((some (([]:List (S42)):List (S42))).bind fun y306=>((Qi.f k l0).bind fun b4=>(if b4=true then ((Rg.f l0).bind fun b0=>(Qe.l0 k l0 y306 b0.1 (b0.1.length:Int) 0)) else (some y306))))=some r:=h;clear h;obtain ⟨y306,hy306⟩:∃ y_:List (S42),y_=(([]:List (S42))):=⟨_,rfl⟩;replace H:((Qi.f k l0).bind fun b4=>(if b4=true then ((Rg.f l0).bind fun b0=>(Qe.l0 k l0 y306 b0.1 (b0.1.length:Int) 0)) else (some y306)))=some r:=by first|(rw [hy306];with_reducible exact H)|(have H2_:=(Option.bind_some _ _).symm.trans H;rw [hy306];with_reducible exact H2_)|(have H2_:=(Option.bind_some _ _).symm.trans H;with_reducible exact H2_)|with_reducible exact H|(rw [hy306];exact H)|exact H
 have Ny306:=zzm hy306;clear hy306;obtain ⟨b4,A2,H⟩:=zzG H;by_cases c3:b4=true
 ·
  subst c3;replace H:=zzIt H;replace H:=zzH H;obtain ⟨⟨a1,g7⟩,g6,H⟩:=H;replace H:(Qe.l0 k l0 y306 a1 (a1.length:Int) 0)=some r:=H;have A4:=zzm g6;clear g6;have H':=zzm H;clear H;go_enter Try.func7,Try.ntmps7;go_wp2_with (first|((with_reducible refine gate_dst (N:=6) rfl ?_);refine Kd.R_lit kA _ 42 ?hg (N:=6) ?hd (xs:=([]:List (S42))) (inner:=[]) (ok:=(fun k_=>(w.heap.size≤k_))) (okp:=(fun k_=>(w.heap.size≤k_))) ?hr ?hp (fun _ hk=>hk) ((show ∀ k_,w.heap.size≤k_→(fun k_=>(w.heap.size≤k_)) k_ from fun k_ hk=>(Nat.le_trans (zzo zzh1) hk)) _ (Nat.le_refl _)) (Below.refl _ _) (Nat.le_refl _) (by simp) ?_;(case hd=>rfl);(case hg=>rfl);(case hr=>first|(go_simp;done)|(go_simp;rfl));(case hp=>exact (Reps.none _ _));intro g8 w5 ho6 hb hg_ hnew_;replace ho6:=S_of_nilA ho6;clear hg_ hnew_;(first|rw [← Ny306.out] at ho6|(simp only [Int.reduceToNat] at ho6;rw [← Ny306.out] at ho6));have a3:=zzm (Kd.S_lower ho6 (zzo zzh1));have a4:=zzm (zzp zzh1 hb);clear HB;have a2:=a3;have HB:=a4;clear a3 a4 hb ho6)|((with_reducible refine gate_callee (f:=21) rfl ?_);refine goesL_ (some 8) rfl rfl Try.func21 (by kernel_rfl) rfl #[.slice A0 l0.length c0] rfl zzM2 ?_;(with_reducible refine (Qi.calls k _ _ l0 true _ ?side1 ?side2 A2.out).mono ?_);(case side1=>exact zzcb d5 HB);(case side2=>exact e4.out);rintro e w7 ⟨rfl,hb⟩;refine ⟨_,rfl,?_⟩;have a3:=zzm (Kd.S_below (zzS a2.out) hb);have a4:=zzm (zzp zzh1 hb);clear a2 HB;have a2:=a3;have HB:=a4;clear a3 a4;(try clear hb);(try clear hb2);(try clear hk);(try clear hi))|((with_reducible refine gate_callee (f:=22) rfl ?_);refine goesL_ (some 12) rfl rfl Try.func22 (by kernel_rfl) rfl #[.slice A0 l0.length c0] rfl zzM2 ?_;(with_reducible refine (Rg.calls _ _ l0 a1 g7 _ ?side1 ?side2 A4.out).mono ?_);(case side1=>exact zzcb d5 HB);(case side2=>exact e4.out);rintro e w8 ⟨j4,j5,rfl,ho0,ho1,hb⟩;refine ⟨_,rfl,?_⟩;have a3:=zzm (Kd.S_mono (Kd.S_told (Kd.S_told (Kd.S_old (zzS a2.out) hb) (Kd.R_base ho0)) (Kd.R_base ho1)) (fun _ h_=>h_.1));have a4:=zzm (Kd.R_lower (Kd.R_newM (M:=fun k_=>(w.heap.size≤k_)) ho0 (zzo zzh1) (fun k_ h_=>h_)) (zzo zzh1));have b1:=zzm (Kd.R_lower (Kd.R_newM (M:=fun k_=>(w.heap.size≤k_)) ho1 (zzo zzh1) (fun k_ h_=>h_)) (zzo zzh1));have b2:=zzm (zzp zzh1 hb);clear a2 HB;have a2:=a3;have d6:=a4;have h5:=b1;have HB:=b2;clear a3 a4 b1 b2;(try clear hb);(try clear hb2);(try clear hk);(try clear hi);(try clear ho0);(try clear ho1);obtain ⟨h0,h1,eo9⟩:=Kd.R_slice d6.out;subst eo9));go_loopg [3,15] k (fun kq v3 h2 w'=>∃ (a9:List (S42)) (a0:Int),h2 = .int .i64 a0∧Aside0 (Qe.l0 kq l0 a9 a1 (a1.length:Int) a0=some r)∧Aside0 (kq≤k)∧Aside0 (Kd.S kA 42 w' w.heap.size (fun k_=>w.heap.size≤k_) v3 a9)∧Aside0 (Kd.R (Kd.int .i64) 51 w' w.heap.size (fun k_=>(w.heap.size≤k_)) (.slice h0 a1.length h1) a1)∧Aside0 (Below w.heap.size w w'))
  case atStart=>exact ⟨(y306),(0),(by first|rfl|(simp;done)|(simp [*];done)),H',⟨Nat.le_refl _⟩,⟨by (with_reducible repeat (first|apply Kd.S_alloc|apply Kd.S_drewN|apply Kd.S_drew));exact Kd.S_mono a2.out (fun _ hk=>hk.1.1)⟩,⟨by (with_reducible repeat (first|apply Kd.R_alloc|apply Kd.R_drewN|apply Kd.R_drew));exact Kd.R_mono d6.out (fun _ hk=>hk.1)⟩,⟨zzh1⟩⟩
  case round=>
   clear H';try clear c2
   try clear p2
   try clear c3
   try clear c7
   obtain ⟨a9,a0,rfl,HA,HK1,a8,a5,HB⟩:=hrel;cases gk with
   | zero=>exact absurd HA.out (by simp [Qe.l0])
   | succ k1=>
    have H:=HA.out;clear HA;simp only [Qe.l0] at H;by_cases b6:a0 < (a1.length:Int)
    ·
     rw [if_pos b6] at H;have e7:decide (a0 < (a1.length:Int))=true:=decide_eq_true b6;clear b6;by_cases d7 : 0≤a0
     ·
      rw [if_pos d7] at H;have h6:decide (0≤a0)=true:=decide_eq_true d7;clear d7;by_cases d8:a0 < (a1.length:Int)
      ·
       rw [if_pos d8] at H;have h7:decide (a0 < (a1.length:Int))=true:=decide_eq_true d8;clear d8;by_cases d1:(rd a1 a0)=0
       ·
        rw [if_pos d1] at H;obtain ⟨e8,e9⟩:=zzQ d1;clear d1;obtain rfl:=Option.some.inj H;have a6 : 0≤(a0:Int):=zzt;have a7:a0 < (a1.length:Int):=zzt;obtain ⟨d9,b5,b7⟩:=Kd.at_int (Kd.R_reads' a5.out).2.2 a0 a6 a7;cases b5;replace a6:=eq_true a6;replace a7:=eq_true a7;go_wp2;go_ret;exact ⟨_,zzR,by (with_reducible repeat (first|apply Kd.S_alloc|apply Kd.S_drewN|apply Kd.S_drew));exact a8.out,zzh1⟩
       ·
        rw [if_neg d1] at H;obtain ⟨e8,e9⟩:=zzY d1;by_cases d2:(rd a1 a0)=1
        ·
         rw [if_pos d2] at H;obtain ⟨g0,g1⟩:=zzQ d2;clear d2;by_cases e0:a0 < (l0.length:Int)
         ·
          rw [if_pos e0] at H;have h8:decide (a0 < (l0.length:Int))=true:=decide_eq_true e0;clear e0;obtain ⟨d0,h3,H⟩:=zzG H;by_cases e1:a9.length+d0.length < 1759218604441
          ·
           rw [if_pos e1] at H;have LMc17:=zzm e1;clear e1;obtain ⟨y321,hy321⟩:∃ y_:List (S42),y_=(a9++d0):=⟨_,rfl⟩;replace H:(Qe.l0 k1 l0 y321 a1 (a1.length:Int) (wrap64 (a0+1)))=some r:=by first|(rw [hy321];with_reducible exact H)|(have H2_:=(Option.bind_some _ _).symm.trans H;rw [hy321];with_reducible exact H2_)|(have H2_:=(Option.bind_some _ _).symm.trans H;with_reducible exact H2_)|with_reducible exact H|(rw [hy321];exact H)|exact H
           have Ny321:=zzm hy321;clear hy321;have H':=zzm H;clear H;have a6 : 0≤(a0:Int):=zzt;have a7:a0 < (a1.length:Int):=zzt;obtain ⟨d9,b5,b7⟩:=Kd.at_int (Kd.R_reads' a5.out).2.2 a0 a6 a7;cases b5;replace a6:=eq_true a6;replace a7:=eq_true a7;have d3 : 0≤(a0:Int):=zzt;have d4:a0 < (l0.length:Int):=zzt;obtain ⟨h9,e5,e6,g9,b8,b9,c1,c4,c5,c6,c8,c9⟩:=Q6 d5.out a0 d3 d4;cases g9;replace b8:=zzx HB.out b8;replace b9:=zzx HB.out b9;replace c1:=zzx HB.out c1;replace c4:=zzx HB.out c4;replace c5:=zzx HB.out c5;replace c6:=zzx HB.out c6;have e2:=zzm c9;have e3:=zzm c8;clear c9 c8;replace d3:=eq_true d3;replace d4:=eq_true d4;go_wp2_with (first|((with_reducible refine gate_callee (f:=23) rfl ?_);refine goesL_ (some 30) rfl rfl Try.func23 (by kernel_rfl) rfl #[.slice e5 ((Qa l0 a0).f5).length e6] rfl zzM2 ?_;(with_reducible refine (Qn.calls k1 _ _ ((Qa l0 a0).f5) d0 _ ?side1 ?side2 h3.out).mono ?_);(case side1=>exact zzcb e2 HB);(case side2=>exact e3.out);rintro e k0 ⟨j6,rfl,ho0,hb⟩;refine ⟨_,rfl,?_⟩;obtain ⟨Nq,hq0,hq1,hq3,hq4⟩:=two_app (zzS a8.out) hb ho0 (zzo zzh1);have HQ:=zzm (And.intro hq0 hq1);have a3:=zzm hq3;have a4:=zzm (Kd.R_below (by (with_reducible repeat (first|apply Kd.R_alloc|apply Kd.R_drewN|apply Kd.R_drew));exact a5.out) hb);have b1:=zzm hq4;have b2:=zzm (zzp zzh1 hb);clear a8 a5 HB;have a8:=a3;have a5:=a4;have b3:=b1;have HB:=b2;clear a3 a4 b1 b2;(try clear hb);(try clear hb2);(try clear hk);(try clear hi);(try clear ho0 hq0 hq1 hq3 hq4);obtain ⟨j7,j8,eo20⟩:=Kd.S_slice b3.out;subst eo20)|((with_reducible refine gate_builtin (b:=.append) (xs:=#[.tmp 24,.tmp 30]) rfl ?_);at_builtin;refine S_append_rows kA (w0:=w) w.heap.size rfl (.tmp 24) (.tmp 30) 24 42 (.agg #[(.int .i64 0),(.int .i64 0),(.bool false),(.slice none 0 0),(.bool false),(.slice none 0 0)]) 80 rfl Try.underlying24 info42 rfl (by decide) (by omega) u3 a9 d0 _ _ _ (fun k_=>w.heap.size≤k_) (fun k_=>Nq≤k_) rfl rfl ?aO ?aR (fun k_ hk_=>⟨Nat.le_trans HQ.out.1 hk_,fun e_=>absurd (HQ.out.2 k_ e_.symm) (Nat.not_lt.mpr hk_)⟩) ?aF ?aB ?aS ?aL ?_;(case aR=>exact (zzS b3.out));(case aB=>exact zzh1);(case aF=>exact (fun k_ hk=>Nat.le_trans (zzo zzh1) hk));(case aO=>exact (zzS (Kd.S_mono a8.out (fun _ hk=>⟨hk.1,Nat.not_le.mpr hk.2⟩))));(case aS=>exact (zzo zzh1));(case aL=>have:=LMc17.out;omega);intro j9 h4 ho hb hg hat;rw [← Ny321.out] at ho;have a3:=zzm (Kd.R_over' (by (with_reducible repeat (first|apply Kd.R_alloc|apply Kd.R_drewN|apply Kd.R_drew));exact a5.out) (Kd.S_typed (zzS a8.out)) (by decide) hg);have a4:=zzm (Kd.S_nil kA 42 h4 w.heap.size (fun _=>True));have b1:=zzm (hb);have b2:=zzm (ho);clear a5 b3 HB a8;have a5:=a3;have b3:=a4;have HB:=b1;have g2:=b2;clear a3 a4 b1 b2 ho hb hg hat));go_roundg k1
           case measure=>have:=HK1.out;omega
           case rel=>exact ⟨(y321),(wrap64 (a0+1)),(by first|rfl|(simp;done)|(simp [*];done)),H',⟨by have:=HK1.out;omega⟩,⟨by (with_reducible repeat (first|apply Kd.S_alloc|apply Kd.S_drewN|apply Kd.S_drew));exact g2.out⟩,⟨by (with_reducible repeat (first|apply Kd.R_alloc|apply Kd.R_drewN|apply Kd.R_drew));exact a5.out⟩,⟨zzh1⟩⟩
          ·
           rw [if_neg e1] at H;exact absurd H (by simp)
         ·
          rw [if_neg e0] at H;exact absurd H (by simp)
        ·
         rw [if_neg d2] at H;obtain ⟨g0,g1⟩:=zzY d2;have H':=zzm H;clear H;have a6 : 0≤(a0:Int):=zzt;have a7:a0 < (a1.length:Int):=zzt;obtain ⟨d9,b5,b7⟩:=Kd.at_int (Kd.R_reads' a5.out).2.2 a0 a6 a7;cases b5;replace a6:=eq_true a6;replace a7:=eq_true a7;go_wp2;go_roundg k1
         case measure=>have:=HK1.out;omega
         case rel=>exact ⟨(a9),(wrap64 (a0+1)),(by first|rfl|(simp;done)|(simp [*];done)),H',⟨by have:=HK1.out;omega⟩,⟨by (with_reducible repeat (first|apply Kd.S_alloc|apply Kd.S_drewN|apply Kd.S_drew));exact a8.out⟩,⟨by (with_reducible repeat (first|apply Kd.R_alloc|apply Kd.R_drewN|apply Kd.R_drew));exact a5.out⟩,⟨zzh1⟩⟩
      ·
       rw [if_neg d8] at H;exact absurd H (by simp)
     ·
      rw [if_neg d7] at H;exact absurd H (by simp)
    ·
     rw [if_neg b6] at H;have e7:decide (a0 < (a1.length:Int))=false:=decide_eq_false b6;clear b6;obtain rfl:=Option.some.inj H;go_wp2;go_ret;exact ⟨_,zzR,by (with_reducible repeat (first|apply Kd.S_alloc|apply Kd.S_drewN|apply Kd.S_drew));exact a8.out,zzh1⟩
 ·
  replace c3:=Bool.eq_false_iff.mpr c3;subst c3;replace H:=zzIf H;obtain rfl:=Option.some.inj H;go_enter Try.func7,Try.ntmps7;go_wp2_with (first|((with_reducible refine gate_dst (N:=6) rfl ?_);refine Kd.R_lit kA _ 42 ?hg (N:=6) ?hd (xs:=([]:List (S42))) (inner:=[]) (ok:=(fun k_=>(w.heap.size≤k_))) (okp:=(fun k_=>(w.heap.size≤k_))) ?hr ?hp (fun _ hk=>hk) ((show ∀ k_,w.heap.size≤k_→(fun k_=>(w.heap.size≤k_)) k_ from fun k_ hk=>(Nat.le_trans (zzo zzh1) hk)) _ (Nat.le_refl _)) (Below.refl _ _) (Nat.le_refl _) (by simp) ?_;(case hd=>rfl);(case hg=>rfl);(case hr=>first|(go_simp;done)|(go_simp;rfl));(case hp=>exact (Reps.none _ _));intro g8 k2 ho22 hb hg_ hnew_;replace ho22:=S_of_nilA ho22;clear hg_ hnew_;(first|rw [← Ny306.out] at ho22|(simp only [Int.reduceToNat] at ho22;rw [← Ny306.out] at ho22));have a3:=zzm (Kd.S_lower ho22 (zzo zzh1));have a4:=zzm (zzp zzh1 hb);clear HB;have a2:=a3;have HB:=a4;clear a3 a4 hb ho22)|((with_reducible refine gate_callee (f:=21) rfl ?_);refine goesL_ (some 8) rfl rfl Try.func21 (by kernel_rfl) rfl #[.slice A0 l0.length c0] rfl zzM2 ?_;(with_reducible refine (Qi.calls k _ _ l0 false _ ?side1 ?side2 A2.out).mono ?_);(case side1=>exact zzcb d5 HB);(case side2=>exact e4.out);rintro e k3 ⟨rfl,hb⟩;refine ⟨_,rfl,?_⟩;have a3:=zzm (Kd.S_below (zzS a2.out) hb);have a4:=zzm (zzp zzh1 hb);clear a2 HB;have a2:=a3;have HB:=a4;clear a3 a4;(try clear hb);(try clear hb2);(try clear hk);(try clear hi)));go_ret;exact ⟨_,zzR,by (with_reducible repeat (first|apply Kd.S_alloc|apply Kd.S_drewN|apply Kd.S_drew));exact a2.out,zzh1⟩

set_option linter.unusedVariables false
set_option linter.unusedSimpArgs false
def Qy.l0:Nat→List Int→List Int→Int→Option (Bool)
 | 0,_,_,_=>none
 | k+1,x0,x1,x5=>if x5 < (x0.length:Int) then (if 0≤x5 then (if x5 < (x1.length:Int) then (if (rd x0 x5)=(rd x1 x5) then (Qy.l0 k x0 x1 (wrap64 (x5+1))) else (some false)) else (none)) else (none)) else (some true)
def Qy.f (k:Nat) (l0:List Int) (l1:List Int):Option (Bool):=if (l0.length:Int)=(l1.length:Int) then (Qy.l0 k l0 l1 0) else (some false)
set_option maxHeartbeats 8000000 in
theorem Qy.calls (k:Nat) (A0:Option Addr) (c0:Nat) (l0:List Int) (A1:Option Addr) (c1:Nat) (l1:List Int) (r:Bool) (w:World) (b4:Kd.C (Kd.int .i64) w A0 l0.length l0) (b5:l0.length≤c0) (b6:Kd.C (Kd.int .i64) w A1 l1.length l1) (b7:l1.length≤c1) (h:Qy.f k l0 l1=some r) :
  Calls Try.prog 42 #[.slice A0 l0.length c0,.slice A1 l1.length c1] w fun e w'=>e = .returned (.bool r)∧Drawn0 w w':=by
 have b8:=zzm b4;have d2:=zzm b5;clear b4 b5;have b9:=zzm b6;have d3:=zzm b7;clear b6 b7;have H:(if (l0.length:Int)=(l1.length:Int) then (Qy.l0 k l0 l1 0) else (some false))=some r:=h;clear h;by_cases c3:(l0.length:Int)=(l1.length:Int)
 ·
  rw [if_pos c3] at H;obtain ⟨a9,b0⟩:=zzQ c3;have b1:(l0.length==l1.length)=true:=by first|simpa using c3|(simp at c3 ⊢;omega)
  clear c3;have H':=zzm H;clear H;go_enter Try.func42,Try.ntmps42;go_wp2;repeat (go_quiet (fail);try go_wp2)
  go_loopg [5] k (fun kq v5 w'=>∃ (a0:Int),v5 = .int .i64 a0∧Aside0 (Qy.l0 kq l0 l1 a0=some r)∧Aside0 (kq≤k)∧Drawn0 w w')
  case atStart=>exact ⟨(0),(by first|rfl|(simp;done)|(simp [*];done)),H',⟨Nat.le_refl _⟩,by repeat (first|exact Drawn0.refl _|apply Drawn0.step)⟩
  case round=>
   clear H';try clear c1
   try clear p2
   try clear c3
   try clear a9
   try clear b0
   try clear b1
   obtain ⟨a0,rfl,HA,HK1,⟨m1,rfl⟩⟩:=hrel;cases gk with
   | zero=>exact absurd HA.out (by simp [Qy.l0])
   | succ k1=>
    have H:=HA.out;clear HA;simp only [Qy.l0] at H;by_cases c4:a0 < (l0.length:Int)
    ·
     rw [if_pos c4] at H;have c2:decide (a0 < (l0.length:Int))=true:=decide_eq_true c4;clear c4;by_cases c5 : 0≤a0
     ·
      rw [if_pos c5] at H;have d0:decide (0≤a0)=true:=decide_eq_true c5;clear c5;by_cases c6:a0 < (l1.length:Int)
      ·
       rw [if_pos c6] at H;have d1:decide (a0 < (l1.length:Int))=true:=decide_eq_true c6;clear c6;by_cases c7:(rd l0 a0)=(rd l1 a0)
       ·
        rw [if_pos c7] at H;obtain ⟨c8,c9⟩:=zzQ c7;clear c7;have H':=zzm H;clear H;have a1 : 0≤(a0:Int):=zzt;have a2:a0 < (l0.length:Int):=zzt;obtain ⟨b2,a5,a7⟩:=Kd.at_int b8.out a0 a1 a2;cases a5;replace a1:=eq_true a1;replace a2:=eq_true a2;have a3 : 0≤(a0:Int):=zzt;have a4:a0 < (l1.length:Int):=zzt;obtain ⟨b3,a6,a8⟩:=Kd.at_int b9.out a0 a3 a4;cases a6;replace a3:=eq_true a3;replace a4:=eq_true a4;go_wp2;repeat (go_quiet (fail);try go_wp2)
        go_roundg k1
        case measure=>have:=HK1.out;omega
        case rel=>exact ⟨(wrap64 (a0+1)),(by first|rfl|(simp;done)|(simp [*];done)),H',⟨by have:=HK1.out;omega⟩,by repeat (first|exact Drawn0.refl _|apply Drawn0.step)⟩
       ·
        rw [if_neg c7] at H;obtain ⟨c8,c9⟩:=zzY c7;obtain rfl:=Option.some.inj H;have a1 : 0≤(a0:Int):=zzt;have a2:a0 < (l0.length:Int):=zzt;obtain ⟨b2,a5,a7⟩:=Kd.at_int b8.out a0 a1 a2;cases a5;replace a1:=eq_true a1;replace a2:=eq_true a2;have a3 : 0≤(a0:Int):=zzt;have a4:a0 < (l1.length:Int):=zzt;obtain ⟨b3,a6,a8⟩:=Kd.at_int b9.out a0 a3 a4;cases a6;replace a3:=eq_true a3;replace a4:=eq_true a4;go_wp2;repeat (go_quiet (fail);try go_wp2)
        go_ret;exact ⟨by first|rfl|(simp;done)|(simp [*];done),by repeat (first|exact Drawn0.refl _|apply Drawn0.step)⟩
      ·
       rw [if_neg c6] at H;exact absurd H (by simp)
     ·
      rw [if_neg c5] at H;exact absurd H (by simp)
    ·
     rw [if_neg c4] at H;have c2:decide (a0 < (l0.length:Int))=false:=decide_eq_false c4;clear c4;obtain rfl:=Option.some.inj H;go_wp2;repeat (go_quiet (fail);try go_wp2)
     go_ret;exact ⟨by first|rfl|(simp;done)|(simp [*];done),by repeat (first|exact Drawn0.refl _|apply Drawn0.step)⟩
 ·
  rw [if_neg c3] at H;obtain ⟨a9,b0⟩:=zzY c3;have b1:(l0.length==l1.length)=false:=by first|simpa using c3|(simp at c3 ⊢;omega)
  obtain rfl:=Option.some.inj H;go_enter Try.func42,Try.ntmps42;go_wp2;repeat (go_quiet (fail);try go_wp2)
  go_ret;exact ⟨by first|rfl|(simp;done)|(simp [*];done),by repeat (first|exact Drawn0.refl _|apply Drawn0.step)⟩

set_option linter.unusedVariables false
set_option linter.unusedSimpArgs false
def Ro.f (k:Nat) (a0_0:Int) (a0_1:Int) (a0_2:Bool) (l0_3:List Int) (a0_4:Bool) (l0_5:List Int) (a1_0:Int) (a1_1:Int) (a1_2:Bool) (l1_3:List Int) (a1_4:Bool) (l1_5:List Int):Option (Bool):=if a0_0=a1_0 then (if a0_1=a1_1 then (if (a0_2 != a1_2)=true then (some false) else ((Qy.f k l0_3 l1_3).bind fun t328=>(if t328=true then (if (a0_4 != a1_4)=true then (some false) else ((Qy.f k l0_5 l1_5).bind fun t329=>(if t329=true then (some true) else (some false)))) else (some false)))) else (some false)) else (some false)
set_option maxHeartbeats 8000000 in
theorem Ro.calls (k:Nat) (a9:Int) (b0:Int) (a4:Bool) (a7:Option Addr) (a8:Nat) (a3:List Int) (a5:Bool) (b1:Option Addr) (b2:Nat) (a6:List Int) (d2:Int) (d3:Int) (c0:Bool) (d0:Option Addr) (d1:Nat) (b9:List Int) (c1:Bool) (d4:Option Addr) (d5:Nat) (c2:List Int) (r:Bool) (w:World) (e7:Kd.C (Kd.int .i64) w a7 a3.length a3) (e8:a3.length≤a8) (e9:Kd.C (Kd.int .i64) w b1 a6.length a6) (g0:a6.length≤b2) (g1:Kd.C (Kd.int .i64) w d0 b9.length b9) (g2:b9.length≤d1) (g3:Kd.C (Kd.int .i64) w d4 c2.length c2) (g4:c2.length≤d5) (h:Ro.f k a9 b0 a4 a3 a5 a6 d2 d3 c0 b9 c1 c2=some r) :
  Calls Try.prog 24 #[.agg #[.int .i64 a9,.int .i64 b0,.bool a4,.slice a7 a3.length a8,.bool a5,.slice b1 a6.length b2],.agg #[.int .i64 d2,.int .i64 d3,.bool c0,.slice d0 b9.length d1,.bool c1,.slice d4 c2.length d5]] w fun e w'=>e = .returned (.bool r)∧Below w.heap.size w w':=by
 have hu42:=Try.underlying42;have e1:=zzm e7;have e2:=zzm e8;clear e7 e8;have g5:=zzm e9;have g6:=zzm g0;clear e9 g0;have e3:=zzm g1;have e4:=zzm g2;clear g1 g2;have g7:=zzm g3;have g8:=zzm g4;clear g3 g4;have HB:=zzm (Below.refl w.heap.size w);have H:(if a9=d2 then (if b0=d3 then (if (a4 != c0)=true then (some false) else ((Qy.f k a3 b9).bind fun e5=>(if e5=true then (if (a5 != c1)=true then (some false) else ((Qy.f k a6 c2).bind fun e6=>(if e6=true then (some true) else (some false)))) else (some false)))) else (some false)) else (some false))=some r:=h;clear h;by_cases c3:a9=d2
 ·
  rw [if_pos c3] at H;obtain ⟨h6,h7⟩:=zzQ c3;clear c3;by_cases c4:b0=d3
  ·
   rw [if_pos c4] at H;obtain ⟨h8,h9⟩:=zzQ c4;clear c4;by_cases c5:(a4 != c0)=true
   ·
    rw [if_pos c5] at H;have j4:(a4 != c0)=true:=c5
    (try (have j5:decide (a4=c0)=false:=by simpa using c5))
    (try (have j6:(a4==c0)=false:=by simpa using c5))
    (try (have D5:¬ (a4=c0):=by simpa using c5));clear c5;obtain rfl:=Option.some.inj H;go_enter Try.func24,Try.ntmps24;go_wp2_with (first|((with_reducible refine gate_dst (N:=2) rfl ?_);refine box_event ?hg (N:=2) ?hd (cs:=#[.int .i64 a9,.int .i64 b0,.bool a4,.slice a7 a3.length a8,.bool a5,.slice b1 a6.length b2]) (t:=42) ?hr ?_;(case hd=>rfl);(case hg=>rfl);(case hr=>first|(go_simp;done)|(go_simp;rfl));intro a0 hg w6 hbox hb;have b3:=zzm (zzp zzh1 hb);have b4:=zzm (hbox);have b5:=zzm ((by rw [hg];exact (zzo zzh1):w.heap.size≤a0));have b6:=zzm ((by rw [hg];exact (zzo zzh1):w.heap.size≤a0));clear HB;have HB:=b3;have a1:=b4;have d7:=b5;have d8:=b6;clear b3 b4 b5 b6 hb hbox hg)|((with_reducible refine gate_dst (N:=3) rfl ?_);refine box_event ?hg (N:=3) ?hd (cs:=#[.int .i64 d2,.int .i64 d3,.bool c0,.slice d0 b9.length d1,.bool c1,.slice d4 c2.length d5]) (t:=42) ?hr ?_;(case hd=>rfl);(case hg=>rfl);(case hr=>first|(go_simp;done)|(go_simp;rfl));intro a2 hg w7 hbox hb;have b3:=zzm (zzh (g:=a0) (o:=.cells #[.int .i64 a9,.int .i64 b0,.bool a4,.slice a7 a3.length a8,.bool a5,.slice b1 a6.length b2] 42 (0,0)) (zzE a1.out) hb);have b4:=zzm (zzp zzh2 hb);have b5:=zzm (hbox);have b6:=zzm ((by rw [hg];exact (zzo zzh2):w.heap.size≤a2));have c7:=zzm ((by rw [hg];exact (zzo zzh2):w.heap.size≤a2));have c8:=zzm ((by rw [hg];exact Nat.ne_of_lt (blk_lt (g:=a0) (o:=.cells #[.int .i64 a9,.int .i64 b0,.bool a4,.slice a7 a3.length a8,.bool a5,.slice b1 a6.length b2] 42 (0,0)) (zzE a1.out)):a0≠a2));have c9:=zzm ((by rw [hg];exact Nat.ne_of_gt (blk_lt (g:=a0) (o:=.cells #[.int .i64 a9,.int .i64 b0,.bool a4,.slice a7 a3.length a8,.bool a5,.slice b1 a6.length b2] 42 (0,0)) (zzE a1.out)):a2≠a0));clear a1 HB;have a1:=b3;have HB:=b4;have c6:=b5;have d9:=b6;have e0:=c7;have b7:=c8;have b8:=c9;clear b3 b4 b5 b6 c7 c8 c9 hb hbox hg;have D6:=b7.out;have D7:=b8.out;obtain ⟨A7,A8,A9,B0,B1,B2,B3,B7,B8,B9,C0,C1⟩:=zzc6 a1.out;obtain ⟨j7,j8,j9,k0,k1,k2,k3,k4,k5,k6,k7,k8⟩:=zzc6 c6.out));go_ret;exact ⟨zzR,zzh3⟩
   ·
    rw [if_neg c5] at H;have j4:(a4 != c0)=false:=by simpa using c5
    (try (have j5:decide (a4=c0)=true:=by simpa using c5))
    (try (have j6:(a4==c0)=true:=by simpa using c5));clear c5;obtain ⟨e5,g9,H⟩:=zzG H;by_cases h0:e5=true
    ·
     subst h0;replace H:=zzIt H;by_cases d6:(a5 != c1)=true
     ·
      rw [if_pos d6] at H;have h2:(a5 != c1)=true:=d6
      (try (have h3:decide (a5=c1)=false:=by simpa using d6))
      (try (have h4:(a5==c1)=false:=by simpa using d6))
      (try (have C2:¬ (a5=c1):=by simpa using d6));clear d6;obtain rfl:=Option.some.inj H;go_enter Try.func24,Try.ntmps24;go_wp2_with (first|((with_reducible refine gate_dst (N:=2) rfl ?_);refine box_event ?hg (N:=2) ?hd (cs:=#[.int .i64 a9,.int .i64 b0,.bool a4,.slice a7 a3.length a8,.bool a5,.slice b1 a6.length b2]) (t:=42) ?hr ?_;(case hd=>rfl);(case hg=>rfl);(case hr=>first|(go_simp;done)|(go_simp;rfl));intro a0 hg D8 hbox hb;have b3:=zzm (zzp zzh1 hb);have b4:=zzm (hbox);have b5:=zzm ((by rw [hg];exact (zzo zzh1):w.heap.size≤a0));have b6:=zzm ((by rw [hg];exact (zzo zzh1):w.heap.size≤a0));clear HB;have HB:=b3;have a1:=b4;have d7:=b5;have d8:=b6;clear b3 b4 b5 b6 hb hbox hg)|((with_reducible refine gate_dst (N:=3) rfl ?_);refine box_event ?hg (N:=3) ?hd (cs:=#[.int .i64 d2,.int .i64 d3,.bool c0,.slice d0 b9.length d1,.bool c1,.slice d4 c2.length d5]) (t:=42) ?hr ?_;(case hd=>rfl);(case hg=>rfl);(case hr=>first|(go_simp;done)|(go_simp;rfl));intro a2 hg D9 hbox hb;have b3:=zzm (zzh (g:=a0) (o:=.cells #[.int .i64 a9,.int .i64 b0,.bool a4,.slice a7 a3.length a8,.bool a5,.slice b1 a6.length b2] 42 (0,0)) (zzE a1.out) hb);have b4:=zzm (zzp zzh2 hb);have b5:=zzm (hbox);have b6:=zzm ((by rw [hg];exact (zzo zzh2):w.heap.size≤a2));have c7:=zzm ((by rw [hg];exact (zzo zzh2):w.heap.size≤a2));have c8:=zzm ((by rw [hg];exact Nat.ne_of_lt (blk_lt (g:=a0) (o:=.cells #[.int .i64 a9,.int .i64 b0,.bool a4,.slice a7 a3.length a8,.bool a5,.slice b1 a6.length b2] 42 (0,0)) (zzE a1.out)):a0≠a2));have c9:=zzm ((by rw [hg];exact Nat.ne_of_gt (blk_lt (g:=a0) (o:=.cells #[.int .i64 a9,.int .i64 b0,.bool a4,.slice a7 a3.length a8,.bool a5,.slice b1 a6.length b2] 42 (0,0)) (zzE a1.out)):a2≠a0));clear a1 HB;have a1:=b3;have HB:=b4;have c6:=b5;have d9:=b6;have e0:=c7;have b7:=c8;have b8:=c9;clear b3 b4 b5 b6 c7 c8 c9 hb hbox hg;have C3:=b7.out;have C4:=b8.out;obtain ⟨k9,l2,l3,l4,l5,l6,l7,l8,l9,m0,m1,m2⟩:=zzc6 a1.out;obtain ⟨m3,m4,m5,m6,m7,m8,m9,n0,n1,n2,n3,n4⟩:=zzc6 c6.out)|((with_reducible refine gate_callee (f:=42) rfl ?_);refine goesL_ (some 24) rfl rfl Try.func42 (by kernel_rfl) rfl #[.slice a7 a3.length a8,.slice d0 b9.length d1] rfl zzM2 ?_;(with_reducible refine (Qy.calls k _ _ a3 _ _ b9 true _ ?side1 ?side2 ?side3 ?side4 g9.out).mono ?_);(case side1=>exact zzcb e1 HB);(case side2=>exact e2.out);(case side3=>exact zzcb e3 HB);(case side4=>exact e4.out);rintro e w' ⟨rfl,⟨nd,rfl⟩⟩;refine ⟨_,rfl,?_⟩));go_ret;exact ⟨zzR,zzh3⟩
     ·
      rw [if_neg d6] at H;have h2:(a5 != c1)=false:=by simpa using d6
      (try (have h3:decide (a5=c1)=true:=by simpa using d6))
      (try (have h4:(a5==c1)=true:=by simpa using d6));clear d6;obtain ⟨e6,h5,H⟩:=zzG H;by_cases h1:e6=true
      ·
       subst h1;replace H:=zzIt H;obtain rfl:=Option.some.inj H;go_enter Try.func24,Try.ntmps24;go_wp2_with (first|((with_reducible refine gate_dst (N:=2) rfl ?_);refine box_event ?hg (N:=2) ?hd (cs:=#[.int .i64 a9,.int .i64 b0,.bool a4,.slice a7 a3.length a8,.bool a5,.slice b1 a6.length b2]) (t:=42) ?hr ?_;(case hd=>rfl);(case hg=>rfl);(case hr=>first|(go_simp;done)|(go_simp;rfl));intro a0 hg E0 hbox hb;have b3:=zzm (zzp zzh1 hb);have b4:=zzm (hbox);have b5:=zzm ((by rw [hg];exact (zzo zzh1):w.heap.size≤a0));have b6:=zzm ((by rw [hg];exact (zzo zzh1):w.heap.size≤a0));clear HB;have HB:=b3;have a1:=b4;have d7:=b5;have d8:=b6;clear b3 b4 b5 b6 hb hbox hg)|((with_reducible refine gate_dst (N:=3) rfl ?_);refine box_event ?hg (N:=3) ?hd (cs:=#[.int .i64 d2,.int .i64 d3,.bool c0,.slice d0 b9.length d1,.bool c1,.slice d4 c2.length d5]) (t:=42) ?hr ?_;(case hd=>rfl);(case hg=>rfl);(case hr=>first|(go_simp;done)|(go_simp;rfl));intro a2 hg E1 hbox hb;have b3:=zzm (zzh (g:=a0) (o:=.cells #[.int .i64 a9,.int .i64 b0,.bool a4,.slice a7 a3.length a8,.bool a5,.slice b1 a6.length b2] 42 (0,0)) (zzE a1.out) hb);have b4:=zzm (zzp zzh2 hb);have b5:=zzm (hbox);have b6:=zzm ((by rw [hg];exact (zzo zzh2):w.heap.size≤a2));have c7:=zzm ((by rw [hg];exact (zzo zzh2):w.heap.size≤a2));have c8:=zzm ((by rw [hg];exact Nat.ne_of_lt (blk_lt (g:=a0) (o:=.cells #[.int .i64 a9,.int .i64 b0,.bool a4,.slice a7 a3.length a8,.bool a5,.slice b1 a6.length b2] 42 (0,0)) (zzE a1.out)):a0≠a2));have c9:=zzm ((by rw [hg];exact Nat.ne_of_gt (blk_lt (g:=a0) (o:=.cells #[.int .i64 a9,.int .i64 b0,.bool a4,.slice a7 a3.length a8,.bool a5,.slice b1 a6.length b2] 42 (0,0)) (zzE a1.out)):a2≠a0));clear a1 HB;have a1:=b3;have HB:=b4;have c6:=b5;have d9:=b6;have e0:=c7;have b7:=c8;have b8:=c9;clear b3 b4 b5 b6 c7 c8 c9 hb hbox hg;have C5:=b7.out;have C6:=b8.out;obtain ⟨n5,n6,n7,n8,n9,o0,o1,o2,o3,o4,o5,o6⟩:=zzc6 a1.out;obtain ⟨o7,o8,o9,p0,p1,p2,p3,p4,p5,p6,p7,p8⟩:=zzc6 c6.out)|((with_reducible refine gate_callee (f:=42) rfl ?_);refine goesL_ (some 24) rfl rfl Try.func42 (by kernel_rfl) rfl #[.slice a7 a3.length a8,.slice d0 b9.length d1] rfl zzM2 ?_;(with_reducible refine (Qy.calls k _ _ a3 _ _ b9 true _ ?side1 ?side2 ?side3 ?side4 g9.out).mono ?_);(case side1=>exact zzcb e1 HB);(case side2=>exact e2.out);(case side3=>exact zzcb e3 HB);(case side4=>exact e4.out);rintro e w' ⟨rfl,⟨nd,rfl⟩⟩;refine ⟨_,rfl,?_⟩)|((with_reducible refine gate_callee (f:=42) rfl ?_);refine goesL_ (some 35) rfl rfl Try.func42 (by kernel_rfl) rfl #[.slice b1 a6.length b2,.slice d4 c2.length d5] rfl zzM2 ?_;(with_reducible refine (Qy.calls k _ _ a6 _ _ c2 true _ ?side1 ?side2 ?side3 ?side4 h5.out).mono ?_);(case side1=>repeat (first|exact (Kd.C_below g5.out zzh2)|(with_reducible refine Kd.C_alloc ?_ _)|(with_reducible refine Kd.C_drewN ?_ _)|(with_reducible refine Kd.C_drew ?_)));(case side2=>exact g6.out);(case side3=>repeat (first|exact (Kd.C_below g7.out zzh2)|(with_reducible refine Kd.C_alloc ?_ _)|(with_reducible refine Kd.C_drewN ?_ _)|(with_reducible refine Kd.C_drew ?_)));(case side4=>exact g8.out);rintro e w' ⟨rfl,⟨nd,rfl⟩⟩;refine ⟨_,rfl,?_⟩));go_ret;exact ⟨zzR,zzh3⟩
      ·
       replace h1:=Bool.eq_false_iff.mpr h1;subst h1;replace H:=zzIf H;obtain rfl:=Option.some.inj H;go_enter Try.func24,Try.ntmps24;go_wp2_with (first|((with_reducible refine gate_dst (N:=2) rfl ?_);refine box_event ?hg (N:=2) ?hd (cs:=#[.int .i64 a9,.int .i64 b0,.bool a4,.slice a7 a3.length a8,.bool a5,.slice b1 a6.length b2]) (t:=42) ?hr ?_;(case hd=>rfl);(case hg=>rfl);(case hr=>first|(go_simp;done)|(go_simp;rfl));intro a0 hg E2 hbox hb;have b3:=zzm (zzp zzh1 hb);have b4:=zzm (hbox);have b5:=zzm ((by rw [hg];exact (zzo zzh1):w.heap.size≤a0));have b6:=zzm ((by rw [hg];exact (zzo zzh1):w.heap.size≤a0));clear HB;have HB:=b3;have a1:=b4;have d7:=b5;have d8:=b6;clear b3 b4 b5 b6 hb hbox hg)|((with_reducible refine gate_dst (N:=3) rfl ?_);refine box_event ?hg (N:=3) ?hd (cs:=#[.int .i64 d2,.int .i64 d3,.bool c0,.slice d0 b9.length d1,.bool c1,.slice d4 c2.length d5]) (t:=42) ?hr ?_;(case hd=>rfl);(case hg=>rfl);(case hr=>first|(go_simp;done)|(go_simp;rfl));intro a2 hg E3 hbox hb;have b3:=zzm (zzh (g:=a0) (o:=.cells #[.int .i64 a9,.int .i64 b0,.bool a4,.slice a7 a3.length a8,.bool a5,.slice b1 a6.length b2] 42 (0,0)) (zzE a1.out) hb);have b4:=zzm (zzp zzh2 hb);have b5:=zzm (hbox);have b6:=zzm ((by rw [hg];exact (zzo zzh2):w.heap.size≤a2));have c7:=zzm ((by rw [hg];exact (zzo zzh2):w.heap.size≤a2));have c8:=zzm ((by rw [hg];exact Nat.ne_of_lt (blk_lt (g:=a0) (o:=.cells #[.int .i64 a9,.int .i64 b0,.bool a4,.slice a7 a3.length a8,.bool a5,.slice b1 a6.length b2] 42 (0,0)) (zzE a1.out)):a0≠a2));have c9:=zzm ((by rw [hg];exact Nat.ne_of_gt (blk_lt (g:=a0) (o:=.cells #[.int .i64 a9,.int .i64 b0,.bool a4,.slice a7 a3.length a8,.bool a5,.slice b1 a6.length b2] 42 (0,0)) (zzE a1.out)):a2≠a0));clear a1 HB;have a1:=b3;have HB:=b4;have c6:=b5;have d9:=b6;have e0:=c7;have b7:=c8;have b8:=c9;clear b3 b4 b5 b6 c7 c8 c9 hb hbox hg;have C7:=b7.out;have C8:=b8.out;obtain ⟨p9,q0,q1,q2,q3,q4,q5,q6,q7,q8,q9,r0⟩:=zzc6 a1.out;obtain ⟨r1,r2,r3,r4,r5,r6,r7,r8,r9,s0,s1,s2⟩:=zzc6 c6.out)|((with_reducible refine gate_callee (f:=42) rfl ?_);refine goesL_ (some 24) rfl rfl Try.func42 (by kernel_rfl) rfl #[.slice a7 a3.length a8,.slice d0 b9.length d1] rfl zzM2 ?_;(with_reducible refine (Qy.calls k _ _ a3 _ _ b9 true _ ?side1 ?side2 ?side3 ?side4 g9.out).mono ?_);(case side1=>exact zzcb e1 HB);(case side2=>exact e2.out);(case side3=>exact zzcb e3 HB);(case side4=>exact e4.out);rintro e w' ⟨rfl,⟨nd,rfl⟩⟩;refine ⟨_,rfl,?_⟩)|((with_reducible refine gate_callee (f:=42) rfl ?_);refine goesL_ (some 35) rfl rfl Try.func42 (by kernel_rfl) rfl #[.slice b1 a6.length b2,.slice d4 c2.length d5] rfl zzM2 ?_;(with_reducible refine (Qy.calls k _ _ a6 _ _ c2 false _ ?side1 ?side2 ?side3 ?side4 h5.out).mono ?_);(case side1=>repeat (first|exact (Kd.C_below g5.out zzh2)|(with_reducible refine Kd.C_alloc ?_ _)|(with_reducible refine Kd.C_drewN ?_ _)|(with_reducible refine Kd.C_drew ?_)));(case side2=>exact g6.out);(case side3=>repeat (first|exact (Kd.C_below g7.out zzh2)|(with_reducible refine Kd.C_alloc ?_ _)|(with_reducible refine Kd.C_drewN ?_ _)|(with_reducible refine Kd.C_drew ?_)));(case side4=>exact g8.out);rintro e w' ⟨rfl,⟨nd,rfl⟩⟩;refine ⟨_,rfl,?_⟩));go_ret;exact ⟨zzR,zzh3⟩
    ·
     replace h0:=Bool.eq_false_iff.mpr h0;subst h0;replace H:=zzIf H;obtain rfl:=Option.some.inj H;go_enter Try.func24,Try.ntmps24;go_wp2_with (first|((with_reducible refine gate_dst (N:=2) rfl ?_);refine box_event ?hg (N:=2) ?hd (cs:=#[.int .i64 a9,.int .i64 b0,.bool a4,.slice a7 a3.length a8,.bool a5,.slice b1 a6.length b2]) (t:=42) ?hr ?_;(case hd=>rfl);(case hg=>rfl);(case hr=>first|(go_simp;done)|(go_simp;rfl));intro a0 hg E4 hbox hb;have b3:=zzm (zzp zzh1 hb);have b4:=zzm (hbox);have b5:=zzm ((by rw [hg];exact (zzo zzh1):w.heap.size≤a0));have b6:=zzm ((by rw [hg];exact (zzo zzh1):w.heap.size≤a0));clear HB;have HB:=b3;have a1:=b4;have d7:=b5;have d8:=b6;clear b3 b4 b5 b6 hb hbox hg)|((with_reducible refine gate_dst (N:=3) rfl ?_);refine box_event ?hg (N:=3) ?hd (cs:=#[.int .i64 d2,.int .i64 d3,.bool c0,.slice d0 b9.length d1,.bool c1,.slice d4 c2.length d5]) (t:=42) ?hr ?_;(case hd=>rfl);(case hg=>rfl);(case hr=>first|(go_simp;done)|(go_simp;rfl));intro a2 hg E5 hbox hb;have b3:=zzm (zzh (g:=a0) (o:=.cells #[.int .i64 a9,.int .i64 b0,.bool a4,.slice a7 a3.length a8,.bool a5,.slice b1 a6.length b2] 42 (0,0)) (zzE a1.out) hb);have b4:=zzm (zzp zzh2 hb);have b5:=zzm (hbox);have b6:=zzm ((by rw [hg];exact (zzo zzh2):w.heap.size≤a2));have c7:=zzm ((by rw [hg];exact (zzo zzh2):w.heap.size≤a2));have c8:=zzm ((by rw [hg];exact Nat.ne_of_lt (blk_lt (g:=a0) (o:=.cells #[.int .i64 a9,.int .i64 b0,.bool a4,.slice a7 a3.length a8,.bool a5,.slice b1 a6.length b2] 42 (0,0)) (zzE a1.out)):a0≠a2));have c9:=zzm ((by rw [hg];exact Nat.ne_of_gt (blk_lt (g:=a0) (o:=.cells #[.int .i64 a9,.int .i64 b0,.bool a4,.slice a7 a3.length a8,.bool a5,.slice b1 a6.length b2] 42 (0,0)) (zzE a1.out)):a2≠a0));clear a1 HB;have a1:=b3;have HB:=b4;have c6:=b5;have d9:=b6;have e0:=c7;have b7:=c8;have b8:=c9;clear b3 b4 b5 b6 c7 c8 c9 hb hbox hg;have C9:=b7.out;have D0:=b8.out;obtain ⟨s3,s4,s5,s6,s7,s8,s9,t0,t1,t2,t3,t4⟩:=zzc6 a1.out;obtain ⟨t5,t6,t7,t8,t9,v0,v1,v2,v3,v4,v5,v6⟩:=zzc6 c6.out)|((with_reducible refine gate_callee (f:=42) rfl ?_);refine goesL_ (some 24) rfl rfl Try.func42 (by kernel_rfl) rfl #[.slice a7 a3.length a8,.slice d0 b9.length d1] rfl zzM2 ?_;(with_reducible refine (Qy.calls k _ _ a3 _ _ b9 false _ ?side1 ?side2 ?side3 ?side4 g9.out).mono ?_);(case side1=>exact zzcb e1 HB);(case side2=>exact e2.out);(case side3=>exact zzcb e3 HB);(case side4=>exact e4.out);rintro e w' ⟨rfl,⟨nd,rfl⟩⟩;refine ⟨_,rfl,?_⟩));go_ret;exact ⟨zzR,zzh3⟩
  ·
   rw [if_neg c4] at H;obtain ⟨h8,h9⟩:=zzY c4;obtain rfl:=Option.some.inj H;go_enter Try.func24,Try.ntmps24;go_wp2_with (first|((with_reducible refine gate_dst (N:=2) rfl ?_);refine box_event ?hg (N:=2) ?hd (cs:=#[.int .i64 a9,.int .i64 b0,.bool a4,.slice a7 a3.length a8,.bool a5,.slice b1 a6.length b2]) (t:=42) ?hr ?_;(case hd=>rfl);(case hg=>rfl);(case hr=>first|(go_simp;done)|(go_simp;rfl));intro a0 hg E6 hbox hb;have b3:=zzm (zzp zzh1 hb);have b4:=zzm (hbox);have b5:=zzm ((by rw [hg];exact (zzo zzh1):w.heap.size≤a0));have b6:=zzm ((by rw [hg];exact (zzo zzh1):w.heap.size≤a0));clear HB;have HB:=b3;have a1:=b4;have d7:=b5;have d8:=b6;clear b3 b4 b5 b6 hb hbox hg)|((with_reducible refine gate_dst (N:=3) rfl ?_);refine box_event ?hg (N:=3) ?hd (cs:=#[.int .i64 d2,.int .i64 d3,.bool c0,.slice d0 b9.length d1,.bool c1,.slice d4 c2.length d5]) (t:=42) ?hr ?_;(case hd=>rfl);(case hg=>rfl);(case hr=>first|(go_simp;done)|(go_simp;rfl));intro a2 hg E7 hbox hb;have b3:=zzm (zzh (g:=a0) (o:=.cells #[.int .i64 a9,.int .i64 b0,.bool a4,.slice a7 a3.length a8,.bool a5,.slice b1 a6.length b2] 42 (0,0)) (zzE a1.out) hb);have b4:=zzm (zzp zzh2 hb);have b5:=zzm (hbox);have b6:=zzm ((by rw [hg];exact (zzo zzh2):w.heap.size≤a2));have c7:=zzm ((by rw [hg];exact (zzo zzh2):w.heap.size≤a2));have c8:=zzm ((by rw [hg];exact Nat.ne_of_lt (blk_lt (g:=a0) (o:=.cells #[.int .i64 a9,.int .i64 b0,.bool a4,.slice a7 a3.length a8,.bool a5,.slice b1 a6.length b2] 42 (0,0)) (zzE a1.out)):a0≠a2));have c9:=zzm ((by rw [hg];exact Nat.ne_of_gt (blk_lt (g:=a0) (o:=.cells #[.int .i64 a9,.int .i64 b0,.bool a4,.slice a7 a3.length a8,.bool a5,.slice b1 a6.length b2] 42 (0,0)) (zzE a1.out)):a2≠a0));clear a1 HB;have a1:=b3;have HB:=b4;have c6:=b5;have d9:=b6;have e0:=c7;have b7:=c8;have b8:=c9;clear b3 b4 b5 b6 c7 c8 c9 hb hbox hg;have D1:=b7.out;have D2:=b8.out;obtain ⟨v7,v8,v9,w0,w1,w2,w3,w4,w5,w8,w9,x0⟩:=zzc6 a1.out;obtain ⟨x1,x2,x3,x4,x5,x6,x7,x8,x9,y0,y1,y2⟩:=zzc6 c6.out));go_ret;exact ⟨zzR,zzh3⟩
 ·
  rw [if_neg c3] at H;obtain ⟨h6,h7⟩:=zzY c3;obtain rfl:=Option.some.inj H;go_enter Try.func24,Try.ntmps24;go_wp2_with (first|((with_reducible refine gate_dst (N:=2) rfl ?_);refine box_event ?hg (N:=2) ?hd (cs:=#[.int .i64 a9,.int .i64 b0,.bool a4,.slice a7 a3.length a8,.bool a5,.slice b1 a6.length b2]) (t:=42) ?hr ?_;(case hd=>rfl);(case hg=>rfl);(case hr=>first|(go_simp;done)|(go_simp;rfl));intro a0 hg E8 hbox hb;have b3:=zzm (zzp zzh1 hb);have b4:=zzm (hbox);have b5:=zzm ((by rw [hg];exact (zzo zzh1):w.heap.size≤a0));have b6:=zzm ((by rw [hg];exact (zzo zzh1):w.heap.size≤a0));clear HB;have HB:=b3;have a1:=b4;have d7:=b5;have d8:=b6;clear b3 b4 b5 b6 hb hbox hg)|((with_reducible refine gate_dst (N:=3) rfl ?_);refine box_event ?hg (N:=3) ?hd (cs:=#[.int .i64 d2,.int .i64 d3,.bool c0,.slice d0 b9.length d1,.bool c1,.slice d4 c2.length d5]) (t:=42) ?hr ?_;(case hd=>rfl);(case hg=>rfl);(case hr=>first|(go_simp;done)|(go_simp;rfl));intro a2 hg E9 hbox hb;have b3:=zzm (zzh (g:=a0) (o:=.cells #[.int .i64 a9,.int .i64 b0,.bool a4,.slice a7 a3.length a8,.bool a5,.slice b1 a6.length b2] 42 (0,0)) (zzE a1.out) hb);have b4:=zzm (zzp zzh2 hb);have b5:=zzm (hbox);have b6:=zzm ((by rw [hg];exact (zzo zzh2):w.heap.size≤a2));have c7:=zzm ((by rw [hg];exact (zzo zzh2):w.heap.size≤a2));have c8:=zzm ((by rw [hg];exact Nat.ne_of_lt (blk_lt (g:=a0) (o:=.cells #[.int .i64 a9,.int .i64 b0,.bool a4,.slice a7 a3.length a8,.bool a5,.slice b1 a6.length b2] 42 (0,0)) (zzE a1.out)):a0≠a2));have c9:=zzm ((by rw [hg];exact Nat.ne_of_gt (blk_lt (g:=a0) (o:=.cells #[.int .i64 a9,.int .i64 b0,.bool a4,.slice a7 a3.length a8,.bool a5,.slice b1 a6.length b2] 42 (0,0)) (zzE a1.out)):a2≠a0));clear a1 HB;have a1:=b3;have HB:=b4;have c6:=b5;have d9:=b6;have e0:=c7;have b7:=c8;have b8:=c9;clear b3 b4 b5 b6 c7 c8 c9 hb hbox hg;have D3:=b7.out;have D4:=b8.out;obtain ⟨y3,y4,y5,y6,y7,y8,y9,z0,z1,z2,z3,z4⟩:=zzc6 a1.out;obtain ⟨z5,z6,z7,z8,z9,A0,A1,A2,A3,A4,A5,A6⟩:=zzc6 c6.out));go_ret;exact ⟨zzR,zzh3⟩

set_option linter.unusedVariables false
set_option linter.unusedSimpArgs false
def Qf.l0:Nat→List (S42)→List (S42)→Int→Option (Bool)
 | 0,_,_,_=>none
 | k+1,x0,x1,x5=>if x5 < (x0.length:Int) then (if 0≤x5 then (if x5 < (x1.length:Int) then ((Ro.f k ((Qb x0 x5).f0) ((Qb x0 x5).f1) ((Qb x0 x5).f2) ((Qb x0 x5).f3) ((Qb x0 x5).f4) ((Qb x0 x5).f5) ((Qb x1 x5).f0) ((Qb x1 x5).f1) ((Qb x1 x5).f2) ((Qb x1 x5).f3) ((Qb x1 x5).f4) ((Qb x1 x5).f5)).bind fun t332=>(if t332=true then (Qf.l0 k x0 x1 (wrap64 (x5+1))) else (some false))) else (none)) else (none)) else (some true)
def Qf.f (k:Nat) (l0:List (S42)) (l1:List (S42)):Option (Bool):=if (l0.length:Int)=(l1.length:Int) then (Qf.l0 k l0 l1 0) else (some false)
def Qf.T6:Bool×List (List Nat×List Nat):=(true,[([],[]),([],[]),([0,1],[0,1]),([2],[2]),([],[]),([],[]),([4,5],[4,5]),([6],[6]),([3,7],[3,7]),([8],[8])])
def Qf.B6:List Nat:=[0,0,3,7,0,0,48,112,255,511]
theorem Qf.tab6:rtab .any (opsOf Try.f8 6)=Qf.T6:=by kernel_rfl
theorem Qf.bits6:waitsOk Qf.T6.2 Qf.B6=true:=by kernel_rfl
set_option maxHeartbeats 8000000 in
theorem Qf.calls (k:Nat) (A0:Option Addr) (c0:Nat) (l0:List (S42)) (A1:Option Addr) (c1:Nat) (l1:List (S42)) (r:Bool) (w:World) (j5:Kd.C k42 w A0 l0.length l0) (j6:l0.length≤c0) (j7:Kd.C k42 w A1 l1.length l1) (j8:l1.length≤c1) (h:Qf.f k l0 l1=some r) :
  Calls Try.prog 8 #[.slice A0 l0.length c0,.slice A1 l1.length c1] w fun e w'=>e = .returned (.bool r)∧Below w.heap.size w w':=by
 have hu42:=Try.underlying42;have j9:=zzm j5;have k6:=zzm j6;clear j5 j6;have k0:=zzm j7;have k7:=zzm j8;clear j7 j8;have HB:=zzm (Below.refl w.heap.size w);have H:(if (l0.length:Int)=(l1.length:Int) then (Qf.l0 k l0 l1 0) else (some false))=some r:=h;clear h;by_cases c3:(l0.length:Int)=(l1.length:Int)
 ·
  rw [if_pos c3] at H;obtain ⟨h8,h9⟩:=zzQ c3;have j4:(l0.length==l1.length)=true:=by first|simpa using c3|(simp at c3 ⊢;omega)
  clear c3;have H':=zzm H;clear H;go_enter Try.func8,Try.ntmps8;go_wp2;go_loopg [5] k (fun kq v5 w'=>∃ (a0:Int),v5 = .int .i64 a0∧Aside0 (Qf.l0 kq l0 l1 a0=some r)∧Aside0 (kq≤k)∧Aside0 (Below w.heap.size w w'))
  case atStart=>exact ⟨(0),(by first|rfl|(simp;done)|(simp [*];done)),H',⟨Nat.le_refl _⟩,⟨zzh1⟩⟩
  case round=>
   clear H';try clear c1
   try clear p2
   try clear c3
   try clear h8
   try clear h9
   try clear j4
   obtain ⟨a0,rfl,HA,HK1,HB⟩:=hrel;cases gk with
   | zero=>exact absurd HA.out (by simp [Qf.l0])
   | succ k1=>
    have H:=HA.out;clear HA;simp only [Qf.l0] at H;by_cases c4:a0 < (l0.length:Int)
    ·
     rw [if_pos c4] at H;have k2:decide (a0 < (l0.length:Int))=true:=decide_eq_true c4;clear c4;by_cases c5 : 0≤a0
     ·
      rw [if_pos c5] at H;have k4:decide (0≤a0)=true:=decide_eq_true c5;clear c5;by_cases c6:a0 < (l1.length:Int)
      ·
       rw [if_pos c6] at H;have k5:decide (a0 < (l1.length:Int))=true:=decide_eq_true c6;clear c6;obtain ⟨k3,A7,H⟩:=zzG H;by_cases c8:k3=true
       ·
        subst c8;replace H:=zzIt H;have H':=zzm H;clear H;try go_wp2
        have e8:=zzm (zzc HB.out);clear HB;have HB:=e8;clear e8;have g7 : 0≤(a0:Int):=zzt;have g8:a0 < (l0.length:Int):=zzt;obtain ⟨a1,e9,g0,g1,g2,h6,a4,a5,a6,a7,a8,a9,b7,b8,b9,c2⟩:=Qt j9.out a0 g7 g8;have c7:=a9;have c9:=a8;have d0:=a7;have d1:=a6;have d2:=a5;have d3:=a4;cases h6;replace a4:=zzx HB.out a4;replace a5:=zzx HB.out a5;replace a6:=zzx HB.out a6;replace a7:=zzx HB.out a7;replace a8:=zzx HB.out a8;replace a9:=zzx HB.out a9;have d4:=zzm b8;have h1:=zzm b7;clear b8 b7;have d5:=zzm c2;have h2:=zzm b9;clear c2 b9;replace g7:=eq_true g7;replace g8:=eq_true g8;have g9 : 0≤(a0:Int):=zzt;have h0:a0 < (l1.length:Int):=zzt;obtain ⟨a2,g3,g4,g5,g6,h7,b0,b1,b2,b3,b4,b5,d6,d7,d8,d9⟩:=Qt k0.out a0 g9 h0;have e0:=b5;have e1:=b4;have e2:=b3;have e3:=b2;have e4:=b1;have e5:=b0;cases h7;replace b0:=zzx HB.out b0;replace b1:=zzx HB.out b1;replace b2:=zzx HB.out b2;replace b3:=zzx HB.out b3;replace b4:=zzx HB.out b4;replace b5:=zzx HB.out b5;have e6:=zzm d7;have h3:=zzm d6;clear d7 d6;have e7:=zzm d9;have h4:=zzm d8;clear d9 d8;replace g9:=eq_true g9;replace h0:=eq_true h0;refine start_ (n:=10) (S:=fun w'=>w'.cell? (a1.add ((a0).toNat * 6))=some (.int .i64 ((Qb l0 a0).f0))∧w'.cell? ⟨(a1.add ((a0).toNat * 6)).block,(a1.add ((a0).toNat * 6)).off+1,none⟩=some (.int .i64 ((Qb l0 a0).f1))∧w'.cell? ⟨(a1.add ((a0).toNat * 6)).block,(a1.add ((a0).toNat * 6)).off+2,none⟩=some (.bool ((Qb l0 a0).f2))∧w'.cell? ⟨(a1.add ((a0).toNat * 6)).block,(a1.add ((a0).toNat * 6)).off+3,none⟩=some (.slice e9 ((Qb l0 a0).f3).length g0)∧w'.cell? ⟨(a1.add ((a0).toNat * 6)).block,(a1.add ((a0).toNat * 6)).off+4,none⟩=some (.bool ((Qb l0 a0).f4))∧w'.cell? ⟨(a1.add ((a0).toNat * 6)).block,(a1.add ((a0).toNat * 6)).off+5,none⟩=some (.slice g1 ((Qb l0 a0).f5).length g2)∧w'.cell? (a2.add ((a0).toNat * 6))=some (.int .i64 ((Qb l1 a0).f0))∧w'.cell? ⟨(a2.add ((a0).toNat * 6)).block,(a2.add ((a0).toNat * 6)).off+1,none⟩=some (.int .i64 ((Qb l1 a0).f1))∧w'.cell? ⟨(a2.add ((a0).toNat * 6)).block,(a2.add ((a0).toNat * 6)).off+2,none⟩=some (.bool ((Qb l1 a0).f2))∧w'.cell? ⟨(a2.add ((a0).toNat * 6)).block,(a2.add ((a0).toNat * 6)).off+3,none⟩=some (.slice g3 ((Qb l1 a0).f3).length g4)∧w'.cell? ⟨(a2.add ((a0).toNat * 6)).block,(a2.add ((a0).toNat * 6)).off+4,none⟩=some (.bool ((Qb l1 a0).f4))∧w'.cell? ⟨(a2.add ((a0).toNat * 6)).block,(a2.add ((a0).toNat * 6)).off+5,none⟩=some (.slice g5 ((Qb l1 a0).f5).length g6)) (ds:=[]) (zzB 10 0) (by kernel_rfl) rfl rfl ⟨(zzx HB.out d3 :),(zzx HB.out d2 :),(zzx HB.out d1 :),(zzx HB.out d0 :),(zzx HB.out c9 :),(zzx HB.out c7 :),(zzx HB.out e5 :),(zzx HB.out e4 :),(zzx HB.out e3 :),(zzx HB.out e2 :),(zzx HB.out e1 :),(zzx HB.out e0 :)⟩ (fun b6=>?_);refine with_tabW Qf.tab6 Qf.bits6 (fun a3 h5=>?_);generalize wr.drew=w9 at HB d4 d5 e6 e7 a4 a5 a6 a7 a8 a9 b0 b1 b2 b3 b4 b5 b6 ⊢;refine zzP 0 17 10 1 a3 ?_
        refine zzP 1 18 10 3 a3 ?_
        refine zzP 2 19 10 7 a3 ?_
        refine zzP 4 21 10 23 a3 ?_
        refine zzP 5 22 10 55 a3 ?_
        refine zzP 6 23 10 119 a3 ?_
        refine zzT 3 20 10 127 a3 h5 b6 ?_
        refine zzT 7 24 10 255 a3 h5 b6 ?_
        refine one_ (i:=8) (N:=some 25) (zzB 10 511) rfl rfl (one_of a3.out (by kernel_rfl)) (by decide) (fun K hK=>?_);refine goes_ Try.func24 (by kernel_rfl) rfl #[.agg #[.int .i64 ((Qb l0 a0).f0),.int .i64 ((Qb l0 a0).f1),.bool ((Qb l0 a0).f2),.slice e9 ((Qb l0 a0).f3).length g0,.bool ((Qb l0 a0).f4),.slice g1 ((Qb l0 a0).f5).length g2],.agg #[.int .i64 ((Qb l1 a0).f0),.int .i64 ((Qb l1 a0).f1),.bool ((Qb l1 a0).f2),.slice g3 ((Qb l1 a0).f3).length g4,.bool ((Qb l1 a0).f4),.slice g5 ((Qb l1 a0).f5).length g6]] (by rfl) rfl rfl zzM2 ?_;with_reducible refine (Ro.calls k1 ((Qb l0 a0).f0) ((Qb l0 a0).f1) ((Qb l0 a0).f2) _ _ ((Qb l0 a0).f3) ((Qb l0 a0).f4) _ _ ((Qb l0 a0).f5) ((Qb l1 a0).f0) ((Qb l1 a0).f1) ((Qb l1 a0).f2) _ _ ((Qb l1 a0).f3) ((Qb l1 a0).f4) _ _ ((Qb l1 a0).f5) true _ ?side1 ?side2 ?side3 ?side4 ?side5 ?side6 ?side7 ?side8 A7.out).mono ?_
        (case side1=>exact zzcb d4 HB)
        (case side2=>exact h1.out)
        (case side3=>exact zzcb d5 HB)
        (case side4=>exact h2.out)
        (case side5=>exact zzcb e6 HB)
        (case side6=>exact h3.out)
        (case side7=>exact zzcb e7 HB)
        (case side8=>exact h4.out);rintro e k8 ⟨rfl,hb⟩;refine ⟨_,rfl,?_⟩;have e8:=zzm (zzp zzh1 hb);clear HB;have HB:=e8;clear e8
        (try clear hb)
        (try clear hb2)
        (try clear hk)
        (try clear hi);refine hK.out _ _ ⟨(zzx HB.out d3 :),(zzx HB.out d2 :),(zzx HB.out d1 :),(zzx HB.out d0 :),(zzx HB.out c9 :),(zzx HB.out c7 :),(zzx HB.out e5 :),(zzx HB.out e4 :),(zzx HB.out e3 :),(zzx HB.out e2 :),(zzx HB.out e1 :),(zzx HB.out e0 :)⟩ (fun b6=>?_);clear hK K;refine zzO 25 ?_
        refine zzP 9 26 10 1023 a3 ?_
        refine done_ (done_of a3.out (by kernel_rfl)) ?_;try go_wp2
        go_roundg k1
        case measure=>have:=HK1.out;omega
        case rel=>exact ⟨(wrap64 (a0+1)),(by first|rfl|(simp;done)|(simp [*];done)),H',⟨by have:=HK1.out;omega⟩,⟨zzh1⟩⟩
       ·
        replace c8:=Bool.eq_false_iff.mpr c8;subst c8;replace H:=zzIf H;obtain rfl:=Option.some.inj H;try go_wp2
        have e8:=zzm (zzc HB.out);clear HB;have HB:=e8;clear e8;have g7 : 0≤(a0:Int):=zzt;have g8:a0 < (l0.length:Int):=zzt;obtain ⟨a1,e9,g0,g1,g2,h6,a4,a5,a6,a7,a8,a9,b7,b8,b9,c2⟩:=Qt j9.out a0 g7 g8;have c7:=a9;have c9:=a8;have d0:=a7;have d1:=a6;have d2:=a5;have d3:=a4;cases h6;replace a4:=zzx HB.out a4;replace a5:=zzx HB.out a5;replace a6:=zzx HB.out a6;replace a7:=zzx HB.out a7;replace a8:=zzx HB.out a8;replace a9:=zzx HB.out a9;have d4:=zzm b8;have h1:=zzm b7;clear b8 b7;have d5:=zzm c2;have h2:=zzm b9;clear c2 b9;replace g7:=eq_true g7;replace g8:=eq_true g8;have g9 : 0≤(a0:Int):=zzt;have h0:a0 < (l1.length:Int):=zzt;obtain ⟨a2,g3,g4,g5,g6,h7,b0,b1,b2,b3,b4,b5,d6,d7,d8,d9⟩:=Qt k0.out a0 g9 h0;have e0:=b5;have e1:=b4;have e2:=b3;have e3:=b2;have e4:=b1;have e5:=b0;cases h7;replace b0:=zzx HB.out b0;replace b1:=zzx HB.out b1;replace b2:=zzx HB.out b2;replace b3:=zzx HB.out b3;replace b4:=zzx HB.out b4;replace b5:=zzx HB.out b5;have e6:=zzm d7;have h3:=zzm d6;clear d7 d6;have e7:=zzm d9;have h4:=zzm d8;clear d9 d8;replace g9:=eq_true g9;replace h0:=eq_true h0;refine start_ (n:=10) (S:=fun w'=>w'.cell? (a1.add ((a0).toNat * 6))=some (.int .i64 ((Qb l0 a0).f0))∧w'.cell? ⟨(a1.add ((a0).toNat * 6)).block,(a1.add ((a0).toNat * 6)).off+1,none⟩=some (.int .i64 ((Qb l0 a0).f1))∧w'.cell? ⟨(a1.add ((a0).toNat * 6)).block,(a1.add ((a0).toNat * 6)).off+2,none⟩=some (.bool ((Qb l0 a0).f2))∧w'.cell? ⟨(a1.add ((a0).toNat * 6)).block,(a1.add ((a0).toNat * 6)).off+3,none⟩=some (.slice e9 ((Qb l0 a0).f3).length g0)∧w'.cell? ⟨(a1.add ((a0).toNat * 6)).block,(a1.add ((a0).toNat * 6)).off+4,none⟩=some (.bool ((Qb l0 a0).f4))∧w'.cell? ⟨(a1.add ((a0).toNat * 6)).block,(a1.add ((a0).toNat * 6)).off+5,none⟩=some (.slice g1 ((Qb l0 a0).f5).length g2)∧w'.cell? (a2.add ((a0).toNat * 6))=some (.int .i64 ((Qb l1 a0).f0))∧w'.cell? ⟨(a2.add ((a0).toNat * 6)).block,(a2.add ((a0).toNat * 6)).off+1,none⟩=some (.int .i64 ((Qb l1 a0).f1))∧w'.cell? ⟨(a2.add ((a0).toNat * 6)).block,(a2.add ((a0).toNat * 6)).off+2,none⟩=some (.bool ((Qb l1 a0).f2))∧w'.cell? ⟨(a2.add ((a0).toNat * 6)).block,(a2.add ((a0).toNat * 6)).off+3,none⟩=some (.slice g3 ((Qb l1 a0).f3).length g4)∧w'.cell? ⟨(a2.add ((a0).toNat * 6)).block,(a2.add ((a0).toNat * 6)).off+4,none⟩=some (.bool ((Qb l1 a0).f4))∧w'.cell? ⟨(a2.add ((a0).toNat * 6)).block,(a2.add ((a0).toNat * 6)).off+5,none⟩=some (.slice g5 ((Qb l1 a0).f5).length g6)) (ds:=[]) (zzB 10 0) (by kernel_rfl) rfl rfl ⟨(zzx HB.out d3 :),(zzx HB.out d2 :),(zzx HB.out d1 :),(zzx HB.out d0 :),(zzx HB.out c9 :),(zzx HB.out c7 :),(zzx HB.out e5 :),(zzx HB.out e4 :),(zzx HB.out e3 :),(zzx HB.out e2 :),(zzx HB.out e1 :),(zzx HB.out e0 :)⟩ (fun b6=>?_);refine with_tabW Qf.tab6 Qf.bits6 (fun a3 h5=>?_);generalize wr.drew=k9 at HB d4 d5 e6 e7 a4 a5 a6 a7 a8 a9 b0 b1 b2 b3 b4 b5 b6 ⊢;refine zzP 0 17 10 1 a3 ?_
        refine zzP 1 18 10 3 a3 ?_
        refine zzP 2 19 10 7 a3 ?_
        refine zzP 4 21 10 23 a3 ?_
        refine zzP 5 22 10 55 a3 ?_
        refine zzP 6 23 10 119 a3 ?_
        refine zzT 3 20 10 127 a3 h5 b6 ?_
        refine zzT 7 24 10 255 a3 h5 b6 ?_
        refine one_ (i:=8) (N:=some 25) (zzB 10 511) rfl rfl (one_of a3.out (by kernel_rfl)) (by decide) (fun K hK=>?_);refine goes_ Try.func24 (by kernel_rfl) rfl #[.agg #[.int .i64 ((Qb l0 a0).f0),.int .i64 ((Qb l0 a0).f1),.bool ((Qb l0 a0).f2),.slice e9 ((Qb l0 a0).f3).length g0,.bool ((Qb l0 a0).f4),.slice g1 ((Qb l0 a0).f5).length g2],.agg #[.int .i64 ((Qb l1 a0).f0),.int .i64 ((Qb l1 a0).f1),.bool ((Qb l1 a0).f2),.slice g3 ((Qb l1 a0).f3).length g4,.bool ((Qb l1 a0).f4),.slice g5 ((Qb l1 a0).f5).length g6]] (by rfl) rfl rfl zzM2 ?_;with_reducible refine (Ro.calls k1 ((Qb l0 a0).f0) ((Qb l0 a0).f1) ((Qb l0 a0).f2) _ _ ((Qb l0 a0).f3) ((Qb l0 a0).f4) _ _ ((Qb l0 a0).f5) ((Qb l1 a0).f0) ((Qb l1 a0).f1) ((Qb l1 a0).f2) _ _ ((Qb l1 a0).f3) ((Qb l1 a0).f4) _ _ ((Qb l1 a0).f5) false _ ?side1 ?side2 ?side3 ?side4 ?side5 ?side6 ?side7 ?side8 A7.out).mono ?_
        (case side1=>exact zzcb d4 HB)
        (case side2=>exact h1.out)
        (case side3=>exact zzcb d5 HB)
        (case side4=>exact h2.out)
        (case side5=>exact zzcb e6 HB)
        (case side6=>exact h3.out)
        (case side7=>exact zzcb e7 HB)
        (case side8=>exact h4.out);rintro e l2 ⟨rfl,hb⟩;refine ⟨_,rfl,?_⟩;have e8:=zzm (zzp zzh1 hb);clear HB;have HB:=e8;clear e8
        (try clear hb)
        (try clear hb2)
        (try clear hk)
        (try clear hi);refine hK.out _ _ ⟨(zzx HB.out d3 :),(zzx HB.out d2 :),(zzx HB.out d1 :),(zzx HB.out d0 :),(zzx HB.out c9 :),(zzx HB.out c7 :),(zzx HB.out e5 :),(zzx HB.out e4 :),(zzx HB.out e3 :),(zzx HB.out e2 :),(zzx HB.out e1 :),(zzx HB.out e0 :)⟩ (fun b6=>?_);clear hK K;refine zzO 25 ?_
        refine zzP 9 26 10 1023 a3 ?_
        refine done_ (done_of a3.out (by kernel_rfl)) ?_;try go_wp2
        go_ret;exact ⟨zzR,zzh1⟩
      ·
       rw [if_neg c6] at H;exact absurd H (by simp)
     ·
      rw [if_neg c5] at H;exact absurd H (by simp)
    ·
     rw [if_neg c4] at H;have k2:decide (a0 < (l0.length:Int))=false:=decide_eq_false c4;clear c4;obtain rfl:=Option.some.inj H;go_wp2;go_ret;exact ⟨zzR,zzh1⟩
 ·
  rw [if_neg c3] at H;obtain ⟨h8,h9⟩:=zzY c3;have j4:(l0.length==l1.length)=false:=by first|simpa using c3|(simp at c3 ⊢;omega)
  obtain rfl:=Option.some.inj H;go_enter Try.func8,Try.ntmps8;go_wp2;go_ret;exact ⟨zzR,zzh1⟩

set_option linter.unusedVariables false
set_option linter.unusedSimpArgs false
def Rs.f (k:Nat) (a0_0:Bool) (a0_1:Bool) (a0_2:Int) (a0_3:Int) (a0_4:Int) (l0_5:List (S42)) (a1_0:Bool) (a1_1:Bool) (a1_2:Int) (a1_3:Int) (a1_4:Int) (l1_5:List (S42)):Option (Bool):=if (a0_0 != a1_0)=true then (some false) else (if (a0_1 != a1_1)=true then (some false) else (if a0_2=a1_2 then (if a0_3=a1_3 then (if a0_4=a1_4 then ((Qf.f k l0_5 l1_5).bind fun t335=>(if t335=true then (some true) else (some false))) else (some false)) else (some false)) else (some false)))
set_option maxHeartbeats 8000000 in
theorem Rs.calls (k:Nat) (a3:Bool) (a4:Bool) (a9:Int) (b0:Int) (b1:Int) (b2:Option Addr) (b3:Nat) (a5:List (S42)) (b8:Bool) (b9:Bool) (c5:Int) (c6:Int) (c7:Int) (c8:Option Addr) (d0:Nat) (c0:List (S42)) (r:Bool) (w:World) (d9:Kd.C k42 w b2 a5.length a5) (e0:a5.length≤b3) (e1:Kd.C k42 w c8 c0.length c0) (e2:c0.length≤d0) (h:Rs.f k a3 a4 a9 b0 b1 a5 b8 b9 c5 c6 c7 c0=some r) :
  Calls Try.prog 25 #[.agg #[.bool a3,.bool a4,.int .i64 a9,.int .i64 b0,.int .i64 b1,.slice b2 a5.length b3],.agg #[.bool b8,.bool b9,.int .i64 c5,.int .i64 c6,.int .i64 c7,.slice c8 c0.length d0]] w fun e w'=>e = .returned (.bool r)∧Below w.heap.size w w':=by
 have hu39:=Try.underlying39;have e3:=zzm d9;have e4:=zzm e0;clear d9 e0;have e5:=zzm e1;have e6:=zzm e2;clear e1 e2;have HB:=zzm (Below.refl w.heap.size w);have H:(if (a3 != b8)=true then (some false) else (if (a4 != b9)=true then (some false) else (if a9=c5 then (if b0=c6 then (if b1=c7 then ((Qf.f k a5 c0).bind fun d8=>(if d8=true then (some true) else (some false))) else (some false)) else (some false)) else (some false))))=some r:=h;clear h;by_cases c3:(a3 != b8)=true
 ·
  rw [if_pos c3] at H;have g5:(a3 != b8)=true:=c3
  (try (have g6:decide (a3=b8)=false:=by simpa using c3))
  (try (have g7:(a3==b8)=false:=by simpa using c3))
  (try (have C2:¬ (a3=b8):=by simpa using c3));clear c3;obtain rfl:=Option.some.inj H;go_enter Try.func25,Try.ntmps25;go_wp2_with (first|((with_reducible refine gate_dst (N:=2) rfl ?_);refine box_event ?hg (N:=2) ?hd (cs:=#[.bool a3,.bool a4,.int .i64 a9,.int .i64 b0,.int .i64 b1,.slice b2 a5.length b3]) (t:=39) ?hr ?_;(case hd=>rfl);(case hg=>rfl);(case hr=>first|(go_simp;done)|(go_simp;rfl));intro a0 hg w4 hbox hb;have a6:=zzm (zzp zzh1 hb);have a7:=zzm (hbox);have a8:=zzm ((by rw [hg];exact (zzo zzh1):w.heap.size≤a0));have b4:=zzm ((by rw [hg];exact (zzo zzh1):w.heap.size≤a0));clear HB;have HB:=a6;have a1:=a7;have d1:=a8;have d2:=b4;clear a6 a7 a8 b4 hb hbox hg)|((with_reducible refine gate_dst (N:=3) rfl ?_);refine box_event ?hg (N:=3) ?hd (cs:=#[.bool b8,.bool b9,.int .i64 c5,.int .i64 c6,.int .i64 c7,.slice c8 c0.length d0]) (t:=39) ?hr ?_;(case hd=>rfl);(case hg=>rfl);(case hr=>first|(go_simp;done)|(go_simp;rfl));intro a2 hg w5 hbox hb;have a6:=zzm (zzh (g:=a0) (o:=.cells #[.bool a3,.bool a4,.int .i64 a9,.int .i64 b0,.int .i64 b1,.slice b2 a5.length b3] 39 (0,0)) (zzE a1.out) hb);have a7:=zzm (zzp zzh2 hb);have a8:=zzm (hbox);have b4:=zzm ((by rw [hg];exact (zzo zzh2):w.heap.size≤a2));have c1:=zzm ((by rw [hg];exact (zzo zzh2):w.heap.size≤a2));have c2:=zzm ((by rw [hg];exact Nat.ne_of_lt (blk_lt (g:=a0) (o:=.cells #[.bool a3,.bool a4,.int .i64 a9,.int .i64 b0,.int .i64 b1,.slice b2 a5.length b3] 39 (0,0)) (zzE a1.out)):a0≠a2));have c4:=zzm ((by rw [hg];exact Nat.ne_of_gt (blk_lt (g:=a0) (o:=.cells #[.bool a3,.bool a4,.int .i64 a9,.int .i64 b0,.int .i64 b1,.slice b2 a5.length b3] 39 (0,0)) (zzE a1.out)):a2≠a0));clear a1 HB;have a1:=a6;have HB:=a7;have b7:=a8;have d3:=b4;have d4:=c1;have b5:=c2;have b6:=c4;clear a6 a7 a8 b4 c1 c2 c4 hb hbox hg;have C3:=b5.out;have C4:=b6.out;obtain ⟨y3,y4,y5,y6,y7,y8,y9,z0,z1,z2,z3,z4⟩:=zzc6 a1.out;obtain ⟨z5,z6,z7,z8,z9,A0,A1,A2,A3,A4,A5,A6⟩:=zzc6 b7.out));go_ret;exact ⟨zzR,zzh3⟩
 ·
  rw [if_neg c3] at H;have g5:(a3 != b8)=false:=by simpa using c3
  (try (have g6:decide (a3=b8)=true:=by simpa using c3))
  (try (have g7:(a3==b8)=true:=by simpa using c3));clear c3;by_cases c9:(a4 != b9)=true
  ·
   rw [if_pos c9] at H;have g8:(a4 != b9)=true:=c9
   (try (have g9:decide (a4=b9)=false:=by simpa using c9))
   (try (have h0:(a4==b9)=false:=by simpa using c9))
   (try (have C5:¬ (a4=b9):=by simpa using c9));clear c9;obtain rfl:=Option.some.inj H;go_enter Try.func25,Try.ntmps25;go_wp2_with (first|((with_reducible refine gate_dst (N:=2) rfl ?_);refine box_event ?hg (N:=2) ?hd (cs:=#[.bool a3,.bool a4,.int .i64 a9,.int .i64 b0,.int .i64 b1,.slice b2 a5.length b3]) (t:=39) ?hr ?_;(case hd=>rfl);(case hg=>rfl);(case hr=>first|(go_simp;done)|(go_simp;rfl));intro a0 hg C6 hbox hb;have a6:=zzm (zzp zzh1 hb);have a7:=zzm (hbox);have a8:=zzm ((by rw [hg];exact (zzo zzh1):w.heap.size≤a0));have b4:=zzm ((by rw [hg];exact (zzo zzh1):w.heap.size≤a0));clear HB;have HB:=a6;have a1:=a7;have d1:=a8;have d2:=b4;clear a6 a7 a8 b4 hb hbox hg)|((with_reducible refine gate_dst (N:=3) rfl ?_);refine box_event ?hg (N:=3) ?hd (cs:=#[.bool b8,.bool b9,.int .i64 c5,.int .i64 c6,.int .i64 c7,.slice c8 c0.length d0]) (t:=39) ?hr ?_;(case hd=>rfl);(case hg=>rfl);(case hr=>first|(go_simp;done)|(go_simp;rfl));intro a2 hg C7 hbox hb;have a6:=zzm (zzh (g:=a0) (o:=.cells #[.bool a3,.bool a4,.int .i64 a9,.int .i64 b0,.int .i64 b1,.slice b2 a5.length b3] 39 (0,0)) (zzE a1.out) hb);have a7:=zzm (zzp zzh2 hb);have a8:=zzm (hbox);have b4:=zzm ((by rw [hg];exact (zzo zzh2):w.heap.size≤a2));have c1:=zzm ((by rw [hg];exact (zzo zzh2):w.heap.size≤a2));have c2:=zzm ((by rw [hg];exact Nat.ne_of_lt (blk_lt (g:=a0) (o:=.cells #[.bool a3,.bool a4,.int .i64 a9,.int .i64 b0,.int .i64 b1,.slice b2 a5.length b3] 39 (0,0)) (zzE a1.out)):a0≠a2));have c4:=zzm ((by rw [hg];exact Nat.ne_of_gt (blk_lt (g:=a0) (o:=.cells #[.bool a3,.bool a4,.int .i64 a9,.int .i64 b0,.int .i64 b1,.slice b2 a5.length b3] 39 (0,0)) (zzE a1.out)):a2≠a0));clear a1 HB;have a1:=a6;have HB:=a7;have b7:=a8;have d3:=b4;have d4:=c1;have b5:=c2;have b6:=c4;clear a6 a7 a8 b4 c1 c2 c4 hb hbox hg;have A7:=b5.out;have A8:=b6.out;obtain ⟨h1,h2,h3,h4,h5,h6,h7,h8,h9,j4,j5,j6⟩:=zzc6 a1.out;obtain ⟨j7,j8,j9,k0,k1,k2,k3,k4,k5,k6,k7,k8⟩:=zzc6 b7.out));go_ret;exact ⟨zzR,zzh3⟩
  ·
   rw [if_neg c9] at H;have g8:(a4 != b9)=false:=by simpa using c9
   (try (have g9:decide (a4=b9)=true:=by simpa using c9))
   (try (have h0:(a4==b9)=true:=by simpa using c9));clear c9;by_cases d5:a9=c5
   ·
    rw [if_pos d5] at H;obtain ⟨e8,e9⟩:=zzQ d5;clear d5;by_cases d6:b0=c6
    ·
     rw [if_pos d6] at H;obtain ⟨g0,g1⟩:=zzQ d6;clear d6;by_cases d7:b1=c7
     ·
      rw [if_pos d7] at H;obtain ⟨g2,g3⟩:=zzQ d7;clear d7;obtain ⟨d8,g4,H⟩:=zzG H;by_cases e7:d8=true
      ·
       subst e7;replace H:=zzIt H;obtain rfl:=Option.some.inj H;go_enter Try.func25,Try.ntmps25;go_wp2_with (first|((with_reducible refine gate_dst (N:=2) rfl ?_);refine box_event ?hg (N:=2) ?hd (cs:=#[.bool a3,.bool a4,.int .i64 a9,.int .i64 b0,.int .i64 b1,.slice b2 a5.length b3]) (t:=39) ?hr ?_;(case hd=>rfl);(case hg=>rfl);(case hr=>first|(go_simp;done)|(go_simp;rfl));intro a0 hg C8 hbox hb;have a6:=zzm (zzp zzh1 hb);have a7:=zzm (hbox);have a8:=zzm ((by rw [hg];exact (zzo zzh1):w.heap.size≤a0));have b4:=zzm ((by rw [hg];exact (zzo zzh1):w.heap.size≤a0));clear HB;have HB:=a6;have a1:=a7;have d1:=a8;have d2:=b4;clear a6 a7 a8 b4 hb hbox hg)|((with_reducible refine gate_dst (N:=3) rfl ?_);refine box_event ?hg (N:=3) ?hd (cs:=#[.bool b8,.bool b9,.int .i64 c5,.int .i64 c6,.int .i64 c7,.slice c8 c0.length d0]) (t:=39) ?hr ?_;(case hd=>rfl);(case hg=>rfl);(case hr=>first|(go_simp;done)|(go_simp;rfl));intro a2 hg C9 hbox hb;have a6:=zzm (zzh (g:=a0) (o:=.cells #[.bool a3,.bool a4,.int .i64 a9,.int .i64 b0,.int .i64 b1,.slice b2 a5.length b3] 39 (0,0)) (zzE a1.out) hb);have a7:=zzm (zzp zzh2 hb);have a8:=zzm (hbox);have b4:=zzm ((by rw [hg];exact (zzo zzh2):w.heap.size≤a2));have c1:=zzm ((by rw [hg];exact (zzo zzh2):w.heap.size≤a2));have c2:=zzm ((by rw [hg];exact Nat.ne_of_lt (blk_lt (g:=a0) (o:=.cells #[.bool a3,.bool a4,.int .i64 a9,.int .i64 b0,.int .i64 b1,.slice b2 a5.length b3] 39 (0,0)) (zzE a1.out)):a0≠a2));have c4:=zzm ((by rw [hg];exact Nat.ne_of_gt (blk_lt (g:=a0) (o:=.cells #[.bool a3,.bool a4,.int .i64 a9,.int .i64 b0,.int .i64 b1,.slice b2 a5.length b3] 39 (0,0)) (zzE a1.out)):a2≠a0));clear a1 HB;have a1:=a6;have HB:=a7;have b7:=a8;have d3:=b4;have d4:=c1;have b5:=c2;have b6:=c4;clear a6 a7 a8 b4 c1 c2 c4 hb hbox hg;have A9:=b5.out;have B0:=b6.out;obtain ⟨k9,l2,l3,l4,l5,l6,l7,l8,l9,m0,m1,m2⟩:=zzc6 a1.out;obtain ⟨m3,m4,m5,m6,m7,m8,m9,n0,n1,n2,n3,n4⟩:=zzc6 b7.out)|((with_reducible refine gate_callee (f:=8) rfl ?_);refine goesL_ (some 34) rfl rfl Try.func8 (by kernel_rfl) rfl #[.slice b2 a5.length b3,.slice c8 c0.length d0] rfl zzM2 ?_;(with_reducible refine (Qf.calls k _ _ a5 _ _ c0 true _ ?side1 ?side2 ?side3 ?side4 g4.out).mono ?_);(case side1=>exact zzcb e3 HB);(case side2=>exact e4.out);(case side3=>exact zzcb e5 HB);(case side4=>exact e6.out);rintro e D0 ⟨rfl,hb⟩;refine ⟨_,rfl,?_⟩;have a6:=zzm (zzh (g:=a0) (o:=.cells #[.bool a3,.bool a4,.int .i64 a9,.int .i64 b0,.int .i64 b1,.slice b2 a5.length b3] 39 (0,0)) (zzE a1.out) hb);have a7:=zzm (zzh (g:=a2) (o:=.cells #[.bool b8,.bool b9,.int .i64 c5,.int .i64 c6,.int .i64 c7,.slice c8 c0.length d0] 39 (0,0)) (zzE b7.out) hb);have a8:=zzm (zzp zzh2 hb);clear a1 b7 HB;have a1:=a6;have b7:=a7;have HB:=a8;clear a6 a7 a8;(try clear hb);(try clear hb2);(try clear hk);(try clear hi)));go_ret;exact ⟨zzR,zzh3⟩
      ·
       replace e7:=Bool.eq_false_iff.mpr e7;subst e7;replace H:=zzIf H;obtain rfl:=Option.some.inj H;go_enter Try.func25,Try.ntmps25;go_wp2_with (first|((with_reducible refine gate_dst (N:=2) rfl ?_);refine box_event ?hg (N:=2) ?hd (cs:=#[.bool a3,.bool a4,.int .i64 a9,.int .i64 b0,.int .i64 b1,.slice b2 a5.length b3]) (t:=39) ?hr ?_;(case hd=>rfl);(case hg=>rfl);(case hr=>first|(go_simp;done)|(go_simp;rfl));intro a0 hg D1 hbox hb;have a6:=zzm (zzp zzh1 hb);have a7:=zzm (hbox);have a8:=zzm ((by rw [hg];exact (zzo zzh1):w.heap.size≤a0));have b4:=zzm ((by rw [hg];exact (zzo zzh1):w.heap.size≤a0));clear HB;have HB:=a6;have a1:=a7;have d1:=a8;have d2:=b4;clear a6 a7 a8 b4 hb hbox hg)|((with_reducible refine gate_dst (N:=3) rfl ?_);refine box_event ?hg (N:=3) ?hd (cs:=#[.bool b8,.bool b9,.int .i64 c5,.int .i64 c6,.int .i64 c7,.slice c8 c0.length d0]) (t:=39) ?hr ?_;(case hd=>rfl);(case hg=>rfl);(case hr=>first|(go_simp;done)|(go_simp;rfl));intro a2 hg D2 hbox hb;have a6:=zzm (zzh (g:=a0) (o:=.cells #[.bool a3,.bool a4,.int .i64 a9,.int .i64 b0,.int .i64 b1,.slice b2 a5.length b3] 39 (0,0)) (zzE a1.out) hb);have a7:=zzm (zzp zzh2 hb);have a8:=zzm (hbox);have b4:=zzm ((by rw [hg];exact (zzo zzh2):w.heap.size≤a2));have c1:=zzm ((by rw [hg];exact (zzo zzh2):w.heap.size≤a2));have c2:=zzm ((by rw [hg];exact Nat.ne_of_lt (blk_lt (g:=a0) (o:=.cells #[.bool a3,.bool a4,.int .i64 a9,.int .i64 b0,.int .i64 b1,.slice b2 a5.length b3] 39 (0,0)) (zzE a1.out)):a0≠a2));have c4:=zzm ((by rw [hg];exact Nat.ne_of_gt (blk_lt (g:=a0) (o:=.cells #[.bool a3,.bool a4,.int .i64 a9,.int .i64 b0,.int .i64 b1,.slice b2 a5.length b3] 39 (0,0)) (zzE a1.out)):a2≠a0));clear a1 HB;have a1:=a6;have HB:=a7;have b7:=a8;have d3:=b4;have d4:=c1;have b5:=c2;have b6:=c4;clear a6 a7 a8 b4 c1 c2 c4 hb hbox hg;have B1:=b5.out;have B2:=b6.out;obtain ⟨n5,n6,n7,n8,n9,o0,o1,o2,o3,o4,o5,o6⟩:=zzc6 a1.out;obtain ⟨o7,o8,o9,p0,p1,p2,p3,p4,p5,p6,p7,p8⟩:=zzc6 b7.out)|((with_reducible refine gate_callee (f:=8) rfl ?_);refine goesL_ (some 34) rfl rfl Try.func8 (by kernel_rfl) rfl #[.slice b2 a5.length b3,.slice c8 c0.length d0] rfl zzM2 ?_;(with_reducible refine (Qf.calls k _ _ a5 _ _ c0 false _ ?side1 ?side2 ?side3 ?side4 g4.out).mono ?_);(case side1=>exact zzcb e3 HB);(case side2=>exact e4.out);(case side3=>exact zzcb e5 HB);(case side4=>exact e6.out);rintro e D3 ⟨rfl,hb⟩;refine ⟨_,rfl,?_⟩;have a6:=zzm (zzh (g:=a0) (o:=.cells #[.bool a3,.bool a4,.int .i64 a9,.int .i64 b0,.int .i64 b1,.slice b2 a5.length b3] 39 (0,0)) (zzE a1.out) hb);have a7:=zzm (zzh (g:=a2) (o:=.cells #[.bool b8,.bool b9,.int .i64 c5,.int .i64 c6,.int .i64 c7,.slice c8 c0.length d0] 39 (0,0)) (zzE b7.out) hb);have a8:=zzm (zzp zzh2 hb);clear a1 b7 HB;have a1:=a6;have b7:=a7;have HB:=a8;clear a6 a7 a8;(try clear hb);(try clear hb2);(try clear hk);(try clear hi)));go_ret;exact ⟨zzR,zzh3⟩
     ·
      rw [if_neg d7] at H;obtain ⟨g2,g3⟩:=zzY d7;obtain rfl:=Option.some.inj H;go_enter Try.func25,Try.ntmps25;go_wp2_with (first|((with_reducible refine gate_dst (N:=2) rfl ?_);refine box_event ?hg (N:=2) ?hd (cs:=#[.bool a3,.bool a4,.int .i64 a9,.int .i64 b0,.int .i64 b1,.slice b2 a5.length b3]) (t:=39) ?hr ?_;(case hd=>rfl);(case hg=>rfl);(case hr=>first|(go_simp;done)|(go_simp;rfl));intro a0 hg D4 hbox hb;have a6:=zzm (zzp zzh1 hb);have a7:=zzm (hbox);have a8:=zzm ((by rw [hg];exact (zzo zzh1):w.heap.size≤a0));have b4:=zzm ((by rw [hg];exact (zzo zzh1):w.heap.size≤a0));clear HB;have HB:=a6;have a1:=a7;have d1:=a8;have d2:=b4;clear a6 a7 a8 b4 hb hbox hg)|((with_reducible refine gate_dst (N:=3) rfl ?_);refine box_event ?hg (N:=3) ?hd (cs:=#[.bool b8,.bool b9,.int .i64 c5,.int .i64 c6,.int .i64 c7,.slice c8 c0.length d0]) (t:=39) ?hr ?_;(case hd=>rfl);(case hg=>rfl);(case hr=>first|(go_simp;done)|(go_simp;rfl));intro a2 hg D5 hbox hb;have a6:=zzm (zzh (g:=a0) (o:=.cells #[.bool a3,.bool a4,.int .i64 a9,.int .i64 b0,.int .i64 b1,.slice b2 a5.length b3] 39 (0,0)) (zzE a1.out) hb);have a7:=zzm (zzp zzh2 hb);have a8:=zzm (hbox);have b4:=zzm ((by rw [hg];exact (zzo zzh2):w.heap.size≤a2));have c1:=zzm ((by rw [hg];exact (zzo zzh2):w.heap.size≤a2));have c2:=zzm ((by rw [hg];exact Nat.ne_of_lt (blk_lt (g:=a0) (o:=.cells #[.bool a3,.bool a4,.int .i64 a9,.int .i64 b0,.int .i64 b1,.slice b2 a5.length b3] 39 (0,0)) (zzE a1.out)):a0≠a2));have c4:=zzm ((by rw [hg];exact Nat.ne_of_gt (blk_lt (g:=a0) (o:=.cells #[.bool a3,.bool a4,.int .i64 a9,.int .i64 b0,.int .i64 b1,.slice b2 a5.length b3] 39 (0,0)) (zzE a1.out)):a2≠a0));clear a1 HB;have a1:=a6;have HB:=a7;have b7:=a8;have d3:=b4;have d4:=c1;have b5:=c2;have b6:=c4;clear a6 a7 a8 b4 c1 c2 c4 hb hbox hg;have B3:=b5.out;have B7:=b6.out;obtain ⟨p9,q0,q1,q2,q3,q4,q5,q6,q7,q8,q9,r0⟩:=zzc6 a1.out;obtain ⟨r1,r2,r3,r4,r5,r6,r7,r8,r9,s0,s1,s2⟩:=zzc6 b7.out));go_ret;exact ⟨zzR,zzh3⟩
    ·
     rw [if_neg d6] at H;obtain ⟨g0,g1⟩:=zzY d6;obtain rfl:=Option.some.inj H;go_enter Try.func25,Try.ntmps25;go_wp2_with (first|((with_reducible refine gate_dst (N:=2) rfl ?_);refine box_event ?hg (N:=2) ?hd (cs:=#[.bool a3,.bool a4,.int .i64 a9,.int .i64 b0,.int .i64 b1,.slice b2 a5.length b3]) (t:=39) ?hr ?_;(case hd=>rfl);(case hg=>rfl);(case hr=>first|(go_simp;done)|(go_simp;rfl));intro a0 hg D6 hbox hb;have a6:=zzm (zzp zzh1 hb);have a7:=zzm (hbox);have a8:=zzm ((by rw [hg];exact (zzo zzh1):w.heap.size≤a0));have b4:=zzm ((by rw [hg];exact (zzo zzh1):w.heap.size≤a0));clear HB;have HB:=a6;have a1:=a7;have d1:=a8;have d2:=b4;clear a6 a7 a8 b4 hb hbox hg)|((with_reducible refine gate_dst (N:=3) rfl ?_);refine box_event ?hg (N:=3) ?hd (cs:=#[.bool b8,.bool b9,.int .i64 c5,.int .i64 c6,.int .i64 c7,.slice c8 c0.length d0]) (t:=39) ?hr ?_;(case hd=>rfl);(case hg=>rfl);(case hr=>first|(go_simp;done)|(go_simp;rfl));intro a2 hg D7 hbox hb;have a6:=zzm (zzh (g:=a0) (o:=.cells #[.bool a3,.bool a4,.int .i64 a9,.int .i64 b0,.int .i64 b1,.slice b2 a5.length b3] 39 (0,0)) (zzE a1.out) hb);have a7:=zzm (zzp zzh2 hb);have a8:=zzm (hbox);have b4:=zzm ((by rw [hg];exact (zzo zzh2):w.heap.size≤a2));have c1:=zzm ((by rw [hg];exact (zzo zzh2):w.heap.size≤a2));have c2:=zzm ((by rw [hg];exact Nat.ne_of_lt (blk_lt (g:=a0) (o:=.cells #[.bool a3,.bool a4,.int .i64 a9,.int .i64 b0,.int .i64 b1,.slice b2 a5.length b3] 39 (0,0)) (zzE a1.out)):a0≠a2));have c4:=zzm ((by rw [hg];exact Nat.ne_of_gt (blk_lt (g:=a0) (o:=.cells #[.bool a3,.bool a4,.int .i64 a9,.int .i64 b0,.int .i64 b1,.slice b2 a5.length b3] 39 (0,0)) (zzE a1.out)):a2≠a0));clear a1 HB;have a1:=a6;have HB:=a7;have b7:=a8;have d3:=b4;have d4:=c1;have b5:=c2;have b6:=c4;clear a6 a7 a8 b4 c1 c2 c4 hb hbox hg;have B8:=b5.out;have B9:=b6.out;obtain ⟨s3,s4,s5,s6,s7,s8,s9,t0,t1,t2,t3,t4⟩:=zzc6 a1.out;obtain ⟨t5,t6,t7,t8,t9,v0,v1,v2,v3,v4,v5,v6⟩:=zzc6 b7.out));go_ret;exact ⟨zzR,zzh3⟩
   ·
    rw [if_neg d5] at H;obtain ⟨e8,e9⟩:=zzY d5;obtain rfl:=Option.some.inj H;go_enter Try.func25,Try.ntmps25;go_wp2_with (first|((with_reducible refine gate_dst (N:=2) rfl ?_);refine box_event ?hg (N:=2) ?hd (cs:=#[.bool a3,.bool a4,.int .i64 a9,.int .i64 b0,.int .i64 b1,.slice b2 a5.length b3]) (t:=39) ?hr ?_;(case hd=>rfl);(case hg=>rfl);(case hr=>first|(go_simp;done)|(go_simp;rfl));intro a0 hg D8 hbox hb;have a6:=zzm (zzp zzh1 hb);have a7:=zzm (hbox);have a8:=zzm ((by rw [hg];exact (zzo zzh1):w.heap.size≤a0));have b4:=zzm ((by rw [hg];exact (zzo zzh1):w.heap.size≤a0));clear HB;have HB:=a6;have a1:=a7;have d1:=a8;have d2:=b4;clear a6 a7 a8 b4 hb hbox hg)|((with_reducible refine gate_dst (N:=3) rfl ?_);refine box_event ?hg (N:=3) ?hd (cs:=#[.bool b8,.bool b9,.int .i64 c5,.int .i64 c6,.int .i64 c7,.slice c8 c0.length d0]) (t:=39) ?hr ?_;(case hd=>rfl);(case hg=>rfl);(case hr=>first|(go_simp;done)|(go_simp;rfl));intro a2 hg D9 hbox hb;have a6:=zzm (zzh (g:=a0) (o:=.cells #[.bool a3,.bool a4,.int .i64 a9,.int .i64 b0,.int .i64 b1,.slice b2 a5.length b3] 39 (0,0)) (zzE a1.out) hb);have a7:=zzm (zzp zzh2 hb);have a8:=zzm (hbox);have b4:=zzm ((by rw [hg];exact (zzo zzh2):w.heap.size≤a2));have c1:=zzm ((by rw [hg];exact (zzo zzh2):w.heap.size≤a2));have c2:=zzm ((by rw [hg];exact Nat.ne_of_lt (blk_lt (g:=a0) (o:=.cells #[.bool a3,.bool a4,.int .i64 a9,.int .i64 b0,.int .i64 b1,.slice b2 a5.length b3] 39 (0,0)) (zzE a1.out)):a0≠a2));have c4:=zzm ((by rw [hg];exact Nat.ne_of_gt (blk_lt (g:=a0) (o:=.cells #[.bool a3,.bool a4,.int .i64 a9,.int .i64 b0,.int .i64 b1,.slice b2 a5.length b3] 39 (0,0)) (zzE a1.out)):a2≠a0));clear a1 HB;have a1:=a6;have HB:=a7;have b7:=a8;have d3:=b4;have d4:=c1;have b5:=c2;have b6:=c4;clear a6 a7 a8 b4 c1 c2 c4 hb hbox hg;have C0:=b5.out;have C1:=b6.out;obtain ⟨v7,v8,v9,w0,w1,w2,w3,w6,w7,w8,w9,x0⟩:=zzc6 a1.out;obtain ⟨x1,x2,x3,x4,x5,x6,x7,x8,x9,y0,y1,y2⟩:=zzc6 b7.out));go_ret;exact ⟨zzR,zzh3⟩

set_option linter.unusedVariables false
set_option linter.unusedSimpArgs false
def Qm.l0:Nat→List (S39)→List (S39)→Int→Option (Bool)
 | 0,_,_,_=>none
 | k+1,x0,x1,x5=>if x5 < (x0.length:Int) then (if 0≤x5 then (if x5 < (x1.length:Int) then ((Rs.f k ((Qa x0 x5).f0) ((Qa x0 x5).f1) ((Qa x0 x5).f2) ((Qa x0 x5).f3) ((Qa x0 x5).f4) ((Qa x0 x5).f5) ((Qa x1 x5).f0) ((Qa x1 x5).f1) ((Qa x1 x5).f2) ((Qa x1 x5).f3) ((Qa x1 x5).f4) ((Qa x1 x5).f5)).bind fun t338=>(if t338=true then (Qm.l0 k x0 x1 (wrap64 (x5+1))) else (some false))) else (none)) else (none)) else (some true)
def Qm.f (k:Nat) (l0:List (S39)) (l1:List (S39)):Option (Bool):=if (l0.length:Int)=(l1.length:Int) then (Qm.l0 k l0 l1 0) else (some false)
def Qm.T6:Bool×List (List Nat×List Nat):=(true,[([],[]),([],[]),([0,1],[0,1]),([2],[2]),([],[]),([],[]),([4,5],[4,5]),([6],[6]),([3,7],[3,7]),([8],[8])])
def Qm.B6:List Nat:=[0,0,3,7,0,0,48,112,255,511]
theorem Qm.tab6:rtab .any (opsOf Try.f9 6)=Qm.T6:=by kernel_rfl
theorem Qm.bits6:waitsOk Qm.T6.2 Qm.B6=true:=by kernel_rfl
set_option maxHeartbeats 8000000 in
theorem Qm.calls (k:Nat) (A0:Option Addr) (c0:Nat) (l0:List (S39)) (A1:Option Addr) (c1:Nat) (l1:List (S39)) (r:Bool) (w:World) (g9:Kd.C k39 w A0 l0.length l0) (h0:l0.length≤c0) (h1:Kd.C k39 w A1 l1.length l1) (h2:l1.length≤c1) (h:Qm.f k l0 l1=some r) :
  Calls Try.prog 9 #[.slice A0 l0.length c0,.slice A1 l1.length c1] w fun e w'=>e = .returned (.bool r)∧Below w.heap.size w w':=by
 have hu39:=Try.underlying39;have h3:=zzm g9;have h9:=zzm h0;clear g9 h0;have h4:=zzm h1;have j4:=zzm h2;clear h1 h2;have HB:=zzm (Below.refl w.heap.size w);have H:(if (l0.length:Int)=(l1.length:Int) then (Qm.l0 k l0 l1 0) else (some false))=some r:=h;clear h;by_cases c3:(l0.length:Int)=(l1.length:Int)
 ·
  rw [if_pos c3] at H;obtain ⟨g6,g7⟩:=zzQ c3;have g8:(l0.length==l1.length)=true:=by first|simpa using c3|(simp at c3 ⊢;omega)
  clear c3;have H':=zzm H;clear H;go_enter Try.func9,Try.ntmps9;go_wp2;go_loopg [5] k (fun kq v5 w'=>∃ (a0:Int),v5 = .int .i64 a0∧Aside0 (Qm.l0 kq l0 l1 a0=some r)∧Aside0 (kq≤k)∧Aside0 (Below w.heap.size w w'))
  case atStart=>exact ⟨(0),(by first|rfl|(simp;done)|(simp [*];done)),H',⟨Nat.le_refl _⟩,⟨zzh1⟩⟩
  case round=>
   clear H';try clear c1
   try clear p2
   try clear c3
   try clear g6
   try clear g7
   try clear g8
   obtain ⟨a0,rfl,HA,HK1,HB⟩:=hrel;cases gk with
   | zero=>exact absurd HA.out (by simp [Qm.l0])
   | succ k1=>
    have H:=HA.out;clear HA;simp only [Qm.l0] at H;by_cases c4:a0 < (l0.length:Int)
    ·
     rw [if_pos c4] at H;have h5:decide (a0 < (l0.length:Int))=true:=decide_eq_true c4;clear c4;by_cases c5 : 0≤a0
     ·
      rw [if_pos c5] at H;have h7:decide (0≤a0)=true:=decide_eq_true c5;clear c5;by_cases c6:a0 < (l1.length:Int)
      ·
       rw [if_pos c6] at H;have h8:decide (a0 < (l1.length:Int))=true:=decide_eq_true c6;clear c6;obtain ⟨h6,A7,H⟩:=zzG H;by_cases c8:h6=true
       ·
        subst c8;replace H:=zzIt H;have H':=zzm H;clear H;try go_wp2
        have e2:=zzm (zzc HB.out);clear HB;have HB:=e2;clear e2;have e7 : 0≤(a0:Int):=zzt;have e8:a0 < (l0.length:Int):=zzt;obtain ⟨a1,e3,e4,g4,a4,a5,a6,a7,a8,a9,b7,b8⟩:=Q6 h3.out a0 e7 e8;have b9:=a9;have c2:=a8;have c7:=a7;have c9:=a6;have d0:=a5;have d1:=a4;cases g4;replace a4:=zzx HB.out a4;replace a5:=zzx HB.out a5;replace a6:=zzx HB.out a6;replace a7:=zzx HB.out a7;replace a8:=zzx HB.out a8;replace a9:=zzx HB.out a9;have d2:=zzm b8;have g1:=zzm b7;clear b8 b7;replace e7:=eq_true e7;replace e8:=eq_true e8;have e9 : 0≤(a0:Int):=zzt;have g0:a0 < (l1.length:Int):=zzt;obtain ⟨a2,e5,e6,g5,b0,b1,b2,b3,b4,b5,d3,d4⟩:=Q6 h4.out a0 e9 g0;have d5:=b5;have d6:=b4;have d7:=b3;have d8:=b2;have d9:=b1;have e0:=b0;cases g5;replace b0:=zzx HB.out b0;replace b1:=zzx HB.out b1;replace b2:=zzx HB.out b2;replace b3:=zzx HB.out b3;replace b4:=zzx HB.out b4;replace b5:=zzx HB.out b5;have e1:=zzm d4;have g2:=zzm d3;clear d4 d3;replace e9:=eq_true e9;replace g0:=eq_true g0;refine start_ (n:=10) (S:=fun w'=>w'.cell? (a1.add ((a0).toNat * 6))=some (.bool ((Qa l0 a0).f0))∧w'.cell? ⟨(a1.add ((a0).toNat * 6)).block,(a1.add ((a0).toNat * 6)).off+1,none⟩=some (.bool ((Qa l0 a0).f1))∧w'.cell? ⟨(a1.add ((a0).toNat * 6)).block,(a1.add ((a0).toNat * 6)).off+2,none⟩=some (.int .i64 ((Qa l0 a0).f2))∧w'.cell? ⟨(a1.add ((a0).toNat * 6)).block,(a1.add ((a0).toNat * 6)).off+3,none⟩=some (.int .i64 ((Qa l0 a0).f3))∧w'.cell? ⟨(a1.add ((a0).toNat * 6)).block,(a1.add ((a0).toNat * 6)).off+4,none⟩=some (.int .i64 ((Qa l0 a0).f4))∧w'.cell? ⟨(a1.add ((a0).toNat * 6)).block,(a1.add ((a0).toNat * 6)).off+5,none⟩=some (.slice e3 ((Qa l0 a0).f5).length e4)∧w'.cell? (a2.add ((a0).toNat * 6))=some (.bool ((Qa l1 a0).f0))∧w'.cell? ⟨(a2.add ((a0).toNat * 6)).block,(a2.add ((a0).toNat * 6)).off+1,none⟩=some (.bool ((Qa l1 a0).f1))∧w'.cell? ⟨(a2.add ((a0).toNat * 6)).block,(a2.add ((a0).toNat * 6)).off+2,none⟩=some (.int .i64 ((Qa l1 a0).f2))∧w'.cell? ⟨(a2.add ((a0).toNat * 6)).block,(a2.add ((a0).toNat * 6)).off+3,none⟩=some (.int .i64 ((Qa l1 a0).f3))∧w'.cell? ⟨(a2.add ((a0).toNat * 6)).block,(a2.add ((a0).toNat * 6)).off+4,none⟩=some (.int .i64 ((Qa l1 a0).f4))∧w'.cell? ⟨(a2.add ((a0).toNat * 6)).block,(a2.add ((a0).toNat * 6)).off+5,none⟩=some (.slice e5 ((Qa l1 a0).f5).length e6)) (ds:=[]) (zzB 10 0) (by kernel_rfl) rfl rfl ⟨(zzx HB.out d1 :),(zzx HB.out d0 :),(zzx HB.out c9 :),(zzx HB.out c7 :),(zzx HB.out c2 :),(zzx HB.out b9 :),(zzx HB.out e0 :),(zzx HB.out d9 :),(zzx HB.out d8 :),(zzx HB.out d7 :),(zzx HB.out d6 :),(zzx HB.out d5 :)⟩ (fun b6=>?_);refine with_tabW Qm.tab6 Qm.bits6 (fun a3 g3=>?_);generalize wr.drew=w9 at HB d2 e1 a4 a5 a6 a7 a8 a9 b0 b1 b2 b3 b4 b5 b6 ⊢;refine zzP 0 17 10 1 a3 ?_
        refine zzP 1 18 10 3 a3 ?_
        refine zzP 2 19 10 7 a3 ?_
        refine zzP 4 21 10 23 a3 ?_
        refine zzP 5 22 10 55 a3 ?_
        refine zzP 6 23 10 119 a3 ?_
        refine zzT 3 20 10 127 a3 g3 b6 ?_
        refine zzT 7 24 10 255 a3 g3 b6 ?_
        refine one_ (i:=8) (N:=some 25) (zzB 10 511) rfl rfl (one_of a3.out (by kernel_rfl)) (by decide) (fun K hK=>?_);refine goes_ Try.func25 (by kernel_rfl) rfl #[.agg #[.bool ((Qa l0 a0).f0),.bool ((Qa l0 a0).f1),.int .i64 ((Qa l0 a0).f2),.int .i64 ((Qa l0 a0).f3),.int .i64 ((Qa l0 a0).f4),.slice e3 ((Qa l0 a0).f5).length e4],.agg #[.bool ((Qa l1 a0).f0),.bool ((Qa l1 a0).f1),.int .i64 ((Qa l1 a0).f2),.int .i64 ((Qa l1 a0).f3),.int .i64 ((Qa l1 a0).f4),.slice e5 ((Qa l1 a0).f5).length e6]] (by rfl) rfl rfl zzM2 ?_;with_reducible refine (Rs.calls k1 ((Qa l0 a0).f0) ((Qa l0 a0).f1) ((Qa l0 a0).f2) ((Qa l0 a0).f3) ((Qa l0 a0).f4) _ _ ((Qa l0 a0).f5) ((Qa l1 a0).f0) ((Qa l1 a0).f1) ((Qa l1 a0).f2) ((Qa l1 a0).f3) ((Qa l1 a0).f4) _ _ ((Qa l1 a0).f5) true _ ?side1 ?side2 ?side3 ?side4 A7.out).mono ?_
        (case side1=>exact zzcb d2 HB)
        (case side2=>exact g1.out)
        (case side3=>exact zzcb e1 HB)
        (case side4=>exact g2.out);rintro e j5 ⟨rfl,hb⟩;refine ⟨_,rfl,?_⟩;have e2:=zzm (zzp zzh1 hb);clear HB;have HB:=e2;clear e2
        (try clear hb)
        (try clear hb2)
        (try clear hk)
        (try clear hi);refine hK.out _ _ ⟨(zzx HB.out d1 :),(zzx HB.out d0 :),(zzx HB.out c9 :),(zzx HB.out c7 :),(zzx HB.out c2 :),(zzx HB.out b9 :),(zzx HB.out e0 :),(zzx HB.out d9 :),(zzx HB.out d8 :),(zzx HB.out d7 :),(zzx HB.out d6 :),(zzx HB.out d5 :)⟩ (fun b6=>?_);clear hK K;refine zzO 25 ?_
        refine zzP 9 26 10 1023 a3 ?_
        refine done_ (done_of a3.out (by kernel_rfl)) ?_;try go_wp2
        go_roundg k1
        case measure=>have:=HK1.out;omega
        case rel=>exact ⟨(wrap64 (a0+1)),(by first|rfl|(simp;done)|(simp [*];done)),H',⟨by have:=HK1.out;omega⟩,⟨zzh1⟩⟩
       ·
        replace c8:=Bool.eq_false_iff.mpr c8;subst c8;replace H:=zzIf H;obtain rfl:=Option.some.inj H;try go_wp2
        have e2:=zzm (zzc HB.out);clear HB;have HB:=e2;clear e2;have e7 : 0≤(a0:Int):=zzt;have e8:a0 < (l0.length:Int):=zzt;obtain ⟨a1,e3,e4,g4,a4,a5,a6,a7,a8,a9,b7,b8⟩:=Q6 h3.out a0 e7 e8;have b9:=a9;have c2:=a8;have c7:=a7;have c9:=a6;have d0:=a5;have d1:=a4;cases g4;replace a4:=zzx HB.out a4;replace a5:=zzx HB.out a5;replace a6:=zzx HB.out a6;replace a7:=zzx HB.out a7;replace a8:=zzx HB.out a8;replace a9:=zzx HB.out a9;have d2:=zzm b8;have g1:=zzm b7;clear b8 b7;replace e7:=eq_true e7;replace e8:=eq_true e8;have e9 : 0≤(a0:Int):=zzt;have g0:a0 < (l1.length:Int):=zzt;obtain ⟨a2,e5,e6,g5,b0,b1,b2,b3,b4,b5,d3,d4⟩:=Q6 h4.out a0 e9 g0;have d5:=b5;have d6:=b4;have d7:=b3;have d8:=b2;have d9:=b1;have e0:=b0;cases g5;replace b0:=zzx HB.out b0;replace b1:=zzx HB.out b1;replace b2:=zzx HB.out b2;replace b3:=zzx HB.out b3;replace b4:=zzx HB.out b4;replace b5:=zzx HB.out b5;have e1:=zzm d4;have g2:=zzm d3;clear d4 d3;replace e9:=eq_true e9;replace g0:=eq_true g0;refine start_ (n:=10) (S:=fun w'=>w'.cell? (a1.add ((a0).toNat * 6))=some (.bool ((Qa l0 a0).f0))∧w'.cell? ⟨(a1.add ((a0).toNat * 6)).block,(a1.add ((a0).toNat * 6)).off+1,none⟩=some (.bool ((Qa l0 a0).f1))∧w'.cell? ⟨(a1.add ((a0).toNat * 6)).block,(a1.add ((a0).toNat * 6)).off+2,none⟩=some (.int .i64 ((Qa l0 a0).f2))∧w'.cell? ⟨(a1.add ((a0).toNat * 6)).block,(a1.add ((a0).toNat * 6)).off+3,none⟩=some (.int .i64 ((Qa l0 a0).f3))∧w'.cell? ⟨(a1.add ((a0).toNat * 6)).block,(a1.add ((a0).toNat * 6)).off+4,none⟩=some (.int .i64 ((Qa l0 a0).f4))∧w'.cell? ⟨(a1.add ((a0).toNat * 6)).block,(a1.add ((a0).toNat * 6)).off+5,none⟩=some (.slice e3 ((Qa l0 a0).f5).length e4)∧w'.cell? (a2.add ((a0).toNat * 6))=some (.bool ((Qa l1 a0).f0))∧w'.cell? ⟨(a2.add ((a0).toNat * 6)).block,(a2.add ((a0).toNat * 6)).off+1,none⟩=some (.bool ((Qa l1 a0).f1))∧w'.cell? ⟨(a2.add ((a0).toNat * 6)).block,(a2.add ((a0).toNat * 6)).off+2,none⟩=some (.int .i64 ((Qa l1 a0).f2))∧w'.cell? ⟨(a2.add ((a0).toNat * 6)).block,(a2.add ((a0).toNat * 6)).off+3,none⟩=some (.int .i64 ((Qa l1 a0).f3))∧w'.cell? ⟨(a2.add ((a0).toNat * 6)).block,(a2.add ((a0).toNat * 6)).off+4,none⟩=some (.int .i64 ((Qa l1 a0).f4))∧w'.cell? ⟨(a2.add ((a0).toNat * 6)).block,(a2.add ((a0).toNat * 6)).off+5,none⟩=some (.slice e5 ((Qa l1 a0).f5).length e6)) (ds:=[]) (zzB 10 0) (by kernel_rfl) rfl rfl ⟨(zzx HB.out d1 :),(zzx HB.out d0 :),(zzx HB.out c9 :),(zzx HB.out c7 :),(zzx HB.out c2 :),(zzx HB.out b9 :),(zzx HB.out e0 :),(zzx HB.out d9 :),(zzx HB.out d8 :),(zzx HB.out d7 :),(zzx HB.out d6 :),(zzx HB.out d5 :)⟩ (fun b6=>?_);refine with_tabW Qm.tab6 Qm.bits6 (fun a3 g3=>?_);generalize wr.drew=j6 at HB d2 e1 a4 a5 a6 a7 a8 a9 b0 b1 b2 b3 b4 b5 b6 ⊢;refine zzP 0 17 10 1 a3 ?_
        refine zzP 1 18 10 3 a3 ?_
        refine zzP 2 19 10 7 a3 ?_
        refine zzP 4 21 10 23 a3 ?_
        refine zzP 5 22 10 55 a3 ?_
        refine zzP 6 23 10 119 a3 ?_
        refine zzT 3 20 10 127 a3 g3 b6 ?_
        refine zzT 7 24 10 255 a3 g3 b6 ?_
        refine one_ (i:=8) (N:=some 25) (zzB 10 511) rfl rfl (one_of a3.out (by kernel_rfl)) (by decide) (fun K hK=>?_);refine goes_ Try.func25 (by kernel_rfl) rfl #[.agg #[.bool ((Qa l0 a0).f0),.bool ((Qa l0 a0).f1),.int .i64 ((Qa l0 a0).f2),.int .i64 ((Qa l0 a0).f3),.int .i64 ((Qa l0 a0).f4),.slice e3 ((Qa l0 a0).f5).length e4],.agg #[.bool ((Qa l1 a0).f0),.bool ((Qa l1 a0).f1),.int .i64 ((Qa l1 a0).f2),.int .i64 ((Qa l1 a0).f3),.int .i64 ((Qa l1 a0).f4),.slice e5 ((Qa l1 a0).f5).length e6]] (by rfl) rfl rfl zzM2 ?_;with_reducible refine (Rs.calls k1 ((Qa l0 a0).f0) ((Qa l0 a0).f1) ((Qa l0 a0).f2) ((Qa l0 a0).f3) ((Qa l0 a0).f4) _ _ ((Qa l0 a0).f5) ((Qa l1 a0).f0) ((Qa l1 a0).f1) ((Qa l1 a0).f2) ((Qa l1 a0).f3) ((Qa l1 a0).f4) _ _ ((Qa l1 a0).f5) false _ ?side1 ?side2 ?side3 ?side4 A7.out).mono ?_
        (case side1=>exact zzcb d2 HB)
        (case side2=>exact g1.out)
        (case side3=>exact zzcb e1 HB)
        (case side4=>exact g2.out);rintro e j7 ⟨rfl,hb⟩;refine ⟨_,rfl,?_⟩;have e2:=zzm (zzp zzh1 hb);clear HB;have HB:=e2;clear e2
        (try clear hb)
        (try clear hb2)
        (try clear hk)
        (try clear hi);refine hK.out _ _ ⟨(zzx HB.out d1 :),(zzx HB.out d0 :),(zzx HB.out c9 :),(zzx HB.out c7 :),(zzx HB.out c2 :),(zzx HB.out b9 :),(zzx HB.out e0 :),(zzx HB.out d9 :),(zzx HB.out d8 :),(zzx HB.out d7 :),(zzx HB.out d6 :),(zzx HB.out d5 :)⟩ (fun b6=>?_);clear hK K;refine zzO 25 ?_
        refine zzP 9 26 10 1023 a3 ?_
        refine done_ (done_of a3.out (by kernel_rfl)) ?_;try go_wp2
        go_ret;exact ⟨zzR,zzh1⟩
      ·
       rw [if_neg c6] at H;exact absurd H (by simp)
     ·
      rw [if_neg c5] at H;exact absurd H (by simp)
    ·
     rw [if_neg c4] at H;have h5:decide (a0 < (l0.length:Int))=false:=decide_eq_false c4;clear c4;obtain rfl:=Option.some.inj H;go_wp2;go_ret;exact ⟨zzR,zzh1⟩
 ·
  rw [if_neg c3] at H;obtain ⟨g6,g7⟩:=zzY c3;have g8:(l0.length==l1.length)=false:=by first|simpa using c3|(simp at c3 ⊢;omega)
  obtain rfl:=Option.some.inj H;go_enter Try.func9,Try.ntmps9;go_wp2;go_ret;exact ⟨zzR,zzh1⟩
end Go.Proofs.Ytmloblepcbimkaa.T
