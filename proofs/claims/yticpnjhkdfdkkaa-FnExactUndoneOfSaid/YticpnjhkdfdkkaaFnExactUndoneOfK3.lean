/- The law FnExactUndoneOf holds (part 4 of 6; merged by pack2.py). -/
import Derived.Test.YticpnjhkdfdkkaaFnExactUndoneOfK2
set_option maxRecDepth 1000000
open List (setIfInBounds_toArray set_cons_zero set_cons_succ map_toArray map_cons map_nil length_drop length_take)
namespace Go.Proofs.Yticpnjhkdfdkkaa.T
open Go.RowKit Go.Proofs.YticpnjhkdfdkkaaW.PrintWords Go.Proofs.YticpnjhkdfdkkaaW.PrintLast Go.Proofs.YticpnjhkdfdkkaaW.PrintMore

set_option linter.unusedVariables false
set_option linter.unusedSimpArgs false
def Ql.l0:Nat→List (S27)→Int→Option (Bool)
 | 0,_,_=>none
 | k+1,x0,x3=>if x3 < (x0.length:Int) then (if 0≤x3 then ((Qo.f k ((Qa x0 x3).f0) ((Qa x0 x3).f1) ((Qa x0 x3).f2) ((Qa x0 x3).f3) ((Qa x0 x3).f4) ((Qa x0 x3).f5)).bind fun t300=>(if t300=true then (if x3 > 0 then (if 0≤(wrap64 (x3 - 1)) then (if (wrap64 (x3 - 1)) < (x0.length:Int) then ((Rh.f ((Qa x0 (wrap64 (x3 - 1))).f0) ((Qa x0 (wrap64 (x3 - 1))).f1) ((Qa x0 (wrap64 (x3 - 1))).f2) ((Qa x0 (wrap64 (x3 - 1))).f3) ((Qa x0 (wrap64 (x3 - 1))).f4) ((Qa x0 (wrap64 (x3 - 1))).f5)).bind fun t302=>(if 0 < (((Qa x0 x3).f5).length:Int) then (if t302 ≥ ((Qb ((Qa x0 x3).f5) 0).f0) then (some false) else (Ql.l0 k x0 (wrap64 (x3+1)))) else (none))) else (none)) else (none)) else (Ql.l0 k x0 (wrap64 (x3+1)))) else (some false))) else (none)) else (some (decide ((x0.length:Int)≤8)))
def Ql.f (k:Nat) (l0:List (S27)):Option (Bool):=Ql.l0 k l0 0
def Ql.T4:Bool×List (List Nat×List Nat):=(true,[([],[]),([],[]),([0,1],[0,1]),([2],[2]),([3],[3]),([4],[4]),([5,4],[5]),([6],[6]),([7,6],[6,7]),([8,6,6],[6,8]),([9],[9]),([9],[9]),([11,9],[9,11]),([10,12,9],[9,10,12]),([13,9],[9,13]),([14,9,9],[9,14]),([9],[9]),([9],[9]),([16,17,9],[9,16,17]),([18,9],[9,18]),([19,9],[9,19]),([20,9],[9,20]),([21,9],[9,21]),([22,9],[9,22]),([15,23,9],[9,15,23]),([9,24,6],[6,9,24]),([6,25],[6,25])])
def Ql.B4:List Nat:=[0,0,3,7,15,31,63,127,255,511,1023,1023,3071,8191,16383,32767,1023,1023,197631,459775,984063,2032639,4129791,8324095,16777215,33554431,67108863]
theorem Ql.tab4:rtab .any (opsOf Try.f44 4)=Ql.T4:=by kernel_rfl
theorem Ql.bits4:waitsOk Ql.T4.2 Ql.B4=true:=by kernel_rfl
set_option maxHeartbeats 8000000 in
theorem Ql.calls (k:Nat) (A0:Option Addr) (c0:Nat) (l0:List (S27)) (r:Bool) (w:World) (o1:Kd.C k27 w A0 l0.length l0) (o2:l0.length≤c0) (h:Ql.f k l0=some r) :
  Calls Try.prog 44 #[.slice A0 l0.length c0] w fun e w'=>e = .returned (.bool r)∧Below w.heap.size w w':=by
 have hu27:=Try.underlying27;have m2:=zzm o1;have p2:=zzm o2;clear o1 o2;have HB:=zzm (Below.refl w.heap.size w);have H:(Ql.l0 k l0 0)=some r:=h;clear h;have H':=zzm H;clear H;go_enter Try.func44,Try.ntmps44;go_wp2;go_loopg [3] k (fun kq v3 w'=>∃ (a0:Int),v3 = .int .i64 a0∧Aside0 (Ql.l0 kq l0 a0=some r)∧Aside0 (kq≤k)∧Aside0 (Below w.heap.size w w'))
 case atStart=>exact ⟨(0),(by first|rfl|(simp;done)|(simp [*];done)),H',⟨Nat.le_refl _⟩,⟨zzh1⟩⟩
 case round=>
  clear H';obtain ⟨a0,rfl,HA,HK1,HB⟩:=hrel;cases gk with
  | zero=>exact absurd HA.out (by simp [Ql.l0])
  | succ k1=>
   have H:=HA.out;clear HA;simp only [Ql.l0] at H;by_cases c2:a0 < (l0.length:Int)
   ·
    rw [if_pos c2] at H;have o4:decide (a0 < (l0.length:Int))=true:=decide_eq_true c2;clear c2;by_cases c3 : 0≤a0
    ·
     rw [if_pos c3] at H;have o9:decide (0≤a0)=true:=decide_eq_true c3;clear c3;obtain ⟨o5,A4,H⟩:=zzG H;by_cases c5:o5=true
     ·
      subst c5;replace H:=zzIt H;by_cases c6:a0 > 0
      ·
       rw [if_pos c6] at H;have o6:decide (0 < a0)=true:=decide_eq_true c6;clear c6;obtain ⟨a3,hji7⟩:∃ j_:Int,(wrap64 (a0 - 1))=j_:=⟨_,rfl⟩;replace H:(if 0≤(a3) then (if (a3) < (l0.length:Int) then ((Rh.f ((Qa l0 (a3)).f0) ((Qa l0 (a3)).f1) ((Qa l0 (a3)).f2) ((Qa l0 (a3)).f3) ((Qa l0 (a3)).f4) ((Qa l0 (a3)).f5)).bind fun k9=>(if 0 < (((Qa l0 a0).f5).length:Int) then (if k9 ≥ ((Qb ((Qa l0 a0).f5) 0).f0) then (some false) else (Ql.l0 k1 l0 (wrap64 (a0+1)))) else (none))) else (none)) else (none))=some r:=by first|(rw [hji7] at H;exact H)|(simp only [hji7] at H ⊢;exact H)
       (try rw [hji7] at A4);have hji7w:(IntKind.i64.wrap (a0 - 1))=a3:=(i64_w _).trans hji7;by_cases c8 : 0≤(a3)
       ·
        rw [if_pos c8] at H;have p0:decide (0≤(a3))=true:=decide_eq_true c8;clear c8;by_cases c9:(a3) < (l0.length:Int)
        ·
         rw [if_pos c9] at H;have p1:decide ((a3) < (l0.length:Int))=true:=decide_eq_true c9;clear c9;obtain ⟨k9,o3,H⟩:=zzG H;by_cases n5 : 0 < (((Qa l0 a0).f5).length:Int)
         ·
          rw [if_pos n5] at H;have o7:decide (0 < (((Qa l0 a0).f5).length:Int))=true:=decide_eq_true n5;have o8:decide (0 < ((Qa l0 a0).f5).length)=true:=decide_eq_true (by omega);clear n5;by_cases m7:k9 ≥ ((Qb ((Qa l0 a0).f5) 0).f0)
          ·
           rw [if_pos m7] at H;have n9:decide (((Qb ((Qa l0 a0).f5) 0).f0)≤k9)=true:=decide_eq_true m7;clear m7;obtain rfl:=Option.some.inj H;try go_wp2
           have d8:=zzm (zzc HB.out);clear HB;have HB:=d8;clear d8;have g5 : 0≤(a0:Int):=zzt;have g6:a0 < (l0.length:Int):=zzt;obtain ⟨a1,g7,d7,l2,a5,a6,a7,a8,a9,b0,d9,e0⟩:=Q2 m2.out a0 g5 g6;have b1:=b0;have b9:=a9;have c1:=a8;have c4:=a7;have c7:=a6;have d0:=a5;cases l2;replace a5:=zzx HB.out a5;replace a6:=zzx HB.out a6;replace a7:=zzx HB.out a7;replace a8:=zzx HB.out a8;replace a9:=zzx HB.out a9;replace b0:=zzx HB.out b0;have e1:=zzm e0;have g8:=zzm d9;clear e0 d9;replace g5:=eq_true g5;replace g6:=eq_true g6;have l3 : 0≤((a3):Int):=zzt;have l4:(a3) < (l0.length:Int):=zzt;obtain ⟨m8,k5,k6,n2,e3,e4,e5,e6,e7,e8,j3,j4⟩:=Q2 m2.out (a3) l3 l4;have g9:=e8;have h0:=e7;have h1:=e6;have h2:=e5;have h3:=e4;have h4:=e3;obtain rfl:a1=m8:=(by injection n2);replace e3:=zzx HB.out e3;replace e4:=zzx HB.out e4;replace e5:=zzx HB.out e5;replace e6:=zzx HB.out e6;replace e7:=zzx HB.out e7;replace e8:=zzx HB.out e8;have j5:=zzm j4;have l9:=zzm j3;clear j4 j3;replace l3:=eq_true l3;replace l4:=eq_true l4;have l5 : 0≤(a0:Int):=zzt;have l6:a0 < (l0.length:Int):=zzt;obtain ⟨m9,k7,k8,n3,e9,g0,g1,g2,g3,g4,j6,j7⟩:=Q2 m2.out a0 l5 l6;have e2:=g4;have h5:=g3;have h6:=g2;have h7:=g1;have h8:=g0;have h9:=e9;obtain rfl:a1=m9:=(by injection n3);replace e9:=zzx HB.out e9;replace g0:=zzx HB.out g0;replace g1:=zzx HB.out g1;replace g2:=zzx HB.out g2;replace g3:=zzx HB.out g3;replace g4:=zzx HB.out g4;have j8:=zzm j7;have n6:=zzm j6;clear j7 j6;replace l5:=eq_true l5;replace l6:=eq_true l6;have l7 : 0≤(0:Int):=(by omega);have l8 : 0 < (((Qa l0 a0).f5).length:Int):=zzt;have eA_:k7=g7:=by have e_:=Option.some.inj (b1.symm.trans e2);injection e_ with n0 _ n1;exact n0.symm
           have eC_:k8=d7:=by have e_:=Option.some.inj (b1.symm.trans e2);injection e_ with n0 _ n1;exact n1.symm
           subst k7;subst k8;obtain ⟨a4,m3,m4,m5,m6,n4,b3,b4,b5,b6,b7,b8,j9,k0,k2,k3⟩:=Q9 j8.out 0 l7 l8;have d1:=b8
           (try rw [show ((0:Int)).toNat=0 from rfl] at d1)
           (try rw [show 0 * 6=0 from rfl] at d1)
           (try rw [Addr.add_zero'] at d1);have d2:=b7
           (try rw [show ((0:Int)).toNat=0 from rfl] at d2)
           (try rw [show 0 * 6=0 from rfl] at d2)
           (try rw [Addr.add_zero'] at d2);have d3:=b6
           (try rw [show ((0:Int)).toNat=0 from rfl] at d3)
           (try rw [show 0 * 6=0 from rfl] at d3)
           (try rw [Addr.add_zero'] at d3);have d4:=b5
           (try rw [show ((0:Int)).toNat=0 from rfl] at d4)
           (try rw [show 0 * 6=0 from rfl] at d4)
           (try rw [Addr.add_zero'] at d4);have d5:=b4
           (try rw [show ((0:Int)).toNat=0 from rfl] at d5)
           (try rw [show 0 * 6=0 from rfl] at d5)
           (try rw [Addr.add_zero'] at d5);have d6:=b3
           (try rw [show ((0:Int)).toNat=0 from rfl] at d6)
           (try rw [show 0 * 6=0 from rfl] at d6)
           (try rw [Addr.add_zero'] at d6);cases n4;have o0:(0 < ((Qa l0 a0).f5).length)=True:=eq_true (by omega)
           (try rw [show ((0:Int)).toNat=0 from rfl] at b3)
           (try rw [show 0 * 6=0 from rfl] at b3)
           (try rw [Addr.add_zero'] at b3)
           (try rw [show ((0:Int)).toNat=0 from rfl] at b4)
           (try rw [show 0 * 6=0 from rfl] at b4)
           (try rw [Addr.add_zero'] at b4)
           (try rw [show ((0:Int)).toNat=0 from rfl] at b5)
           (try rw [show 0 * 6=0 from rfl] at b5)
           (try rw [Addr.add_zero'] at b5)
           (try rw [show ((0:Int)).toNat=0 from rfl] at b6)
           (try rw [show 0 * 6=0 from rfl] at b6)
           (try rw [Addr.add_zero'] at b6)
           (try rw [show ((0:Int)).toNat=0 from rfl] at b7)
           (try rw [show 0 * 6=0 from rfl] at b7)
           (try rw [Addr.add_zero'] at b7)
           (try rw [show ((0:Int)).toNat=0 from rfl] at b8)
           (try rw [show 0 * 6=0 from rfl] at b8)
           (try rw [Addr.add_zero'] at b8);replace b3:=zzx HB.out b3;replace b4:=zzx HB.out b4;replace b5:=zzx HB.out b5;replace b6:=zzx HB.out b6;replace b7:=zzx HB.out b7;replace b8:=zzx HB.out b8;have m0:=zzm k0;have n7:=zzm j9;clear k0 j9;have m1:=zzm k3;have n8:=zzm k2;clear k3 k2;replace l7:=eq_true l7;replace l8:=eq_true l8;refine start_ (n:=27) (S:=fun w'=>w'.cell? (a1.add ((a0).toNat * 6))=some (.bool ((Qa l0 a0).f0))∧w'.cell? ⟨(a1.add ((a0).toNat * 6)).block,(a1.add ((a0).toNat * 6)).off+1,none⟩=some (.bool ((Qa l0 a0).f1))∧w'.cell? ⟨(a1.add ((a0).toNat * 6)).block,(a1.add ((a0).toNat * 6)).off+2,none⟩=some (.int .i64 ((Qa l0 a0).f2))∧w'.cell? ⟨(a1.add ((a0).toNat * 6)).block,(a1.add ((a0).toNat * 6)).off+3,none⟩=some (.int .i64 ((Qa l0 a0).f3))∧w'.cell? ⟨(a1.add ((a0).toNat * 6)).block,(a1.add ((a0).toNat * 6)).off+4,none⟩=some (.int .i64 ((Qa l0 a0).f4))∧w'.cell? ⟨(a1.add ((a0).toNat * 6)).block,(a1.add ((a0).toNat * 6)).off+5,none⟩=some (.slice (some a4) ((Qa l0 a0).f5).length d7)∧w'.cell? (a1.add (((a3)).toNat * 6))=some (.bool ((Qa l0 (a3)).f0))∧w'.cell? ⟨(a1.add (((a3)).toNat * 6)).block,(a1.add (((a3)).toNat * 6)).off+1,none⟩=some (.bool ((Qa l0 (a3)).f1))∧w'.cell? ⟨(a1.add (((a3)).toNat * 6)).block,(a1.add (((a3)).toNat * 6)).off+2,none⟩=some (.int .i64 ((Qa l0 (a3)).f2))∧w'.cell? ⟨(a1.add (((a3)).toNat * 6)).block,(a1.add (((a3)).toNat * 6)).off+3,none⟩=some (.int .i64 ((Qa l0 (a3)).f3))∧w'.cell? ⟨(a1.add (((a3)).toNat * 6)).block,(a1.add (((a3)).toNat * 6)).off+4,none⟩=some (.int .i64 ((Qa l0 (a3)).f4))∧w'.cell? ⟨(a1.add (((a3)).toNat * 6)).block,(a1.add (((a3)).toNat * 6)).off+5,none⟩=some (.slice k5 ((Qa l0 (a3)).f5).length k6)∧w'.cell? (a1.add ((a0).toNat * 6))=some (.bool ((Qa l0 a0).f0))∧w'.cell? ⟨(a1.add ((a0).toNat * 6)).block,(a1.add ((a0).toNat * 6)).off+1,none⟩=some (.bool ((Qa l0 a0).f1))∧w'.cell? ⟨(a1.add ((a0).toNat * 6)).block,(a1.add ((a0).toNat * 6)).off+2,none⟩=some (.int .i64 ((Qa l0 a0).f2))∧w'.cell? ⟨(a1.add ((a0).toNat * 6)).block,(a1.add ((a0).toNat * 6)).off+3,none⟩=some (.int .i64 ((Qa l0 a0).f3))∧w'.cell? ⟨(a1.add ((a0).toNat * 6)).block,(a1.add ((a0).toNat * 6)).off+4,none⟩=some (.int .i64 ((Qa l0 a0).f4))∧w'.cell? ⟨(a1.add ((a0).toNat * 6)).block,(a1.add ((a0).toNat * 6)).off+5,none⟩=some (.slice (some a4) ((Qa l0 a0).f5).length d7)∧w'.cell? a4=some (.int .i64 ((Qb ((Qa l0 a0).f5) 0).f0))∧w'.cell? ⟨a4.block,a4.off+1,none⟩=some (.int .i64 ((Qb ((Qa l0 a0).f5) 0).f1))∧w'.cell? ⟨a4.block,a4.off+2,none⟩=some (.bool ((Qb ((Qa l0 a0).f5) 0).f2))∧w'.cell? ⟨a4.block,a4.off+3,none⟩=some (.slice m3 ((Qb ((Qa l0 a0).f5) 0).f3).length m4)∧w'.cell? ⟨a4.block,a4.off+4,none⟩=some (.bool ((Qb ((Qa l0 a0).f5) 0).f4))∧w'.cell? ⟨a4.block,a4.off+5,none⟩=some (.slice m5 ((Qb ((Qa l0 a0).f5) 0).f5).length m6)) (ds:=[]) (zzB 27 0) (by kernel_rfl) rfl rfl ⟨(zzx HB.out d0),(zzx HB.out c7),(zzx HB.out c4),(zzx HB.out c1),(zzx HB.out b9),(zzx HB.out b1),(zzx HB.out h4),(zzx HB.out h3),(zzx HB.out h2),(zzx HB.out h1),(zzx HB.out h0),(zzx HB.out g9),(zzx HB.out h9),(zzx HB.out h8),(zzx HB.out h7),(zzx HB.out h6),(zzx HB.out h5),(zzx HB.out e2),(zzx HB.out d6),(zzx HB.out d5),(zzx HB.out d4),(zzx HB.out d3),(zzx HB.out d2),(zzx HB.out d1)⟩ (fun b2=>?_);refine with_tabW Ql.tab4 Ql.bits4 (fun a2 k4=>?_);generalize wr.drew=p3 at HB e1 j5 j8 m0 m1 a5 a6 a7 a8 a9 b0 e3 e4 e5 e6 e7 e8 e9 g0 g1 g2 g3 g4 b3 b4 b5 b6 b7 b8 b2 ⊢;refine zzP 0 10 27 1 a2 ?_
           refine zzP 1 11 27 3 a2 ?_
           refine zzP 2 12 27 7 a2 ?_
           refine zzT 3 13 27 15 a2 k4 b2 ?_
           refine one_ (i:=4) (N:=some 14) (zzB 27 31) rfl rfl (one_of a2.out (by kernel_rfl)) (by decide) (fun K hK=>?_);refine goes_ Try.func55 (by kernel_rfl) rfl #[.agg #[.bool ((Qa l0 a0).f0),.bool ((Qa l0 a0).f1),.int .i64 ((Qa l0 a0).f2),.int .i64 ((Qa l0 a0).f3),.int .i64 ((Qa l0 a0).f4),.slice (some a4) ((Qa l0 a0).f5).length d7]] (by rfl) rfl rfl zzM2 ?_;with_reducible refine (Qo.calls k1 ((Qa l0 a0).f0) ((Qa l0 a0).f1) ((Qa l0 a0).f2) ((Qa l0 a0).f3) ((Qa l0 a0).f4) _ _ ((Qa l0 a0).f5) true _ ?side1 ?side2 A4.out).mono ?_
           (case side1=>exact zzcb e1 HB)
           (case side2=>exact g8.out);rintro e p4 ⟨rfl,hb⟩;refine ⟨_,rfl,?_⟩;have d8:=zzm (zzp zzh1 hb);clear HB;have HB:=d8;clear d8
           (try clear hb)
           (try clear hb2)
           (try clear hk)
           (try clear hi);refine hK.out _ _ ⟨(zzx HB.out d0),(zzx HB.out c7),(zzx HB.out c4),(zzx HB.out c1),(zzx HB.out b9),(zzx HB.out b1),(zzx HB.out h4),(zzx HB.out h3),(zzx HB.out h2),(zzx HB.out h1),(zzx HB.out h0),(zzx HB.out g9),(zzx HB.out h9),(zzx HB.out h8),(zzx HB.out h7),(zzx HB.out h6),(zzx HB.out h5),(zzx HB.out e2),(zzx HB.out d6),(zzx HB.out d5),(zzx HB.out d4),(zzx HB.out d3),(zzx HB.out d2),(zzx HB.out d1)⟩ (fun b2=>?_);clear hK K;refine zzO 14 ?_
           refine zzP 5 15 27 63 a2 ?_
           refine zzP 6 16 27 127 a2 ?_
           refine zzP 7 17 27 255 a2 ?_
           refine zzP 8 18 27 511 a2 ?_
           refine zzP 9 19 27 1023 a2 ?_
           refine zzP 10 20 27 2047 a2 ?_
           refine zzP 11 21 27 4095 a2 ?_
           refine zzP 12 22 27 8191 a2 ?_
           refine zzP 13 23 27 16383 a2 ?_
           refine zzP 16 26 27 81919 a2 ?_
           refine zzP 17 27 27 212991 a2 ?_
           refine zzP 18 28 27 475135 a2 ?_
           refine zzP 19 29 27 999423 a2 ?_
           refine zzT 14 24 27 1015807 a2 k4 b2 ?_
           refine zzT 20 30 27 2064383 a2 k4 b2 ?_
           refine zzP 21 31 27 4161535 a2 ?_
           refine zzP 22 32 27 8355839 a2 ?_
           refine zzT 23 33 27 16744447 a2 k4 b2 ?_
           refine one_ (i:=15) (N:=some 25) (zzB 27 16777215) rfl rfl (one_of a2.out (by kernel_rfl)) (by decide) (fun K hK=>?_);refine goes_ Try.func76 (by kernel_rfl) rfl #[.agg #[.bool ((Qa l0 (a3)).f0),.bool ((Qa l0 (a3)).f1),.int .i64 ((Qa l0 (a3)).f2),.int .i64 ((Qa l0 (a3)).f3),.int .i64 ((Qa l0 (a3)).f4),.slice k5 ((Qa l0 (a3)).f5).length k6]] (by rfl) rfl rfl (by (try simp only [map_toArray,map_cons,map_nil]);first|done|(simp only [hji7];rfl)|rfl|(simp only [length_drop,length_take];rfl)) ?_;with_reducible refine (Rh.calls ((Qa l0 (a3)).f0) ((Qa l0 (a3)).f1) ((Qa l0 (a3)).f2) ((Qa l0 (a3)).f3) ((Qa l0 (a3)).f4) _ _ ((Qa l0 (a3)).f5) k9 _ ?side1 ?side2 o3.out).mono ?_
           (case side1=>exact zzcb j5 HB)
           (case side2=>exact l9.out);rintro e p5 ⟨rfl,hb⟩;refine ⟨_,rfl,?_⟩;have d8:=zzm (zzp zzh1 hb);clear HB;have HB:=d8;clear d8
           (try clear hb)
           (try clear hb2)
           (try clear hk)
           (try clear hi);refine hK.out _ _ ⟨(zzx HB.out d0),(zzx HB.out c7),(zzx HB.out c4),(zzx HB.out c1),(zzx HB.out b9),(zzx HB.out b1),(zzx HB.out h4),(zzx HB.out h3),(zzx HB.out h2),(zzx HB.out h1),(zzx HB.out h0),(zzx HB.out g9),(zzx HB.out h9),(zzx HB.out h8),(zzx HB.out h7),(zzx HB.out h6),(zzx HB.out h5),(zzx HB.out e2),(zzx HB.out d6),(zzx HB.out d5),(zzx HB.out d4),(zzx HB.out d3),(zzx HB.out d2),(zzx HB.out d1)⟩ (fun b2=>?_);clear hK K;refine zzO 25 ?_
           refine zzP 24 34 27 33554431 a2 ?_
           refine zzP 25 35 27 67108863 a2 ?_
           refine zzP 26 36 27 134217727 a2 ?_
           refine done_ (done_of a2.out (by kernel_rfl)) ?_;try go_wp2
           go_ret;exact ⟨by first|rfl|(simp [errW_none,errW_some] <;> rfl)|(simp only [← hji7];first|rfl|(simp [errW_none,errW_some] <;> rfl))|(simp [*,errW_none,errW_some] <;> rfl),zzh1⟩
          ·
           rw [if_neg m7] at H;have n9:decide (((Qb ((Qa l0 a0).f5) 0).f0)≤k9)=false:=decide_eq_false m7;clear m7;have H':=zzm H;clear H;try go_wp2
           have d8:=zzm (zzc HB.out);clear HB;have HB:=d8;clear d8;have g5 : 0≤(a0:Int):=zzt;have g6:a0 < (l0.length:Int):=zzt;obtain ⟨a1,g7,d7,l2,a5,a6,a7,a8,a9,b0,d9,e0⟩:=Q2 m2.out a0 g5 g6;have b1:=b0;have b9:=a9;have c1:=a8;have c4:=a7;have c7:=a6;have d0:=a5;cases l2;replace a5:=zzx HB.out a5;replace a6:=zzx HB.out a6;replace a7:=zzx HB.out a7;replace a8:=zzx HB.out a8;replace a9:=zzx HB.out a9;replace b0:=zzx HB.out b0;have e1:=zzm e0;have g8:=zzm d9;clear e0 d9;replace g5:=eq_true g5;replace g6:=eq_true g6;have l3 : 0≤((a3):Int):=zzt;have l4:(a3) < (l0.length:Int):=zzt;obtain ⟨m8,k5,k6,n2,e3,e4,e5,e6,e7,e8,j3,j4⟩:=Q2 m2.out (a3) l3 l4;have g9:=e8;have h0:=e7;have h1:=e6;have h2:=e5;have h3:=e4;have h4:=e3;obtain rfl:a1=m8:=(by injection n2);replace e3:=zzx HB.out e3;replace e4:=zzx HB.out e4;replace e5:=zzx HB.out e5;replace e6:=zzx HB.out e6;replace e7:=zzx HB.out e7;replace e8:=zzx HB.out e8;have j5:=zzm j4;have l9:=zzm j3;clear j4 j3;replace l3:=eq_true l3;replace l4:=eq_true l4;have l5 : 0≤(a0:Int):=zzt;have l6:a0 < (l0.length:Int):=zzt;obtain ⟨m9,k7,k8,n3,e9,g0,g1,g2,g3,g4,j6,j7⟩:=Q2 m2.out a0 l5 l6;have e2:=g4;have h5:=g3;have h6:=g2;have h7:=g1;have h8:=g0;have h9:=e9;obtain rfl:a1=m9:=(by injection n3);replace e9:=zzx HB.out e9;replace g0:=zzx HB.out g0;replace g1:=zzx HB.out g1;replace g2:=zzx HB.out g2;replace g3:=zzx HB.out g3;replace g4:=zzx HB.out g4;have j8:=zzm j7;have n6:=zzm j6;clear j7 j6;replace l5:=eq_true l5;replace l6:=eq_true l6;have l7 : 0≤(0:Int):=(by omega);have l8 : 0 < (((Qa l0 a0).f5).length:Int):=zzt;have eA_:k7=g7:=by have e_:=Option.some.inj (b1.symm.trans e2);injection e_ with n0 _ n1;exact n0.symm
           have eC_:k8=d7:=by have e_:=Option.some.inj (b1.symm.trans e2);injection e_ with n0 _ n1;exact n1.symm
           subst k7;subst k8;obtain ⟨a4,m3,m4,m5,m6,n4,b3,b4,b5,b6,b7,b8,j9,k0,k2,k3⟩:=Q9 j8.out 0 l7 l8;have d1:=b8
           (try rw [show ((0:Int)).toNat=0 from rfl] at d1)
           (try rw [show 0 * 6=0 from rfl] at d1)
           (try rw [Addr.add_zero'] at d1);have d2:=b7
           (try rw [show ((0:Int)).toNat=0 from rfl] at d2)
           (try rw [show 0 * 6=0 from rfl] at d2)
           (try rw [Addr.add_zero'] at d2);have d3:=b6
           (try rw [show ((0:Int)).toNat=0 from rfl] at d3)
           (try rw [show 0 * 6=0 from rfl] at d3)
           (try rw [Addr.add_zero'] at d3);have d4:=b5
           (try rw [show ((0:Int)).toNat=0 from rfl] at d4)
           (try rw [show 0 * 6=0 from rfl] at d4)
           (try rw [Addr.add_zero'] at d4);have d5:=b4
           (try rw [show ((0:Int)).toNat=0 from rfl] at d5)
           (try rw [show 0 * 6=0 from rfl] at d5)
           (try rw [Addr.add_zero'] at d5);have d6:=b3
           (try rw [show ((0:Int)).toNat=0 from rfl] at d6)
           (try rw [show 0 * 6=0 from rfl] at d6)
           (try rw [Addr.add_zero'] at d6);cases n4;have o0:(0 < ((Qa l0 a0).f5).length)=True:=eq_true (by omega)
           (try rw [show ((0:Int)).toNat=0 from rfl] at b3)
           (try rw [show 0 * 6=0 from rfl] at b3)
           (try rw [Addr.add_zero'] at b3)
           (try rw [show ((0:Int)).toNat=0 from rfl] at b4)
           (try rw [show 0 * 6=0 from rfl] at b4)
           (try rw [Addr.add_zero'] at b4)
           (try rw [show ((0:Int)).toNat=0 from rfl] at b5)
           (try rw [show 0 * 6=0 from rfl] at b5)
           (try rw [Addr.add_zero'] at b5)
           (try rw [show ((0:Int)).toNat=0 from rfl] at b6)
           (try rw [show 0 * 6=0 from rfl] at b6)
           (try rw [Addr.add_zero'] at b6)
           (try rw [show ((0:Int)).toNat=0 from rfl] at b7)
           (try rw [show 0 * 6=0 from rfl] at b7)
           (try rw [Addr.add_zero'] at b7)
           (try rw [show ((0:Int)).toNat=0 from rfl] at b8)
           (try rw [show 0 * 6=0 from rfl] at b8)
           (try rw [Addr.add_zero'] at b8);replace b3:=zzx HB.out b3;replace b4:=zzx HB.out b4;replace b5:=zzx HB.out b5;replace b6:=zzx HB.out b6;replace b7:=zzx HB.out b7;replace b8:=zzx HB.out b8;have m0:=zzm k0;have n7:=zzm j9;clear k0 j9;have m1:=zzm k3;have n8:=zzm k2;clear k3 k2;replace l7:=eq_true l7;replace l8:=eq_true l8;refine start_ (n:=27) (S:=fun w'=>w'.cell? (a1.add ((a0).toNat * 6))=some (.bool ((Qa l0 a0).f0))∧w'.cell? ⟨(a1.add ((a0).toNat * 6)).block,(a1.add ((a0).toNat * 6)).off+1,none⟩=some (.bool ((Qa l0 a0).f1))∧w'.cell? ⟨(a1.add ((a0).toNat * 6)).block,(a1.add ((a0).toNat * 6)).off+2,none⟩=some (.int .i64 ((Qa l0 a0).f2))∧w'.cell? ⟨(a1.add ((a0).toNat * 6)).block,(a1.add ((a0).toNat * 6)).off+3,none⟩=some (.int .i64 ((Qa l0 a0).f3))∧w'.cell? ⟨(a1.add ((a0).toNat * 6)).block,(a1.add ((a0).toNat * 6)).off+4,none⟩=some (.int .i64 ((Qa l0 a0).f4))∧w'.cell? ⟨(a1.add ((a0).toNat * 6)).block,(a1.add ((a0).toNat * 6)).off+5,none⟩=some (.slice (some a4) ((Qa l0 a0).f5).length d7)∧w'.cell? (a1.add (((a3)).toNat * 6))=some (.bool ((Qa l0 (a3)).f0))∧w'.cell? ⟨(a1.add (((a3)).toNat * 6)).block,(a1.add (((a3)).toNat * 6)).off+1,none⟩=some (.bool ((Qa l0 (a3)).f1))∧w'.cell? ⟨(a1.add (((a3)).toNat * 6)).block,(a1.add (((a3)).toNat * 6)).off+2,none⟩=some (.int .i64 ((Qa l0 (a3)).f2))∧w'.cell? ⟨(a1.add (((a3)).toNat * 6)).block,(a1.add (((a3)).toNat * 6)).off+3,none⟩=some (.int .i64 ((Qa l0 (a3)).f3))∧w'.cell? ⟨(a1.add (((a3)).toNat * 6)).block,(a1.add (((a3)).toNat * 6)).off+4,none⟩=some (.int .i64 ((Qa l0 (a3)).f4))∧w'.cell? ⟨(a1.add (((a3)).toNat * 6)).block,(a1.add (((a3)).toNat * 6)).off+5,none⟩=some (.slice k5 ((Qa l0 (a3)).f5).length k6)∧w'.cell? (a1.add ((a0).toNat * 6))=some (.bool ((Qa l0 a0).f0))∧w'.cell? ⟨(a1.add ((a0).toNat * 6)).block,(a1.add ((a0).toNat * 6)).off+1,none⟩=some (.bool ((Qa l0 a0).f1))∧w'.cell? ⟨(a1.add ((a0).toNat * 6)).block,(a1.add ((a0).toNat * 6)).off+2,none⟩=some (.int .i64 ((Qa l0 a0).f2))∧w'.cell? ⟨(a1.add ((a0).toNat * 6)).block,(a1.add ((a0).toNat * 6)).off+3,none⟩=some (.int .i64 ((Qa l0 a0).f3))∧w'.cell? ⟨(a1.add ((a0).toNat * 6)).block,(a1.add ((a0).toNat * 6)).off+4,none⟩=some (.int .i64 ((Qa l0 a0).f4))∧w'.cell? ⟨(a1.add ((a0).toNat * 6)).block,(a1.add ((a0).toNat * 6)).off+5,none⟩=some (.slice (some a4) ((Qa l0 a0).f5).length d7)∧w'.cell? a4=some (.int .i64 ((Qb ((Qa l0 a0).f5) 0).f0))∧w'.cell? ⟨a4.block,a4.off+1,none⟩=some (.int .i64 ((Qb ((Qa l0 a0).f5) 0).f1))∧w'.cell? ⟨a4.block,a4.off+2,none⟩=some (.bool ((Qb ((Qa l0 a0).f5) 0).f2))∧w'.cell? ⟨a4.block,a4.off+3,none⟩=some (.slice m3 ((Qb ((Qa l0 a0).f5) 0).f3).length m4)∧w'.cell? ⟨a4.block,a4.off+4,none⟩=some (.bool ((Qb ((Qa l0 a0).f5) 0).f4))∧w'.cell? ⟨a4.block,a4.off+5,none⟩=some (.slice m5 ((Qb ((Qa l0 a0).f5) 0).f5).length m6)) (ds:=[]) (zzB 27 0) (by kernel_rfl) rfl rfl ⟨(zzx HB.out d0),(zzx HB.out c7),(zzx HB.out c4),(zzx HB.out c1),(zzx HB.out b9),(zzx HB.out b1),(zzx HB.out h4),(zzx HB.out h3),(zzx HB.out h2),(zzx HB.out h1),(zzx HB.out h0),(zzx HB.out g9),(zzx HB.out h9),(zzx HB.out h8),(zzx HB.out h7),(zzx HB.out h6),(zzx HB.out h5),(zzx HB.out e2),(zzx HB.out d6),(zzx HB.out d5),(zzx HB.out d4),(zzx HB.out d3),(zzx HB.out d2),(zzx HB.out d1)⟩ (fun b2=>?_);refine with_tabW Ql.tab4 Ql.bits4 (fun a2 k4=>?_);generalize wr.drew=p6 at HB e1 j5 j8 m0 m1 a5 a6 a7 a8 a9 b0 e3 e4 e5 e6 e7 e8 e9 g0 g1 g2 g3 g4 b3 b4 b5 b6 b7 b8 b2 ⊢;refine zzP 0 10 27 1 a2 ?_
           refine zzP 1 11 27 3 a2 ?_
           refine zzP 2 12 27 7 a2 ?_
           refine zzT 3 13 27 15 a2 k4 b2 ?_
           refine one_ (i:=4) (N:=some 14) (zzB 27 31) rfl rfl (one_of a2.out (by kernel_rfl)) (by decide) (fun K hK=>?_);refine goes_ Try.func55 (by kernel_rfl) rfl #[.agg #[.bool ((Qa l0 a0).f0),.bool ((Qa l0 a0).f1),.int .i64 ((Qa l0 a0).f2),.int .i64 ((Qa l0 a0).f3),.int .i64 ((Qa l0 a0).f4),.slice (some a4) ((Qa l0 a0).f5).length d7]] (by rfl) rfl rfl zzM2 ?_;with_reducible refine (Qo.calls k1 ((Qa l0 a0).f0) ((Qa l0 a0).f1) ((Qa l0 a0).f2) ((Qa l0 a0).f3) ((Qa l0 a0).f4) _ _ ((Qa l0 a0).f5) true _ ?side1 ?side2 A4.out).mono ?_
           (case side1=>exact zzcb e1 HB)
           (case side2=>exact g8.out);rintro e p7 ⟨rfl,hb⟩;refine ⟨_,rfl,?_⟩;have d8:=zzm (zzp zzh1 hb);clear HB;have HB:=d8;clear d8
           (try clear hb)
           (try clear hb2)
           (try clear hk)
           (try clear hi);refine hK.out _ _ ⟨(zzx HB.out d0),(zzx HB.out c7),(zzx HB.out c4),(zzx HB.out c1),(zzx HB.out b9),(zzx HB.out b1),(zzx HB.out h4),(zzx HB.out h3),(zzx HB.out h2),(zzx HB.out h1),(zzx HB.out h0),(zzx HB.out g9),(zzx HB.out h9),(zzx HB.out h8),(zzx HB.out h7),(zzx HB.out h6),(zzx HB.out h5),(zzx HB.out e2),(zzx HB.out d6),(zzx HB.out d5),(zzx HB.out d4),(zzx HB.out d3),(zzx HB.out d2),(zzx HB.out d1)⟩ (fun b2=>?_);clear hK K;refine zzO 14 ?_
           refine zzP 5 15 27 63 a2 ?_
           refine zzP 6 16 27 127 a2 ?_
           refine zzP 7 17 27 255 a2 ?_
           refine zzP 8 18 27 511 a2 ?_
           refine zzP 9 19 27 1023 a2 ?_
           refine zzP 10 20 27 2047 a2 ?_
           refine zzP 11 21 27 4095 a2 ?_
           refine zzP 12 22 27 8191 a2 ?_
           refine zzP 13 23 27 16383 a2 ?_
           refine zzP 16 26 27 81919 a2 ?_
           refine zzP 17 27 27 212991 a2 ?_
           refine zzP 18 28 27 475135 a2 ?_
           refine zzP 19 29 27 999423 a2 ?_
           refine zzT 14 24 27 1015807 a2 k4 b2 ?_
           refine zzT 20 30 27 2064383 a2 k4 b2 ?_
           refine zzP 21 31 27 4161535 a2 ?_
           refine zzP 22 32 27 8355839 a2 ?_
           refine zzT 23 33 27 16744447 a2 k4 b2 ?_
           refine one_ (i:=15) (N:=some 25) (zzB 27 16777215) rfl rfl (one_of a2.out (by kernel_rfl)) (by decide) (fun K hK=>?_);refine goes_ Try.func76 (by kernel_rfl) rfl #[.agg #[.bool ((Qa l0 (a3)).f0),.bool ((Qa l0 (a3)).f1),.int .i64 ((Qa l0 (a3)).f2),.int .i64 ((Qa l0 (a3)).f3),.int .i64 ((Qa l0 (a3)).f4),.slice k5 ((Qa l0 (a3)).f5).length k6]] (by rfl) rfl rfl (by (try simp only [map_toArray,map_cons,map_nil]);first|done|(simp only [hji7];rfl)|rfl|(simp only [length_drop,length_take];rfl)) ?_;with_reducible refine (Rh.calls ((Qa l0 (a3)).f0) ((Qa l0 (a3)).f1) ((Qa l0 (a3)).f2) ((Qa l0 (a3)).f3) ((Qa l0 (a3)).f4) _ _ ((Qa l0 (a3)).f5) k9 _ ?side1 ?side2 o3.out).mono ?_
           (case side1=>exact zzcb j5 HB)
           (case side2=>exact l9.out);rintro e p8 ⟨rfl,hb⟩;refine ⟨_,rfl,?_⟩;have d8:=zzm (zzp zzh1 hb);clear HB;have HB:=d8;clear d8
           (try clear hb)
           (try clear hb2)
           (try clear hk)
           (try clear hi);refine hK.out _ _ ⟨(zzx HB.out d0),(zzx HB.out c7),(zzx HB.out c4),(zzx HB.out c1),(zzx HB.out b9),(zzx HB.out b1),(zzx HB.out h4),(zzx HB.out h3),(zzx HB.out h2),(zzx HB.out h1),(zzx HB.out h0),(zzx HB.out g9),(zzx HB.out h9),(zzx HB.out h8),(zzx HB.out h7),(zzx HB.out h6),(zzx HB.out h5),(zzx HB.out e2),(zzx HB.out d6),(zzx HB.out d5),(zzx HB.out d4),(zzx HB.out d3),(zzx HB.out d2),(zzx HB.out d1)⟩ (fun b2=>?_);clear hK K;refine zzO 25 ?_
           refine zzP 24 34 27 33554431 a2 ?_
           refine zzP 25 35 27 67108863 a2 ?_
           refine zzP 26 36 27 134217727 a2 ?_
           refine done_ (done_of a2.out (by kernel_rfl)) ?_;try go_wp2
           go_roundg k1
           case measure=>have:=HK1.out;omega
           case rel=>exact ⟨(wrap64 (a0+1)),(by first|rfl|(simp;done)|(simp [*];done)),H',⟨by have:=HK1.out;omega⟩,⟨zzh1⟩⟩
         ·
          rw [if_neg n5] at H;exact absurd H (by simp)
        ·
         rw [if_neg c9] at H;exact absurd H (by simp)
       ·
        rw [if_neg c8] at H;exact absurd H (by simp)
      ·
       rw [if_neg c6] at H;have o6:decide (0 < a0)=false:=decide_eq_false c6;clear c6;have H':=zzm H;clear H;try go_wp2
       have d8:=zzm (zzc HB.out);clear HB;have HB:=d8;clear d8;have g5 : 0≤(a0:Int):=zzt;have g6:a0 < (l0.length:Int):=zzt;obtain ⟨a1,g7,d7,l2,a5,a6,a7,a8,a9,b0,d9,e0⟩:=Q2 m2.out a0 g5 g6;have b1:=b0;have b9:=a9;have c1:=a8;have c4:=a7;have c7:=a6;have d0:=a5;cases l2;replace a5:=zzx HB.out a5;replace a6:=zzx HB.out a6;replace a7:=zzx HB.out a7;replace a8:=zzx HB.out a8;replace a9:=zzx HB.out a9;replace b0:=zzx HB.out b0;have e1:=zzm e0;have g8:=zzm d9;clear e0 d9;replace g5:=eq_true g5;replace g6:=eq_true g6;refine start_ (n:=27) (S:=fun w'=>w'.cell? (a1.add ((a0).toNat * 6))=some (.bool ((Qa l0 a0).f0))∧w'.cell? ⟨(a1.add ((a0).toNat * 6)).block,(a1.add ((a0).toNat * 6)).off+1,none⟩=some (.bool ((Qa l0 a0).f1))∧w'.cell? ⟨(a1.add ((a0).toNat * 6)).block,(a1.add ((a0).toNat * 6)).off+2,none⟩=some (.int .i64 ((Qa l0 a0).f2))∧w'.cell? ⟨(a1.add ((a0).toNat * 6)).block,(a1.add ((a0).toNat * 6)).off+3,none⟩=some (.int .i64 ((Qa l0 a0).f3))∧w'.cell? ⟨(a1.add ((a0).toNat * 6)).block,(a1.add ((a0).toNat * 6)).off+4,none⟩=some (.int .i64 ((Qa l0 a0).f4))∧w'.cell? ⟨(a1.add ((a0).toNat * 6)).block,(a1.add ((a0).toNat * 6)).off+5,none⟩=some (.slice g7 ((Qa l0 a0).f5).length d7)) (ds:=[]) (zzB 27 0) (by kernel_rfl) rfl rfl ⟨(zzx HB.out d0),(zzx HB.out c7),(zzx HB.out c4),(zzx HB.out c1),(zzx HB.out b9),(zzx HB.out b1)⟩ (fun b2=>?_);refine with_tabW Ql.tab4 Ql.bits4 (fun a2 k4=>?_);generalize wr.drew=p9 at HB e1 a5 a6 a7 a8 a9 b0 b2 ⊢;refine zzP 0 10 27 1 a2 ?_
       refine zzP 1 11 27 3 a2 ?_
       refine zzP 2 12 27 7 a2 ?_
       refine zzT 3 13 27 15 a2 k4 b2 ?_
       refine one_ (i:=4) (N:=some 14) (zzB 27 31) rfl rfl (one_of a2.out (by kernel_rfl)) (by decide) (fun K hK=>?_);refine goes_ Try.func55 (by kernel_rfl) rfl #[.agg #[.bool ((Qa l0 a0).f0),.bool ((Qa l0 a0).f1),.int .i64 ((Qa l0 a0).f2),.int .i64 ((Qa l0 a0).f3),.int .i64 ((Qa l0 a0).f4),.slice g7 ((Qa l0 a0).f5).length d7]] (by rfl) rfl rfl zzM2 ?_;with_reducible refine (Qo.calls k1 ((Qa l0 a0).f0) ((Qa l0 a0).f1) ((Qa l0 a0).f2) ((Qa l0 a0).f3) ((Qa l0 a0).f4) _ _ ((Qa l0 a0).f5) true _ ?side1 ?side2 A4.out).mono ?_
       (case side1=>exact zzcb e1 HB)
       (case side2=>exact g8.out);rintro e q0 ⟨rfl,hb⟩;refine ⟨_,rfl,?_⟩;have d8:=zzm (zzp zzh1 hb);clear HB;have HB:=d8;clear d8
       (try clear hb)
       (try clear hb2)
       (try clear hk)
       (try clear hi);refine hK.out _ _ ⟨(zzx HB.out d0),(zzx HB.out c7),(zzx HB.out c4),(zzx HB.out c1),(zzx HB.out b9),(zzx HB.out b1)⟩ (fun b2=>?_);clear hK K;refine zzO 14 ?_
       refine zzP 5 15 27 63 a2 ?_
       refine zzP 6 16 27 127 a2 ?_
       refine zzP 7 17 27 255 a2 ?_
       refine zzP 8 18 27 511 a2 ?_
       refine zzP 9 19 27 1023 a2 ?_
       refine zzU 10 20 27 2047 a2 ?_
       refine zzU 11 21 27 4095 a2 ?_
       refine zzU 12 22 27 8191 a2 ?_
       refine zzU 13 23 27 16383 a2 ?_
       refine zzU 14 24 27 32767 a2 ?_
       refine zzU 15 25 27 65535 a2 ?_
       refine zzU 16 26 27 131071 a2 ?_
       refine zzU 17 27 27 262143 a2 ?_
       refine zzU 18 28 27 524287 a2 ?_
       refine zzU 19 29 27 1048575 a2 ?_
       refine zzU 20 30 27 2097151 a2 ?_
       refine zzU 21 31 27 4194303 a2 ?_
       refine zzU 22 32 27 8388607 a2 ?_
       refine zzU 23 33 27 16777215 a2 ?_
       refine zzU 24 34 27 33554431 a2 ?_
       refine zzP 25 35 27 67108863 a2 ?_
       refine zzP 26 36 27 134217727 a2 ?_
       refine done_ (done_of a2.out (by kernel_rfl)) ?_;try go_wp2
       go_roundg k1
       case measure=>have:=HK1.out;omega
       case rel=>exact ⟨(wrap64 (a0+1)),(by first|rfl|(simp;done)|(simp [*];done)),H',⟨by have:=HK1.out;omega⟩,⟨zzh1⟩⟩
     ·
      replace c5:=Bool.eq_false_iff.mpr c5;subst c5;replace H:=zzIf H;obtain rfl:=Option.some.inj H;try go_wp2
      have d8:=zzm (zzc HB.out);clear HB;have HB:=d8;clear d8;have g5 : 0≤(a0:Int):=zzt;have g6:a0 < (l0.length:Int):=zzt;obtain ⟨a1,g7,d7,l2,a5,a6,a7,a8,a9,b0,d9,e0⟩:=Q2 m2.out a0 g5 g6;have b1:=b0;have b9:=a9;have c1:=a8;have c4:=a7;have c7:=a6;have d0:=a5;cases l2;replace a5:=zzx HB.out a5;replace a6:=zzx HB.out a6;replace a7:=zzx HB.out a7;replace a8:=zzx HB.out a8;replace a9:=zzx HB.out a9;replace b0:=zzx HB.out b0;have e1:=zzm e0;have g8:=zzm d9;clear e0 d9;replace g5:=eq_true g5;replace g6:=eq_true g6;refine start_ (n:=27) (S:=fun w'=>w'.cell? (a1.add ((a0).toNat * 6))=some (.bool ((Qa l0 a0).f0))∧w'.cell? ⟨(a1.add ((a0).toNat * 6)).block,(a1.add ((a0).toNat * 6)).off+1,none⟩=some (.bool ((Qa l0 a0).f1))∧w'.cell? ⟨(a1.add ((a0).toNat * 6)).block,(a1.add ((a0).toNat * 6)).off+2,none⟩=some (.int .i64 ((Qa l0 a0).f2))∧w'.cell? ⟨(a1.add ((a0).toNat * 6)).block,(a1.add ((a0).toNat * 6)).off+3,none⟩=some (.int .i64 ((Qa l0 a0).f3))∧w'.cell? ⟨(a1.add ((a0).toNat * 6)).block,(a1.add ((a0).toNat * 6)).off+4,none⟩=some (.int .i64 ((Qa l0 a0).f4))∧w'.cell? ⟨(a1.add ((a0).toNat * 6)).block,(a1.add ((a0).toNat * 6)).off+5,none⟩=some (.slice g7 ((Qa l0 a0).f5).length d7)) (ds:=[]) (zzB 27 0) (by kernel_rfl) rfl rfl ⟨(zzx HB.out d0),(zzx HB.out c7),(zzx HB.out c4),(zzx HB.out c1),(zzx HB.out b9),(zzx HB.out b1)⟩ (fun b2=>?_);refine with_tabW Ql.tab4 Ql.bits4 (fun a2 k4=>?_);generalize wr.drew=q1 at HB e1 a5 a6 a7 a8 a9 b0 b2 ⊢;refine zzP 0 10 27 1 a2 ?_
      refine zzP 1 11 27 3 a2 ?_
      refine zzP 2 12 27 7 a2 ?_
      refine zzT 3 13 27 15 a2 k4 b2 ?_
      refine one_ (i:=4) (N:=some 14) (zzB 27 31) rfl rfl (one_of a2.out (by kernel_rfl)) (by decide) (fun K hK=>?_);refine goes_ Try.func55 (by kernel_rfl) rfl #[.agg #[.bool ((Qa l0 a0).f0),.bool ((Qa l0 a0).f1),.int .i64 ((Qa l0 a0).f2),.int .i64 ((Qa l0 a0).f3),.int .i64 ((Qa l0 a0).f4),.slice g7 ((Qa l0 a0).f5).length d7]] (by rfl) rfl rfl zzM2 ?_;with_reducible refine (Qo.calls k1 ((Qa l0 a0).f0) ((Qa l0 a0).f1) ((Qa l0 a0).f2) ((Qa l0 a0).f3) ((Qa l0 a0).f4) _ _ ((Qa l0 a0).f5) false _ ?side1 ?side2 A4.out).mono ?_
      (case side1=>exact zzcb e1 HB)
      (case side2=>exact g8.out);rintro e q2 ⟨rfl,hb⟩;refine ⟨_,rfl,?_⟩;have d8:=zzm (zzp zzh1 hb);clear HB;have HB:=d8;clear d8
      (try clear hb)
      (try clear hb2)
      (try clear hk)
      (try clear hi);refine hK.out _ _ ⟨(zzx HB.out d0),(zzx HB.out c7),(zzx HB.out c4),(zzx HB.out c1),(zzx HB.out b9),(zzx HB.out b1)⟩ (fun b2=>?_);clear hK K;refine zzO 14 ?_
      refine zzP 5 15 27 63 a2 ?_
      refine zzP 6 16 27 127 a2 ?_
      refine zzU 7 17 27 255 a2 ?_
      refine zzU 8 18 27 511 a2 ?_
      refine zzU 9 19 27 1023 a2 ?_
      refine zzU 10 20 27 2047 a2 ?_
      refine zzU 11 21 27 4095 a2 ?_
      refine zzU 12 22 27 8191 a2 ?_
      refine zzU 13 23 27 16383 a2 ?_
      refine zzU 14 24 27 32767 a2 ?_
      refine zzU 15 25 27 65535 a2 ?_
      refine zzU 16 26 27 131071 a2 ?_
      refine zzU 17 27 27 262143 a2 ?_
      refine zzU 18 28 27 524287 a2 ?_
      refine zzU 19 29 27 1048575 a2 ?_
      refine zzU 20 30 27 2097151 a2 ?_
      refine zzU 21 31 27 4194303 a2 ?_
      refine zzU 22 32 27 8388607 a2 ?_
      refine zzU 23 33 27 16777215 a2 ?_
      refine zzU 24 34 27 33554431 a2 ?_
      refine zzU 25 35 27 67108863 a2 ?_
      refine zzP 26 36 27 134217727 a2 ?_
      refine done_ (done_of a2.out (by kernel_rfl)) ?_;try go_wp2
      go_ret;exact ⟨zzR,zzh1⟩
    ·
     rw [if_neg c3] at H;exact absurd H (by simp)
   ·
    rw [if_neg c2] at H;have o4:decide (a0 < (l0.length:Int))=false:=decide_eq_false c2;clear c2;obtain rfl:=Option.some.inj H;go_wp2;go_ret;exact ⟨zzR,zzh1⟩

set_option linter.unusedVariables false
set_option linter.unusedSimpArgs false
def Rm.f (a0_0:Bool) (a0_1:Bool) (a0_2:Int) (a0_3:Int) (a0_4:Int) (l0_5:List (S34)):Option (Bool):=if a0_2=255 then (some false) else (some (!a0_1))
set_option maxHeartbeats 8000000 in
theorem Rm.calls (a4:Bool) (a3:Bool) (a2:Int) (a5:Int) (a6:Int) (a7:Option Addr) (a8:Nat) (a0:List (S34)) (r:Bool) (w:World) (b4:Kd.C k34 w a7 a0.length a0) (b5:a0.length≤a8) (h:Rm.f a4 a3 a2 a5 a6 a0=some r) :
  Calls Try.prog 66 #[.agg #[.bool a4,.bool a3,.int .i64 a2,.int .i64 a5,.int .i64 a6,.slice a7 a0.length a8]] w fun e w'=>e = .returned (.bool r)∧Below w.heap.size w w':=by
 have hu27:=Try.underlying27;have e5:=zzm b4;have e6:=zzm b5;clear b4 b5;have HB:=zzm (Below.refl w.heap.size w);have H:(if a2=255 then (some false) else (some (!a3)))=some r:=h;clear h;by_cases c2:a2=255
 ·
  rw [if_pos c2] at H;obtain ⟨b8,b9⟩:=zzQ c2;clear c2;obtain rfl:=Option.some.inj H;go_enter Try.func66,Try.ntmps66;go_wp2_with (first|((with_reducible refine gate_dst (N:=1) rfl ?_);refine box_event ?hg (N:=1) ?hd (cs:=#[.bool a4,.bool a3,.int .i64 a2,.int .i64 a5,.int .i64 a6,.slice a7 a0.length a8]) (t:=27) ?hr ?_;(case hd=>rfl);(case hg=>rfl);(case hr=>first|(go_simp;done)|(go_simp;rfl));intro a1 hg w3 hbox hb;have b0:=zzm (zzp zzh1 hb);have b1:=zzm (hbox);have b2:=zzm ((by rw [hg];exact (zzo zzh1):w.heap.size≤a1));have b3:=zzm ((by rw [hg];exact (zzo zzh1):w.heap.size≤a1));clear HB;have HB:=b0;have a9:=b1;have b6:=b2;have b7:=b3;clear b0 b1 b2 b3 hb hbox hg;obtain ⟨c0,c1,c3,c4,c5,c6,c7,c8,c9,d0,d1,d2⟩:=zzc6 a9.out));go_ret;exact ⟨zzR,zzh3⟩
 ·
  rw [if_neg c2] at H;obtain ⟨b8,b9⟩:=zzY c2;obtain rfl:=Option.some.inj H;go_enter Try.func66,Try.ntmps66;go_wp2_with (first|((with_reducible refine gate_dst (N:=1) rfl ?_);refine box_event ?hg (N:=1) ?hd (cs:=#[.bool a4,.bool a3,.int .i64 a2,.int .i64 a5,.int .i64 a6,.slice a7 a0.length a8]) (t:=27) ?hr ?_;(case hd=>rfl);(case hg=>rfl);(case hr=>first|(go_simp;done)|(go_simp;rfl));intro a1 hg w5 hbox hb;have b0:=zzm (zzp zzh1 hb);have b1:=zzm (hbox);have b2:=zzm ((by rw [hg];exact (zzo zzh1):w.heap.size≤a1));have b3:=zzm ((by rw [hg];exact (zzo zzh1):w.heap.size≤a1));clear HB;have HB:=b0;have a9:=b1;have b6:=b2;have b7:=b3;clear b0 b1 b2 b3 hb hbox hg;obtain ⟨d3,d4,d5,d6,d7,d8,d9,e0,e1,e2,e3,e4⟩:=zzc6 a9.out));go_ret;exact ⟨zzR,zzh3⟩

set_option linter.unusedVariables false
set_option linter.unusedSimpArgs false
def Qw.l0:Nat→List (S27)→Int→Int→Option (Int)
 | 0,_,_,_=>none
 | k+1,x0,x1,x5=>if x5 < (x0.length:Int) then (if 0≤x5 then (if (Qa x0 x5).f1=true then (if 0≤x1 then (if x1 < (x0.length:Int) then (if ((Qa x0 x5).f2)=((Qa x0 x1).f2) then (some x5) else (Qw.l0 k x0 x1 (wrap64 (x5+1)))) else (none)) else (none)) else (Qw.l0 k x0 x1 (wrap64 (x5+1)))) else (none)) else (some (-1))
def Qw.f (k:Nat) (l0:List (S27)) (a1:Int):Option (Int):=Qw.l0 k l0 a1 (wrap64 (a1+1))
set_option maxHeartbeats 8000000 in
theorem Qw.calls (k:Nat) (A0:Option Addr) (c0:Nat) (l0:List (S27)) (a1:Int) (r:Int) (w:World) (g9:Kd.C k27 w A0 l0.length l0) (h0:l0.length≤c0) (h:Qw.f k l0 a1=some r) :
  Calls Try.prog 68 #[.slice A0 l0.length c0,.int .i64 a1] w fun e w'=>e = .returned (.int .i64 r)∧Drawn0 w w':=by
 have d1:=zzm g9;have h7:=zzm h0;clear g9 h0;have H:(Qw.l0 k l0 a1 (wrap64 (a1+1)))=some r:=h;clear h;have H':=zzm H;clear H;go_enter Try.func68,Try.ntmps68;go_wp2;repeat (go_quiet (fail);try go_wp2)
 go_loopg [5] k (fun kq v5 w'=>∃ (a0:Int),v5 = .int .i64 a0∧Aside0 (Qw.l0 kq l0 a1 a0=some r)∧Aside0 (kq≤k)∧Drawn0 w w')
 case atStart=>exact ⟨(wrap64 (a1+1)),(by first|rfl|(simp;done)|(simp [*];done)),H',⟨Nat.le_refl _⟩,by repeat (first|exact Drawn0.refl _|apply Drawn0.step)⟩
 case round=>
  clear H';try clear p2
  obtain ⟨a0,rfl,HA,HK1,⟨m1,rfl⟩⟩:=hrel;cases gk with
  | zero=>exact absurd HA.out (by simp [Qw.l0])
  | succ k1=>
   have H:=HA.out;clear HA;simp only [Qw.l0] at H;by_cases c3:a0 < (l0.length:Int)
   ·
    rw [if_pos c3] at H;have h1:decide (a0 < (l0.length:Int))=true:=decide_eq_true c3;clear c3;by_cases c4 : 0≤a0
    ·
     rw [if_pos c4] at H;have h4:decide (0≤a0)=true:=decide_eq_true c4;clear c4;obtain ⟨bq5,hbq5⟩:∃ b_:Bool,b_=((Qa l0 a0).f1):=⟨_,rfl⟩;replace H:(if bq5=true then (if 0≤a1 then (if a1 < (l0.length:Int) then (if ((Qa l0 a0).f2)=((Qa l0 a1).f2) then (some a0) else (Qw.l0 k1 l0 a1 (wrap64 (a0+1)))) else (none)) else (none)) else (Qw.l0 k1 l0 a1 (wrap64 (a0+1))))=some r:=by rw [← hbq5] at H;exact H
     have a4:=zzm hbq5;clear hbq5;by_cases c6:bq5=true
     ·
      subst c6;replace H:=zzIt H;by_cases c7 : 0≤a1
      ·
       rw [if_pos c7] at H;have h5:decide (0≤a1)=true:=decide_eq_true c7;clear c7;by_cases c8:a1 < (l0.length:Int)
       ·
        rw [if_pos c8] at H;have h6:decide (a1 < (l0.length:Int))=true:=decide_eq_true c8;clear c8;by_cases c9:((Qa l0 a0).f2)=((Qa l0 a1).f2)
        ·
         rw [if_pos c9] at H;obtain ⟨h2,h3⟩:=zzQ c9;clear c9;obtain rfl:=Option.some.inj H;have a5 : 0≤(a0:Int):=zzt;have a6:a0 < (l0.length:Int):=zzt;obtain ⟨b3,e0,e1,d2,a7,a8,d3,d4,d5,b4,a2,a3⟩:=Q2 d1.out a0 a5 a6
         (try rw [← a4.out] at a7)
         (try rw [← a4.out] at a8);cases d2;have d6:=zzm a3;have d7:=zzm a2;clear a3 a2;replace a5:=eq_true a5;replace a6:=eq_true a6;have b5 : 0≤(a0:Int):=zzt;have b6:a0 < (l0.length:Int):=zzt;obtain ⟨d8,g5,g6,e2,b9,c1,e4,e5,e6,c2,a9,b0⟩:=Q2 d1.out a0 b5 b6
         (try rw [← a4.out] at b9)
         (try rw [← a4.out] at c1);obtain rfl:b3=d8:=(by injection e2);have e7:=zzm b0;have e8:=zzm a9;clear b0 a9;replace b5:=eq_true b5;replace b6:=eq_true b6;have ea_:=Option.some.inj (b4.symm.trans c2);injection ea_ with ea_ en_ ec_;subst ea_;subst ec_;clear en_;have b7 : 0≤(a1:Int):=zzt;have b8:a1 < (l0.length:Int):=zzt;obtain ⟨d9,g7,g8,e3,c5,d0,e9,g0,g1,g2,b1,b2⟩:=Q2 d1.out a1 b7 b8
         (try rw [← a4.out] at c5)
         (try rw [← a4.out] at d0);obtain rfl:b3=d9:=(by injection e3);have g3:=zzm b2;have g4:=zzm b1;clear b2 b1;replace b7:=eq_true b7;replace b8:=eq_true b8;go_wp2;repeat (go_quiet (fail);try go_wp2)
         go_ret;exact ⟨by first|rfl|(simp;done)|(simp [*];done),by repeat (first|exact Drawn0.refl _|apply Drawn0.step)⟩
        ·
         rw [if_neg c9] at H;obtain ⟨h2,h3⟩:=zzY c9;have H':=zzm H;clear H;have a5 : 0≤(a0:Int):=zzt;have a6:a0 < (l0.length:Int):=zzt;obtain ⟨b3,e0,e1,d2,a7,a8,d3,d4,d5,b4,a2,a3⟩:=Q2 d1.out a0 a5 a6
         (try rw [← a4.out] at a7)
         (try rw [← a4.out] at a8);cases d2;have d6:=zzm a3;have d7:=zzm a2;clear a3 a2;replace a5:=eq_true a5;replace a6:=eq_true a6;have b5 : 0≤(a0:Int):=zzt;have b6:a0 < (l0.length:Int):=zzt;obtain ⟨d8,g5,g6,e2,b9,c1,e4,e5,e6,c2,a9,b0⟩:=Q2 d1.out a0 b5 b6
         (try rw [← a4.out] at b9)
         (try rw [← a4.out] at c1);obtain rfl:b3=d8:=(by injection e2);have e7:=zzm b0;have e8:=zzm a9;clear b0 a9;replace b5:=eq_true b5;replace b6:=eq_true b6;have ea_:=Option.some.inj (b4.symm.trans c2);injection ea_ with ea_ en_ ec_;subst ea_;subst ec_;clear en_;have b7 : 0≤(a1:Int):=zzt;have b8:a1 < (l0.length:Int):=zzt;obtain ⟨d9,g7,g8,e3,c5,d0,e9,g0,g1,g2,b1,b2⟩:=Q2 d1.out a1 b7 b8
         (try rw [← a4.out] at c5)
         (try rw [← a4.out] at d0);obtain rfl:b3=d9:=(by injection e3);have g3:=zzm b2;have g4:=zzm b1;clear b2 b1;replace b7:=eq_true b7;replace b8:=eq_true b8;go_wp2;repeat (go_quiet (fail);try go_wp2)
         go_roundg k1
         case measure=>have:=HK1.out;omega
         case rel=>exact ⟨(wrap64 (a0+1)),(by first|rfl|(simp;done)|(simp [*];done)),H',⟨by have:=HK1.out;omega⟩,by repeat (first|exact Drawn0.refl _|apply Drawn0.step)⟩
       ·
        rw [if_neg c8] at H;exact absurd H (by simp)
      ·
       rw [if_neg c7] at H;exact absurd H (by simp)
     ·
      replace c6:=Bool.eq_false_iff.mpr c6;subst c6;replace H:=zzIf H;have H':=zzm H;clear H;have a5 : 0≤(a0:Int):=zzt;have a6:a0 < (l0.length:Int):=zzt;obtain ⟨b3,e0,e1,d2,a7,a8,d3,d4,d5,b4,a2,a3⟩:=Q2 d1.out a0 a5 a6
      (try rw [← a4.out] at a7)
      (try rw [← a4.out] at a8);cases d2;have d6:=zzm a3;have d7:=zzm a2;clear a3 a2;replace a5:=eq_true a5;replace a6:=eq_true a6;go_wp2;repeat (go_quiet (fail);try go_wp2)
      go_roundg k1
      case measure=>have:=HK1.out;omega
      case rel=>exact ⟨(wrap64 (a0+1)),(by first|rfl|(simp;done)|(simp [*];done)),H',⟨by have:=HK1.out;omega⟩,by repeat (first|exact Drawn0.refl _|apply Drawn0.step)⟩
    ·
     rw [if_neg c4] at H;exact absurd H (by simp)
   ·
    rw [if_neg c3] at H;have h1:decide (a0 < (l0.length:Int))=false:=decide_eq_false c3;clear c3;obtain rfl:=Option.some.inj H;go_wp2;repeat (go_quiet (fail);try go_wp2)
    go_ret;exact ⟨by first|rfl|(simp;done)|(simp [*];done),by repeat (first|exact Drawn0.refl _|apply Drawn0.step)⟩

set_option linter.unusedVariables false
set_option linter.unusedSimpArgs false
def Q1.l0:Nat→List (S27)→Int→Int→Option (Bool)
 | 0,_,_,_=>none
 | k+1,x0,x1,x5=>if x5 ≥ 0 then (if 0≤x5 then (if x5 < (x0.length:Int) then (if 0≤x1 then (if x1 < (x0.length:Int) then (if ((Qa x0 x5).f2)=((Qa x0 x1).f2) then (some ((Qa x0 x5).f1)) else (Q1.l0 k x0 x1 (wrap64 (x5 - 1)))) else (none)) else (none)) else (none)) else (none)) else (some true)
def Q1.f (k:Nat) (l0:List (S27)) (a1:Int):Option (Bool):=Q1.l0 k l0 a1 (wrap64 (a1 - 1))
set_option maxHeartbeats 8000000 in
theorem Q1.calls (k:Nat) (A0:Option Addr) (c0:Nat) (l0:List (S27)) (a1:Int) (r:Bool) (w:World) (e8:Kd.C k27 w A0 l0.length l0) (e9:l0.length≤c0) (h:Q1.f k l0 a1=some r) :
  Calls Try.prog 67 #[.slice A0 l0.length c0,.int .i64 a1] w fun e w'=>e = .returned (.bool r)∧Drawn0 w w':=by
 have b5:=zzm e8;have h7:=zzm e9;clear e8 e9;have H:(Q1.l0 k l0 a1 (wrap64 (a1 - 1)))=some r:=h;clear h;have H':=zzm H;clear H;go_enter Try.func67,Try.ntmps67;go_wp2;repeat (go_quiet (fail);try go_wp2)
 go_loopg [5] k (fun kq v5 w'=>∃ (a0:Int),v5 = .int .i64 a0∧Aside0 (Q1.l0 kq l0 a1 a0=some r)∧Aside0 (kq≤k)∧Drawn0 w w')
 case atStart=>exact ⟨(wrap64 (a1 - 1)),(by first|rfl|(simp;done)|(simp [*];done)),H',⟨Nat.le_refl _⟩,by repeat (first|exact Drawn0.refl _|apply Drawn0.step)⟩
 case round=>
  clear H';try clear p2
  obtain ⟨a0,rfl,HA,HK1,⟨m1,rfl⟩⟩:=hrel;cases gk with
  | zero=>exact absurd HA.out (by simp [Q1.l0])
  | succ k1=>
   have H:=HA.out;clear HA;simp only [Q1.l0] at H;by_cases c3:a0 ≥ 0
   ·
    rw [if_pos c3] at H;have g0:decide (0≤a0)=true:=decide_eq_true c3;clear c3;by_cases c4 : 0≤a0
    ·
     rw [if_pos c4] at H;have h3:decide (0≤a0)=true:=decide_eq_true c4;clear c4;by_cases c5:a0 < (l0.length:Int)
     ·
      rw [if_pos c5] at H;have h4:decide (a0 < (l0.length:Int))=true:=decide_eq_true c5;clear c5;by_cases c6 : 0≤a1
      ·
       rw [if_pos c6] at H;have h5:decide (0≤a1)=true:=decide_eq_true c6;clear c6;by_cases c7:a1 < (l0.length:Int)
       ·
        rw [if_pos c7] at H;have h6:decide (a1 < (l0.length:Int))=true:=decide_eq_true c7;clear c7;by_cases c8:((Qa l0 a0).f2)=((Qa l0 a1).f2)
        ·
         rw [if_pos c8] at H;obtain ⟨g1,g2⟩:=zzQ c8;clear c8;obtain rfl:=Option.some.inj H;have a6 : 0≤(a0:Int):=zzt;have a7:a0 < (l0.length:Int):=zzt;obtain ⟨b0,e3,e4,b6,c1,c2,c9,d0,d1,b1,a2,a3⟩:=Q2 b5.out a0 a6 a7;cases b6;have d2:=zzm a3;have d3:=zzm a2;clear a3 a2;replace a6:=eq_true a6;replace a7:=eq_true a7;have a8 : 0≤(a1:Int):=zzt;have a9:a1 < (l0.length:Int):=zzt;obtain ⟨b4,e5,e6,b7,d4,d5,d6,d7,d8,d9,a4,a5⟩:=Q2 b5.out a1 a8 a9;obtain rfl:b0=b4:=(by injection b7);have e0:=zzm a5;have e1:=zzm a4;clear a5 a4;replace a8:=eq_true a8;replace a9:=eq_true a9;have b8 : 0≤(a0:Int):=zzt;have b9:a0 < (l0.length:Int):=zzt;obtain ⟨e7,h1,h2,g3,g4,g5,g6,g7,g8,e2,b2,b3⟩:=Q2 b5.out a0 b8 b9;obtain rfl:b0=e7:=(by injection g3);have g9:=zzm b3;have h0:=zzm b2;clear b3 b2;replace b8:=eq_true b8;replace b9:=eq_true b9;have ea_:=Option.some.inj (b1.symm.trans e2);injection ea_ with ea_ en_ ec_;subst ea_;subst ec_;clear en_;go_wp2;repeat (go_quiet (fail);try go_wp2)
         go_ret;exact ⟨by first|rfl|(simp;done)|(simp [*];done),by repeat (first|exact Drawn0.refl _|apply Drawn0.step)⟩
        ·
         rw [if_neg c8] at H;obtain ⟨g1,g2⟩:=zzY c8;have H':=zzm H;clear H;have a6 : 0≤(a0:Int):=zzt;have a7:a0 < (l0.length:Int):=zzt;obtain ⟨b0,e3,e4,b6,c1,c2,c9,d0,d1,b1,a2,a3⟩:=Q2 b5.out a0 a6 a7;cases b6;have d2:=zzm a3;have d3:=zzm a2;clear a3 a2;replace a6:=eq_true a6;replace a7:=eq_true a7;have a8 : 0≤(a1:Int):=zzt;have a9:a1 < (l0.length:Int):=zzt;obtain ⟨b4,e5,e6,b7,d4,d5,d6,d7,d8,d9,a4,a5⟩:=Q2 b5.out a1 a8 a9;obtain rfl:b0=b4:=(by injection b7);have e0:=zzm a5;have e1:=zzm a4;clear a5 a4;replace a8:=eq_true a8;replace a9:=eq_true a9;go_wp2;repeat (go_quiet (fail);try go_wp2)
         go_roundg k1
         case measure=>have:=HK1.out;omega
         case rel=>exact ⟨(wrap64 (a0 - 1)),(by first|rfl|(simp;done)|(simp [*];done)),H',⟨by have:=HK1.out;omega⟩,by repeat (first|exact Drawn0.refl _|apply Drawn0.step)⟩
       ·
        rw [if_neg c7] at H;exact absurd H (by simp)
      ·
       rw [if_neg c6] at H;exact absurd H (by simp)
     ·
      rw [if_neg c5] at H;exact absurd H (by simp)
    ·
     rw [if_neg c4] at H;exact absurd H (by simp)
   ·
    rw [if_neg c3] at H;have g0:decide (0≤a0)=false:=decide_eq_false c3;clear c3;obtain rfl:=Option.some.inj H;go_wp2;repeat (go_quiet (fail);try go_wp2)
    go_ret;exact ⟨by first|rfl|(simp;done)|(simp [*];done),by repeat (first|exact Drawn0.refl _|apply Drawn0.step)⟩

set_option linter.unusedVariables false
set_option linter.unusedSimpArgs false
def Ri.f (a0_0:Bool) (a0_1:Bool) (a0_2:Int) (a0_3:Int) (a0_4:Int) (l0_5:List (S34)):Option (Bool):=if 0 < (l0_5.length:Int) then (if (((Qb l0_5 0).f5).length:Int)=1 then (if 0 < (((Qb l0_5 0).f5).length:Int) then (some ((rd ((Qb l0_5 0).f5) 0)==1)) else (none)) else (some false)) else (none)
set_option maxHeartbeats 8000000 in
theorem Ri.calls (c8:Bool) (c9:Bool) (d0:Int) (d1:Int) (d2:Int) (d3:Option Addr) (d4:Nat) (a0:List (S34)) (r:Bool) (w:World) (e6:Kd.C k34 w d3 a0.length a0) (e7:a0.length≤d4) (h:Ri.f c8 c9 d0 d1 d2 a0=some r) :
  Calls Try.prog 69 #[.agg #[.bool c8,.bool c9,.int .i64 d0,.int .i64 d1,.int .i64 d2,.slice d3 a0.length d4]] w fun e w'=>e = .returned (.bool r)∧Below w.heap.size w w':=by
 have hu27:=Try.underlying27;have d5:=zzm e6;have m2:=zzm e7;clear e6 e7;have HB:=zzm (Below.refl w.heap.size w);have H:(if 0 < (a0.length:Int) then (if (((Qb a0 0).f5).length:Int)=1 then (if 0 < (((Qb a0 0).f5).length:Int) then (some ((rd ((Qb a0 0).f5) 0)==1)) else (none)) else (some false)) else (none))=some r:=h;clear h;by_cases c2 : 0 < (a0.length:Int)
 ·
  rw [if_pos c2] at H;have m6:decide (0 < (a0.length:Int))=true:=decide_eq_true c2;have m7:decide (0 < a0.length)=true:=decide_eq_true (by omega);clear c2;by_cases c3:(((Qb a0 0).f5).length:Int)=1
  ·
   rw [if_pos c3] at H;obtain ⟨h2,h3⟩:=zzQ c3;clear c3;by_cases c4 : 0 < (((Qb a0 0).f5).length:Int)
   ·
    rw [if_pos c4] at H;have m8:decide (0 < (((Qb a0 0).f5).length:Int))=true:=decide_eq_true c4;have m9:decide (0 < ((Qb a0 0).f5).length)=true:=decide_eq_true (by omega);clear c4;obtain rfl:=Option.some.inj H;go_enter Try.func69,Try.ntmps69;go_wp2_with (first|((with_reducible refine gate_dst (N:=1) rfl ?_);refine box_event ?hg (N:=1) ?hd (cs:=#[.bool c8,.bool c9,.int .i64 d0,.int .i64 d1,.int .i64 d2,.slice d3 a0.length d4]) (t:=27) ?hr ?_;(case hd=>rfl);(case hg=>rfl);(case hr=>first|(go_simp;done)|(go_simp;rfl));intro c0 hg w5 hbox hb;have d7:=zzm (zzp zzh1 hb);have d8:=zzm (hbox);have d9:=zzm ((by rw [hg];exact (zzo zzh1):w.heap.size≤c0));have e0:=zzm ((by rw [hg];exact (zzo zzh1):w.heap.size≤c0));clear HB;have HB:=d7;have d6:=d8;have g8:=d9;have g9:=e0;clear d7 d8 d9 e0 hb hbox hg;obtain ⟨h9,j3,j4,j5,j6,j7,j8,j9,k0,k1,k2,k3⟩:=zzc6 d6.out;have b8 : 0≤(0:Int):=(by omega);have b9 : 0 < (a0.length:Int):=zzt;obtain ⟨e8,g4,g5,g6,g7,e1,a3,a4,a5,a1,a6,a2,a9,b0,b1,b2⟩:=Q9 d5.out 0 b8 b9;cases e1;have h0:(0 < a0.length)=True:=eq_true (by omega);(try rw [show ((0:Int)).toNat=0 from rfl] at a3);(try rw [show 0 * 6=0 from rfl] at a3);(try rw [Addr.add_zero'] at a3);(try rw [show ((0:Int)).toNat=0 from rfl] at a4);(try rw [show 0 * 6=0 from rfl] at a4);(try rw [Addr.add_zero'] at a4);(try rw [show ((0:Int)).toNat=0 from rfl] at a5);(try rw [show 0 * 6=0 from rfl] at a5);(try rw [Addr.add_zero'] at a5);(try rw [show ((0:Int)).toNat=0 from rfl] at a1);(try rw [show 0 * 6=0 from rfl] at a1);(try rw [Addr.add_zero'] at a1);(try rw [show ((0:Int)).toNat=0 from rfl] at a6);(try rw [show 0 * 6=0 from rfl] at a6);(try rw [Addr.add_zero'] at a6);(try rw [show ((0:Int)).toNat=0 from rfl] at a2);(try rw [show 0 * 6=0 from rfl] at a2);(try rw [Addr.add_zero'] at a2);replace a3:=zzx HB.out a3;replace a4:=zzx HB.out a4;replace a5:=zzx HB.out a5;replace a1:=zzx HB.out a1;replace a6:=zzx HB.out a6;replace a2:=zzx HB.out a2;have e9:=zzm b0;have g0:=zzm a9;clear b0 a9;have g1:=zzm b2;have g2:=zzm b1;clear b2 b1;replace b8:=eq_true b8;replace b9:=eq_true b9;have e2 : 0≤(0:Int):=(by omega);have e3 : 0 < (a0.length:Int):=zzt;obtain ⟨h1,k4,k5,k6,k7,h4,b3,b4,b5,a7,b6,a8,c1,c5,c6,c7⟩:=Q9 d5.out 0 e2 e3;obtain rfl:e8=h1:=(by injection h4);have m3:(0 < a0.length)=True:=eq_true (by omega);(try rw [show ((0:Int)).toNat=0 from rfl] at b3);(try rw [show 0 * 6=0 from rfl] at b3);(try rw [Addr.add_zero'] at b3);(try rw [show ((0:Int)).toNat=0 from rfl] at b4);(try rw [show 0 * 6=0 from rfl] at b4);(try rw [Addr.add_zero'] at b4);(try rw [show ((0:Int)).toNat=0 from rfl] at b5);(try rw [show 0 * 6=0 from rfl] at b5);(try rw [Addr.add_zero'] at b5);(try rw [show ((0:Int)).toNat=0 from rfl] at a7);(try rw [show 0 * 6=0 from rfl] at a7);(try rw [Addr.add_zero'] at a7);(try rw [show ((0:Int)).toNat=0 from rfl] at b6);(try rw [show 0 * 6=0 from rfl] at b6);(try rw [Addr.add_zero'] at b6);(try rw [show ((0:Int)).toNat=0 from rfl] at a8);(try rw [show 0 * 6=0 from rfl] at a8);(try rw [Addr.add_zero'] at a8);replace b3:=zzx HB.out b3;replace b4:=zzx HB.out b4;replace b5:=zzx HB.out b5;replace a7:=zzx HB.out a7;replace b6:=zzx HB.out b6;replace a8:=zzx HB.out a8;have h6:=zzm c5;have h7:=zzm c1;clear c5 c1;have g3:=zzm c7;have h8:=zzm c6;clear c7 c6;replace e2:=eq_true e2;replace e3:=eq_true e3;have ea_:=Option.some.inj (a1.symm.trans a7);injection ea_ with ea_ en_ ec_;subst ea_;subst ec_;clear en_;have ea_:=Option.some.inj (a2.symm.trans a8);injection ea_ with ea_ en_ ec_;subst ea_;subst ec_;clear en_;have e4 : 0≤(0:Int):=(by omega);have e5 : 0 < (((Qb a0 0).f5).length:Int):=zzt;obtain ⟨m4,h5,b7⟩:=Kd.at_int g3.out 0 e4 e5;cases h5;have m5:(0 < ((Qb a0 0).f5).length)=True:=eq_true (by omega);(try rw [show ((0:Int)).toNat=0 from rfl] at b7);(try rw [Addr.add_zero'] at b7);replace b7:=zzx HB.out b7;replace e4:=eq_true e4;replace e5:=eq_true e5));go_ret;exact ⟨zzR,zzh3⟩
   ·
    rw [if_neg c4] at H;exact absurd H (by simp)
  ·
   rw [if_neg c3] at H;obtain ⟨h2,h3⟩:=zzY c3;obtain rfl:=Option.some.inj H;go_enter Try.func69,Try.ntmps69;go_wp2_with (first|((with_reducible refine gate_dst (N:=1) rfl ?_);refine box_event ?hg (N:=1) ?hd (cs:=#[.bool c8,.bool c9,.int .i64 d0,.int .i64 d1,.int .i64 d2,.slice d3 a0.length d4]) (t:=27) ?hr ?_;(case hd=>rfl);(case hg=>rfl);(case hr=>first|(go_simp;done)|(go_simp;rfl));intro c0 hg w7 hbox hb;have d7:=zzm (zzp zzh1 hb);have d8:=zzm (hbox);have d9:=zzm ((by rw [hg];exact (zzo zzh1):w.heap.size≤c0));have e0:=zzm ((by rw [hg];exact (zzo zzh1):w.heap.size≤c0));clear HB;have HB:=d7;have d6:=d8;have g8:=d9;have g9:=e0;clear d7 d8 d9 e0 hb hbox hg;obtain ⟨k8,k9,l2,l3,l4,l5,l6,l7,l8,l9,m0,m1⟩:=zzc6 d6.out;have b8 : 0≤(0:Int):=(by omega);have b9 : 0 < (a0.length:Int):=zzt;obtain ⟨e8,g4,g5,g6,g7,e1,a3,a4,a5,a1,a6,a2,a9,b0,b1,b2⟩:=Q9 d5.out 0 b8 b9;cases e1;have h0:(0 < a0.length)=True:=eq_true (by omega);(try rw [show ((0:Int)).toNat=0 from rfl] at a3);(try rw [show 0 * 6=0 from rfl] at a3);(try rw [Addr.add_zero'] at a3);(try rw [show ((0:Int)).toNat=0 from rfl] at a4);(try rw [show 0 * 6=0 from rfl] at a4);(try rw [Addr.add_zero'] at a4);(try rw [show ((0:Int)).toNat=0 from rfl] at a5);(try rw [show 0 * 6=0 from rfl] at a5);(try rw [Addr.add_zero'] at a5);(try rw [show ((0:Int)).toNat=0 from rfl] at a1);(try rw [show 0 * 6=0 from rfl] at a1);(try rw [Addr.add_zero'] at a1);(try rw [show ((0:Int)).toNat=0 from rfl] at a6);(try rw [show 0 * 6=0 from rfl] at a6);(try rw [Addr.add_zero'] at a6);(try rw [show ((0:Int)).toNat=0 from rfl] at a2);(try rw [show 0 * 6=0 from rfl] at a2);(try rw [Addr.add_zero'] at a2);replace a3:=zzx HB.out a3;replace a4:=zzx HB.out a4;replace a5:=zzx HB.out a5;replace a1:=zzx HB.out a1;replace a6:=zzx HB.out a6;replace a2:=zzx HB.out a2;have e9:=zzm b0;have g0:=zzm a9;clear b0 a9;have g1:=zzm b2;have g2:=zzm b1;clear b2 b1;replace b8:=eq_true b8;replace b9:=eq_true b9));go_ret;exact ⟨zzR,zzh3⟩
 ·
  rw [if_neg c2] at H;exact absurd H (by simp)

set_option linter.unusedVariables false
set_option linter.unusedSimpArgs false
mutual
def Qe.l0:Nat→List (S27)→List (S46)→Int→Option ((List (S46)))
 | 0,_,_,_=>none
 | k+1,x0,x3,x4=>if x4 < (x0.length:Int) then ((Ql.f k x0).bind fun t370=>(Qe.j1 k x0 x3 x4 t370)) else (Qe.j1 k x0 x3 x4 false)
def Qe.j1:Nat→List (S27)→List (S46)→Int→Bool→Option ((List (S46)))
 | 0,_,_,_,_=>none
 | k+1,x0,x3,x4,x14=>if x14=true then (if 0≤x4 then (if x4 < (x0.length:Int) then ((Rm.f ((Qa x0 x4).f0) ((Qa x0 x4).f1) ((Qa x0 x4).f2) ((Qa x0 x4).f3) ((Qa x0 x4).f4) ((Qa x0 x4).f5)).bind fun t372=>(if t372=true then ((Q1.f k x0 x4).bind fun t373=>(Qe.j2 k x0 x3 x4 (!t373))) else (Qe.j2 k x0 x3 x4 true))) else (none)) else (none)) else (some x3)
def Qe.j2:Nat→List (S27)→List (S46)→Int→Bool→Option ((List (S46)))
 | 0,_,_,_,_=>none
 | k+1,x0,x3,x4,x28=>if x28=true then (Qe.l0 k x0 x3 (wrap64 (x4+1))) else ((Qw.f k x0 x4).bind fun t374=>(if t374 ≥ 0 then (if 0≤t374 then (if t374 < (x0.length:Int) then ((Ri.f ((Qa x0 t374).f0) ((Qa x0 t374).f1) ((Qa x0 t374).f2) ((Qa x0 t374).f3) ((Qa x0 t374).f4) ((Qa x0 t374).f5)).bind fun t376=>(if t376=true then (Qe.l0 k x0 x3 (wrap64 (x4+1))) else (if 0≤x4 then (if x4 < (x0.length:Int) then (if 0 < (((Qa x0 x4).f5).length:Int) then (if 0 < (((Qa x0 t374).f5).length:Int) then (if x3.length < 5864062014805 then (Qe.l0 k x0 (x3 ++ [(⟨(Qa x0 x4).f2,(Qb ((Qa x0 x4).f5) 0).f0,(Qb ((Qa x0 t374).f5) 0).f0⟩:S46)]) (wrap64 (x4+1))) else (none)) else (none)) else (none)) else (none)) else (none)))) else (none)) else (none)) else (Qe.l0 k x0 x3 (wrap64 (x4+1)))))
end
def Qe.f (k:Nat) (l0:List (S27)):Option ((List (S46))):=Qe.l0 k l0 (([]:List (S46))) 0
def Qe.T8:Bool×List (List Nat×List Nat):=(true,[([],[]),([],[]),([],[]),([1,2],[1,2]),([3],[3]),([4],[4]),([],[]),([],[]),([6,7],[6,7]),([8],[8]),([9],[9]),([10],[10]),([11],[11]),([12],[12]),([],[]),([],[]),([14,15],[14,15]),([16],[16]),([17],[17]),([18],[18]),([19],[19]),([20],[20]),([5,13,21],[5,13,21]),([22],[22]),([0,23],[0,23]),([24,24,0,1,2,3,4,5,6,7,8,9,10,11,12,13,14,15,16,17,18,19,20,21,22,23,24],[0,24])])
def Qe.B8:List Nat:=[0,0,0,6,14,30,0,0,192,448,960,1984,4032,8128,0,0,49152,114688,245760,507904,1032192,2080768,4194302,8388606,16777215,33554431]
theorem Qe.tab8:rtab .any (opsOf Try.f33 8)=Qe.T8:=by kernel_rfl
theorem Qe.bits8:waitsOk Qe.T8.2 Qe.B8=true:=by kernel_rfl
set_option maxHeartbeats 8000000 in
theorem Qe.calls (k:Nat) (A0:Option Addr) (c0:Nat) (l0:List (S27)) (r:List (S46)) (w:World) (w6:Kd.C k27 w A0 l0.length l0) (w8:l0.length≤c0) (h:Qe.f k l0=some r) :
  Calls Try.prog 33 #[.slice A0 l0.length c0] w fun e w'=>∃ w9:Value,e = .returned (w9)∧Kd.R k46 46 w' w.heap.size (fun _=>True) w9 r∧Below w.heap.size w w':=by
 have hu27:=Try.underlying27;have hu46:=Try.underlying46;have g9:=zzm w6;have p4:=zzm w8;clear w6 w8;have HB:=zzm (Below.refl w.heap.size w);have H:(Qe.l0 k l0 (([]:List (S46))) 0)=some r:=h;clear h;obtain ⟨y367,hy367⟩:∃ y_:List (S46),y_=(([]:List (S46))):=⟨_,rfl⟩;replace H:(Qe.l0 k l0 y367 0)=some r:=by first|(rw [hy367];with_reducible exact H)|(have H2_:=(Option.bind_some _ _).symm.trans H;rw [hy367];with_reducible exact H2_)|(have H2_:=(Option.bind_some _ _).symm.trans H;with_reducible exact H2_)|with_reducible exact H|(rw [hy367];exact H)|exact H
 have Ny367:=zzm hy367;clear hy367;have H':=zzm H;clear H;go_enter Try.func33,Try.ntmps33;go_wp2_with (first|((with_reducible refine gate_dst (N:=6) rfl ?_);refine Kd.R_lit k46 _ 46 ?hg (N:=6) ?hd (xs:=([]:List (S46))) (inner:=[]) (ok:=fun _=>True) (okp:=fun _=>True) ?hr ?hp (fun _ hk=>hk) trivial (Below.refl _ _) (Nat.le_refl _) (by simp) ?_;(case hd=>rfl);(case hg=>rfl);(case hr=>first|(go_simp;done)|(go_simp;rfl));(case hp=>exact (Reps.none _ _));intro A7 w2 ho3 hb hg_ hnew_;clear hg_ hnew_;(first|rw [← Ny367.out] at ho3|(simp only [Int.reduceToNat] at ho3;rw [← Ny367.out] at ho3));have a5:=zzm (Kd.R_lower ho3 (zzo zzh1));have a6:=zzm (zzp zzh1 hb);clear HB;have v5:=a5;have HB:=a6;clear a5 a6 hb ho3));go_loopg [3,4] k (fun kq v3 v4 w'=>∃ (a9:List (S46)) (a0:Int),v4 = .int .i64 a0∧Aside0 (Qe.l0 kq l0 a9 a0=some r)∧Aside0 (kq≤k)∧Aside0 (Kd.R k46 46 w' w.heap.size (fun _=>True) v3 a9)∧Aside0 (Below w.heap.size w w'))
 case atStart=>exact ⟨(y367),(0),(by first|rfl|(simp;done)|(simp [*];done)),H',⟨Nat.le_refl _⟩,⟨by (with_reducible repeat (first|apply Kd.R_alloc|apply Kd.R_drewN|apply Kd.R_drew));exact v5.out⟩,⟨zzh1⟩⟩
 case round=>
  clear H';try clear p2
  try clear c3
  obtain ⟨a9,a0,rfl,HA,HK1,a3,HB⟩:=hrel;cases gk with
  | zero=>exact absurd HA.out (by simp [Qe.l0])
  | succ k1=>
   have H:=HA.out;clear HA;simp only [Qe.l0] at H;have s7:=zzm H;clear H;go_upto_region 3 with (fail);go_cut [14] (fun y7 wc=>∃ (kq:Nat) (n0:Bool),y7 = .bool n0∧Aside0 (Qe.j1 kq l0 a9 a0 n0=some r)∧Aside0 (kq≤k1)∧Aside0 (Kd.R k46 46 wc w.heap.size (fun _=>True) u3 a9)∧Aside0 (Below w.heap.size w wc))
   case first=>
    have H:=s7.out;clear s7;by_cases c5:a0 < (l0.length:Int)
    ·
     rw [if_pos c5] at H;have m2:decide (a0 < (l0.length:Int))=true:=decide_eq_true c5;clear c5
     (first|rw [m2]|(simp only [i64_w,i32_w];rw [m2])|skip);obtain ⟨s8,A6,H⟩:=zzG H;have H':=zzm H;clear H;go_wp2_with (first|(go_at_call 44;(with_reducible refine (Ql.calls k1 _ _ l0 s8 _ ?side1 ?side2 A6.out).mono ?_);(case side1=>exact zzcb g9 HB);(case side2=>exact p4.out);rintro e w7 ⟨rfl,hb⟩;have a5:=zzm (Kd.R_below (by (with_reducible repeat (first|apply Kd.R_alloc|apply Kd.R_drewN|apply Kd.R_drew));exact a3.out) hb);have a6:=zzm (zzp zzh1 hb);clear a3 HB;have a3:=a5;have HB:=a6;clear a5 a6;(try clear hb);(try clear hb2);(try clear hk);(try clear hi)));go_meet
     case rel=>exact ⟨_,(s8),(by first|rfl|(simp;done)|(simp [*];done)),H',⟨by have:=HK1.out;first|omega|exact Nat.le_refl _⟩,⟨by (with_reducible repeat (first|apply Kd.R_alloc|apply Kd.R_drewN|apply Kd.R_drew));exact a3.out⟩,⟨zzh1⟩⟩
    ·
     rw [if_neg c5] at H;have m2:decide (a0 < (l0.length:Int))=false:=decide_eq_false c5;clear c5
     (first|rw [m2]|(simp only [i64_w,i32_w];rw [m2])|skip);have H':=zzm H;clear H;go_wp2;go_meet
     case rel=>exact ⟨_,(false),(by first|rfl|(simp;done)|(simp [*];done)),H',⟨by have:=HK1.out;first|omega|exact Nat.le_refl _⟩,⟨by (with_reducible repeat (first|apply Kd.R_alloc|apply Kd.R_drewN|apply Kd.R_drew));exact a3.out⟩,⟨zzh1⟩⟩
   case rest=>
    clear s7;try clear p2
    try clear c3
    try clear c5
    try clear m2
    try clear p2
    obtain ⟨kq,n0,rfl,HA,HJ3,a3,HB⟩:=hcut;cases kq with
    | zero=>exact absurd HA.out (by simp [Qe.j1])
    | succ x0=>
     have H:=HA.out;clear HA;simp only [Qe.j1] at H;by_cases c8:n0=true
     ·
      subst c8;replace H:=zzIt H;have s9:=zzm H;clear H;go_upto_region 5 with (fail);go_cut [28] (fun y8 wc=>∃ (kq:Nat) (n1:Bool),y8 = .bool n1∧Aside0 (Qe.j2 kq l0 a9 a0 n1=some r)∧Aside0 (kq≤x0)∧Aside0 (Kd.R k46 46 wc w.heap.size (fun _=>True) u3 a9)∧Aside0 (Below w.heap.size w wc))
      case first=>
       have H:=s9.out;clear s9;by_cases p5 : 0≤a0
       ·
        rw [if_pos p5] at H;have p1:decide (0≤a0)=true:=decide_eq_true p5;clear p5
        (first|rw [p1]|(simp only [i64_w,i32_w];rw [p1])|skip);by_cases p6:a0 < (l0.length:Int)
        ·
         rw [if_pos p6] at H;have v6:decide (a0 < (l0.length:Int))=true:=decide_eq_true p6;clear p6;obtain ⟨x3,x1,H⟩:=zzG H;by_cases p7:x3=true
         ·
          subst p7;replace H:=zzIt H;obtain ⟨t0,y9,H⟩:=zzG H;have H':=zzm H;clear H;have h0 : 0≤(a0:Int):=zzt;have h1:a0 < (l0.length:Int):=zzt;obtain ⟨v7,n2,n3,q0,e0,e1,e2,e3,e4,e5,e7,e8⟩:=Q2 g9.out a0 h0 h1;cases q0;replace e0:=zzx HB.out e0;replace e1:=zzx HB.out e1;replace e2:=zzx HB.out e2;replace e3:=zzx HB.out e3;replace e4:=zzx HB.out e4;replace e5:=zzx HB.out e5;have m5:=zzm e8;have m6:=zzm e7;clear e8 e7;replace h0:=eq_true h0;replace h1:=eq_true h1;go_wp2_with (first|((with_reducible refine gate_callee (f:=66) rfl ?_);refine goesL_ (some 21) rfl rfl Try.func66 (by kernel_rfl) rfl #[.agg #[.bool ((Qa l0 a0).f0),.bool ((Qa l0 a0).f1),.int .i64 ((Qa l0 a0).f2),.int .i64 ((Qa l0 a0).f3),.int .i64 ((Qa l0 a0).f4),.slice n2 ((Qa l0 a0).f5).length n3]] rfl zzM2 ?_;(with_reducible refine (Rm.calls ((Qa l0 a0).f0) ((Qa l0 a0).f1) ((Qa l0 a0).f2) ((Qa l0 a0).f3) ((Qa l0 a0).f4) _ _ ((Qa l0 a0).f5) true _ ?side1 ?side2 x1.out).mono ?_);(case side1=>exact zzcb m5 HB);(case side2=>exact m6.out);rintro e A9 ⟨rfl,hb⟩;refine ⟨_,rfl,?_⟩;have a5:=zzm (Kd.R_below (by (with_reducible repeat (first|apply Kd.R_alloc|apply Kd.R_drewN|apply Kd.R_drew));exact a3.out) hb);have a6:=zzm (zzp zzh1 hb);clear a3 HB;have a3:=a5;have HB:=a6;clear a5 a6;(try clear hb);(try clear hb2);(try clear hk);(try clear hi))|(go_at_call 67;(with_reducible refine (Q1.calls x0 _ _ l0 a0 t0 _ ?side1 ?side2 y9.out).mono ?_);(case side1=>exact zzcb g9 HB);(case side2=>exact p4.out);rintro e w' ⟨rfl,⟨nd,rfl⟩⟩));go_meet
          case rel=>exact ⟨_,(!t0),(by first|rfl|(simp;done)|(simp [*];done)),H',⟨by have:=HK1.out;have:=HJ3.out;first|omega|exact Nat.le_refl _⟩,⟨by (with_reducible repeat (first|apply Kd.R_alloc|apply Kd.R_drewN|apply Kd.R_drew));exact a3.out⟩,⟨zzh1⟩⟩
         ·
          replace p7:=Bool.eq_false_iff.mpr p7;subst p7;replace H:=zzIf H;have H':=zzm H;clear H;have h0 : 0≤(a0:Int):=zzt;have h1:a0 < (l0.length:Int):=zzt;obtain ⟨v7,n2,n3,q0,e0,e1,e2,e3,e4,e5,e7,e8⟩:=Q2 g9.out a0 h0 h1;cases q0;replace e0:=zzx HB.out e0;replace e1:=zzx HB.out e1;replace e2:=zzx HB.out e2;replace e3:=zzx HB.out e3;replace e4:=zzx HB.out e4;replace e5:=zzx HB.out e5;have m5:=zzm e8;have m6:=zzm e7;clear e8 e7;replace h0:=eq_true h0;replace h1:=eq_true h1;go_wp2_with (first|((with_reducible refine gate_callee (f:=66) rfl ?_);refine goesL_ (some 21) rfl rfl Try.func66 (by kernel_rfl) rfl #[.agg #[.bool ((Qa l0 a0).f0),.bool ((Qa l0 a0).f1),.int .i64 ((Qa l0 a0).f2),.int .i64 ((Qa l0 a0).f3),.int .i64 ((Qa l0 a0).f4),.slice n2 ((Qa l0 a0).f5).length n3]] rfl zzM2 ?_;(with_reducible refine (Rm.calls ((Qa l0 a0).f0) ((Qa l0 a0).f1) ((Qa l0 a0).f2) ((Qa l0 a0).f3) ((Qa l0 a0).f4) _ _ ((Qa l0 a0).f5) false _ ?side1 ?side2 x1.out).mono ?_);(case side1=>exact zzcb m5 HB);(case side2=>exact m6.out);rintro e B0 ⟨rfl,hb⟩;refine ⟨_,rfl,?_⟩;have a5:=zzm (Kd.R_below (by (with_reducible repeat (first|apply Kd.R_alloc|apply Kd.R_drewN|apply Kd.R_drew));exact a3.out) hb);have a6:=zzm (zzp zzh1 hb);clear a3 HB;have a3:=a5;have HB:=a6;clear a5 a6;(try clear hb);(try clear hb2);(try clear hk);(try clear hi)));go_meet
          case rel=>exact ⟨_,(true),(by first|rfl|(simp;done)|(simp [*];done)),H',⟨by have:=HK1.out;have:=HJ3.out;first|omega|exact Nat.le_refl _⟩,⟨by (with_reducible repeat (first|apply Kd.R_alloc|apply Kd.R_drewN|apply Kd.R_drew));exact a3.out⟩,⟨zzh1⟩⟩
        ·
         rw [if_neg p6] at H;exact absurd H (by simp)
       ·
        rw [if_neg p5] at H;exact absurd H (by simp)
      case rest=>
       clear s9;try clear c1
       try clear p2
       try clear c3
       try clear p3
       try clear q3
       try clear B1
       try clear c5
       try clear m2
       try clear c6
       try clear c8
       try clear p5
       try clear p1
       try clear p6
       try clear v6
       try clear p7
       try clear e0
       try clear e1
       try clear e2
       try clear e3
       try clear e4
       try clear e5
       try clear p2
       try clear h0
       try clear h1
       obtain ⟨kq,n1,rfl,HA,HJ8,a3,HB⟩:=hcut;cases kq with
       | zero=>exact absurd HA.out (by simp [Qe.j2])
       | succ m9=>
        have H:=HA.out;clear HA;simp only [Qe.j2] at H;by_cases r3:n1=true
        ·
         subst r3;replace H:=zzIt H;have H':=zzm H;clear H;go_wp2;go_roundg m9
         case measure=>have:=HK1.out;have:=HJ3.out;have:=HJ8.out;omega
         case rel=>exact ⟨(a9),(wrap64 (a0+1)),(by first|rfl|(simp;done)|(simp [*];done)),H',⟨by have:=HK1.out;have:=HJ3.out;have:=HJ8.out;omega⟩,⟨by (with_reducible repeat (first|apply Kd.R_alloc|apply Kd.R_drewN|apply Kd.R_drew));exact a3.out⟩,⟨zzh1⟩⟩
        ·
         replace r3:=Bool.eq_false_iff.mpr r3;subst r3;replace H:=zzIf H;obtain ⟨a1,t1,H⟩:=zzG H;by_cases n4:a1 ≥ 0
         ·
          rw [if_pos n4] at H;have v8:decide (0≤a1)=true:=decide_eq_true n4;clear n4;by_cases r4 : 0≤a1
          ·
           rw [if_pos r4] at H;have z5:decide (0≤a1)=true:=decide_eq_true r4;clear r4;by_cases r5:a1 < (l0.length:Int)
           ·
            rw [if_pos r5] at H;have z6:decide (a1 < (l0.length:Int))=true:=decide_eq_true r5;clear r5;obtain ⟨x4,x2,H⟩:=zzG H;by_cases r6:x4=true
            ·
             subst r6;replace H:=zzIt H;have H':=zzm H;clear H;go_wp2_with (first|((with_reducible refine gate_callee (f:=68) rfl ?_);refine goesL_ (some 31) rfl rfl Try.func68 (by kernel_rfl) rfl #[.slice A0 l0.length c0,.int .i64 a0] rfl zzM2 ?_;(with_reducible refine (Qw.calls m9 _ _ l0 a0 a1 _ ?side1 ?side2 t1.out).mono ?_);(case side1=>exact zzcb g9 HB);(case side2=>exact p4.out);rintro e w' ⟨rfl,⟨nd,rfl⟩⟩;refine ⟨_,rfl,?_⟩;have m3 : 0≤(a1:Int):=zzt;have m4:a1 < (l0.length:Int):=zzt;obtain ⟨a2,t2,t3,q1,e9,g0,g1,g2,g3,g4,g5,g6⟩:=Q2 g9.out a1 m3 m4;cases q1;replace e9:=zzx HB.out e9;replace g0:=zzx HB.out g0;replace g1:=zzx HB.out g1;replace g2:=zzx HB.out g2;replace g3:=zzx HB.out g3;replace g4:=zzx HB.out g4;have m7:=zzm g6;have m8:=zzm g5;clear g6 g5;replace m3:=eq_true m3;replace m4:=eq_true m4)|(go_at_call 69;(with_reducible refine (Ri.calls ((Qa l0 a1).f0) ((Qa l0 a1).f1) ((Qa l0 a1).f2) ((Qa l0 a1).f3) ((Qa l0 a1).f4) _ _ ((Qa l0 a1).f5) true _ ?side1 ?side2 x2.out).mono ?_);(case side1=>repeat (first|exact (Kd.C_below m7.out zzh1)|(with_reducible refine Kd.C_alloc ?_ _)|(with_reducible refine Kd.C_drewN ?_ _)|(with_reducible refine Kd.C_drew ?_)));(case side2=>exact m8.out);rintro e B2 ⟨rfl,hb⟩;have a5:=zzm (Kd.R_below (by (with_reducible repeat (first|apply Kd.R_alloc|apply Kd.R_drewN|apply Kd.R_drew));exact a3.out) hb);have a6:=zzm (zzp zzh1 hb);clear a3 HB;have a3:=a5;have HB:=a6;clear a5 a6;(try clear hb);(try clear hb2);(try clear hk);(try clear hi)));go_roundg m9
             case measure=>have:=HK1.out;have:=HJ3.out;have:=HJ8.out;omega
             case rel=>exact ⟨(a9),(wrap64 (a0+1)),(by first|rfl|(simp;done)|(simp [*];done)),H',⟨by have:=HK1.out;have:=HJ3.out;have:=HJ8.out;omega⟩,⟨by (with_reducible repeat (first|apply Kd.R_alloc|apply Kd.R_drewN|apply Kd.R_drew));exact a3.out⟩,⟨zzh1⟩⟩
            ·
             replace r6:=Bool.eq_false_iff.mpr r6;subst r6;replace H:=zzIf H;by_cases r7 : 0≤a0
             ·
              rw [if_pos r7] at H;have z7:decide (0≤a0)=true:=decide_eq_true r7;clear r7;by_cases r8:a0 < (l0.length:Int)
              ·
               rw [if_pos r8] at H;have z8:decide (a0 < (l0.length:Int))=true:=decide_eq_true r8;clear r8;by_cases r9 : 0 < (((Qa l0 a0).f5).length:Int)
               ·
                rw [if_pos r9] at H;have z9:decide (0 < (((Qa l0 a0).f5).length:Int))=true:=decide_eq_true r9;have A1:decide (0 < ((Qa l0 a0).f5).length)=true:=decide_eq_true (by omega);clear r9;by_cases s0 : 0 < (((Qa l0 a1).f5).length:Int)
                ·
                 rw [if_pos s0] at H;have A2:decide (0 < (((Qa l0 a1).f5).length:Int))=true:=decide_eq_true s0;have A3:decide (0 < ((Qa l0 a1).f5).length)=true:=decide_eq_true (by omega);clear s0;by_cases s1:a9.length < 5864062014805
                 ·
                  rw [if_pos s1] at H;have LMc29:=zzm s1;clear s1;obtain ⟨y382,hy382⟩:∃ y_:List (S46),y_=(a9 ++ [(⟨(Qa l0 a0).f2,(Qb ((Qa l0 a0).f5) 0).f0,(Qb ((Qa l0 a1).f5) 0).f0⟩:S46)]):=⟨_,rfl⟩;replace H:(Qe.l0 m9 l0 y382 (wrap64 (a0+1)))=some r:=by first|(rw [hy382];with_reducible exact H)|(have H2_:=(Option.bind_some _ _).symm.trans H;rw [hy382];with_reducible exact H2_)|(have H2_:=(Option.bind_some _ _).symm.trans H;with_reducible exact H2_)|with_reducible exact H|(rw [hy382];exact H)|exact H
                  have Ny382:=zzm hy382;clear hy382;have H':=zzm H;clear H;try go_wp2_with (first|((with_reducible refine gate_callee (f:=68) rfl ?_);refine goesL_ (some 31) rfl rfl Try.func68 (by kernel_rfl) rfl #[.slice A0 l0.length c0,.int .i64 a0] rfl zzM2 ?_;(with_reducible refine (Qw.calls m9 _ _ l0 a0 a1 _ ?side1 ?side2 t1.out).mono ?_);(case side1=>exact zzcb g9 HB);(case side2=>exact p4.out);rintro e w' ⟨rfl,⟨nd,rfl⟩⟩;refine ⟨_,rfl,?_⟩;have m3 : 0≤(a1:Int):=zzt;have m4:a1 < (l0.length:Int):=zzt;obtain ⟨a2,t2,t3,q1,e9,g0,g1,g2,g3,g4,g5,g6⟩:=Q2 g9.out a1 m3 m4;cases q1;replace e9:=zzx HB.out e9;replace g0:=zzx HB.out g0;replace g1:=zzx HB.out g1;replace g2:=zzx HB.out g2;replace g3:=zzx HB.out g3;replace g4:=zzx HB.out g4;have m7:=zzm g6;have m8:=zzm g5;clear g6 g5;replace m3:=eq_true m3;replace m4:=eq_true m4)|(go_at_call 69;(with_reducible refine (Ri.calls ((Qa l0 a1).f0) ((Qa l0 a1).f1) ((Qa l0 a1).f2) ((Qa l0 a1).f3) ((Qa l0 a1).f4) _ _ ((Qa l0 a1).f5) false _ ?side1 ?side2 x2.out).mono ?_);(case side1=>repeat (first|exact (Kd.C_below m7.out zzh1)|(with_reducible refine Kd.C_alloc ?_ _)|(with_reducible refine Kd.C_drewN ?_ _)|(with_reducible refine Kd.C_drew ?_)));(case side2=>exact m8.out);rintro e z0 ⟨rfl,hb⟩;have a5:=zzm (Kd.R_below (by (with_reducible repeat (first|apply Kd.R_alloc|apply Kd.R_drewN|apply Kd.R_drew));exact a3.out) hb);have a6:=zzm (zzp zzh1 hb);clear a3 HB;have a3:=a5;have HB:=a6;clear a5 a6;(try clear hb);(try clear hb2);(try clear hk);(try clear hi)))
                  have a5:=zzm (Kd.R_drew a3.out);have a6:=zzm (zzc HB.out);clear a3 HB;have a3:=a5;have HB:=a6;clear a5 a6;have q2 : 0≤(a0:Int):=zzt;have q4:a0 < (l0.length:Int):=zzt;obtain ⟨v9,z1,p8,x5,h2,h3,h4,h5,h6,g7,n5,n6⟩:=Q2 g9.out a0 q2 q4;have h7:=g7;have h8:=h6;have h9:=h5;have j3:=h4;have j4:=h3;have j5:=h2;obtain rfl:a2=v9:=(by injection x5);replace h2:=zzx HB.out h2;replace h3:=zzx HB.out h3;replace h4:=zzx HB.out h4;replace h5:=zzx HB.out h5;replace h6:=zzx HB.out h6;replace g7:=zzx HB.out g7;have s2:=zzm n6;have y0:=zzm n5;clear n6 n5;replace q2:=eq_true q2;replace q4:=eq_true q4;have q5 : 0≤(a0:Int):=zzt;have q6:a0 < (l0.length:Int):=zzt;obtain ⟨w3,z2,z3,x6,j6,j7,j8,j9,k0,g8,n7,n8⟩:=Q2 g9.out a0 q5 q6;have k2:=g8;have k3:=k0;have k4:=j9;have k5:=j8;have k6:=j7;have k7:=j6;obtain rfl:a2=w3:=(by injection x6);replace j6:=zzx HB.out j6;replace j7:=zzx HB.out j7;replace j8:=zzx HB.out j8;replace j9:=zzx HB.out j9;replace k0:=zzx HB.out k0;replace g8:=zzx HB.out g8;have n9:=zzm n8;have y1:=zzm n7;clear n8 n7;replace q5:=eq_true q5;replace q6:=eq_true q6;have ea_:=Option.some.inj (g7.symm.trans g8);injection ea_ with ea_ en_ ec_;subst ea_;subst ec_;clear en_;have q7 : 0≤(0:Int):=(by omega);have q8 : 0 < (((Qa l0 a0).f5).length:Int):=zzt;obtain ⟨a7,t4,t5,t6,t7,x7,b0,b1,b2,b3,b4,b5,o0,o1,o2,o3⟩:=Q9 n9.out 0 q7 q8;have b6:=b5
                  (try rw [show ((0:Int)).toNat=0 from rfl] at b6)
                  (try rw [show 0 * 6=0 from rfl] at b6)
                  (try rw [Addr.add_zero'] at b6);have b7:=b4
                  (try rw [show ((0:Int)).toNat=0 from rfl] at b7)
                  (try rw [show 0 * 6=0 from rfl] at b7)
                  (try rw [Addr.add_zero'] at b7);have b8:=b3
                  (try rw [show ((0:Int)).toNat=0 from rfl] at b8)
                  (try rw [show 0 * 6=0 from rfl] at b8)
                  (try rw [Addr.add_zero'] at b8);have b9:=b2
                  (try rw [show ((0:Int)).toNat=0 from rfl] at b9)
                  (try rw [show 0 * 6=0 from rfl] at b9)
                  (try rw [Addr.add_zero'] at b9);have c2:=b1
                  (try rw [show ((0:Int)).toNat=0 from rfl] at c2)
                  (try rw [show 0 * 6=0 from rfl] at c2)
                  (try rw [Addr.add_zero'] at c2);have c4:=b0
                  (try rw [show ((0:Int)).toNat=0 from rfl] at c4)
                  (try rw [show 0 * 6=0 from rfl] at c4)
                  (try rw [Addr.add_zero'] at c4);cases x7;have A4:(0 < ((Qa l0 a0).f5).length)=True:=eq_true (by omega)
                  (try rw [show ((0:Int)).toNat=0 from rfl] at b0)
                  (try rw [show 0 * 6=0 from rfl] at b0)
                  (try rw [Addr.add_zero'] at b0)
                  (try rw [show ((0:Int)).toNat=0 from rfl] at b1)
                  (try rw [show 0 * 6=0 from rfl] at b1)
                  (try rw [Addr.add_zero'] at b1)
                  (try rw [show ((0:Int)).toNat=0 from rfl] at b2)
                  (try rw [show 0 * 6=0 from rfl] at b2)
                  (try rw [Addr.add_zero'] at b2)
                  (try rw [show ((0:Int)).toNat=0 from rfl] at b3)
                  (try rw [show 0 * 6=0 from rfl] at b3)
                  (try rw [Addr.add_zero'] at b3)
                  (try rw [show ((0:Int)).toNat=0 from rfl] at b4)
                  (try rw [show 0 * 6=0 from rfl] at b4)
                  (try rw [Addr.add_zero'] at b4)
                  (try rw [show ((0:Int)).toNat=0 from rfl] at b5)
                  (try rw [show 0 * 6=0 from rfl] at b5)
                  (try rw [Addr.add_zero'] at b5);replace b0:=zzx HB.out b0;replace b1:=zzx HB.out b1;replace b2:=zzx HB.out b2;replace b3:=zzx HB.out b3;replace b4:=zzx HB.out b4;replace b5:=zzx HB.out b5;have s3:=zzm o1;have y2:=zzm o0;clear o1 o0;have s4:=zzm o3;have y3:=zzm o2;clear o3 o2;replace q7:=eq_true q7;replace q8:=eq_true q8;have q9 : 0≤(a1:Int):=zzt;have r0:a1 < (l0.length:Int):=zzt;obtain ⟨w4,z4,t8,x8,k8,k9,l2,l3,l4,l5,o4,o5⟩:=Q2 g9.out a1 q9 r0;have l6:=l5;have l7:=l4;have l8:=l3;have l9:=l2;have m0:=k9;have m1:=k8;obtain rfl:a2=w4:=(by injection x8);replace k8:=zzx HB.out k8;replace k9:=zzx HB.out k9;replace l2:=zzx HB.out l2;replace l3:=zzx HB.out l3;replace l4:=zzx HB.out l4;replace l5:=zzx HB.out l5;have o6:=zzm o5;have y4:=zzm o4;clear o5 o4;replace q9:=eq_true q9;replace r0:=eq_true r0;have r1 : 0≤(0:Int):=(by omega);have r2 : 0 < (((Qa l0 a1).f5).length:Int):=zzt;obtain ⟨a8,t9,v0,v1,v2,x9,c7,c9,d0,d1,d2,d3,o7,o8,o9,p0⟩:=Q9 o6.out 0 r1 r2;have d4:=d3
                  (try rw [show ((0:Int)).toNat=0 from rfl] at d4)
                  (try rw [show 0 * 6=0 from rfl] at d4)
                  (try rw [Addr.add_zero'] at d4);have d5:=d2
                  (try rw [show ((0:Int)).toNat=0 from rfl] at d5)
                  (try rw [show 0 * 6=0 from rfl] at d5)
                  (try rw [Addr.add_zero'] at d5);have d6:=d1
                  (try rw [show ((0:Int)).toNat=0 from rfl] at d6)
                  (try rw [show 0 * 6=0 from rfl] at d6)
                  (try rw [Addr.add_zero'] at d6);have d7:=d0
                  (try rw [show ((0:Int)).toNat=0 from rfl] at d7)
                  (try rw [show 0 * 6=0 from rfl] at d7)
                  (try rw [Addr.add_zero'] at d7);have d8:=c9
                  (try rw [show ((0:Int)).toNat=0 from rfl] at d8)
                  (try rw [show 0 * 6=0 from rfl] at d8)
                  (try rw [Addr.add_zero'] at d8);have d9:=c7
                  (try rw [show ((0:Int)).toNat=0 from rfl] at d9)
                  (try rw [show 0 * 6=0 from rfl] at d9)
                  (try rw [Addr.add_zero'] at d9);cases x9;have A5:(0 < ((Qa l0 a1).f5).length)=True:=eq_true (by omega)
                  (try rw [show ((0:Int)).toNat=0 from rfl] at c7)
                  (try rw [show 0 * 6=0 from rfl] at c7)
                  (try rw [Addr.add_zero'] at c7)
                  (try rw [show ((0:Int)).toNat=0 from rfl] at c9)
                  (try rw [show 0 * 6=0 from rfl] at c9)
                  (try rw [Addr.add_zero'] at c9)
                  (try rw [show ((0:Int)).toNat=0 from rfl] at d0)
                  (try rw [show 0 * 6=0 from rfl] at d0)
                  (try rw [Addr.add_zero'] at d0)
                  (try rw [show ((0:Int)).toNat=0 from rfl] at d1)
                  (try rw [show 0 * 6=0 from rfl] at d1)
                  (try rw [Addr.add_zero'] at d1)
                  (try rw [show ((0:Int)).toNat=0 from rfl] at d2)
                  (try rw [show 0 * 6=0 from rfl] at d2)
                  (try rw [Addr.add_zero'] at d2)
                  (try rw [show ((0:Int)).toNat=0 from rfl] at d3)
                  (try rw [show 0 * 6=0 from rfl] at d3)
                  (try rw [Addr.add_zero'] at d3);replace c7:=zzx HB.out c7;replace c9:=zzx HB.out c9;replace d0:=zzx HB.out d0;replace d1:=zzx HB.out d1;replace d2:=zzx HB.out d2;replace d3:=zzx HB.out d3;have s5:=zzm o8;have y5:=zzm o7;clear o8 o7;have s6:=zzm p0;have y6:=zzm o9;clear p0 o9;replace r1:=eq_true r1;replace r2:=eq_true r2;refine start_ (n:=26) (S:=fun w'=>w'.cell? (a2.add ((a0).toNat * 6))=some (.bool ((Qa l0 a0).f0))∧w'.cell? ⟨(a2.add ((a0).toNat * 6)).block,(a2.add ((a0).toNat * 6)).off+1,none⟩=some (.bool ((Qa l0 a0).f1))∧w'.cell? ⟨(a2.add ((a0).toNat * 6)).block,(a2.add ((a0).toNat * 6)).off+2,none⟩=some (.int .i64 ((Qa l0 a0).f2))∧w'.cell? ⟨(a2.add ((a0).toNat * 6)).block,(a2.add ((a0).toNat * 6)).off+3,none⟩=some (.int .i64 ((Qa l0 a0).f3))∧w'.cell? ⟨(a2.add ((a0).toNat * 6)).block,(a2.add ((a0).toNat * 6)).off+4,none⟩=some (.int .i64 ((Qa l0 a0).f4))∧w'.cell? ⟨(a2.add ((a0).toNat * 6)).block,(a2.add ((a0).toNat * 6)).off+5,none⟩=some (.slice (some a7) ((Qa l0 a0).f5).length p8)∧w'.cell? (a2.add ((a0).toNat * 6))=some (.bool ((Qa l0 a0).f0))∧w'.cell? ⟨(a2.add ((a0).toNat * 6)).block,(a2.add ((a0).toNat * 6)).off+1,none⟩=some (.bool ((Qa l0 a0).f1))∧w'.cell? ⟨(a2.add ((a0).toNat * 6)).block,(a2.add ((a0).toNat * 6)).off+2,none⟩=some (.int .i64 ((Qa l0 a0).f2))∧w'.cell? ⟨(a2.add ((a0).toNat * 6)).block,(a2.add ((a0).toNat * 6)).off+3,none⟩=some (.int .i64 ((Qa l0 a0).f3))∧w'.cell? ⟨(a2.add ((a0).toNat * 6)).block,(a2.add ((a0).toNat * 6)).off+4,none⟩=some (.int .i64 ((Qa l0 a0).f4))∧w'.cell? ⟨(a2.add ((a0).toNat * 6)).block,(a2.add ((a0).toNat * 6)).off+5,none⟩=some (.slice (some a7) ((Qa l0 a0).f5).length p8)∧w'.cell? a7=some (.int .i64 ((Qb ((Qa l0 a0).f5) 0).f0))∧w'.cell? ⟨a7.block,a7.off+1,none⟩=some (.int .i64 ((Qb ((Qa l0 a0).f5) 0).f1))∧w'.cell? ⟨a7.block,a7.off+2,none⟩=some (.bool ((Qb ((Qa l0 a0).f5) 0).f2))∧w'.cell? ⟨a7.block,a7.off+3,none⟩=some (.slice t4 ((Qb ((Qa l0 a0).f5) 0).f3).length t5)∧w'.cell? ⟨a7.block,a7.off+4,none⟩=some (.bool ((Qb ((Qa l0 a0).f5) 0).f4))∧w'.cell? ⟨a7.block,a7.off+5,none⟩=some (.slice t6 ((Qb ((Qa l0 a0).f5) 0).f5).length t7)∧w'.cell? (a2.add ((a1).toNat * 6))=some (.bool ((Qa l0 a1).f0))∧w'.cell? ⟨(a2.add ((a1).toNat * 6)).block,(a2.add ((a1).toNat * 6)).off+1,none⟩=some (.bool ((Qa l0 a1).f1))∧w'.cell? ⟨(a2.add ((a1).toNat * 6)).block,(a2.add ((a1).toNat * 6)).off+2,none⟩=some (.int .i64 ((Qa l0 a1).f2))∧w'.cell? ⟨(a2.add ((a1).toNat * 6)).block,(a2.add ((a1).toNat * 6)).off+3,none⟩=some (.int .i64 ((Qa l0 a1).f3))∧w'.cell? ⟨(a2.add ((a1).toNat * 6)).block,(a2.add ((a1).toNat * 6)).off+4,none⟩=some (.int .i64 ((Qa l0 a1).f4))∧w'.cell? ⟨(a2.add ((a1).toNat * 6)).block,(a2.add ((a1).toNat * 6)).off+5,none⟩=some (.slice (some a8) ((Qa l0 a1).f5).length t8)∧w'.cell? a8=some (.int .i64 ((Qb ((Qa l0 a1).f5) 0).f0))∧w'.cell? ⟨a8.block,a8.off+1,none⟩=some (.int .i64 ((Qb ((Qa l0 a1).f5) 0).f1))∧w'.cell? ⟨a8.block,a8.off+2,none⟩=some (.bool ((Qb ((Qa l0 a1).f5) 0).f2))∧w'.cell? ⟨a8.block,a8.off+3,none⟩=some (.slice t9 ((Qb ((Qa l0 a1).f5) 0).f3).length v0)∧w'.cell? ⟨a8.block,a8.off+4,none⟩=some (.bool ((Qb ((Qa l0 a1).f5) 0).f4))∧w'.cell? ⟨a8.block,a8.off+5,none⟩=some (.slice v1 ((Qb ((Qa l0 a1).f5) 0).f5).length v2)) (ds:=[]) (zzB 26 0) (by kernel_rfl) rfl rfl ⟨(zzx HB.out j5),(zzx HB.out j4),(zzx HB.out j3),(zzx HB.out h9),(zzx HB.out h8),(zzx HB.out h7),(zzx HB.out k7),(zzx HB.out k6),(zzx HB.out k5),(zzx HB.out k4),(zzx HB.out k3),(zzx HB.out k2),(zzx HB.out c4),(zzx HB.out c2),(zzx HB.out b9),(zzx HB.out b8),(zzx HB.out b7),(zzx HB.out b6),(zzx HB.out m1),(zzx HB.out m0),(zzx HB.out l9),(zzx HB.out l8),(zzx HB.out l7),(zzx HB.out l6),(zzx HB.out d9),(zzx HB.out d8),(zzx HB.out d7),(zzx HB.out d6),(zzx HB.out d5),(zzx HB.out d4)⟩ (fun e6=>?_);refine with_tabW Qe.tab8 Qe.bits8 (fun a4 p9=>?_);generalize z0.drew=B3 at a3 HB s2 n9 s3 s4 o6 s5 s6 h2 h3 h4 h5 h6 g7 j6 j7 j8 j9 k0 g8 b0 b1 b2 b3 b4 b5 k8 k9 l2 l3 l4 l5 c7 c9 d0 d1 d2 d3 e6 ⊢;refine zzP 0 42 26 1 a4 ?_
                  refine zzP 1 43 26 3 a4 ?_
                  refine zzP 2 44 26 7 a4 ?_
                  refine zzP 3 45 26 15 a4 ?_
                  refine zzP 4 46 26 31 a4 ?_
                  refine zzP 6 48 26 95 a4 ?_
                  refine zzP 7 49 26 223 a4 ?_
                  refine zzP 8 50 26 479 a4 ?_
                  refine zzP 9 51 26 991 a4 ?_
                  refine zzP 14 56 26 17375 a4 ?_
                  refine zzP 15 57 26 50143 a4 ?_
                  refine zzP 16 58 26 115679 a4 ?_
                  refine zzP 17 59 26 246751 a4 ?_
                  refine zzT 5 47 26 246783 a4 p9 e6 ?_
                  refine zzT 10 52 26 247807 a4 p9 e6 ?_
                  refine zzP 11 53 26 249855 a4 ?_
                  refine zzP 12 54 26 253951 a4 ?_
                  refine zzT 13 55 26 262143 a4 p9 e6 ?_
                  refine zzT 18 60 26 524287 a4 p9 e6 ?_
                  refine zzP 19 61 26 1048575 a4 ?_
                  refine zzP 20 62 26 2097151 a4 ?_
                  refine zzT 21 63 26 4194303 a4 p9 e6 ?_
                  refine zzP 22 64 26 8388607 a4 ?_
                  refine one_ (i:=23) (N:=some 65) (zzB 26 16777215) rfl rfl (one_of a4.out (by kernel_rfl)) (by decide) (fun K hK=>?_);refine value_ (w1:=?_) (v:=?_) (by rfl) rfl ?_ ?_;rotate_left 2
                  ·
                   go_simp;constructor
                   ·
                    rfl
                   ·
                    rfl
                  refine hK.out _ _ ⟨(World.cell?_alloc_lt _ _ _ (zzn _ _ ((zzx HB.out j5)))).trans ((zzx HB.out j5)),(World.cell?_alloc_lt _ _ _ (zzn _ _ ((zzx HB.out j4)))).trans ((zzx HB.out j4)),(World.cell?_alloc_lt _ _ _ (zzn _ _ ((zzx HB.out j3)))).trans ((zzx HB.out j3)),(World.cell?_alloc_lt _ _ _ (zzn _ _ ((zzx HB.out h9)))).trans ((zzx HB.out h9)),(World.cell?_alloc_lt _ _ _ (zzn _ _ ((zzx HB.out h8)))).trans ((zzx HB.out h8)),(World.cell?_alloc_lt _ _ _ (zzn _ _ ((zzx HB.out h7)))).trans ((zzx HB.out h7)),(World.cell?_alloc_lt _ _ _ (zzn _ _ ((zzx HB.out k7)))).trans ((zzx HB.out k7)),(World.cell?_alloc_lt _ _ _ (zzn _ _ ((zzx HB.out k6)))).trans ((zzx HB.out k6)),(World.cell?_alloc_lt _ _ _ (zzn _ _ ((zzx HB.out k5)))).trans ((zzx HB.out k5)),(World.cell?_alloc_lt _ _ _ (zzn _ _ ((zzx HB.out k4)))).trans ((zzx HB.out k4)),(World.cell?_alloc_lt _ _ _ (zzn _ _ ((zzx HB.out k3)))).trans ((zzx HB.out k3)),(World.cell?_alloc_lt _ _ _ (zzn _ _ ((zzx HB.out k2)))).trans ((zzx HB.out k2)),(World.cell?_alloc_lt _ _ _ (zzn _ _ ((zzx HB.out c4)))).trans ((zzx HB.out c4)),(World.cell?_alloc_lt _ _ _ (zzn _ _ ((zzx HB.out c2)))).trans ((zzx HB.out c2)),(World.cell?_alloc_lt _ _ _ (zzn _ _ ((zzx HB.out b9)))).trans ((zzx HB.out b9)),(World.cell?_alloc_lt _ _ _ (zzn _ _ ((zzx HB.out b8)))).trans ((zzx HB.out b8)),(World.cell?_alloc_lt _ _ _ (zzn _ _ ((zzx HB.out b7)))).trans ((zzx HB.out b7)),(World.cell?_alloc_lt _ _ _ (zzn _ _ ((zzx HB.out b6)))).trans ((zzx HB.out b6)),(World.cell?_alloc_lt _ _ _ (zzn _ _ ((zzx HB.out m1)))).trans ((zzx HB.out m1)),(World.cell?_alloc_lt _ _ _ (zzn _ _ ((zzx HB.out m0)))).trans ((zzx HB.out m0)),(World.cell?_alloc_lt _ _ _ (zzn _ _ ((zzx HB.out l9)))).trans ((zzx HB.out l9)),(World.cell?_alloc_lt _ _ _ (zzn _ _ ((zzx HB.out l8)))).trans ((zzx HB.out l8)),(World.cell?_alloc_lt _ _ _ (zzn _ _ ((zzx HB.out l7)))).trans ((zzx HB.out l7)),(World.cell?_alloc_lt _ _ _ (zzn _ _ ((zzx HB.out l6)))).trans ((zzx HB.out l6)),(World.cell?_alloc_lt _ _ _ (zzn _ _ ((zzx HB.out d9)))).trans ((zzx HB.out d9)),(World.cell?_alloc_lt _ _ _ (zzn _ _ ((zzx HB.out d8)))).trans ((zzx HB.out d8)),(World.cell?_alloc_lt _ _ _ (zzn _ _ ((zzx HB.out d7)))).trans ((zzx HB.out d7)),(World.cell?_alloc_lt _ _ _ (zzn _ _ ((zzx HB.out d6)))).trans ((zzx HB.out d6)),(World.cell?_alloc_lt _ _ _ (zzn _ _ ((zzx HB.out d5)))).trans ((zzx HB.out d5)),(World.cell?_alloc_lt _ _ _ (zzn _ _ ((zzx HB.out d4)))).trans ((zzx HB.out d4))⟩ (fun e6=>?_);clear hK K;refine zzO 65 ?_
                  refine one_ (i:=24) (N:=some 66) (zzB 26 33554431) rfl rfl (one_of a4.out (by kernel_rfl)) (by decide) (fun K hK=>?_);refine Kd.R_append_step k46 (w0:=w) w.heap.size (by rfl) (.tmp 42) (.tmp 65) 42 46 (.agg #[(.int .i64 0),(.int .i64 0),(.int .i64 0)]) 24 rfl Try.underlying42 info46 rfl (by decide) (by omega) u3 a9 (⟨(Qa l0 a0).f2,(Qb ((Qa l0 a0).f5) 0).f0,(Qb ((Qa l0 a1).f5) 0).f0⟩:S46) [.int .i64 ((Qa l0 a0).f2),.int .i64 ((Qb ((Qa l0 a0).f5) 0).f0),.int .i64 ((Qb ((Qa l0 a1).f5) 0).f0)] (fun _=>True) (fun _=>False) rfl rfl ?aP (fun _ hk=>hk.elim) ?aF ?aO ?aB ?aS ?aL ?_
                  (case aP=>exact k46_mkM _ _ _ (⟨(Qa l0 a0).f2,(Qb ((Qa l0 a0).f5) 0).f0,(Qb ((Qa l0 a1).f5) 0).f0⟩:S46))
                  (case aB=>exact zzh1)
                  (case aF=>exact (fun _ _=>trivial))
                  (case aO=>exact (by (with_reducible repeat (first|apply Kd.R_alloc|apply Kd.R_drewN|apply Kd.R_drew));exact a3.out))
                  (case aS=>exact (zzo zzh1))
                  (case aL=>have:=LMc29.out;omega);intro A8 B5 ho hb hg hat;rw [← Ny382.out] at ho;have a5:=zzm (hb);have a6:=zzm (ho);clear HB a3;have HB:=a5;have w5:=a6;clear a5 a6;clear ho hb hg hat;refine hK.out _ _ ⟨(zzx HB.out j5),(zzx HB.out j4),(zzx HB.out j3),(zzx HB.out h9),(zzx HB.out h8),(zzx HB.out h7),(zzx HB.out k7),(zzx HB.out k6),(zzx HB.out k5),(zzx HB.out k4),(zzx HB.out k3),(zzx HB.out k2),(zzx HB.out c4),(zzx HB.out c2),(zzx HB.out b9),(zzx HB.out b8),(zzx HB.out b7),(zzx HB.out b6),(zzx HB.out m1),(zzx HB.out m0),(zzx HB.out l9),(zzx HB.out l8),(zzx HB.out l7),(zzx HB.out l6),(zzx HB.out d9),(zzx HB.out d8),(zzx HB.out d7),(zzx HB.out d6),(zzx HB.out d5),(zzx HB.out d4)⟩ (fun e6=>?_);clear hK K;refine zzO 66 ?_
                  refine zzP 25 3 26 67108863 a4 ?_
                  refine done_ (done_of a4.out (by kernel_rfl)) ?_;try go_wp2
                  go_roundg m9
                  case measure=>have:=HK1.out;have:=HJ3.out;have:=HJ8.out;omega
                  case rel=>exact ⟨(y382),(wrap64 (a0+1)),(by first|rfl|(simp;done)|(simp [*];done)),H',⟨by have:=HK1.out;have:=HJ3.out;have:=HJ8.out;omega⟩,⟨by (with_reducible repeat (first|apply Kd.R_alloc|apply Kd.R_drewN|apply Kd.R_drew));exact w5.out⟩,⟨zzh1⟩⟩
                 ·
                  rw [if_neg s1] at H;exact absurd H (by simp)
                ·
                 rw [if_neg s0] at H;exact absurd H (by simp)
               ·
                rw [if_neg r9] at H;exact absurd H (by simp)
              ·
               rw [if_neg r8] at H;exact absurd H (by simp)
             ·
              rw [if_neg r7] at H;exact absurd H (by simp)
           ·
            rw [if_neg r5] at H;exact absurd H (by simp)
          ·
           rw [if_neg r4] at H;exact absurd H (by simp)
         ·
          rw [if_neg n4] at H;have v8:decide (0≤a1)=false:=decide_eq_false n4;clear n4;have H':=zzm H;clear H;go_wp2_with (first|((with_reducible refine gate_callee (f:=68) rfl ?_);refine goesL_ (some 31) rfl rfl Try.func68 (by kernel_rfl) rfl #[.slice A0 l0.length c0,.int .i64 a0] rfl zzM2 ?_;(with_reducible refine (Qw.calls m9 _ _ l0 a0 a1 _ ?side1 ?side2 t1.out).mono ?_);(case side1=>exact zzcb g9 HB);(case side2=>exact p4.out);rintro e w' ⟨rfl,⟨nd,rfl⟩⟩;refine ⟨_,rfl,?_⟩));go_roundg m9
          case measure=>have:=HK1.out;have:=HJ3.out;have:=HJ8.out;omega
          case rel=>exact ⟨(a9),(wrap64 (a0+1)),(by first|rfl|(simp;done)|(simp [*];done)),H',⟨by have:=HK1.out;have:=HJ3.out;have:=HJ8.out;omega⟩,⟨by (with_reducible repeat (first|apply Kd.R_alloc|apply Kd.R_drewN|apply Kd.R_drew));exact a3.out⟩,⟨zzh1⟩⟩
     ·
      replace c8:=Bool.eq_false_iff.mpr c8;subst c8;replace H:=zzIf H;obtain rfl:=Option.some.inj H;go_wp2;go_ret;exact ⟨_,zzR,by (with_reducible repeat (first|apply Kd.R_alloc|apply Kd.R_drewN|apply Kd.R_drew));exact a3.out,zzh1⟩

set_option linter.unusedVariables false
set_option linter.unusedSimpArgs false
def Q8.f (l0:List Int) (a1:Int):Option (Int):=if (wrap64 (a1 - (l0.length:Int))) < 0 then (some (-1)) else (some (wrap64 (a1 - (l0.length:Int))))
set_option maxHeartbeats 8000000 in
theorem Q8.calls (A0:Option Addr) (c0:Nat) (l0:List Int) (a1:Int) (r:Int) (w:World) (a0:Kd.C (Kd.int .i64) w A0 l0.length l0) (a2:l0.length≤c0) (h:Q8.f l0 a1=some r) :
  Calls Try.prog 112 #[.slice A0 l0.length c0,.int .i64 a1] w fun e w'=>e = .returned (.int .i64 r)∧Drawn0 w w':=by
 have a4:=zzm a0;have a5:=zzm a2;clear a0 a2;have H:(if (wrap64 (a1 - (l0.length:Int))) < 0 then (some (-1)) else (some (wrap64 (a1 - (l0.length:Int)))))=some r:=h;clear h;by_cases c3:(wrap64 (a1 - (l0.length:Int))) < 0
 ·
  rw [if_pos c3] at H;have a3:decide ((wrap64 (a1 - (l0.length:Int))) < 0)=true:=decide_eq_true c3;clear c3;obtain rfl:=Option.some.inj H;go_enter Try.func112,Try.ntmps112;go_wp2;go_ret;exact ⟨by first|rfl|(simp;done)|(simp [*];done),by repeat (first|exact Drawn0.refl _|apply Drawn0.step)⟩
 ·
  rw [if_neg c3] at H;have a3:decide ((wrap64 (a1 - (l0.length:Int))) < 0)=false:=decide_eq_false c3;clear c3;obtain rfl:=Option.some.inj H;go_enter Try.func112,Try.ntmps112;go_wp2;go_ret;exact ⟨by first|rfl|(simp;done)|(simp [*];done),by repeat (first|exact Drawn0.refl _|apply Drawn0.step)⟩
def Rk.f (a0_0:Int) (a0_1:Int) (a0_2:Bool) (l0_3:List Int) (a0_4:Bool) (l0_5:List Int) (a1:Int):Option (Int):=(Q8.f l0_3 a1).bind fun t419=>(if t419 < 0 then (some (-1)) else ((Q8.f l0_5 t419).bind fun t420=>(if t420 < 0 then (some (-1)) else (some t420))))
set_option maxHeartbeats 8000000 in
theorem Rk.calls (b5:Int) (b6:Int) (b7:Bool) (a5:Option Addr) (a6:Nat) (a0:List Int) (b8:Bool) (a8:Option Addr) (a9:Nat) (a2:List Int) (a1:Int) (r:Int) (w:World) (c1:Kd.C (Kd.int .i64) w a5 a0.length a0) (c2:a0.length≤a6) (c3:Kd.C (Kd.int .i64) w a8 a2.length a2) (c5:a2.length≤a9) (h:Rk.f b5 b6 b7 a0 b8 a2 a1=some r) :
  Calls Try.prog 107 #[.agg #[.int .i64 b5,.int .i64 b6,.bool b7,.slice a5 a0.length a6,.bool b8,.slice a8 a2.length a9],.int .i64 a1] w fun e w'=>e = .returned (.int .i64 r)∧Below w.heap.size w w':=by
 have hu120:=Try.underlying120;have b9:=zzm c1;have c0:=zzm c2;clear c1 c2;have c6:=zzm c3;have c7:=zzm c5;clear c3 c5;have HB:=zzm (Below.refl w.heap.size w);have H:((Q8.f a0 a1).bind fun a3=>(if a3 < 0 then (some (-1)) else ((Q8.f a2 a3).bind fun a7=>(if a7 < 0 then (some (-1)) else (some a7)))))=some r:=h;clear h;obtain ⟨a3,A3,H⟩:=zzG H;by_cases c4:a3 < 0
 ·
  rw [if_pos c4] at H;have d1:decide (a3 < 0)=true:=decide_eq_true c4;clear c4;obtain rfl:=Option.some.inj H;go_enter Try.func107,Try.ntmps107;go_wp2_with (first|((with_reducible refine gate_dst (N:=2) rfl ?_);refine box_event ?hg (N:=2) ?hd (cs:=#[.int .i64 b5,.int .i64 b6,.bool b7,.slice a5 a0.length a6,.bool b8,.slice a8 a2.length a9]) (t:=120) ?hr ?_;(case hd=>rfl);(case hg=>rfl);(case hr=>first|(go_simp;done)|(go_simp;rfl));intro a4 hg w5 hbox hb;have b1:=zzm (zzp zzh1 hb);have b2:=zzm (hbox);have b3:=zzm ((by rw [hg];exact (zzo zzh1):w.heap.size≤a4));have b4:=zzm ((by rw [hg];exact (zzo zzh1):w.heap.size≤a4));clear HB;have HB:=b1;have b0:=b2;have c9:=b3;have d0:=b4;clear b1 b2 b3 b4 hb hbox hg;obtain ⟨g7,g8,g9,h0,h1,h2,h3,h4,h5,h6,h7,h8⟩:=zzc6 b0.out)|((with_reducible refine gate_callee (f:=112) rfl ?_);refine goesL_ (some 8) rfl rfl Try.func112 (by kernel_rfl) rfl #[.slice a5 a0.length a6,.int .i64 a1] rfl zzM2 ?_;(with_reducible refine (Q8.calls _ _ a0 a1 a3 _ ?side1 ?side2 A3.out).mono ?_);(case side1=>exact zzcb b9 HB);(case side2=>exact c0.out);rintro e w' ⟨rfl,⟨nd,rfl⟩⟩;refine ⟨_,rfl,?_⟩));go_ret;exact ⟨zzR,zzh3⟩
 ·
  rw [if_neg c4] at H;have d1:decide (a3 < 0)=false:=decide_eq_false c4;clear c4;obtain ⟨a7,A7,H⟩:=zzG H;by_cases c8:a7 < 0
  ·
   rw [if_pos c8] at H;have d2:decide (a7 < 0)=true:=decide_eq_true c8;clear c8;obtain rfl:=Option.some.inj H;go_enter Try.func107,Try.ntmps107;go_wp2_with (first|((with_reducible refine gate_dst (N:=2) rfl ?_);refine box_event ?hg (N:=2) ?hd (cs:=#[.int .i64 b5,.int .i64 b6,.bool b7,.slice a5 a0.length a6,.bool b8,.slice a8 a2.length a9]) (t:=120) ?hr ?_;(case hd=>rfl);(case hg=>rfl);(case hr=>first|(go_simp;done)|(go_simp;rfl));intro a4 hg w9 hbox hb;have b1:=zzm (zzp zzh1 hb);have b2:=zzm (hbox);have b3:=zzm ((by rw [hg];exact (zzo zzh1):w.heap.size≤a4));have b4:=zzm ((by rw [hg];exact (zzo zzh1):w.heap.size≤a4));clear HB;have HB:=b1;have b0:=b2;have c9:=b3;have d0:=b4;clear b1 b2 b3 b4 hb hbox hg;obtain ⟨d3,d4,d5,d6,d7,d8,d9,e0,e1,e2,e3,e4⟩:=zzc6 b0.out)|((with_reducible refine gate_callee (f:=112) rfl ?_);refine goesL_ (some 8) rfl rfl Try.func112 (by kernel_rfl) rfl #[.slice a5 a0.length a6,.int .i64 a1] rfl zzM2 ?_;(with_reducible refine (Q8.calls _ _ a0 a1 a3 _ ?side1 ?side2 A3.out).mono ?_);(case side1=>exact zzcb b9 HB);(case side2=>exact c0.out);rintro e w' ⟨rfl,⟨nd,rfl⟩⟩;refine ⟨_,rfl,?_⟩)|((with_reducible refine gate_callee (f:=112) rfl ?_);refine goesL_ (some 14) rfl rfl Try.func112 (by kernel_rfl) rfl #[.slice a8 a2.length a9,.int .i64 a3] rfl zzM2 ?_;(with_reducible refine (Q8.calls _ _ a2 a3 a7 _ ?side1 ?side2 A7.out).mono ?_);(case side1=>repeat (first|exact (Kd.C_below c6.out zzh2)|(with_reducible refine Kd.C_alloc ?_ _)|(with_reducible refine Kd.C_drewN ?_ _)|(with_reducible refine Kd.C_drew ?_)));(case side2=>exact c7.out);rintro e w' ⟨rfl,⟨nd,rfl⟩⟩;refine ⟨_,rfl,?_⟩));go_ret;exact ⟨zzR,zzh3⟩
  ·
   rw [if_neg c8] at H;have d2:decide (a7 < 0)=false:=decide_eq_false c8;clear c8;obtain rfl:=Option.some.inj H;go_enter Try.func107,Try.ntmps107;go_wp2_with (first|((with_reducible refine gate_dst (N:=2) rfl ?_);refine box_event ?hg (N:=2) ?hd (cs:=#[.int .i64 b5,.int .i64 b6,.bool b7,.slice a5 a0.length a6,.bool b8,.slice a8 a2.length a9]) (t:=120) ?hr ?_;(case hd=>rfl);(case hg=>rfl);(case hr=>first|(go_simp;done)|(go_simp;rfl));intro a4 hg h9 hbox hb;have b1:=zzm (zzp zzh1 hb);have b2:=zzm (hbox);have b3:=zzm ((by rw [hg];exact (zzo zzh1):w.heap.size≤a4));have b4:=zzm ((by rw [hg];exact (zzo zzh1):w.heap.size≤a4));clear HB;have HB:=b1;have b0:=b2;have c9:=b3;have d0:=b4;clear b1 b2 b3 b4 hb hbox hg;obtain ⟨e5,e6,e7,e8,e9,g0,g1,g2,g3,g4,g5,g6⟩:=zzc6 b0.out)|((with_reducible refine gate_callee (f:=112) rfl ?_);refine goesL_ (some 8) rfl rfl Try.func112 (by kernel_rfl) rfl #[.slice a5 a0.length a6,.int .i64 a1] rfl zzM2 ?_;(with_reducible refine (Q8.calls _ _ a0 a1 a3 _ ?side1 ?side2 A3.out).mono ?_);(case side1=>exact zzcb b9 HB);(case side2=>exact c0.out);rintro e w' ⟨rfl,⟨nd,rfl⟩⟩;refine ⟨_,rfl,?_⟩)|((with_reducible refine gate_callee (f:=112) rfl ?_);refine goesL_ (some 14) rfl rfl Try.func112 (by kernel_rfl) rfl #[.slice a8 a2.length a9,.int .i64 a3] rfl zzM2 ?_;(with_reducible refine (Q8.calls _ _ a2 a3 a7 _ ?side1 ?side2 A7.out).mono ?_);(case side1=>repeat (first|exact (Kd.C_below c6.out zzh2)|(with_reducible refine Kd.C_alloc ?_ _)|(with_reducible refine Kd.C_drewN ?_ _)|(with_reducible refine Kd.C_drew ?_)));(case side2=>exact c7.out);rintro e w' ⟨rfl,⟨nd,rfl⟩⟩;refine ⟨_,rfl,?_⟩));go_ret;exact ⟨zzR,zzh3⟩

set_option linter.unusedVariables false
set_option linter.unusedSimpArgs false
def Qx.l0:Nat→List (S120)→Int→Int→Option (Int)
 | 0,_,_,_=>none
 | k+1,x0,x1,x5=>if x5 < (x0.length:Int) then (if 0≤x5 then ((Rk.f ((Qq x0 x5).f0) ((Qq x0 x5).f1) ((Qq x0 x5).f2) ((Qq x0 x5).f3) ((Qq x0 x5).f4) ((Qq x0 x5).f5) x1).bind fun t422=>(if t422 < 0 then (some (-1)) else (Qx.l0 k x0 t422 (wrap64 (x5+1))))) else (none)) else (some x1)
def Qx.f (k:Nat) (l0:List (S120)) (a1:Int):Option (Int):=if (wrap64 (a1 - (l0.length:Int))) < 0 then (some (-1)) else (Qx.l0 k l0 (wrap64 (a1 - (l0.length:Int))) 0)
set_option maxHeartbeats 8000000 in
theorem Qx.calls (k:Nat) (A0:Option Addr) (c0:Nat) (l0:List (S120)) (a1:Int) (r:Int) (w:World) (d3:Kd.C k120 w A0 l0.length l0) (d4:l0.length≤c0) (h:Qx.f k l0 a1=some r) :
  Calls Try.prog 94 #[.slice A0 l0.length c0,.int .i64 a1] w fun e w'=>e = .returned (.int .i64 r)∧Below w.heap.size w w':=by
 have hu120:=Try.underlying120;have d5:=zzm d3;have d9:=zzm d4;clear d3 d4;have HB:=zzm (Below.refl w.heap.size w);have H:(if (wrap64 (a1 - (l0.length:Int))) < 0 then (some (-1)) else (Qx.l0 k l0 (wrap64 (a1 - (l0.length:Int))) 0))=some r:=h;clear h;by_cases c3:(wrap64 (a1 - (l0.length:Int))) < 0
 ·
  rw [if_pos c3] at H;have d1:decide ((wrap64 (a1 - (l0.length:Int))) < 0)=true:=decide_eq_true c3;clear c3;obtain rfl:=Option.some.inj H;go_enter Try.func94,Try.ntmps94;go_wp2;go_ret;exact ⟨zzR,zzh1⟩
 ·
  rw [if_neg c3] at H;have d1:decide ((wrap64 (a1 - (l0.length:Int))) < 0)=false:=decide_eq_false c3;clear c3;have H':=zzm H;clear H;go_enter Try.func94,Try.ntmps94;go_wp2;go_loopg [1,5] k (fun kq v1 v5 w'=>∃ (b2:Int) (a0:Int),v1 = .int .i64 b2∧v5 = .int .i64 a0∧Aside0 (Qx.l0 kq l0 b2 a0=some r)∧Aside0 (kq≤k)∧Aside0 (Below w.heap.size w w'))
  case atStart=>exact ⟨(wrap64 (a1 - (l0.length:Int))),(0),(by first|rfl|(simp;done)|(simp [*];done)),(by first|rfl|(simp;done)|(simp [*];done)),H',⟨Nat.le_refl _⟩,⟨zzh1⟩⟩
  case round=>
   clear H';try clear p2
   try clear c3
   try clear d1
   obtain ⟨b2,a0,rfl,rfl,HA,HK1,HB⟩:=hrel;cases gk with
   | zero=>exact absurd HA.out (by simp [Qx.l0])
   | succ k1=>
    have H:=HA.out;clear HA;simp only [Qx.l0] at H;by_cases c4:a0 < (l0.length:Int)
    ·
     rw [if_pos c4] at H;have d6:decide (a0 < (l0.length:Int))=true:=decide_eq_true c4;clear c4;by_cases c5 : 0≤a0
     ·
      rw [if_pos c5] at H;have d8:decide (0≤a0)=true:=decide_eq_true c5;clear c5;obtain ⟨b5,A6,H⟩:=zzG H;by_cases c7:b5 < 0
      ·
       rw [if_pos c7] at H;have d7:decide (b5 < 0)=true:=decide_eq_true c7;clear c7;obtain rfl:=Option.some.inj H;have b3 : 0≤(a0:Int):=zzt;have b4:a0 < (l0.length:Int):=zzt;obtain ⟨d2,c1,c2,c6,c8,d0,a2,a3,a4,a5,a6,a7,a8,a9,b0,b1⟩:=at_T120 d5.out a0 b3 b4;cases d0;replace a2:=zzx HB.out a2;replace a3:=zzx HB.out a3;replace a4:=zzx HB.out a4;replace a5:=zzx HB.out a5;replace a6:=zzx HB.out a6;replace a7:=zzx HB.out a7;have b6:=zzm a9;have b7:=zzm a8;clear a9 a8;have b8:=zzm b1;have b9:=zzm b0;clear b1 b0;replace b3:=eq_true b3;replace b4:=eq_true b4;go_wp2_with (first|((with_reducible refine gate_callee (f:=107) rfl ?_);refine goesL_ (some 23) rfl rfl Try.func107 (by kernel_rfl) rfl #[.agg #[.int .i64 ((Qq l0 a0).f0),.int .i64 ((Qq l0 a0).f1),.bool ((Qq l0 a0).f2),.slice c1 ((Qq l0 a0).f3).length c2,.bool ((Qq l0 a0).f4),.slice c6 ((Qq l0 a0).f5).length c8],.int .i64 b2] rfl zzM2 ?_;(with_reducible refine (Rk.calls ((Qq l0 a0).f0) ((Qq l0 a0).f1) ((Qq l0 a0).f2) _ _ ((Qq l0 a0).f3) ((Qq l0 a0).f4) _ _ ((Qq l0 a0).f5) b2 b5 _ ?side1 ?side2 ?side3 ?side4 A6.out).mono ?_);(case side1=>exact zzcb b6 HB);(case side2=>exact b7.out);(case side3=>exact zzcb b8 HB);(case side4=>exact b9.out);rintro e w8 ⟨rfl,hb⟩;refine ⟨_,rfl,?_⟩;have c9:=zzm (zzp zzh1 hb);clear HB;have HB:=c9;clear c9;(try clear hb);(try clear hb2);(try clear hk);(try clear hi)));go_ret;exact ⟨zzR,zzh1⟩
      ·
       rw [if_neg c7] at H;have d7:decide (b5 < 0)=false:=decide_eq_false c7;clear c7;have H':=zzm H;clear H;have b3 : 0≤(a0:Int):=zzt;have b4:a0 < (l0.length:Int):=zzt;obtain ⟨d2,c1,c2,c6,c8,d0,a2,a3,a4,a5,a6,a7,a8,a9,b0,b1⟩:=at_T120 d5.out a0 b3 b4;cases d0;replace a2:=zzx HB.out a2;replace a3:=zzx HB.out a3;replace a4:=zzx HB.out a4;replace a5:=zzx HB.out a5;replace a6:=zzx HB.out a6;replace a7:=zzx HB.out a7;have b6:=zzm a9;have b7:=zzm a8;clear a9 a8;have b8:=zzm b1;have b9:=zzm b0;clear b1 b0;replace b3:=eq_true b3;replace b4:=eq_true b4;go_wp2_with (first|((with_reducible refine gate_callee (f:=107) rfl ?_);refine goesL_ (some 23) rfl rfl Try.func107 (by kernel_rfl) rfl #[.agg #[.int .i64 ((Qq l0 a0).f0),.int .i64 ((Qq l0 a0).f1),.bool ((Qq l0 a0).f2),.slice c1 ((Qq l0 a0).f3).length c2,.bool ((Qq l0 a0).f4),.slice c6 ((Qq l0 a0).f5).length c8],.int .i64 b2] rfl zzM2 ?_;(with_reducible refine (Rk.calls ((Qq l0 a0).f0) ((Qq l0 a0).f1) ((Qq l0 a0).f2) _ _ ((Qq l0 a0).f3) ((Qq l0 a0).f4) _ _ ((Qq l0 a0).f5) b2 b5 _ ?side1 ?side2 ?side3 ?side4 A6.out).mono ?_);(case side1=>exact zzcb b6 HB);(case side2=>exact b7.out);(case side3=>exact zzcb b8 HB);(case side4=>exact b9.out);rintro e w9 ⟨rfl,hb⟩;refine ⟨_,rfl,?_⟩;have c9:=zzm (zzp zzh1 hb);clear HB;have HB:=c9;clear c9;(try clear hb);(try clear hb2);(try clear hk);(try clear hi)));go_roundg k1
       case measure=>have:=HK1.out;omega
       case rel=>exact ⟨(b5),(wrap64 (a0+1)),(by first|rfl|(simp;done)|(simp [*];done)),(by first|rfl|(simp;done)|(simp [*];done)),H',⟨by have:=HK1.out;omega⟩,⟨zzh1⟩⟩
     ·
      rw [if_neg c5] at H;exact absurd H (by simp)
    ·
     rw [if_neg c4] at H;have d6:decide (a0 < (l0.length:Int))=false:=decide_eq_false c4;clear c4;obtain rfl:=Option.some.inj H;go_wp2;go_ret;exact ⟨zzR,zzh1⟩
def Rn.f (k:Nat) (a0_0:Bool) (a0_1:Bool) (a0_2:Int) (a0_3:Int) (a0_4:Int) (l0_5:List (S120)) (a1:Int):Option (Int):=(Qx.f k l0_5 a1).bind fun t424=>(if t424 < 0 then (some (-1)) else (some t424))
set_option maxHeartbeats 8000000 in
theorem Rn.calls (k:Nat) (a9:Bool) (b0:Bool) (b1:Int) (b2:Int) (b3:Int) (a4:Option Addr) (a5:Nat) (a0:List (S120)) (a1:Int) (r:Int) (w:World) (b6:Kd.C k120 w a4 a0.length a0) (b7:a0.length≤a5) (h:Rn.f k a9 b0 b1 b2 b3 a0 a1=some r) :
  Calls Try.prog 73 #[.agg #[.bool a9,.bool b0,.int .i64 b1,.int .i64 b2,.int .i64 b3,.slice a4 a0.length a5],.int .i64 a1] w fun e w'=>e = .returned (.int .i64 r)∧Below w.heap.size w w':=by
 have hu83:=Try.underlying83;have b8:=zzm b6;have b9:=zzm b7;clear b6 b7;have HB:=zzm (Below.refl w.heap.size w);have H:((Qx.f k a0 a1).bind fun a6=>(if a6 < 0 then (some (-1)) else (some a6)))=some r:=h;clear h;obtain ⟨a6,A3,H⟩:=zzG H;by_cases c4:a6 < 0
 ·
  rw [if_pos c4] at H;have c2:decide (a6 < 0)=true:=decide_eq_true c4;clear c4;obtain rfl:=Option.some.inj H;go_enter Try.func73,Try.ntmps73;go_wp2_with (first|((with_reducible refine gate_dst (N:=2) rfl ?_);refine box_event ?hg (N:=2) ?hd (cs:=#[.bool a9,.bool b0,.int .i64 b1,.int .i64 b2,.int .i64 b3,.slice a4 a0.length a5]) (t:=83) ?hr ?_;(case hd=>rfl);(case hg=>rfl);(case hr=>first|(go_simp;done)|(go_simp;rfl));intro a3 hg w5 hbox hb;have a7:=zzm (zzp zzh1 hb);have a8:=zzm (hbox);have b4:=zzm ((by rw [hg];exact (zzo zzh1):w.heap.size≤a3));have b5:=zzm ((by rw [hg];exact (zzo zzh1):w.heap.size≤a3));clear HB;have HB:=a7;have a2:=a8;have c0:=b4;have c1:=b5;clear a7 a8 b4 b5 hb hbox hg;obtain ⟨c3,c5,c6,c7,c8,c9,d0,d1,d2,d3,d4,d5⟩:=zzc6 a2.out)|((with_reducible refine gate_callee (f:=94) rfl ?_);refine goesL_ (some 8) rfl rfl Try.func94 (by kernel_rfl) rfl #[.slice a4 a0.length a5,.int .i64 a1] rfl zzM2 ?_;(with_reducible refine (Qx.calls k _ _ a0 a1 a6 _ ?side1 ?side2 A3.out).mono ?_);(case side1=>exact zzcb b8 HB);(case side2=>exact b9.out);rintro e w7 ⟨rfl,hb⟩;refine ⟨_,rfl,?_⟩;have a7:=zzm (zzh (g:=a3) (o:=.cells #[.bool a9,.bool b0,.int .i64 b1,.int .i64 b2,.int .i64 b3,.slice a4 a0.length a5] 83 (0,0)) (zzE a2.out) hb);have a8:=zzm (zzp zzh2 hb);clear a2 HB;have a2:=a7;have HB:=a8;clear a7 a8;(try clear hb);(try clear hb2);(try clear hk);(try clear hi)));go_ret;exact ⟨zzR,zzh3⟩
 ·
  rw [if_neg c4] at H;have c2:decide (a6 < 0)=false:=decide_eq_false c4;clear c4;obtain rfl:=Option.some.inj H;go_enter Try.func73,Try.ntmps73;go_wp2_with (first|((with_reducible refine gate_dst (N:=2) rfl ?_);refine box_event ?hg (N:=2) ?hd (cs:=#[.bool a9,.bool b0,.int .i64 b1,.int .i64 b2,.int .i64 b3,.slice a4 a0.length a5]) (t:=83) ?hr ?_;(case hd=>rfl);(case hg=>rfl);(case hr=>first|(go_simp;done)|(go_simp;rfl));intro a3 hg w8 hbox hb;have a7:=zzm (zzp zzh1 hb);have a8:=zzm (hbox);have b4:=zzm ((by rw [hg];exact (zzo zzh1):w.heap.size≤a3));have b5:=zzm ((by rw [hg];exact (zzo zzh1):w.heap.size≤a3));clear HB;have HB:=a7;have a2:=a8;have c0:=b4;have c1:=b5;clear a7 a8 b4 b5 hb hbox hg;obtain ⟨d6,d7,d8,d9,e0,e1,e2,e3,e4,e5,e6,e7⟩:=zzc6 a2.out)|((with_reducible refine gate_callee (f:=94) rfl ?_);refine goesL_ (some 8) rfl rfl Try.func94 (by kernel_rfl) rfl #[.slice a4 a0.length a5,.int .i64 a1] rfl zzM2 ?_;(with_reducible refine (Qx.calls k _ _ a0 a1 a6 _ ?side1 ?side2 A3.out).mono ?_);(case side1=>exact zzcb b8 HB);(case side2=>exact b9.out);rintro e e8 ⟨rfl,hb⟩;refine ⟨_,rfl,?_⟩;have a7:=zzm (zzh (g:=a3) (o:=.cells #[.bool a9,.bool b0,.int .i64 b1,.int .i64 b2,.int .i64 b3,.slice a4 a0.length a5] 83 (0,0)) (zzE a2.out) hb);have a8:=zzm (zzp zzh2 hb);clear a2 HB;have a2:=a7;have HB:=a8;clear a7 a8;(try clear hb);(try clear hb2);(try clear hk);(try clear hi)));go_ret;exact ⟨zzR,zzh3⟩

set_option linter.unusedVariables false
set_option linter.unusedSimpArgs false
def Qu.l0:Nat→List (S83)→Int→Int→Option (Int)
 | 0,_,_,_=>none
 | k+1,x0,x1,x5=>if x5 < (x0.length:Int) then (if 0≤x5 then ((Rn.f k ((Qt x0 x5).f0) ((Qt x0 x5).f1) ((Qt x0 x5).f2) ((Qt x0 x5).f3) ((Qt x0 x5).f4) ((Qt x0 x5).f5) x1).bind fun t426=>(if t426 < 0 then (some (-1)) else (Qu.l0 k x0 t426 (wrap64 (x5+1))))) else (none)) else (some x1)
def Qu.f (k:Nat) (l0:List (S83)) (a1:Int):Option (Int):=if (wrap64 (a1 - (l0.length:Int))) < 0 then (some (-1)) else (Qu.l0 k l0 (wrap64 (a1 - (l0.length:Int))) 0)
set_option maxHeartbeats 8000000 in
theorem Qu.calls (k:Nat) (A0:Option Addr) (c0:Nat) (l0:List (S83)) (a1:Int) (r:Int) (w:World) (c6:Kd.C k83 w A0 l0.length l0) (c8:l0.length≤c0) (h:Qu.f k l0 a1=some r) :
  Calls Try.prog 39 #[.slice A0 l0.length c0,.int .i64 a1] w fun e w'=>e = .returned (.int .i64 r)∧Below w.heap.size w w':=by
 have hu83:=Try.underlying83;have c9:=zzm c6;have d3:=zzm c8;clear c6 c8;have HB:=zzm (Below.refl w.heap.size w);have H:(if (wrap64 (a1 - (l0.length:Int))) < 0 then (some (-1)) else (Qu.l0 k l0 (wrap64 (a1 - (l0.length:Int))) 0))=some r:=h;clear h;by_cases c3:(wrap64 (a1 - (l0.length:Int))) < 0
 ·
  rw [if_pos c3] at H;have c1:decide ((wrap64 (a1 - (l0.length:Int))) < 0)=true:=decide_eq_true c3;clear c3;obtain rfl:=Option.some.inj H;go_enter Try.func39,Try.ntmps39;go_wp2;go_ret;exact ⟨zzR,zzh1⟩
 ·
  rw [if_neg c3] at H;have c1:decide ((wrap64 (a1 - (l0.length:Int))) < 0)=false:=decide_eq_false c3;clear c3;have H':=zzm H;clear H;go_enter Try.func39,Try.ntmps39;go_wp2;go_loopg [1,5] k (fun kq v1 v5 w'=>∃ (b0:Int) (a0:Int),v1 = .int .i64 b0∧v5 = .int .i64 a0∧Aside0 (Qu.l0 kq l0 b0 a0=some r)∧Aside0 (kq≤k)∧Aside0 (Below w.heap.size w w'))
  case atStart=>exact ⟨(wrap64 (a1 - (l0.length:Int))),(0),(by first|rfl|(simp;done)|(simp [*];done)),(by first|rfl|(simp;done)|(simp [*];done)),H',⟨Nat.le_refl _⟩,⟨zzh1⟩⟩
  case round=>
   clear H';try clear p2
   try clear c3
   try clear c1
   obtain ⟨b0,a0,rfl,rfl,HA,HK1,HB⟩:=hrel;cases gk with
   | zero=>exact absurd HA.out (by simp [Qu.l0])
   | succ k1=>
    have H:=HA.out;clear HA;simp only [Qu.l0] at H;by_cases c4:a0 < (l0.length:Int)
    ·
     rw [if_pos c4] at H;have d0:decide (a0 < (l0.length:Int))=true:=decide_eq_true c4;clear c4;by_cases c5 : 0≤a0
     ·
      rw [if_pos c5] at H;have d2:decide (0≤a0)=true:=decide_eq_true c5;clear c5;obtain ⟨b3,A6,H⟩:=zzG H;by_cases c7:b3 < 0
      ·
       rw [if_pos c7] at H;have d1:decide (b3 < 0)=true:=decide_eq_true c7;clear c7;obtain rfl:=Option.some.inj H;have b1 : 0≤(a0:Int):=zzt;have b2:a0 < (l0.length:Int):=zzt;obtain ⟨c2,b6,b7,b9,a2,a3,a4,a5,a6,a7,a8,a9⟩:=at_T83 c9.out a0 b1 b2;cases b9;replace a2:=zzx HB.out a2;replace a3:=zzx HB.out a3;replace a4:=zzx HB.out a4;replace a5:=zzx HB.out a5;replace a6:=zzx HB.out a6;replace a7:=zzx HB.out a7;have b4:=zzm a9;have b5:=zzm a8;clear a9 a8;replace b1:=eq_true b1;replace b2:=eq_true b2;go_wp2_with (first|((with_reducible refine gate_callee (f:=73) rfl ?_);refine goesL_ (some 23) rfl rfl Try.func73 (by kernel_rfl) rfl #[.agg #[.bool ((Qt l0 a0).f0),.bool ((Qt l0 a0).f1),.int .i64 ((Qt l0 a0).f2),.int .i64 ((Qt l0 a0).f3),.int .i64 ((Qt l0 a0).f4),.slice b6 ((Qt l0 a0).f5).length b7],.int .i64 b0] rfl zzM2 ?_;(with_reducible refine (Rn.calls k1 ((Qt l0 a0).f0) ((Qt l0 a0).f1) ((Qt l0 a0).f2) ((Qt l0 a0).f3) ((Qt l0 a0).f4) _ _ ((Qt l0 a0).f5) b0 b3 _ ?side1 ?side2 A6.out).mono ?_);(case side1=>exact zzcb b4 HB);(case side2=>exact b5.out);rintro e w8 ⟨rfl,hb⟩;refine ⟨_,rfl,?_⟩;have b8:=zzm (zzp zzh1 hb);clear HB;have HB:=b8;clear b8;(try clear hb);(try clear hb2);(try clear hk);(try clear hi)));go_ret;exact ⟨zzR,zzh1⟩
      ·
       rw [if_neg c7] at H;have d1:decide (b3 < 0)=false:=decide_eq_false c7;clear c7;have H':=zzm H;clear H;have b1 : 0≤(a0:Int):=zzt;have b2:a0 < (l0.length:Int):=zzt;obtain ⟨c2,b6,b7,b9,a2,a3,a4,a5,a6,a7,a8,a9⟩:=at_T83 c9.out a0 b1 b2;cases b9;replace a2:=zzx HB.out a2;replace a3:=zzx HB.out a3;replace a4:=zzx HB.out a4;replace a5:=zzx HB.out a5;replace a6:=zzx HB.out a6;replace a7:=zzx HB.out a7;have b4:=zzm a9;have b5:=zzm a8;clear a9 a8;replace b1:=eq_true b1;replace b2:=eq_true b2;go_wp2_with (first|((with_reducible refine gate_callee (f:=73) rfl ?_);refine goesL_ (some 23) rfl rfl Try.func73 (by kernel_rfl) rfl #[.agg #[.bool ((Qt l0 a0).f0),.bool ((Qt l0 a0).f1),.int .i64 ((Qt l0 a0).f2),.int .i64 ((Qt l0 a0).f3),.int .i64 ((Qt l0 a0).f4),.slice b6 ((Qt l0 a0).f5).length b7],.int .i64 b0] rfl zzM2 ?_;(with_reducible refine (Rn.calls k1 ((Qt l0 a0).f0) ((Qt l0 a0).f1) ((Qt l0 a0).f2) ((Qt l0 a0).f3) ((Qt l0 a0).f4) _ _ ((Qt l0 a0).f5) b0 b3 _ ?side1 ?side2 A6.out).mono ?_);(case side1=>exact zzcb b4 HB);(case side2=>exact b5.out);rintro e w9 ⟨rfl,hb⟩;refine ⟨_,rfl,?_⟩;have b8:=zzm (zzp zzh1 hb);clear HB;have HB:=b8;clear b8;(try clear hb);(try clear hb2);(try clear hk);(try clear hi)));go_roundg k1
       case measure=>have:=HK1.out;omega
       case rel=>exact ⟨(b3),(wrap64 (a0+1)),(by first|rfl|(simp;done)|(simp [*];done)),(by first|rfl|(simp;done)|(simp [*];done)),H',⟨by have:=HK1.out;omega⟩,⟨zzh1⟩⟩
     ·
      rw [if_neg c5] at H;exact absurd H (by simp)
    ·
     rw [if_neg c4] at H;have d0:decide (a0 < (l0.length:Int))=false:=decide_eq_false c4;clear c4;obtain rfl:=Option.some.inj H;go_wp2;go_ret;exact ⟨zzR,zzh1⟩

set_option linter.unusedVariables false
set_option linter.unusedSimpArgs false
def Qz.l0:Nat→List Int→List Int→Int→Option (List Int)
 | 0,_,_,_=>none
 | k+1,x0,x3,x4=>if x4 < (x0.length:Int) then (if 0≤x4 then (if x4 < (x3.length:Int) then (Qz.l0 k x0 (x3.set (x4:Int).toNat (rd x0 x4)) (wrap64 (x4+1))) else (none)) else (none)) else (some x3)
def Qz.f (k:Nat) (l0:List Int):Option (List Int):=if 0≤(l0.length:Int) then (if ((l0.length:Int):Int).toNat≤35184372088832 then (Qz.l0 k l0 (List.replicate ((l0.length:Int):Int).toNat 0) 0) else (none)) else (none)
set_option maxHeartbeats 8000000 in
theorem Qz.calls (k:Nat) (A0:Option Addr) (c0:Nat) (l0:List Int) (r:List Int) (w:World) (b0:Kd.C (Kd.int .i64) w A0 l0.length l0) (b1:l0.length≤c0) (h:Qz.f k l0=some r) :
  Calls Try.prog 113 #[.slice A0 l0.length c0] w fun e w'=>∃ b2:Value,e = .returned (b2)∧Kd.R (Kd.int .i64) 3 w' w.heap.size (fun _=>True) b2 r∧Below w.heap.size w w':=by
 have c5:=zzm b0;have d4:=zzm b1;clear b0 b1;have HB:=zzm (Below.refl w.heap.size w);have H:(if 0≤(l0.length:Int) then (if ((l0.length:Int):Int).toNat≤35184372088832 then (Qz.l0 k l0 (List.replicate ((l0.length:Int):Int).toNat 0) 0) else (none)) else (none))=some r:=h;clear h;by_cases c2 : 0≤(l0.length:Int)
 ·
  rw [if_pos c2] at H;have b4:=eq_true c2;have b5:decide (0≤(l0.length:Int))=true:=decide_eq_true c2;clear c2;by_cases c3:((l0.length:Int):Int).toNat≤35184372088832
  ·
   rw [if_pos c3] at H;have b6:=eq_true c3;have b7:decide (((l0.length:Int):Int).toNat≤35184372088832)=true:=decide_eq_true c3;clear c3;obtain ⟨y427,hy427⟩:∃ y_:List Int,y_=(List.replicate ((l0.length:Int):Int).toNat 0):=⟨_,rfl⟩;replace H:(Qz.l0 k l0 y427 0)=some r:=by first|(rw [hy427];with_reducible exact H)|(have H2_:=(Option.bind_some _ _).symm.trans H;rw [hy427];with_reducible exact H2_)|(have H2_:=(Option.bind_some _ _).symm.trans H;with_reducible exact H2_)|with_reducible exact H|(rw [hy427];exact H)|exact H
   have Ny427:=zzm hy427;clear hy427;have H':=zzm H;clear H;go_enter Try.func113,Try.ntmps113;go_wp2_with (first|((with_reducible refine gate_dst (N:=7) rfl ?_);refine Kd.R_make (Kd.int .i64) _ 3 rfl (N:=7) rfl 32 _ _ rfl (l0.length:Int) rfl rfl Try.underlying32 (.int .i64 0) 8 info3 rfl (by decide) (by omega) 0 (ok:=fun _=>True) (okp:=fun _=>True) rfl (fun _ hk=>hk) trivial (zzt) (Nat.le_trans (Nat.mul_le_mul_right _ (zzt:(l0.length:Int).toNat≤35184372088832)) (by omega)) (Below.refl _ _) (Nat.le_refl _) ?_;intro b8 w4 ho5 hb hg_ hnew_;clear hg_ hnew_;(first|rw [← Ny427.out] at ho5|(simp only [Int.reduceToNat] at ho5;rw [← Ny427.out] at ho5));have a4:=zzm (Kd.R_lower ho5 (zzo zzh1));have a5:=zzm (zzp zzh1 hb);clear HB;have a9:=a4;have HB:=a5;clear a4 a5 hb ho5));go_loopg [4] k (fun kq v4 w'=>∃ (a1:List Int) (a0:Int),v4 = .int .i64 a0∧Aside0 (Qz.l0 kq l0 a1 a0=some r)∧Aside0 (kq≤k)∧Aside0 (Kd.R (Kd.int .i64) 3 w' w.heap.size (fun _=>True) b8 a1)∧Aside0 (Below w.heap.size w w'))
   case atStart=>exact ⟨(y427),(0),(by first|rfl|(simp;done)|(simp [*];done)),H',⟨Nat.le_refl _⟩,⟨by (with_reducible repeat (first|apply Kd.R_alloc|apply Kd.R_drewN|apply Kd.R_drew));exact a9.out⟩,⟨zzh1⟩⟩
   case round=>
    clear H';try clear c1
    try clear c2
    try clear b4
    try clear b5
    try clear p2
    try clear c3
    try clear b6
    try clear b7
    obtain ⟨a1,a0,rfl,HA,HK1,a2,HB⟩:=hrel;cases gk with
    | zero=>exact absurd HA.out (by simp [Qz.l0])
    | succ k1=>
     have H:=HA.out;clear HA;simp only [Qz.l0] at H;by_cases c6:a0 < (l0.length:Int)
     ·
      rw [if_pos c6] at H;have b9:decide (a0 < (l0.length:Int))=true:=decide_eq_true c6;clear c6;by_cases c7 : 0≤a0
      ·
       rw [if_pos c7] at H;have d2:decide (0≤a0)=true:=decide_eq_true c7;clear c7;by_cases c8:a0 < (a1.length:Int)
       ·
        rw [if_pos c8] at H;have d3:decide (a0 < (a1.length:Int))=true:=decide_eq_true c8;clear c8;obtain ⟨y431,hy431⟩:∃ y_:List Int,y_=(a1.set (a0:Int).toNat (rd l0 a0)):=⟨_,rfl⟩;replace H:(Qz.l0 k1 l0 y431 (wrap64 (a0+1)))=some r:=by first|(rw [hy431];with_reducible exact H)|(have H2_:=(Option.bind_some _ _).symm.trans H;rw [hy431];with_reducible exact H2_)|(have H2_:=(Option.bind_some _ _).symm.trans H;with_reducible exact H2_)|with_reducible exact H|(rw [hy431];exact H)|exact H
        have Ny431:=zzm hy431;clear hy431;have H':=zzm H;clear H;have a6 : 0≤(a0:Int):=zzt;have a7:a0 < (l0.length:Int):=zzt;obtain ⟨d0,c4,a3⟩:=Kd.at_int c5.out a0 a6 a7;cases c4;replace a3:=zzx HB.out a3;replace a6:=eq_true a6;replace a7:=eq_true a7;have p9 : 0≤(a0:Int):=zzt;have q9:(a0:Int) < ((a1.length:Int):Int):=zzt;obtain ⟨go9,c9,eo9,b3,gl9,cl9,HG9⟩:=Kd.R_form a2.out (by omega)
        (first|cases eo9|(injection eo9 with ea_ en_ ec_;(first|subst ea_|(injection ea_ with ea_;subst ea_));subst ec_;clear en_));have GB9:=zzm b3;have GG9:=zzm HG9;clear b3 gl9 HG9;obtain ⟨d1,hf9_0⟩:=Kd.R_celln 0 a2.out (a0:Int) p9 q9;replace p9:=eq_true p9;replace q9:=eq_true q9;have HP10:=Kd.R_putg a2.out (a0:Int) (rd l0 a0);go_wp2_with (first|((with_reducible refine gate_store (t:=3) (p:=20) rfl ?_);refine store_event (t:=3) (p:=20) (v:=?vo_w11) (w1:=(wr.setCell ⟨go9,(a0:Int).toNat,none⟩ (.int .i64 (rd l0 a0)))) ?hg ?ho ?hn ?hr ?_;(case ho=>rfl);(case hg=>rfl);(case hn=>rfl);(case hr=>first|(go_simp;done)|(go_simp;rfl));intro a8 hw;have hg:wr.grownBy a8 (some go9):=(by rw [hw];exact HP10.2);have hp_:Kd.R (Kd.int .i64) 3 a8 w.heap.size (fun _=>True) (.slice (some ⟨go9,0,none⟩) a1.length c9) y431:=(by rw [hw,Ny431.out];exact HP10.1);clear HP10;have a4:=zzm (hp_);have a5:=zzm ((by rw [hw];exact zzd (HB.out) GB9.out:Below w.heap.size w a8));clear a2 HB;have a2:=a4;have HB:=a5;clear a4 a5 hg hw hp_));go_roundg k1
        case measure=>have:=HK1.out;omega
        case rel=>exact ⟨(y431),(wrap64 (a0+1)),(by first|rfl|(simp;done)|(simp [*];done)),H',⟨by have:=HK1.out;omega⟩,⟨by (with_reducible repeat (first|apply Kd.R_alloc|apply Kd.R_drewN|apply Kd.R_drew));exact a2.out⟩,⟨zzh1⟩⟩
       ·
        rw [if_neg c8] at H;exact absurd H (by simp)
      ·
       rw [if_neg c7] at H;exact absurd H (by simp)
     ·
      rw [if_neg c6] at H;have b9:decide (a0 < (l0.length:Int))=false:=decide_eq_false c6;clear c6;obtain rfl:=Option.some.inj H;go_wp2;go_ret;exact ⟨_,zzR,by (with_reducible repeat (first|apply Kd.R_alloc|apply Kd.R_drewN|apply Kd.R_drew));exact a2.out,zzh1⟩
  ·
   rw [if_neg c3] at H;exact absurd H (by simp)
 ·
  rw [if_neg c2] at H;exact absurd H (by simp)
def Rp.f (k:Nat) (a0_0:Int) (a0_1:Int) (a0_2:Bool) (l0_3:List Int) (a0_4:Bool) (l0_5:List Int):Option (Int×Int×Bool×List Int×Bool×List Int):=(Qz.f k l0_3).bind fun t435=>((Qz.f k l0_5).bind fun t438=>(some (a0_0,a0_1,a0_2,t435,a0_4,t438)))
set_option maxHeartbeats 8000000 in
theorem Rp.calls (k:Nat) (a1:Int) (a2:Int) (a4:Bool) (b4:Option Addr) (b5:Nat) (a9:List Int) (a5:Bool) (b6:Option Addr) (b7:Nat) (b0:List Int) (r1:Int) (r2:Int) (r3:Bool) (r4:List Int) (r5:Bool) (r6:List Int) (w:World) (d6:Kd.C (Kd.int .i64) w b4 a9.length a9) (d7:a9.length≤b5) (d8:Kd.C (Kd.int .i64) w b6 b0.length b0) (d9:b0.length≤b7) (h:Rp.f k a1 a2 a4 a9 a5 b0=some (r1,r2,r3,r4,r5,r6)) :
  Calls Try.prog 108 #[.agg #[.int .i64 a1,.int .i64 a2,.bool a4,.slice b4 a9.length b5,.bool a5,.slice b6 b0.length b7]] w fun e w'=>∃ e1 e2:Value,e = .returned (.agg #[.int .i64 r1,.int .i64 r2,.bool r3,e1,.bool r5,e2])∧Kd.R (Kd.int .i64) 3 w' w.heap.size (fun k_=>some k_≠(e2:Value).ownBlock) e1 r4∧Kd.R (Kd.int .i64) 3 w' w.heap.size (fun k_=>some k_≠(e1:Value).ownBlock) e2 r6∧Below w.heap.size w w':=by
 have hu120:=Try.underlying120;have hu34:=Try.underlying34;have e3:=zzm d6;have e4:=zzm d7;clear d6 d7;have e5:=zzm d8;have e6:=zzm d9;clear d8 d9;have HB:=zzm (Below.refl w.heap.size w);have H:((Qz.f k a9).bind fun b8=>((Qz.f k b0).bind fun c5=>(some (a1,a2,a4,b8,a5,c5))))=some (r1,r2,r3,r4,r5,r6):=h;clear h;obtain ⟨b8,A2,H⟩:=zzG H;obtain ⟨c5,A3,H⟩:=zzG H;simp only [Option.some.injEq,Prod.mk.injEq] at H;obtain ⟨rfl,rfl,rfl,rfl,rfl,rfl⟩:=H;go_enter Try.func108,Try.ntmps108;go_wp2_with (first|((with_reducible refine gate_dst (N:=1) rfl ?_);refine box_event ?hg (N:=1) ?hd (cs:=#[.int .i64 a1,.int .i64 a2,.bool a4,.slice b4 a9.length b5,.bool a5,.slice b6 b0.length b7]) (t:=120) ?hr ?_;(case hd=>rfl);(case hg=>rfl);(case hr=>first|(go_simp;done)|(go_simp;rfl));intro a7 hg w4 hbox hb;have b9:=zzm (zzp zzh1 hb);have c0:=zzm (hbox);have c1:=zzm ((by rw [hg];exact (zzo zzh1):w.heap.size≤a7));have c2:=zzm ((by rw [hg];exact (zzo zzh1):w.heap.size≤a7));clear HB;have HB:=b9;have a3:=c0;have o7:=c1;have o8:=c2;clear b9 c0 c1 c2 hb hbox hg)|((with_reducible refine gate_dst (N:=2) rfl ?_);refine box_event ?hg (N:=2) ?hd (cs:=#[.int .i64 0,.int .i64 0,.bool false,.slice none 0 0,.bool false,.slice none 0 0]) (t:=34) ?hr ?_;(case hd=>rfl);(case hg=>rfl);(case hr=>first|(go_simp;done)|(go_simp;rfl));intro a0 hg w5 hbox hb;have b9:=zzm (zzh (g:=a7) (o:=.cells #[.int .i64 a1,.int .i64 a2,.bool a4,.slice b4 a9.length b5,.bool a5,.slice b6 b0.length b7] 120 (0,0)) (zzE a3.out) hb);have c0:=zzm (zzp zzh2 hb);have c1:=zzm (hbox);have c2:=zzm ((by rw [hg];exact (zzo zzh2):w.heap.size≤a0));have c6:=zzm ((by rw [hg];exact (zzo zzh2):w.heap.size≤a0));have c8:=zzm ((by rw [hg];exact Nat.ne_of_lt (blk_lt (g:=a7) (o:=.cells #[.int .i64 a1,.int .i64 a2,.bool a4,.slice b4 a9.length b5,.bool a5,.slice b6 b0.length b7] 120 (0,0)) (zzE a3.out)):a7≠a0));have d1:=zzm ((by rw [hg];exact Nat.ne_of_gt (blk_lt (g:=a7) (o:=.cells #[.int .i64 a1,.int .i64 a2,.bool a4,.slice b4 a9.length b5,.bool a5,.slice b6 b0.length b7] 120 (0,0)) (zzE a3.out)):a0≠a7));clear a3 HB;have a3:=b9;have HB:=c0;have a6:=c1;have o9:=c2;have p0:=c6;have d2:=c8;have d3:=d1;clear b9 c0 c1 c2 c6 c8 d1 hb hbox hg)|((with_reducible refine gate_dst (N:=3) rfl ?_);refine box_event ?hg (N:=3) ?hd (cs:=#[.int .i64 0,.int .i64 0,.bool false,.slice none 0 0,.bool false,.slice none 0 0]) (t:=34) ?hr ?_;(case hd=>rfl);(case hg=>rfl);(case hr=>first|(go_simp;done)|(go_simp;rfl));intro a8 hg w6 hbox hb;have b9:=zzm (zzh (g:=a7) (o:=.cells #[.int .i64 a1,.int .i64 a2,.bool a4,.slice b4 a9.length b5,.bool a5,.slice b6 b0.length b7] 120 (0,0)) (zzE a3.out) hb);have c0:=zzm (zzh (g:=a0) (o:=.cells #[.int .i64 0,.int .i64 0,.bool false,.slice none 0 0,.bool false,.slice none 0 0] 34 (0,0)) (zzE a6.out) hb);have c1:=zzm (zzp zzh2 hb);have c2:=zzm (hbox);have c6:=zzm ((by rw [hg];exact (zzo zzh2):w.heap.size≤a8));have c8:=zzm ((by rw [hg];exact (zzo zzh2):w.heap.size≤a8));have d1:=zzm ((by rw [hg];exact Nat.ne_of_lt (blk_lt (g:=a7) (o:=.cells #[.int .i64 a1,.int .i64 a2,.bool a4,.slice b4 a9.length b5,.bool a5,.slice b6 b0.length b7] 120 (0,0)) (zzE a3.out)):a7≠a8));have e7:=zzm ((by rw [hg];exact Nat.ne_of_gt (blk_lt (g:=a7) (o:=.cells #[.int .i64 a1,.int .i64 a2,.bool a4,.slice b4 a9.length b5,.bool a5,.slice b6 b0.length b7] 120 (0,0)) (zzE a3.out)):a8≠a7));have e8:=zzm ((by rw [hg];exact Nat.ne_of_lt (blk_lt (g:=a0) (o:=.cells #[.int .i64 0,.int .i64 0,.bool false,.slice none 0 0,.bool false,.slice none 0 0] 34 (0,0)) (zzE a6.out)):a0≠a8));have e9:=zzm ((by rw [hg];exact Nat.ne_of_gt (blk_lt (g:=a0) (o:=.cells #[.int .i64 0,.int .i64 0,.bool false,.slice none 0 0,.bool false,.slice none 0 0] 34 (0,0)) (zzE a6.out)):a8≠a0));clear a3 a6 HB;have a3:=b9;have a6:=c0;have HB:=c1;have b2:=c2;have p1:=c6;have p2:=c8;have b3:=d1;have d4:=e7;have b1:=e8;have d5:=e9;clear b9 c0 c1 c2 c6 c8 d1 e7 e8 e9 hb hbox hg;have p5:=d2.out;have p6:=d3.out;have p7:=b3.out;have p8:=d4.out;obtain ⟨n5,n6,n7,n8,n9,o0,o1,o2,o3,o4,o5,o6⟩:=zzc6 a3.out;have p3:=d5.out;have p4:=b1.out;obtain ⟨g0,g1,g2,g3,g4,g5,g6,g7,g8,g9,h0,h1⟩:=zzc6 b2.out)|((with_reducible refine gate_callee (f:=113) rfl ?_);refine goesL_ (some 15) rfl rfl Try.func113 (by kernel_rfl) rfl #[.slice b4 a9.length b5] rfl zzM2 ?_;(with_reducible refine (Qz.calls k _ _ a9 b8 _ ?side1 ?side2 A2.out).mono ?_);(case side1=>exact Kd.C_below e3.out zzh2);(case side2=>exact e4.out);rintro e q1 ⟨p9,rfl,ho0,hb⟩;refine ⟨_,rfl,?_⟩;have b9:=zzm (Kd.R_lower ho0 (zzo zzh2));have c0:=zzm (zzh (g:=a7) (o:=.cells #[.int .i64 a1,.int .i64 a2,.bool a4,.slice b4 a9.length b5,.bool a5,.slice b6 b0.length b7] 120 (0,0)) (by (with_reducible repeat (first|apply zzf|apply zzg|apply zze));refine zzj ?_ b3.out _;(with_reducible repeat (first|apply zzf|apply zzg|apply zze));refine zzj ?_ b3.out _;(with_reducible repeat (first|apply zzf|apply zzg|apply zze));refine zzj ?_ b3.out _;(with_reducible repeat (first|apply zzf|apply zzg|apply zze));exact a3.out) hb);have c1:=zzm (zzh (g:=a0) (o:=.cells #[.int .i64 0,.int .i64 0,.bool false,.slice none 0 0,.bool false,.slice none 0 0] 34 (0,0)) (by (with_reducible repeat (first|apply zzf|apply zzg|apply zze));refine zzj ?_ b1.out _;(with_reducible repeat (first|apply zzf|apply zzg|apply zze));refine zzj ?_ b1.out _;(with_reducible repeat (first|apply zzf|apply zzg|apply zze));refine zzj ?_ b1.out _;(with_reducible repeat (first|apply zzf|apply zzg|apply zze));exact a6.out) hb);have c2:=zzm (zzh (g:=a8) (o:=.cells #[.int .i64 a1,.int .i64 a2,.bool a4,.slice none 0 0,.bool false,.slice none 0 0] 34 (0,0)) (by (with_reducible repeat (first|apply zzf|apply zzg|apply zze));refine zzi (cs:=#[.int .i64 a1,.int .i64 a2,.bool false,.slice none 0 0,.bool false,.slice none 0 0]) ?_ 2 _ rfl;refine zzi (cs:=#[.int .i64 a1,.int .i64 0,.bool false,.slice none 0 0,.bool false,.slice none 0 0]) ?_ 1 _ rfl;refine zzi (cs:=#[.int .i64 0,.int .i64 0,.bool false,.slice none 0 0,.bool false,.slice none 0 0]) ?_ 0 _ rfl;(with_reducible repeat (first|apply zzf|apply zzg|apply zze));exact b2.out) hb);have c6:=zzm (zzp zzh2 hb);clear a3 a6 b2 HB;have c7:=b9;have a3:=c0;have a6:=c1;have b2:=c2;have HB:=c6;clear b9 c0 c1 c2 c6;(try clear hb);(try clear hb2);(try clear hk);(try clear hi);(try clear ho0);obtain ⟨c3,c4,eo13⟩:=Kd.R_slice c7.out;subst eo13;obtain ⟨h2,h3,h4,h5,h6,h7,h8,h9,j3,j4,j5,j6⟩:=zzc6 b2.out;obtain ⟨j7,j8,j9,k0,k1,k2,k3,k4,k5,k6,k7,k8⟩:=zzc6 a3.out)|((with_reducible refine gate_callee (f:=113) rfl ?_);refine goesL_ (some 22) rfl rfl Try.func113 (by kernel_rfl) rfl #[.slice b6 b0.length b7] rfl zzM2 ?_;(with_reducible refine (Qz.calls k _ _ b0 c5 _ ?side1 ?side2 A3.out).mono ?_);(case side1=>exact Kd.C_below e5.out zzh2);(case side2=>exact e6.out);rintro e q2 ⟨q0,rfl,ho0,hb⟩;refine ⟨_,rfl,?_⟩;have b9:=zzm (Kd.R_elder' (by (with_reducible repeat (first|apply Kd.R_alloc|apply Kd.R_drewN|apply Kd.R_drew));exact (Kd.R_mono (Kd.R_far (p:=⟨a8,4,none⟩) (Kd.R_far (p:=⟨a8,3,none⟩) (Kd.R_types c7.out b2.out (by decide)) (fun _ hk=>hk.2) (.slice c3 b8.length c4)) (fun _ hk=>hk.2) (.bool a5)) (fun _ h_=>h_.1))) (Kd.R_base ho0) hb);have c0:=zzm (Kd.R_lower (Kd.R_new' ho0 (Kd.R_lt (by (with_reducible repeat (first|apply Kd.R_alloc|apply Kd.R_drewN|apply Kd.R_drew));exact (Kd.R_mono (Kd.R_far (p:=⟨a8,4,none⟩) (Kd.R_far (p:=⟨a8,3,none⟩) (Kd.R_types c7.out b2.out (by decide)) (fun _ hk=>hk.2) (.slice c3 b8.length c4)) (fun _ hk=>hk.2) (.bool a5)) (fun _ h_=>h_.1))))) (zzo zzh2));have c1:=zzm (zzh (g:=a7) (o:=.cells #[.int .i64 a1,.int .i64 a2,.bool a4,.slice b4 a9.length b5,.bool a5,.slice b6 b0.length b7] 120 (0,0)) (by (with_reducible repeat (first|apply zzf|apply zzg|apply zze));refine zzj ?_ b3.out _;(with_reducible repeat (first|apply zzf|apply zzg|apply zze));refine zzj ?_ b3.out _;(with_reducible repeat (first|apply zzf|apply zzg|apply zze));exact a3.out) hb);have c2:=zzm (zzh (g:=a0) (o:=.cells #[.int .i64 0,.int .i64 0,.bool false,.slice none 0 0,.bool false,.slice none 0 0] 34 (0,0)) (by (with_reducible repeat (first|apply zzf|apply zzg|apply zze));refine zzj ?_ b1.out _;(with_reducible repeat (first|apply zzf|apply zzg|apply zze));refine zzj ?_ b1.out _;(with_reducible repeat (first|apply zzf|apply zzg|apply zze));exact a6.out) hb);have c6:=zzm (zzh (g:=a8) (o:=.cells #[.int .i64 a1,.int .i64 a2,.bool a4,.slice c3 b8.length c4,.bool a5,.slice none 0 0] 34 (0,0)) (by (with_reducible repeat (first|apply zzf|apply zzg|apply zze));refine zzi (cs:=#[.int .i64 a1,.int .i64 a2,.bool a4,.slice c3 b8.length c4,.bool false,.slice none 0 0]) ?_ 4 _ rfl;refine zzi (cs:=#[.int .i64 a1,.int .i64 a2,.bool a4,.slice none 0 0,.bool false,.slice none 0 0]) ?_ 3 _ rfl;(with_reducible repeat (first|apply zzf|apply zzg|apply zze));exact b2.out) hb);have c8:=zzm (zzp zzh2 hb);clear c7 a3 a6 b2 HB;have c7:=b9;have e0:=c0;have a3:=c1;have a6:=c2;have b2:=c6;have HB:=c8;clear b9 c0 c1 c2 c6 c8;(try clear hb);(try clear hb2);(try clear hk);(try clear hi);(try clear ho0);obtain ⟨c9,d0,eo17⟩:=Kd.R_slice e0.out;subst eo17;obtain ⟨k9,l2,l3,l4,l5,l6,l7,l8,l9,m0,m1,m2⟩:=zzc6 b2.out;obtain ⟨m3,m4,m5,m6,m7,m8,m9,n0,n1,n2,n3,n4⟩:=zzc6 a6.out));refine bodyPost_ret (results_cell_row rfl _ _ a0 34 #[.int .i64 a1,.int .i64 a2,.bool a4,.slice c3 b8.length c4,.bool a5,.slice c9 c5.length d0] (0,0) _ rfl (by (with_reducible repeat (first|apply zzf|apply zzg|apply zze));refine zzi (cs:=#[.int .i64 a1,.int .i64 a2,.bool a4,.slice c3 b8.length c4,.bool a5,.slice none 0 0]) ?_ 5 _ rfl;refine zzi (cs:=#[.int .i64 a1,.int .i64 a2,.bool a4,.slice c3 b8.length c4,.bool false,.slice none 0 0]) ?_ 4 _ rfl;refine zzi (cs:=#[.int .i64 a1,.int .i64 a2,.bool a4,.slice none 0 0,.bool false,.slice none 0 0]) ?_ 3 _ rfl;refine zzi (cs:=#[.int .i64 a1,.int .i64 a2,.bool false,.slice none 0 0,.bool false,.slice none 0 0]) ?_ 2 _ rfl;refine zzi (cs:=#[.int .i64 a1,.int .i64 0,.bool false,.slice none 0 0,.bool false,.slice none 0 0]) ?_ 1 _ rfl;refine zzi (cs:=#[.int .i64 0,.int .i64 0,.bool false,.slice none 0 0,.bool false,.slice none 0 0]) ?_ 0 _ rfl;(with_reducible repeat (first|apply zzf|apply zzg|apply zze));refine zzj ?_ b1.out _;(with_reducible repeat (first|apply zzf|apply zzg|apply zze));exact a6.out) Try.underlying34 rfl (by kernel_rfl)) rfl ?_;exact ⟨_,_,zzR,by (with_reducible repeat (first|apply Kd.R_alloc|apply Kd.R_drewN|apply Kd.R_drew));exact Kd.R_mono (Kd.R_far (p:=⟨a0,5,none⟩) (Kd.R_far (p:=⟨a0,4,none⟩) (Kd.R_far (p:=⟨a0,3,none⟩) (Kd.R_far (p:=⟨a0,2,none⟩) (Kd.R_far (p:=⟨a0,1,none⟩) (Kd.R_far (p:=⟨a0,0,none⟩) (Kd.R_far (p:=⟨a8,5,none⟩) (Kd.R_types (Kd.R_types c7.out b2.out (by decide)) a6.out (by decide)) (fun _ hk=>hk.1.2) (.slice c9 c5.length d0)) (fun _ hk=>hk.2) (.int .i64 a1)) (fun _ hk=>hk.2) (.int .i64 a2)) (fun _ hk=>hk.2) (.bool a4)) (fun _ hk=>hk.2) (.slice c3 b8.length c4)) (fun _ hk=>hk.2) (.bool a5)) (fun _ hk=>hk.2) (.slice c9 c5.length d0)) (fun _ hk=>hk.1.1.2),by (with_reducible repeat (first|apply Kd.R_alloc|apply Kd.R_drewN|apply Kd.R_drew));exact Kd.R_mono (Kd.R_far (p:=⟨a0,5,none⟩) (Kd.R_far (p:=⟨a0,4,none⟩) (Kd.R_far (p:=⟨a0,3,none⟩) (Kd.R_far (p:=⟨a0,2,none⟩) (Kd.R_far (p:=⟨a0,1,none⟩) (Kd.R_far (p:=⟨a0,0,none⟩) (Kd.R_far (p:=⟨a8,5,none⟩) (Kd.R_types (Kd.R_types e0.out b2.out (by decide)) a6.out (by decide)) (fun _ hk=>hk.1.2) (.slice c9 c5.length d0)) (fun _ hk=>hk.2) (.int .i64 a1)) (fun _ hk=>hk.2) (.int .i64 a2)) (fun _ hk=>hk.2) (.bool a4)) (fun _ hk=>hk.2) (.slice c3 b8.length c4)) (fun _ hk=>hk.2) (.bool a5)) (fun _ hk=>hk.2) (.slice c9 c5.length d0)) (fun _ hk=>hk.1.1.2),zzh3⟩

set_option linter.unusedVariables false
set_option linter.unusedSimpArgs false
def Qs.l0:Nat→List (S120)→List (S34)→Int→Option ((List (S34)))
 | 0,_,_,_=>none
 | k+1,x0,x3,x4=>if x4 < (x0.length:Int) then (if 0≤x4 then ((Rp.f k ((Qq x0 x4).f0) ((Qq x0 x4).f1) ((Qq x0 x4).f2) ((Qq x0 x4).f3) ((Qq x0 x4).f4) ((Qq x0 x4).f5)).bind fun bt445=>(if x4 < (x3.length:Int) then (Qs.l0 k x0 (x3.set (x4:Int).toNat (⟨bt445.1,bt445.2.1,bt445.2.2.1,bt445.2.2.2.1,bt445.2.2.2.2.1,bt445.2.2.2.2.2⟩:S34)) (wrap64 (x4+1))) else (none))) else (none)) else (some x3)
def Qs.f (k:Nat) (l0:List (S120)):Option ((List (S34))):=if 0≤(l0.length:Int) then (if ((l0.length:Int):Int).toNat≤3518437208883 then (Qs.l0 k l0 (List.replicate ((l0.length:Int):Int).toNat z34) 0) else (none)) else (none)
set_option maxHeartbeats 8000000 in
theorem Qs.calls (k:Nat) (A0:Option Addr) (c0:Nat) (l0:List (S120)) (r:List (S34)) (w:World) (g6:Kd.C k120 w A0 l0.length l0) (g7:l0.length≤c0) (h:Qs.f k l0=some r) :
  Calls Try.prog 95 #[.slice A0 l0.length c0] w fun e w'=>∃ g8:Value,e = .returned (g8)∧Kd.S k34 34 w' w.heap.size (fun _=>True) g8 r∧Below w.heap.size w w':=by
 have hu120:=Try.underlying120;have hu34:=Try.underlying34;have h9:=zzm g6;have k9:=zzm g7;clear g6 g7;have HB:=zzm (Below.refl w.heap.size w);have H:(if 0≤(l0.length:Int) then (if ((l0.length:Int):Int).toNat≤3518437208883 then (Qs.l0 k l0 (List.replicate ((l0.length:Int):Int).toNat z34) 0) else (none)) else (none))=some r:=h;clear h;by_cases c2 : 0≤(l0.length:Int)
 ·
  rw [if_pos c2] at H;have h2:=eq_true c2;have h3:decide (0≤(l0.length:Int))=true:=decide_eq_true c2;clear c2;by_cases c3:((l0.length:Int):Int).toNat≤3518437208883
  ·
   rw [if_pos c3] at H;have h4:=eq_true c3;have h5:decide (((l0.length:Int):Int).toNat≤3518437208883)=true:=decide_eq_true c3;clear c3;obtain ⟨y441,hy441⟩:∃ y_:List (S34),y_=(List.replicate ((l0.length:Int):Int).toNat z34):=⟨_,rfl⟩;replace H:(Qs.l0 k l0 y441 0)=some r:=by first|(rw [hy441];with_reducible exact H)|(have H2_:=(Option.bind_some _ _).symm.trans H;rw [hy441];with_reducible exact H2_)|(have H2_:=(Option.bind_some _ _).symm.trans H;with_reducible exact H2_)|with_reducible exact H|(rw [hy441];exact H)|exact H
   have Ny441:=zzm hy441;clear hy441;have H':=zzm H;clear H;go_enter Try.func95,Try.ntmps95;go_wp2_with (first|((with_reducible refine gate_dst (N:=7) rfl ?_);refine Kd.S_make k34 _ 34 rfl (N:=7) rfl 25 _ _ rfl (l0.length:Int) rfl rfl Try.underlying25 (.agg #[(.int .i64 0),(.int .i64 0),(.bool false),(.slice none 0 0),(.bool false),(.slice none 0 0)]) 80 info34 rfl (by decide) (by omega) z34 (ok:=fun _=>True) (okp:=fun _=>True) (k34_mkM _ _ _ z34 (Kd.R_nil _ _ _ _ _) (Kd.R_nil _ _ _ _ _)) (fun _ hk=>hk) trivial (zzt) (Nat.le_trans (Nat.mul_le_mul_right _ (zzt:(l0.length:Int).toNat≤3518437208883)) (by omega)) (Below.refl _ _) (Nat.le_refl _) ?_;intro h6 w4 ho5 hb hg_ hnew_;clear hg_ hnew_;(first|rw [← Ny441.out] at ho5|(simp only [Int.reduceToNat] at ho5;rw [← Ny441.out] at ho5));have b2:=zzm (Kd.S_lower ho5 (zzo zzh1));have b3:=zzm (zzp zzh1 hb);clear HB;have g5:=b2;have HB:=b3;clear b2 b3 hb ho5));go_loopg [4] k (fun kq v4 w'=>∃ (a2:List (S34)) (a0:Int),v4 = .int .i64 a0∧Aside0 (Qs.l0 kq l0 a2 a0=some r)∧Aside0 (kq≤k)∧Aside0 (Kd.S k34 34 w' w.heap.size (fun _=>True) h6 a2)∧Aside0 (Below w.heap.size w w'))
   case atStart=>exact ⟨(y441),(0),(by first|rfl|(simp;done)|(simp [*];done)),H',⟨Nat.le_refl _⟩,⟨by (with_reducible repeat (first|apply Kd.S_alloc|apply Kd.S_drewN|apply Kd.S_drew));exact g5.out⟩,⟨zzh1⟩⟩
   case round=>
    clear H';try clear c2
    try clear h2
    try clear h3
    try clear p2
    try clear c3
    try clear h4
    try clear h5
    obtain ⟨a2,a0,rfl,HA,HK1,a1,HB⟩:=hrel;cases gk with
    | zero=>exact absurd HA.out (by simp [Qs.l0])
    | succ k1=>
     have H:=HA.out;clear HA;simp only [Qs.l0] at H;by_cases c6:a0 < (l0.length:Int)
     ·
      rw [if_pos c6] at H;have h7:decide (a0 < (l0.length:Int))=true:=decide_eq_true c6;clear c6;by_cases c7 : 0≤a0
      ·
       rw [if_pos c7] at H;have k5:decide (0≤a0)=true:=decide_eq_true c7;clear c7;replace H:=zzH H;obtain ⟨⟨a6,a7,a8,b4,a9,b5⟩,g9,H⟩:=H;replace H:(if a0 < (a2.length:Int) then (Qs.l0 k1 l0 (a2.set (a0:Int).toNat (⟨a6,a7,a8,b4,a9,b5⟩:S34)) (wrap64 (a0+1))) else (none))=some r:=H;have A8:=zzm g9;clear g9;by_cases c9:a0 < (a2.length:Int)
       ·
        rw [if_pos c9] at H;have k6:decide (a0 < (a2.length:Int))=true:=decide_eq_true c9;clear c9;obtain ⟨y455,hy455⟩:∃ y_:List (S34),y_=(a2.set (a0:Int).toNat (⟨a6,a7,a8,b4,a9,b5⟩:S34)):=⟨_,rfl⟩;replace H:(Qs.l0 k1 l0 y455 (wrap64 (a0+1)))=some r:=by first|(rw [hy455];with_reducible exact H)|(have H2_:=(Option.bind_some _ _).symm.trans H;rw [hy455];with_reducible exact H2_)|(have H2_:=(Option.bind_some _ _).symm.trans H;with_reducible exact H2_)|with_reducible exact H|(rw [hy455];exact H)|exact H
        have Ny455:=zzm hy455;clear hy455;have H':=zzm H;clear H;have d4 : 0≤(a0:Int):=zzt;have d5:a0 < (l0.length:Int):=zzt;obtain ⟨k4,e0,e1,e2,e3,h8,b6,b7,b8,b9,c1,c4,c5,c8,d0,d1⟩:=at_T120 h9.out a0 d4 d5;cases h8;replace b6:=zzx HB.out b6;replace b7:=zzx HB.out b7;replace b8:=zzx HB.out b8;replace b9:=zzx HB.out b9;replace c1:=zzx HB.out c1;replace c4:=zzx HB.out c4;have d6:=zzm c8;have d7:=zzm c5;clear c8 c5;have d8:=zzm d1;have d9:=zzm d0;clear d1 d0;replace d4:=eq_true d4;replace d5:=eq_true d5;go_wp2_with (first|((with_reducible refine gate_callee (f:=108) rfl ?_);refine goesL_ (some 20) rfl rfl Try.func108 (by kernel_rfl) rfl #[.agg #[.int .i64 ((Qq l0 a0).f0),.int .i64 ((Qq l0 a0).f1),.bool ((Qq l0 a0).f2),.slice e0 ((Qq l0 a0).f3).length e1,.bool ((Qq l0 a0).f4),.slice e2 ((Qq l0 a0).f5).length e3]] rfl zzM2 ?_;(with_reducible refine (Rp.calls k1 ((Qq l0 a0).f0) ((Qq l0 a0).f1) ((Qq l0 a0).f2) _ _ ((Qq l0 a0).f3) ((Qq l0 a0).f4) _ _ ((Qq l0 a0).f5) a6 a7 a8 b4 a9 b5 _ ?side1 ?side2 ?side3 ?side4 A8.out).mono ?_);(case side1=>exact zzcb d6 HB);(case side2=>exact d7.out);(case side3=>exact zzcb d8 HB);(case side4=>exact d9.out);rintro e a3 ⟨b0,b1,rfl,ho0,ho1,hb⟩;have os_v449:∀ (W_:World) (a_:Addr) (m_:Mode),(store a_ b0 m_).run Try.prog W_=stored Try.prog W_ a_ b0 m_:=fun W_ a_ m_=>run_store _ _ _ _ _ (by first|(obtain ⟨_,_,e_⟩:=Kd.R_slice ho0;rw [e_];rfl)|(obtain ⟨_,_,e_⟩:=Kd.S_slice ho0;rw [e_];rfl));have os_v453:∀ (W_:World) (a_:Addr) (m_:Mode),(store a_ b1 m_).run Try.prog W_=stored Try.prog W_ a_ b1 m_:=fun W_ a_ m_=>run_store _ _ _ _ _ (by first|(obtain ⟨_,_,e_⟩:=Kd.R_slice ho1;rw [e_];rfl)|(obtain ⟨_,_,e_⟩:=Kd.S_slice ho1;rw [e_];rfl));refine ⟨_,rfl,?_⟩;have b2:=zzm (Kd.S_mono (Kd.S_told (Kd.S_told (Kd.S_old (zzS a1.out) hb) (Kd.R_base ho0)) (Kd.R_base ho1)) (fun _ h_=>h_.1));have b3:=zzm (Kd.R_lower ho0 (zzo zzh1));have h0:=zzm (Kd.R_lower ho1 (zzo zzh1));have h1:=zzm (zzp zzh1 hb);clear a1 HB;have a1:=b2;have d2:=b3;have d3:=h0;have HB:=h1;clear b2 b3 h0 h1;(try clear hb);(try clear hb2);(try clear hk);(try clear hi);(try clear ho0);(try clear ho1);have e4 : 0≤(a0:Int):=zzt;have e5:(a0:Int) < ((a2.length:Int):Int):=zzt;obtain ⟨go10,e6,eo10,e7,gl10,cl10,HG10⟩:=Kd.S_form a1.out (by omega);(first|cases eo10|(injection eo10 with ea_ en_ ec_;(first|subst ea_|(injection ea_ with ea_;subst ea_));subst ec_;clear en_));have GB10:=zzm e7;have GG10:=zzm HG10;clear e7 gl10 HG10;obtain ⟨_,k7,hcl10,hM10,a4,hfr10,_,_⟩:=Kd.S_elem a1.out z34 (a0:Int) e4 e5;obtain ⟨ve10_3,ve10_5,rfl,j3,j4⟩:=k34_openM hM10;have j5:a3.cell? ⟨go10,(a0:Int).toNat * 6,none⟩=some (.int .i64 ((Qb a2 a0).f0)):=a4 0 _ rfl;have j6:a3.cell? ⟨go10,(a0:Int).toNat * 6+1,none⟩=some (.int .i64 ((Qb a2 a0).f1)):=a4 1 _ rfl;have j7:a3.cell? ⟨go10,(a0:Int).toNat * 6+2,none⟩=some (.bool ((Qb a2 a0).f2)):=a4 2 _ rfl;have j8:a3.cell? ⟨go10,(a0:Int).toNat * 6+3,none⟩=some (ve10_3):=a4 3 _ rfl;have j9:a3.cell? ⟨go10,(a0:Int).toNat * 6+4,none⟩=some (.bool ((Qb a2 a0).f4)):=a4 4 _ rfl;have k0:a3.cell? ⟨go10,(a0:Int).toNat * 6+5,none⟩=some (ve10_5):=a4 5 _ rfl;have hf10_0:a3.frozen? ⟨go10,(a0:Int).toNat * 6,none⟩=false:=hfr10 0;have hf10_1:a3.frozen? ⟨go10,(a0:Int).toNat * 6+1,none⟩=false:=hfr10 1;have hf10_2:a3.frozen? ⟨go10,(a0:Int).toNat * 6+2,none⟩=false:=hfr10 2;have hf10_3:a3.frozen? ⟨go10,(a0:Int).toNat * 6+3,none⟩=false:=hfr10 3;have hf10_4:a3.frozen? ⟨go10,(a0:Int).toNat * 6+4,none⟩=false:=hfr10 4;have hf10_5:a3.frozen? ⟨go10,(a0:Int).toNat * 6+5,none⟩=false:=hfr10 5;clear hcl10 a4 hfr10 hM10;replace e4:=eq_true e4;replace e5:=eq_true e5;have n_:=zzm (Kd.S_mono (ok':=(fun k_=>some k_≠(b0:Value).ownBlock∧some k_≠(b1:Value).ownBlock)) a1.out (fun k_ hk=>⟨hk.1.2,hk.2⟩));clear a1;have a1:=n_;clear n_;have HX12:=zzm (show Kd.S k34 34 a3 w.heap.size (fun k_=>((fun _=>True)) k_∧¬ ((fun k_=>some k_=(b0:Value).ownBlock∨some k_=(b1:Value).ownBlock)) k_) (.slice (some ⟨go10,0,none⟩) a2.length e6) a2 from (zzS (Kd.S_mono a1.out (fun k_ hk=>⟨trivial,fun e_=>e_.elim (fun h_=>hk.1 h_) (fun h_=>hk.2 h_)⟩))));obtain ⟨oki12,k8,hcl12,hM12,a5,hfr12,hoki12,hH12⟩:=Kd.S_elem HX12.out z34 (a0:Int) (zzt) (by have h_:(a0:Int) < ((a2.length:Int):Int):=zzt;first|exact h_|(have e_:=(Kd.S_reads' a1.out).1;omega)|simpa using h_);obtain ⟨ve12_3,ve12_5,rfl,k2,k3⟩:=k34_openM hM12;have HP12:=Kd.S_seg hH12 (zzt) (by have h_:(a0:Int) < ((a2.length:Int):Int):=zzt;first|exact h_|(have e_:=(Kd.S_reads' a1.out).1;omega)|simpa using h_) (seg:=[.int .i64 a6,.int .i64 a7,.bool a8,b0,.bool a9,b1]) (j:=0) (show 6≤6 from by decide) (x':=(⟨a6,a7,a8,b4,a9,b5⟩:S34)) (k34_mkM _ _ _ (⟨a6,a7,a8,b4,a9,b5⟩:S34) (Kd.R_mono (Kd.R_tight rfl (Kd.R_mono (ok':=fun k_=>((fun _=>True)) k_∧k_≠go10) (Kd.R_apart' (d2.out) (Kd.S_typed a1.out) (by decide)) (fun k_ hk=>⟨trivial,fun e_=>(hk.2) (by rw [e_];rfl)⟩))) (fun _ h_=>Or.inr (Or.inl h_))) (Kd.R_mono (Kd.R_tight rfl (Kd.R_mono (ok':=fun k_=>((fun _=>True)) k_∧k_≠go10) (Kd.R_apart' (d3.out) (Kd.S_typed a1.out) (by decide)) (fun k_ hk=>⟨trivial,fun e_=>(hk.2) (by rw [e_];rfl)⟩))) (fun _ h_=>Or.inr (Or.inr (h_))))) (fun _ hk=>hk) (fun k_ hk_=>hk_.elim (fun h_=>((Kd.R_mono (ok':=fun k_=>((fun _=>True)) k_∧k_≠go10) (Kd.R_apart' (d2.out) (Kd.S_typed a1.out) (by decide)) (fun k_ hk=>⟨trivial,fun e_=>(hk.2) (by rw [e_];rfl)⟩))).1 k_ h_.symm) (fun h_=>((Kd.R_mono (ok':=fun k_=>((fun _=>True)) k_∧k_≠go10) (Kd.R_apart' (d3.out) (Kd.S_typed a1.out) (by decide)) (fun k_ hk=>⟨trivial,fun e_=>(hk.2) (by rw [e_];rfl)⟩))).1 k_ h_.symm));have e8:=a5 0 _ rfl;(try simp only [show (k34).sz=6 from rfl,Nat.mul_one,Nat.add_zero] at e8);have hf12_0:=hfr12 0;(try simp only [show (k34).sz=6 from rfl,Nat.mul_one,Nat.add_zero] at hf12_0);have e9:=a5 1 _ rfl;(try simp only [show (k34).sz=6 from rfl,Nat.mul_one,Nat.add_zero] at e9);have hf12_1:=hfr12 1;(try simp only [show (k34).sz=6 from rfl,Nat.mul_one,Nat.add_zero] at hf12_1);have g0:=a5 2 _ rfl;(try simp only [show (k34).sz=6 from rfl,Nat.mul_one,Nat.add_zero] at g0);have hf12_2:=hfr12 2;(try simp only [show (k34).sz=6 from rfl,Nat.mul_one,Nat.add_zero] at hf12_2);have g1:=a5 3 _ rfl;(try simp only [show (k34).sz=6 from rfl,Nat.mul_one,Nat.add_zero] at g1);have hf12_3:=hfr12 3;(try simp only [show (k34).sz=6 from rfl,Nat.mul_one,Nat.add_zero] at hf12_3);have g2:=a5 4 _ rfl;(try simp only [show (k34).sz=6 from rfl,Nat.mul_one,Nat.add_zero] at g2);have hf12_4:=hfr12 4;(try simp only [show (k34).sz=6 from rfl,Nat.mul_one,Nat.add_zero] at hf12_4);have g3:=a5 5 _ rfl;(try simp only [show (k34).sz=6 from rfl,Nat.mul_one,Nat.add_zero] at g3);have hf12_5:=hfr12 5;(try simp only [show (k34).sz=6 from rfl,Nat.mul_one,Nat.add_zero] at hf12_5);clear hcl12 a5 hfr12 hM12 hoki12 hH12)|((with_reducible refine gate_store (t:=34) (p:=21) rfl ?_);refine store_event (t:=34) (p:=21) (v:=?vo_w13) (w1:=((((((a3.setCell ⟨go10,(a0:Int).toNat * 6,none⟩ (.int .i64 a6)).setCell ⟨go10,(a0:Int).toNat * 6+1,none⟩ (.int .i64 a7)).setCell ⟨go10,(a0:Int).toNat * 6+2,none⟩ (.bool a8)).setCell ⟨go10,(a0:Int).toNat * 6+3,none⟩ (b0)).setCell ⟨go10,(a0:Int).toNat * 6+4,none⟩ (.bool a9)).setCell ⟨go10,(a0:Int).toNat * 6+5,none⟩ (b1))) ?hg ?ho ?hn ?hr ?_;(case ho=>rfl);(case hg=>rfl);(case hn=>rfl);(case hr=>first|(go_simp;done)|(go_simp;rfl));intro g4 hw;have hg:a3.grownBy g4 (some go10):=(by rw [hw];exact HP12.2);have hp_:Kd.S k34 34 g4 w.heap.size (fun _=>True) (.slice (some ⟨go10,0,none⟩) a2.length e6) y455:=(by rw [hw,Ny455.out];exact HP12.1);clear HP12;have b2:=zzm (hp_);have b3:=zzm ((by rw [hw];exact zzd (zzd (zzd (zzd (zzd (zzd (HB.out) GB10.out) GB10.out) GB10.out) GB10.out) GB10.out) GB10.out:Below w.heap.size w g4));clear a1 HB d2 d3;have a1:=b2;have HB:=b3;clear b2 b3 hg hw hp_));go_roundg k1
        case measure=>have:=HK1.out;omega
        case rel=>exact ⟨(y455),(wrap64 (a0+1)),(by first|rfl|(simp;done)|(simp [*];done)),H',⟨by have:=HK1.out;omega⟩,⟨by (with_reducible repeat (first|apply Kd.S_alloc|apply Kd.S_drewN|apply Kd.S_drew));exact a1.out⟩,⟨zzh1⟩⟩
       ·
        rw [if_neg c9] at H;exact absurd H (by simp)
      ·
       rw [if_neg c7] at H;exact absurd H (by simp)
     ·
      rw [if_neg c6] at H;have h7:decide (a0 < (l0.length:Int))=false:=decide_eq_false c6;clear c6;obtain rfl:=Option.some.inj H;go_wp2;go_ret;exact ⟨_,zzR,by (with_reducible repeat (first|apply Kd.S_alloc|apply Kd.S_drewN|apply Kd.S_drew));exact a1.out,zzh1⟩
  ·
   rw [if_neg c3] at H;exact absurd H (by simp)
 ·
  rw [if_neg c2] at H;exact absurd H (by simp)
def Rt.f (k:Nat) (a0_0:Bool) (a0_1:Bool) (a0_2:Int) (a0_3:Int) (a0_4:Int) (l0_5:List (S120)):Option (Bool×Bool×Int×Int×Int×(List (S34))):=(Qs.f k l0_5).bind fun t459=>(some (a0_0,a0_1,a0_2,a0_3,a0_4,t459))
set_option maxHeartbeats 8000000 in
theorem Rt.calls (k:Nat) (a0:Bool) (a2:Bool) (a3:Int) (a5:Int) (a9:Int) (b2:Option Addr) (b3:Nat) (a8:List (S120)) (r1:Bool) (r2:Bool) (r3:Int) (r4:Int) (r5:Int) (r6:List (S34)) (w:World) (d0:Kd.C k120 w b2 a8.length a8) (d1:a8.length≤b3) (h:Rt.f k a0 a2 a3 a5 a9 a8=some (r1,r2,r3,r4,r5,r6)) :
  Calls Try.prog 74 #[.agg #[.bool a0,.bool a2,.int .i64 a3,.int .i64 a5,.int .i64 a9,.slice b2 a8.length b3]] w fun e w'=>∃ d5:Value,e = .returned (.agg #[.bool r1,.bool r2,.int .i64 r3,.int .i64 r4,.int .i64 r5,d5])∧Kd.S k34 34 w' w.heap.size (fun _=>True) d5 r6∧Below w.heap.size w w':=by
 have hu83:=Try.underlying83;have hu27:=Try.underlying27;have d3:=zzm d0;have d4:=zzm d1;clear d0 d1;have HB:=zzm (Below.refl w.heap.size w);have H:((Qs.f k a8).bind fun c0=>(some (a0,a2,a3,a5,a9,c0)))=some (r1,r2,r3,r4,r5,r6):=h;clear h;obtain ⟨c0,A2,H⟩:=zzG H;simp only [Option.some.injEq,Prod.mk.injEq] at H;obtain ⟨rfl,rfl,rfl,rfl,rfl,rfl⟩:=H;go_enter Try.func74,Try.ntmps74;go_wp2_with (first|((with_reducible refine gate_dst (N:=1) rfl ?_);refine box_event ?hg (N:=1) ?hd (cs:=#[.bool a0,.bool a2,.int .i64 a3,.int .i64 a5,.int .i64 a9,.slice b2 a8.length b3]) (t:=83) ?hr ?_;(case hd=>rfl);(case hg=>rfl);(case hr=>first|(go_simp;done)|(go_simp;rfl));intro a7 hg w3 hbox hb;have b5:=zzm (zzp zzh1 hb);have b6:=zzm (hbox);have b7:=zzm ((by rw [hg];exact (zzo zzh1):w.heap.size≤a7));have b8:=zzm ((by rw [hg];exact (zzo zzh1):w.heap.size≤a7));clear HB;have HB:=b5;have a4:=b6;have l2:=b7;have l3:=b8;clear b5 b6 b7 b8 hb hbox hg)|((with_reducible refine gate_dst (N:=2) rfl ?_);refine box_event ?hg (N:=2) ?hd (cs:=#[.bool false,.bool false,.int .i64 0,.int .i64 0,.int .i64 0,.slice none 0 0]) (t:=27) ?hr ?_;(case hd=>rfl);(case hg=>rfl);(case hr=>first|(go_simp;done)|(go_simp;rfl));intro a1 hg w4 hbox hb;have b5:=zzm (zzh (g:=a7) (o:=.cells #[.bool a0,.bool a2,.int .i64 a3,.int .i64 a5,.int .i64 a9,.slice b2 a8.length b3] 83 (0,0)) (zzE a4.out) hb);have b6:=zzm (zzp zzh2 hb);have b7:=zzm (hbox);have b8:=zzm ((by rw [hg];exact (zzo zzh2):w.heap.size≤a1));have c1:=zzm ((by rw [hg];exact (zzo zzh2):w.heap.size≤a1));have c2:=zzm ((by rw [hg];exact Nat.ne_of_lt (blk_lt (g:=a7) (o:=.cells #[.bool a0,.bool a2,.int .i64 a3,.int .i64 a5,.int .i64 a9,.slice b2 a8.length b3] 83 (0,0)) (zzE a4.out)):a7≠a1));have c3:=zzm ((by rw [hg];exact Nat.ne_of_gt (blk_lt (g:=a7) (o:=.cells #[.bool a0,.bool a2,.int .i64 a3,.int .i64 a5,.int .i64 a9,.slice b2 a8.length b3] 83 (0,0)) (zzE a4.out)):a1≠a7));clear a4 HB;have a4:=b5;have HB:=b6;have b1:=b7;have l4:=b8;have l5:=c1;have c4:=c2;have c5:=c3;clear b5 b6 b7 b8 c1 c2 c3 hb hbox hg)|((with_reducible refine gate_dst (N:=3) rfl ?_);refine box_event ?hg (N:=3) ?hd (cs:=#[.bool false,.bool false,.int .i64 0,.int .i64 0,.int .i64 0,.slice none 0 0]) (t:=27) ?hr ?_;(case hd=>rfl);(case hg=>rfl);(case hr=>first|(go_simp;done)|(go_simp;rfl));intro b4 hg w5 hbox hb;have b5:=zzm (zzh (g:=a7) (o:=.cells #[.bool a0,.bool a2,.int .i64 a3,.int .i64 a5,.int .i64 a9,.slice b2 a8.length b3] 83 (0,0)) (zzE a4.out) hb);have b6:=zzm (zzh (g:=a1) (o:=.cells #[.bool false,.bool false,.int .i64 0,.int .i64 0,.int .i64 0,.slice none 0 0] 27 (0,0)) (zzE b1.out) hb);have b7:=zzm (zzp zzh2 hb);have b8:=zzm (hbox);have c1:=zzm ((by rw [hg];exact (zzo zzh2):w.heap.size≤b4));have c2:=zzm ((by rw [hg];exact (zzo zzh2):w.heap.size≤b4));have c3:=zzm ((by rw [hg];exact Nat.ne_of_lt (blk_lt (g:=a7) (o:=.cells #[.bool a0,.bool a2,.int .i64 a3,.int .i64 a5,.int .i64 a9,.slice b2 a8.length b3] 83 (0,0)) (zzE a4.out)):a7≠b4));have d6:=zzm ((by rw [hg];exact Nat.ne_of_gt (blk_lt (g:=a7) (o:=.cells #[.bool a0,.bool a2,.int .i64 a3,.int .i64 a5,.int .i64 a9,.slice b2 a8.length b3] 83 (0,0)) (zzE a4.out)):b4≠a7));have d7:=zzm ((by rw [hg];exact Nat.ne_of_lt (blk_lt (g:=a1) (o:=.cells #[.bool false,.bool false,.int .i64 0,.int .i64 0,.int .i64 0,.slice none 0 0] 27 (0,0)) (zzE b1.out)):a1≠b4));have d8:=zzm ((by rw [hg];exact Nat.ne_of_gt (blk_lt (g:=a1) (o:=.cells #[.bool false,.bool false,.int .i64 0,.int .i64 0,.int .i64 0,.slice none 0 0] 27 (0,0)) (zzE b1.out)):b4≠a1));clear a4 b1 HB;have a4:=b5;have b1:=b6;have HB:=b7;have b9:=b8;have l6:=c1;have l7:=c2;have b0:=c3;have c6:=d6;have a6:=d7;have c7:=d8;clear b5 b6 b7 b8 c1 c2 c3 d6 d7 d8 hb hbox hg;have l8:=c4.out;have l9:=c5.out;have m0:=b0.out;have m1:=c6.out;obtain ⟨j8,j9,k0,k1,k2,k3,k4,k5,k6,k7,k8,k9⟩:=zzc6 a4.out;have m2:=c7.out;have m3:=a6.out;obtain ⟨d9,e0,e1,e2,e3,e4,e5,e6,e7,e8,e9,g0⟩:=zzc6 b9.out)|((with_reducible refine gate_callee (f:=95) rfl ?_);refine goesL_ (some 21) rfl rfl Try.func95 (by kernel_rfl) rfl #[.slice b2 a8.length b3] rfl zzM2 ?_;(with_reducible refine (Qs.calls k _ _ a8 c0 _ ?side1 ?side2 A2.out).mono ?_);(case side1=>exact Kd.C_below d3.out zzh2);(case side2=>exact d4.out);rintro e m5 ⟨m4,rfl,ho0,hb⟩;refine ⟨_,rfl,?_⟩;have b5:=zzm (Kd.S_lower ho0 (zzo zzh2));have b6:=zzm (zzh (g:=a7) (o:=.cells #[.bool a0,.bool a2,.int .i64 a3,.int .i64 a5,.int .i64 a9,.slice b2 a8.length b3] 83 (0,0)) (by (with_reducible repeat (first|apply zzf|apply zzg|apply zze));refine zzj ?_ b0.out _;(with_reducible repeat (first|apply zzf|apply zzg|apply zze));refine zzj ?_ b0.out _;(with_reducible repeat (first|apply zzf|apply zzg|apply zze));refine zzj ?_ b0.out _;(with_reducible repeat (first|apply zzf|apply zzg|apply zze));refine zzj ?_ b0.out _;(with_reducible repeat (first|apply zzf|apply zzg|apply zze));refine zzj ?_ b0.out _;(with_reducible repeat (first|apply zzf|apply zzg|apply zze));exact a4.out) hb);have b7:=zzm (zzh (g:=a1) (o:=.cells #[.bool false,.bool false,.int .i64 0,.int .i64 0,.int .i64 0,.slice none 0 0] 27 (0,0)) (by (with_reducible repeat (first|apply zzf|apply zzg|apply zze));refine zzj ?_ a6.out _;(with_reducible repeat (first|apply zzf|apply zzg|apply zze));refine zzj ?_ a6.out _;(with_reducible repeat (first|apply zzf|apply zzg|apply zze));refine zzj ?_ a6.out _;(with_reducible repeat (first|apply zzf|apply zzg|apply zze));refine zzj ?_ a6.out _;(with_reducible repeat (first|apply zzf|apply zzg|apply zze));refine zzj ?_ a6.out _;(with_reducible repeat (first|apply zzf|apply zzg|apply zze));exact b1.out) hb);have b8:=zzm (zzh (g:=b4) (o:=.cells #[.bool a0,.bool a2,.int .i64 a3,.int .i64 a5,.int .i64 a9,.slice none 0 0] 27 (0,0)) (by (with_reducible repeat (first|apply zzf|apply zzg|apply zze));refine zzi (cs:=#[.bool a0,.bool a2,.int .i64 a3,.int .i64 a5,.int .i64 0,.slice none 0 0]) ?_ 4 _ rfl;refine zzi (cs:=#[.bool a0,.bool a2,.int .i64 a3,.int .i64 0,.int .i64 0,.slice none 0 0]) ?_ 3 _ rfl;refine zzi (cs:=#[.bool a0,.bool a2,.int .i64 0,.int .i64 0,.int .i64 0,.slice none 0 0]) ?_ 2 _ rfl;refine zzi (cs:=#[.bool a0,.bool false,.int .i64 0,.int .i64 0,.int .i64 0,.slice none 0 0]) ?_ 1 _ rfl;refine zzi (cs:=#[.bool false,.bool false,.int .i64 0,.int .i64 0,.int .i64 0,.slice none 0 0]) ?_ 0 _ rfl;(with_reducible repeat (first|apply zzf|apply zzg|apply zze));exact b9.out) hb);have c1:=zzm (zzp zzh2 hb);clear a4 b1 b9 HB;have d2:=b5;have a4:=b6;have b1:=b7;have b9:=b8;have HB:=c1;clear b5 b6 b7 b8 c1;(try clear hb);(try clear hb2);(try clear hk);(try clear hi);(try clear ho0);obtain ⟨c8,c9,eo12⟩:=Kd.S_slice d2.out;subst eo12;obtain ⟨g1,g2,g3,g4,g5,g6,g7,g8,g9,h0,h1,h2⟩:=zzc6 b9.out;obtain ⟨h3,h4,h5,h6,h7,h8,h9,j3,j4,j5,j6,j7⟩:=zzc6 b1.out));refine bodyPost_ret (results_cell_row rfl _ _ a1 27 #[.bool a0,.bool a2,.int .i64 a3,.int .i64 a5,.int .i64 a9,.slice c8 c0.length c9] (0,0) _ rfl (by (with_reducible repeat (first|apply zzf|apply zzg|apply zze));refine zzi (cs:=#[.bool a0,.bool a2,.int .i64 a3,.int .i64 a5,.int .i64 a9,.slice none 0 0]) ?_ 5 _ rfl;refine zzi (cs:=#[.bool a0,.bool a2,.int .i64 a3,.int .i64 a5,.int .i64 0,.slice none 0 0]) ?_ 4 _ rfl;refine zzi (cs:=#[.bool a0,.bool a2,.int .i64 a3,.int .i64 0,.int .i64 0,.slice none 0 0]) ?_ 3 _ rfl;refine zzi (cs:=#[.bool a0,.bool a2,.int .i64 0,.int .i64 0,.int .i64 0,.slice none 0 0]) ?_ 2 _ rfl;refine zzi (cs:=#[.bool a0,.bool false,.int .i64 0,.int .i64 0,.int .i64 0,.slice none 0 0]) ?_ 1 _ rfl;refine zzi (cs:=#[.bool false,.bool false,.int .i64 0,.int .i64 0,.int .i64 0,.slice none 0 0]) ?_ 0 _ rfl;(with_reducible repeat (first|apply zzf|apply zzg|apply zze));refine zzj ?_ a6.out _;(with_reducible repeat (first|apply zzf|apply zzg|apply zze));exact b1.out) Try.underlying27 rfl (by kernel_rfl)) rfl ?_;exact ⟨_,zzR,by (with_reducible repeat (first|apply Kd.S_alloc|apply Kd.S_drewN|apply Kd.S_drew));exact Kd.S_mono (Kd.S_far (p:=⟨a1,5,none⟩) (Kd.S_far (p:=⟨a1,4,none⟩) (Kd.S_far (p:=⟨a1,3,none⟩) (Kd.S_far (p:=⟨a1,2,none⟩) (Kd.S_far (p:=⟨a1,1,none⟩) (Kd.S_far (p:=⟨a1,0,none⟩) (Kd.S_far (p:=⟨b4,5,none⟩) (Kd.S_types (Kd.S_types d2.out b9.out (by decide)) b1.out (by decide)) (fun _ hk=>hk.1.2) (.slice c8 c0.length c9)) (fun _ hk=>hk.2) (.bool a0)) (fun _ hk=>hk.2) (.bool a2)) (fun _ hk=>hk.2) (.int .i64 a3)) (fun _ hk=>hk.2) (.int .i64 a5)) (fun _ hk=>hk.2) (.int .i64 a9)) (fun _ hk=>hk.2) (.slice c8 c0.length c9)) (fun _ hk=>trivial),zzh3⟩

set_option linter.unusedVariables false
set_option linter.unusedSimpArgs false
def Qh.l0:Nat→List (S83)→List (S27)→Int→Option ((List (S27)))
 | 0,_,_,_=>none
 | k+1,x0,x3,x4=>if x4 < (x0.length:Int) then (if 0≤x4 then ((Rt.f k ((Qt x0 x4).f0) ((Qt x0 x4).f1) ((Qt x0 x4).f2) ((Qt x0 x4).f3) ((Qt x0 x4).f4) ((Qt x0 x4).f5)).bind fun bt466=>(if x4 < (x3.length:Int) then (Qh.l0 k x0 (x3.set (x4:Int).toNat (⟨bt466.1,bt466.2.1,bt466.2.2.1,bt466.2.2.2.1,bt466.2.2.2.2.1,bt466.2.2.2.2.2⟩:S27)) (wrap64 (x4+1))) else (none))) else (none)) else (some x3)
def Qh.f (k:Nat) (l0:List (S83)):Option ((List (S27))):=if 0≤(l0.length:Int) then (if ((l0.length:Int):Int).toNat≤5026338869833 then (Qh.l0 k l0 (List.replicate ((l0.length:Int):Int).toNat z27) 0) else (none)) else (none)
set_option maxHeartbeats 8000000 in
theorem Qh.calls (k:Nat) (A0:Option Addr) (c0:Nat) (l0:List (S83)) (r:List (S27)) (w:World) (e9:Kd.C k83 w A0 l0.length l0) (g0:l0.length≤c0) (h:Qh.f k l0=some r) :
  Calls Try.prog 40 #[.slice A0 l0.length c0] w fun e w'=>∃ g1:Value,e = .returned (g1)∧Kd.R k27 27 w' w.heap.size (fun _=>True) g1 r∧Below w.heap.size w w':=by
 have hu83:=Try.underlying83;have hu27:=Try.underlying27;have h1:=zzm e9;have j8:=zzm g0;clear e9 g0;have HB:=zzm (Below.refl w.heap.size w);have H:(if 0≤(l0.length:Int) then (if ((l0.length:Int):Int).toNat≤5026338869833 then (Qh.l0 k l0 (List.replicate ((l0.length:Int):Int).toNat z27) 0) else (none)) else (none))=some r:=h;clear h;by_cases c2 : 0≤(l0.length:Int)
 ·
  rw [if_pos c2] at H;have g4:=eq_true c2;have g5:decide (0≤(l0.length:Int))=true:=decide_eq_true c2;clear c2;by_cases c3:((l0.length:Int):Int).toNat≤5026338869833
  ·
   rw [if_pos c3] at H;have g6:=eq_true c3;have g7:decide (((l0.length:Int):Int).toNat≤5026338869833)=true:=decide_eq_true c3;clear c3;obtain ⟨y462,hy462⟩:∃ y_:List (S27),y_=(List.replicate ((l0.length:Int):Int).toNat z27):=⟨_,rfl⟩;replace H:(Qh.l0 k l0 y462 0)=some r:=by first|(rw [hy462];with_reducible exact H)|(have H2_:=(Option.bind_some _ _).symm.trans H;rw [hy462];with_reducible exact H2_)|(have H2_:=(Option.bind_some _ _).symm.trans H;with_reducible exact H2_)|with_reducible exact H|(rw [hy462];exact H)|exact H
   have Ny462:=zzm hy462;clear hy462;have H':=zzm H;clear H;go_enter Try.func40,Try.ntmps40;go_wp2_with (first|((with_reducible refine gate_dst (N:=7) rfl ?_);refine Kd.R_make k27 _ 27 rfl (N:=7) rfl 39 _ _ rfl (l0.length:Int) rfl rfl Try.underlying39 (.agg #[(.bool false),(.bool false),(.int .i64 0),(.int .i64 0),(.int .i64 0),(.slice none 0 0)]) 56 info27 rfl (by decide) (by omega) z27 (ok:=fun _=>True) (okp:=fun _=>True) (k27_mkM _ _ _ z27 (Kd.R_nil _ _ _ _ _)) (fun _ hk=>hk) trivial (zzt) (Nat.le_trans (Nat.mul_le_mul_right _ (zzt:(l0.length:Int).toNat≤5026338869833)) (by omega)) (Below.refl _ _) (Nat.le_refl _) ?_;intro g8 w4 ho5 hb hg_ hnew_;clear hg_ hnew_;(first|rw [← Ny462.out] at ho5|(simp only [Int.reduceToNat] at ho5;rw [← Ny462.out] at ho5));have b1:=zzm (Kd.R_lower ho5 (zzo zzh1));have b2:=zzm (zzp zzh1 hb);clear HB;have e8:=b1;have HB:=b2;clear b1 b2 hb ho5));go_loopg [4] k (fun kq v4 w'=>∃ (a1:List (S27)) (a0:Int),v4 = .int .i64 a0∧Aside0 (Qh.l0 kq l0 a1 a0=some r)∧Aside0 (kq≤k)∧Aside0 (Kd.R k27 27 w' w.heap.size (fun _=>True) g8 a1)∧Aside0 (Below w.heap.size w w'))
   case atStart=>exact ⟨(y462),(0),(by first|rfl|(simp;done)|(simp [*];done)),H',⟨Nat.le_refl _⟩,⟨by (with_reducible repeat (first|apply Kd.R_alloc|apply Kd.R_drewN|apply Kd.R_drew));exact e8.out⟩,⟨zzh1⟩⟩
   case round=>
    clear H';try clear c2
    try clear g4
    try clear g5
    try clear p2
    try clear c3
    try clear g6
    try clear g7
    try clear c4
    obtain ⟨a1,a0,rfl,HA,HK1,a2,HB⟩:=hrel;cases gk with
    | zero=>exact absurd HA.out (by simp [Qh.l0])
    | succ k1=>
     have H:=HA.out;clear HA;simp only [Qh.l0] at H;by_cases c6:a0 < (l0.length:Int)
     ·
      rw [if_pos c6] at H;have g9:decide (a0 < (l0.length:Int))=true:=decide_eq_true c6;clear c6;by_cases c7 : 0≤a0
      ·
       rw [if_pos c7] at H;have j4:decide (0≤a0)=true:=decide_eq_true c7;clear c7;replace H:=zzH H;obtain ⟨⟨a6,a7,a8,a9,b0,b3⟩,g2,H⟩:=H;replace H:(if a0 < (a1.length:Int) then (Qh.l0 k1 l0 (a1.set (a0:Int).toNat (⟨a6,a7,a8,a9,b0,b3⟩:S27)) (wrap64 (a0+1))) else (none))=some r:=H;have A8:=zzm g2;clear g2;by_cases c9:a0 < (a1.length:Int)
       ·
        rw [if_pos c9] at H;have j5:decide (a0 < (a1.length:Int))=true:=decide_eq_true c9;clear c9;obtain ⟨y474,hy474⟩:∃ y_:List (S27),y_=(a1.set (a0:Int).toNat (⟨a6,a7,a8,a9,b0,b3⟩:S27)):=⟨_,rfl⟩;replace H:(Qh.l0 k1 l0 y474 (wrap64 (a0+1)))=some r:=by first|(rw [hy474];with_reducible exact H)|(have H2_:=(Option.bind_some _ _).symm.trans H;rw [hy474];with_reducible exact H2_)|(have H2_:=(Option.bind_some _ _).symm.trans H;with_reducible exact H2_)|with_reducible exact H|(rw [hy474];exact H)|exact H
        have Ny474:=zzm hy474;clear hy474;have H':=zzm H;clear H;have d0 : 0≤(a0:Int):=zzt;have d1:a0 < (l0.length:Int):=zzt;obtain ⟨j3,d5,d6,h0,b5,b6,b7,b8,b9,c1,c5,c8⟩:=at_T83 h1.out a0 d0 d1;cases h0;replace b5:=zzx HB.out b5;replace b6:=zzx HB.out b6;replace b7:=zzx HB.out b7;replace b8:=zzx HB.out b8;replace b9:=zzx HB.out b9;replace c1:=zzx HB.out c1;have d3:=zzm c8;have d4:=zzm c5;clear c8 c5;replace d0:=eq_true d0;replace d1:=eq_true d1;go_wp2_with (first|((with_reducible refine gate_callee (f:=74) rfl ?_);refine goesL_ (some 20) rfl rfl Try.func74 (by kernel_rfl) rfl #[.agg #[.bool ((Qt l0 a0).f0),.bool ((Qt l0 a0).f1),.int .i64 ((Qt l0 a0).f2),.int .i64 ((Qt l0 a0).f3),.int .i64 ((Qt l0 a0).f4),.slice d5 ((Qt l0 a0).f5).length d6]] rfl zzM2 ?_;(with_reducible refine (Rt.calls k1 ((Qt l0 a0).f0) ((Qt l0 a0).f1) ((Qt l0 a0).f2) ((Qt l0 a0).f3) ((Qt l0 a0).f4) _ _ ((Qt l0 a0).f5) a6 a7 a8 a9 b0 b3 _ ?side1 ?side2 A8.out).mono ?_);(case side1=>exact zzcb d3 HB);(case side2=>exact d4.out);rintro e a3 ⟨b4,rfl,ho0,hb⟩;have os_v472:∀ (W_:World) (a_:Addr) (m_:Mode),(store a_ b4 m_).run Try.prog W_=stored Try.prog W_ a_ b4 m_:=fun W_ a_ m_=>run_store _ _ _ _ _ (by first|(obtain ⟨_,_,e_⟩:=Kd.R_slice ho0;rw [e_];rfl)|(obtain ⟨_,_,e_⟩:=Kd.S_slice ho0;rw [e_];rfl));refine ⟨_,rfl,?_⟩;have b1:=zzm (Kd.R_elder' (by (with_reducible repeat (first|apply Kd.R_alloc|apply Kd.R_drewN|apply Kd.R_drew));exact a2.out) (Kd.S_base ho0) hb);have b2:=zzm (Kd.S_lower ho0 (zzo zzh1));have g3:=zzm (zzp zzh1 hb);clear a2 HB;have a2:=b1;have d2:=b2;have HB:=g3;clear b1 b2 g3;(try clear hb);(try clear hb2);(try clear hk);(try clear hi);(try clear ho0);have d7 : 0≤(a0:Int):=zzt;have d8:(a0:Int) < ((a1.length:Int):Int):=zzt;obtain ⟨go10,d9,eo10,e0,gl10,cl10,HG10⟩:=Kd.R_form a2.out (by omega);(first|cases eo10|(injection eo10 with ea_ en_ ec_;(first|subst ea_|(injection ea_ with ea_;subst ea_));subst ec_;clear en_));have GB10:=zzm e0;have GG10:=zzm HG10;clear e0 gl10 HG10;obtain ⟨j6,hcl10,hM10,a5,hfr10⟩:=Kd.R_elem a2.out z27 (a0:Int) d7 d8;obtain ⟨ve10_5,rfl,h2⟩:=k27_openM hM10;have h3:a3.cell? ⟨go10,(a0:Int).toNat * 6,none⟩=some (.bool ((Qa a1 a0).f0)):=a5 0 _ rfl;have h4:a3.cell? ⟨go10,(a0:Int).toNat * 6+1,none⟩=some (.bool ((Qa a1 a0).f1)):=a5 1 _ rfl;have h5:a3.cell? ⟨go10,(a0:Int).toNat * 6+2,none⟩=some (.int .i64 ((Qa a1 a0).f2)):=a5 2 _ rfl;have h6:a3.cell? ⟨go10,(a0:Int).toNat * 6+3,none⟩=some (.int .i64 ((Qa a1 a0).f3)):=a5 3 _ rfl;have h7:a3.cell? ⟨go10,(a0:Int).toNat * 6+4,none⟩=some (.int .i64 ((Qa a1 a0).f4)):=a5 4 _ rfl;have h8:a3.cell? ⟨go10,(a0:Int).toNat * 6+5,none⟩=some (ve10_5):=a5 5 _ rfl;have hf10_0:a3.frozen? ⟨go10,(a0:Int).toNat * 6,none⟩=false:=hfr10 0;have hf10_1:a3.frozen? ⟨go10,(a0:Int).toNat * 6+1,none⟩=false:=hfr10 1;have hf10_2:a3.frozen? ⟨go10,(a0:Int).toNat * 6+2,none⟩=false:=hfr10 2;have hf10_3:a3.frozen? ⟨go10,(a0:Int).toNat * 6+3,none⟩=false:=hfr10 3;have hf10_4:a3.frozen? ⟨go10,(a0:Int).toNat * 6+4,none⟩=false:=hfr10 4;have hf10_5:a3.frozen? ⟨go10,(a0:Int).toNat * 6+5,none⟩=false:=hfr10 5;clear hcl10 a5 hfr10 hM10;replace d7:=eq_true d7;replace d8:=eq_true d8;have n_:=zzm (Kd.R_mono (ok':=(fun k_=>some k_≠(b4:Value).ownBlock)) a2.out (fun k_ hk=>hk.2));clear a2;have a2:=n_;clear n_;have HX12:=zzm (show Kd.R k27 27 a3 w.heap.size (fun _=>True) (.slice (some ⟨go10,0,none⟩) a1.length d9) a1 from (by (with_reducible repeat (first|apply Kd.R_alloc|apply Kd.R_drewN|apply Kd.R_drew));exact Kd.R_mono a2.out (fun _ hk=>trivial)));obtain ⟨j7,hcl12,hM12,a4,hfr12⟩:=Kd.R_elem HX12.out z27 (a0:Int) (zzt) (by have h_:(a0:Int) < ((a1.length:Int):Int):=zzt;first|exact h_|(have e_:=(Kd.R_reads' a2.out).1;omega)|simpa using h_);obtain ⟨ve12_5,rfl,h9⟩:=k27_openM hM12;have HP12:=Kd.R_seg HX12.out (a0:Int) (zzt) (by have h_:(a0:Int) < ((a1.length:Int):Int):=zzt;first|exact h_|(have e_:=(Kd.R_reads' a2.out).1;omega)|simpa using h_) (seg:=[.bool a6,.bool a7,.int .i64 a8,.int .i64 a9,.int .i64 b0,b4]) (j:=0) hcl12 a4 (show 6≤6 from by decide) (x':=(⟨a6,a7,a8,a9,b0,b3⟩:S27)) (k27_mkM _ _ _ (⟨a6,a7,a8,a9,b0,b3⟩:S27) (Kd.R_mono (Kd.R_apart' ((Kd.S_R d2.out)) (Kd.R_typed a2.out) (by decide)) (fun k_ hk=>⟨trivial,fun e_=>(hk.2) (by rw [e_];rfl)⟩))) (fun _ hk=>hk);have e1:=a4 0 _ rfl;(try simp only [show (k27).sz=6 from rfl,Nat.mul_one,Nat.add_zero] at e1);have hf12_0:=hfr12 0;(try simp only [show (k27).sz=6 from rfl,Nat.mul_one,Nat.add_zero] at hf12_0);have e2:=a4 1 _ rfl;(try simp only [show (k27).sz=6 from rfl,Nat.mul_one,Nat.add_zero] at e2);have hf12_1:=hfr12 1;(try simp only [show (k27).sz=6 from rfl,Nat.mul_one,Nat.add_zero] at hf12_1);have e3:=a4 2 _ rfl;(try simp only [show (k27).sz=6 from rfl,Nat.mul_one,Nat.add_zero] at e3);have hf12_2:=hfr12 2;(try simp only [show (k27).sz=6 from rfl,Nat.mul_one,Nat.add_zero] at hf12_2);have e4:=a4 3 _ rfl;(try simp only [show (k27).sz=6 from rfl,Nat.mul_one,Nat.add_zero] at e4);have hf12_3:=hfr12 3;(try simp only [show (k27).sz=6 from rfl,Nat.mul_one,Nat.add_zero] at hf12_3);have e5:=a4 4 _ rfl;(try simp only [show (k27).sz=6 from rfl,Nat.mul_one,Nat.add_zero] at e5);have hf12_4:=hfr12 4;(try simp only [show (k27).sz=6 from rfl,Nat.mul_one,Nat.add_zero] at hf12_4);have e6:=a4 5 _ rfl;(try simp only [show (k27).sz=6 from rfl,Nat.mul_one,Nat.add_zero] at e6);have hf12_5:=hfr12 5;(try simp only [show (k27).sz=6 from rfl,Nat.mul_one,Nat.add_zero] at hf12_5);clear hcl12 a4 hfr12 hM12)|((with_reducible refine gate_store (t:=27) (p:=21) rfl ?_);refine store_event (t:=27) (p:=21) (v:=?vo_w13) (w1:=((((((a3.setCell ⟨go10,(a0:Int).toNat * 6,none⟩ (.bool a6)).setCell ⟨go10,(a0:Int).toNat * 6+1,none⟩ (.bool a7)).setCell ⟨go10,(a0:Int).toNat * 6+2,none⟩ (.int .i64 a8)).setCell ⟨go10,(a0:Int).toNat * 6+3,none⟩ (.int .i64 a9)).setCell ⟨go10,(a0:Int).toNat * 6+4,none⟩ (.int .i64 b0)).setCell ⟨go10,(a0:Int).toNat * 6+5,none⟩ (b4))) ?hg ?ho ?hn ?hr ?_;(case ho=>rfl);(case hg=>rfl);(case hn=>rfl);(case hr=>first|(go_simp;done)|(go_simp;rfl));intro e7 hw;have hg:a3.grownBy e7 (some go10):=(by rw [hw];exact HP12.2);have hp_:Kd.R k27 27 e7 w.heap.size (fun _=>True) (.slice (some ⟨go10,0,none⟩) a1.length d9) y474:=(by rw [hw,Ny474.out];exact HP12.1);clear HP12;have b1:=zzm (hp_);have b2:=zzm ((by rw [hw];exact zzd (zzd (zzd (zzd (zzd (zzd (HB.out) GB10.out) GB10.out) GB10.out) GB10.out) GB10.out) GB10.out:Below w.heap.size w e7));clear a2 HB d2;have a2:=b1;have HB:=b2;clear b1 b2 hg hw hp_));go_roundg k1
        case measure=>have:=HK1.out;omega
        case rel=>exact ⟨(y474),(wrap64 (a0+1)),(by first|rfl|(simp;done)|(simp [*];done)),H',⟨by have:=HK1.out;omega⟩,⟨by (with_reducible repeat (first|apply Kd.R_alloc|apply Kd.R_drewN|apply Kd.R_drew));exact a2.out⟩,⟨zzh1⟩⟩
       ·
        rw [if_neg c9] at H;exact absurd H (by simp)
      ·
       rw [if_neg c7] at H;exact absurd H (by simp)
     ·
      rw [if_neg c6] at H;have g9:decide (a0 < (l0.length:Int))=false:=decide_eq_false c6;clear c6;obtain rfl:=Option.some.inj H;go_wp2;go_ret;exact ⟨_,zzR,by (with_reducible repeat (first|apply Kd.R_alloc|apply Kd.R_drewN|apply Kd.R_drew));exact a2.out,zzh1⟩
  ·
   rw [if_neg c3] at H;exact absurd H (by simp)
 ·
  rw [if_neg c2] at H;exact absurd H (by simp)

set_option linter.unusedVariables false
set_option linter.unusedSimpArgs false
def Qy.l0:Nat→List Int→List Int→Int→Option (Bool)
 | 0,_,_,_=>none
 | k+1,x0,x1,x5=>if x5 < (x0.length:Int) then (if 0≤x5 then (if x5 < (x1.length:Int) then (if (rd x0 x5)=(rd x1 x5) then (Qy.l0 k x0 x1 (wrap64 (x5+1))) else (some false)) else (none)) else (none)) else (some true)
def Qy.f (k:Nat) (l0:List Int) (l1:List Int):Option (Bool):=if (l0.length:Int)=(l1.length:Int) then (Qy.l0 k l0 l1 0) else (some false)
set_option maxHeartbeats 8000000 in
theorem Qy.calls (k:Nat) (A0:Option Addr) (c0:Nat) (l0:List Int) (A1:Option Addr) (c1:Nat) (l1:List Int) (r:Bool) (w:World) (b4:Kd.C (Kd.int .i64) w A0 l0.length l0) (b5:l0.length≤c0) (b6:Kd.C (Kd.int .i64) w A1 l1.length l1) (b7:l1.length≤c1) (h:Qy.f k l0 l1=some r) :
  Calls Try.prog 98 #[.slice A0 l0.length c0,.slice A1 l1.length c1] w fun e w'=>e = .returned (.bool r)∧Drawn0 w w':=by
 have b8:=zzm b4;have d2:=zzm b5;clear b4 b5;have b9:=zzm b6;have d3:=zzm b7;clear b6 b7;have H:(if (l0.length:Int)=(l1.length:Int) then (Qy.l0 k l0 l1 0) else (some false))=some r:=h;clear h;by_cases c3:(l0.length:Int)=(l1.length:Int)
 ·
  rw [if_pos c3] at H;obtain ⟨a9,b0⟩:=zzQ c3;have b1:(l0.length==l1.length)=true:=by first|simpa using c3|(simp at c3 ⊢;omega)
  clear c3;have H':=zzm H;clear H;go_enter Try.func98,Try.ntmps98;go_wp2;repeat (go_quiet (fail);try go_wp2)
  go_loopg [5] k (fun kq v5 w'=>∃ (a0:Int),v5 = .int .i64 a0∧Aside0 (Qy.l0 kq l0 l1 a0=some r)∧Aside0 (kq≤k)∧Drawn0 w w')
  case atStart=>exact ⟨(0),(by first|rfl|(simp;done)|(simp [*];done)),H',⟨Nat.le_refl _⟩,by repeat (first|exact Drawn0.refl _|apply Drawn0.step)⟩
  case round=>
   clear H';try clear c1
   try clear p2
   try clear c3
   try clear a9
   try clear b0
   try clear b1
   obtain ⟨a0,rfl,HA,HK1,⟨m1,rfl⟩⟩:=hrel;cases gk with
   | zero=>exact absurd HA.out (by simp [Qy.l0])
   | succ k1=>
    have H:=HA.out;clear HA;simp only [Qy.l0] at H;by_cases c4:a0 < (l0.length:Int)
    ·
     rw [if_pos c4] at H;have c2:decide (a0 < (l0.length:Int))=true:=decide_eq_true c4;clear c4;by_cases c5 : 0≤a0
     ·
      rw [if_pos c5] at H;have d0:decide (0≤a0)=true:=decide_eq_true c5;clear c5;by_cases c6:a0 < (l1.length:Int)
      ·
       rw [if_pos c6] at H;have d1:decide (a0 < (l1.length:Int))=true:=decide_eq_true c6;clear c6;by_cases c7:(rd l0 a0)=(rd l1 a0)
       ·
        rw [if_pos c7] at H;obtain ⟨c8,c9⟩:=zzQ c7;clear c7;have H':=zzm H;clear H;have a1 : 0≤(a0:Int):=zzt;have a2:a0 < (l0.length:Int):=zzt;obtain ⟨b2,a5,a7⟩:=Kd.at_int b8.out a0 a1 a2;cases a5;replace a1:=eq_true a1;replace a2:=eq_true a2;have a3 : 0≤(a0:Int):=zzt;have a4:a0 < (l1.length:Int):=zzt;obtain ⟨b3,a6,a8⟩:=Kd.at_int b9.out a0 a3 a4;cases a6;replace a3:=eq_true a3;replace a4:=eq_true a4;go_wp2;repeat (go_quiet (fail);try go_wp2)
        go_roundg k1
        case measure=>have:=HK1.out;omega
        case rel=>exact ⟨(wrap64 (a0+1)),(by first|rfl|(simp;done)|(simp [*];done)),H',⟨by have:=HK1.out;omega⟩,by repeat (first|exact Drawn0.refl _|apply Drawn0.step)⟩
       ·
        rw [if_neg c7] at H;obtain ⟨c8,c9⟩:=zzY c7;obtain rfl:=Option.some.inj H;have a1 : 0≤(a0:Int):=zzt;have a2:a0 < (l0.length:Int):=zzt;obtain ⟨b2,a5,a7⟩:=Kd.at_int b8.out a0 a1 a2;cases a5;replace a1:=eq_true a1;replace a2:=eq_true a2;have a3 : 0≤(a0:Int):=zzt;have a4:a0 < (l1.length:Int):=zzt;obtain ⟨b3,a6,a8⟩:=Kd.at_int b9.out a0 a3 a4;cases a6;replace a3:=eq_true a3;replace a4:=eq_true a4;go_wp2;repeat (go_quiet (fail);try go_wp2)
        go_ret;exact ⟨by first|rfl|(simp;done)|(simp [*];done),by repeat (first|exact Drawn0.refl _|apply Drawn0.step)⟩
      ·
       rw [if_neg c6] at H;exact absurd H (by simp)
     ·
      rw [if_neg c5] at H;exact absurd H (by simp)
    ·
     rw [if_neg c4] at H;have c2:decide (a0 < (l0.length:Int))=false:=decide_eq_false c4;clear c4;obtain rfl:=Option.some.inj H;go_wp2;repeat (go_quiet (fail);try go_wp2)
     go_ret;exact ⟨by first|rfl|(simp;done)|(simp [*];done),by repeat (first|exact Drawn0.refl _|apply Drawn0.step)⟩
 ·
  rw [if_neg c3] at H;obtain ⟨a9,b0⟩:=zzY c3;have b1:(l0.length==l1.length)=false:=by first|simpa using c3|(simp at c3 ⊢;omega)
  obtain rfl:=Option.some.inj H;go_enter Try.func98,Try.ntmps98;go_wp2;repeat (go_quiet (fail);try go_wp2)
  go_ret;exact ⟨by first|rfl|(simp;done)|(simp [*];done),by repeat (first|exact Drawn0.refl _|apply Drawn0.step)⟩

set_option linter.unusedVariables false
set_option linter.unusedSimpArgs false
def Rj.f (k:Nat) (a0_0:Int) (a0_1:Int) (a0_2:Bool) (l0_3:List Int) (a0_4:Bool) (l0_5:List Int) (a1_0:Int) (a1_1:Int) (a1_2:Bool) (l1_3:List Int) (a1_4:Bool) (l1_5:List Int):Option (Bool):=if a0_0=a1_0 then (if a0_1=a1_1 then (if (a0_2 != a1_2)=true then (some false) else ((Qy.f k l0_3 l1_3).bind fun t479=>(if t479=true then (if (a0_4 != a1_4)=true then (some false) else ((Qy.f k l0_5 l1_5).bind fun t480=>(if t480=true then (some true) else (some false)))) else (some false)))) else (some false)) else (some false)
set_option maxHeartbeats 8000000 in
theorem Rj.calls (k:Nat) (a9:Int) (b0:Int) (a4:Bool) (a7:Option Addr) (a8:Nat) (a3:List Int) (a5:Bool) (b1:Option Addr) (b2:Nat) (a6:List Int) (d2:Int) (d3:Int) (c0:Bool) (d0:Option Addr) (d1:Nat) (b9:List Int) (c1:Bool) (d4:Option Addr) (d5:Nat) (c2:List Int) (r:Bool) (w:World) (e7:Kd.C (Kd.int .i64) w a7 a3.length a3) (e8:a3.length≤a8) (e9:Kd.C (Kd.int .i64) w b1 a6.length a6) (g0:a6.length≤b2) (g1:Kd.C (Kd.int .i64) w d0 b9.length b9) (g2:b9.length≤d1) (g3:Kd.C (Kd.int .i64) w d4 c2.length c2) (g4:c2.length≤d5) (h:Rj.f k a9 b0 a4 a3 a5 a6 d2 d3 c0 b9 c1 c2=some r) :
  Calls Try.prog 80 #[.agg #[.int .i64 a9,.int .i64 b0,.bool a4,.slice a7 a3.length a8,.bool a5,.slice b1 a6.length b2],.agg #[.int .i64 d2,.int .i64 d3,.bool c0,.slice d0 b9.length d1,.bool c1,.slice d4 c2.length d5]] w fun e w'=>e = .returned (.bool r)∧Below w.heap.size w w':=by
 have hu34:=Try.underlying34;have e1:=zzm e7;have e2:=zzm e8;clear e7 e8;have g5:=zzm e9;have g6:=zzm g0;clear e9 g0;have e3:=zzm g1;have e4:=zzm g2;clear g1 g2;have g7:=zzm g3;have g8:=zzm g4;clear g3 g4;have HB:=zzm (Below.refl w.heap.size w);have H:(if a9=d2 then (if b0=d3 then (if (a4 != c0)=true then (some false) else ((Qy.f k a3 b9).bind fun e5=>(if e5=true then (if (a5 != c1)=true then (some false) else ((Qy.f k a6 c2).bind fun e6=>(if e6=true then (some true) else (some false)))) else (some false)))) else (some false)) else (some false))=some r:=h;clear h;by_cases c3:a9=d2
 ·
  rw [if_pos c3] at H;obtain ⟨h6,h7⟩:=zzQ c3;clear c3;by_cases c4:b0=d3
  ·
   rw [if_pos c4] at H;obtain ⟨h8,h9⟩:=zzQ c4;clear c4;by_cases c5:(a4 != c0)=true
   ·
    rw [if_pos c5] at H;have j3:(a4 != c0)=true:=c5
    (try (have j4:decide (a4=c0)=false:=by simpa using c5))
    (try (have j5:(a4==c0)=false:=by simpa using c5))
    (try (have D4:¬ (a4=c0):=by simpa using c5));clear c5;obtain rfl:=Option.some.inj H;go_enter Try.func80,Try.ntmps80;go_wp2_with (first|((with_reducible refine gate_dst (N:=2) rfl ?_);refine box_event ?hg (N:=2) ?hd (cs:=#[.int .i64 a9,.int .i64 b0,.bool a4,.slice a7 a3.length a8,.bool a5,.slice b1 a6.length b2]) (t:=34) ?hr ?_;(case hd=>rfl);(case hg=>rfl);(case hr=>first|(go_simp;done)|(go_simp;rfl));intro a0 hg w6 hbox hb;have b3:=zzm (zzp zzh1 hb);have b4:=zzm (hbox);have b5:=zzm ((by rw [hg];exact (zzo zzh1):w.heap.size≤a0));have b6:=zzm ((by rw [hg];exact (zzo zzh1):w.heap.size≤a0));clear HB;have HB:=b3;have a1:=b4;have d7:=b5;have d8:=b6;clear b3 b4 b5 b6 hb hbox hg)|((with_reducible refine gate_dst (N:=3) rfl ?_);refine box_event ?hg (N:=3) ?hd (cs:=#[.int .i64 d2,.int .i64 d3,.bool c0,.slice d0 b9.length d1,.bool c1,.slice d4 c2.length d5]) (t:=34) ?hr ?_;(case hd=>rfl);(case hg=>rfl);(case hr=>first|(go_simp;done)|(go_simp;rfl));intro a2 hg w7 hbox hb;have b3:=zzm (zzh (g:=a0) (o:=.cells #[.int .i64 a9,.int .i64 b0,.bool a4,.slice a7 a3.length a8,.bool a5,.slice b1 a6.length b2] 34 (0,0)) (zzE a1.out) hb);have b4:=zzm (zzp zzh2 hb);have b5:=zzm (hbox);have b6:=zzm ((by rw [hg];exact (zzo zzh2):w.heap.size≤a2));have c7:=zzm ((by rw [hg];exact (zzo zzh2):w.heap.size≤a2));have c8:=zzm ((by rw [hg];exact Nat.ne_of_lt (blk_lt (g:=a0) (o:=.cells #[.int .i64 a9,.int .i64 b0,.bool a4,.slice a7 a3.length a8,.bool a5,.slice b1 a6.length b2] 34 (0,0)) (zzE a1.out)):a0≠a2));have c9:=zzm ((by rw [hg];exact Nat.ne_of_gt (blk_lt (g:=a0) (o:=.cells #[.int .i64 a9,.int .i64 b0,.bool a4,.slice a7 a3.length a8,.bool a5,.slice b1 a6.length b2] 34 (0,0)) (zzE a1.out)):a2≠a0));clear a1 HB;have a1:=b3;have HB:=b4;have c6:=b5;have d9:=b6;have e0:=c7;have b7:=c8;have b8:=c9;clear b3 b4 b5 b6 c7 c8 c9 hb hbox hg;have D5:=b7.out;have D6:=b8.out;obtain ⟨A6,A7,A8,A9,B0,B1,B2,B3,B5,B7,B9,C0⟩:=zzc6 a1.out;obtain ⟨j6,j7,j8,j9,k0,k1,k2,k3,k4,k5,k6,k7⟩:=zzc6 c6.out));go_ret;exact ⟨zzR,zzh3⟩
   ·
    rw [if_neg c5] at H;have j3:(a4 != c0)=false:=by simpa using c5
    (try (have j4:decide (a4=c0)=true:=by simpa using c5))
    (try (have j5:(a4==c0)=true:=by simpa using c5));clear c5;obtain ⟨e5,g9,H⟩:=zzG H;by_cases h0:e5=true
    ·
     subst h0;replace H:=zzIt H;by_cases d6:(a5 != c1)=true
     ·
      rw [if_pos d6] at H;have h2:(a5 != c1)=true:=d6
      (try (have h3:decide (a5=c1)=false:=by simpa using d6))
      (try (have h4:(a5==c1)=false:=by simpa using d6))
      (try (have C1:¬ (a5=c1):=by simpa using d6));clear d6;obtain rfl:=Option.some.inj H;go_enter Try.func80,Try.ntmps80;go_wp2_with (first|((with_reducible refine gate_dst (N:=2) rfl ?_);refine box_event ?hg (N:=2) ?hd (cs:=#[.int .i64 a9,.int .i64 b0,.bool a4,.slice a7 a3.length a8,.bool a5,.slice b1 a6.length b2]) (t:=34) ?hr ?_;(case hd=>rfl);(case hg=>rfl);(case hr=>first|(go_simp;done)|(go_simp;rfl));intro a0 hg D7 hbox hb;have b3:=zzm (zzp zzh1 hb);have b4:=zzm (hbox);have b5:=zzm ((by rw [hg];exact (zzo zzh1):w.heap.size≤a0));have b6:=zzm ((by rw [hg];exact (zzo zzh1):w.heap.size≤a0));clear HB;have HB:=b3;have a1:=b4;have d7:=b5;have d8:=b6;clear b3 b4 b5 b6 hb hbox hg)|((with_reducible refine gate_dst (N:=3) rfl ?_);refine box_event ?hg (N:=3) ?hd (cs:=#[.int .i64 d2,.int .i64 d3,.bool c0,.slice d0 b9.length d1,.bool c1,.slice d4 c2.length d5]) (t:=34) ?hr ?_;(case hd=>rfl);(case hg=>rfl);(case hr=>first|(go_simp;done)|(go_simp;rfl));intro a2 hg D8 hbox hb;have b3:=zzm (zzh (g:=a0) (o:=.cells #[.int .i64 a9,.int .i64 b0,.bool a4,.slice a7 a3.length a8,.bool a5,.slice b1 a6.length b2] 34 (0,0)) (zzE a1.out) hb);have b4:=zzm (zzp zzh2 hb);have b5:=zzm (hbox);have b6:=zzm ((by rw [hg];exact (zzo zzh2):w.heap.size≤a2));have c7:=zzm ((by rw [hg];exact (zzo zzh2):w.heap.size≤a2));have c8:=zzm ((by rw [hg];exact Nat.ne_of_lt (blk_lt (g:=a0) (o:=.cells #[.int .i64 a9,.int .i64 b0,.bool a4,.slice a7 a3.length a8,.bool a5,.slice b1 a6.length b2] 34 (0,0)) (zzE a1.out)):a0≠a2));have c9:=zzm ((by rw [hg];exact Nat.ne_of_gt (blk_lt (g:=a0) (o:=.cells #[.int .i64 a9,.int .i64 b0,.bool a4,.slice a7 a3.length a8,.bool a5,.slice b1 a6.length b2] 34 (0,0)) (zzE a1.out)):a2≠a0));clear a1 HB;have a1:=b3;have HB:=b4;have c6:=b5;have d9:=b6;have e0:=c7;have b7:=c8;have b8:=c9;clear b3 b4 b5 b6 c7 c8 c9 hb hbox hg;have C2:=b7.out;have C3:=b8.out;obtain ⟨k8,k9,l2,l3,l4,l5,l6,l7,l8,l9,m0,m1⟩:=zzc6 a1.out;obtain ⟨m2,m3,m4,m5,m6,m7,m8,m9,n0,n1,n2,n3⟩:=zzc6 c6.out)|((with_reducible refine gate_callee (f:=98) rfl ?_);refine goesL_ (some 24) rfl rfl Try.func98 (by kernel_rfl) rfl #[.slice a7 a3.length a8,.slice d0 b9.length d1] rfl zzM2 ?_;(with_reducible refine (Qy.calls k _ _ a3 _ _ b9 true _ ?side1 ?side2 ?side3 ?side4 g9.out).mono ?_);(case side1=>exact zzcb e1 HB);(case side2=>exact e2.out);(case side3=>exact zzcb e3 HB);(case side4=>exact e4.out);rintro e w' ⟨rfl,⟨nd,rfl⟩⟩;refine ⟨_,rfl,?_⟩));go_ret;exact ⟨zzR,zzh3⟩
     ·
      rw [if_neg d6] at H;have h2:(a5 != c1)=false:=by simpa using d6
      (try (have h3:decide (a5=c1)=true:=by simpa using d6))
      (try (have h4:(a5==c1)=true:=by simpa using d6));clear d6;obtain ⟨e6,h5,H⟩:=zzG H;by_cases h1:e6=true
      ·
       subst h1;replace H:=zzIt H;obtain rfl:=Option.some.inj H;go_enter Try.func80,Try.ntmps80;go_wp2_with (first|((with_reducible refine gate_dst (N:=2) rfl ?_);refine box_event ?hg (N:=2) ?hd (cs:=#[.int .i64 a9,.int .i64 b0,.bool a4,.slice a7 a3.length a8,.bool a5,.slice b1 a6.length b2]) (t:=34) ?hr ?_;(case hd=>rfl);(case hg=>rfl);(case hr=>first|(go_simp;done)|(go_simp;rfl));intro a0 hg D9 hbox hb;have b3:=zzm (zzp zzh1 hb);have b4:=zzm (hbox);have b5:=zzm ((by rw [hg];exact (zzo zzh1):w.heap.size≤a0));have b6:=zzm ((by rw [hg];exact (zzo zzh1):w.heap.size≤a0));clear HB;have HB:=b3;have a1:=b4;have d7:=b5;have d8:=b6;clear b3 b4 b5 b6 hb hbox hg)|((with_reducible refine gate_dst (N:=3) rfl ?_);refine box_event ?hg (N:=3) ?hd (cs:=#[.int .i64 d2,.int .i64 d3,.bool c0,.slice d0 b9.length d1,.bool c1,.slice d4 c2.length d5]) (t:=34) ?hr ?_;(case hd=>rfl);(case hg=>rfl);(case hr=>first|(go_simp;done)|(go_simp;rfl));intro a2 hg E0 hbox hb;have b3:=zzm (zzh (g:=a0) (o:=.cells #[.int .i64 a9,.int .i64 b0,.bool a4,.slice a7 a3.length a8,.bool a5,.slice b1 a6.length b2] 34 (0,0)) (zzE a1.out) hb);have b4:=zzm (zzp zzh2 hb);have b5:=zzm (hbox);have b6:=zzm ((by rw [hg];exact (zzo zzh2):w.heap.size≤a2));have c7:=zzm ((by rw [hg];exact (zzo zzh2):w.heap.size≤a2));have c8:=zzm ((by rw [hg];exact Nat.ne_of_lt (blk_lt (g:=a0) (o:=.cells #[.int .i64 a9,.int .i64 b0,.bool a4,.slice a7 a3.length a8,.bool a5,.slice b1 a6.length b2] 34 (0,0)) (zzE a1.out)):a0≠a2));have c9:=zzm ((by rw [hg];exact Nat.ne_of_gt (blk_lt (g:=a0) (o:=.cells #[.int .i64 a9,.int .i64 b0,.bool a4,.slice a7 a3.length a8,.bool a5,.slice b1 a6.length b2] 34 (0,0)) (zzE a1.out)):a2≠a0));clear a1 HB;have a1:=b3;have HB:=b4;have c6:=b5;have d9:=b6;have e0:=c7;have b7:=c8;have b8:=c9;clear b3 b4 b5 b6 c7 c8 c9 hb hbox hg;have C4:=b7.out;have C5:=b8.out;obtain ⟨n4,n5,n6,n7,n8,n9,o0,o1,o2,o3,o4,o5⟩:=zzc6 a1.out;obtain ⟨o6,o7,o8,o9,p0,p1,p2,p3,p4,p5,p6,p7⟩:=zzc6 c6.out)|((with_reducible refine gate_callee (f:=98) rfl ?_);refine goesL_ (some 24) rfl rfl Try.func98 (by kernel_rfl) rfl #[.slice a7 a3.length a8,.slice d0 b9.length d1] rfl zzM2 ?_;(with_reducible refine (Qy.calls k _ _ a3 _ _ b9 true _ ?side1 ?side2 ?side3 ?side4 g9.out).mono ?_);(case side1=>exact zzcb e1 HB);(case side2=>exact e2.out);(case side3=>exact zzcb e3 HB);(case side4=>exact e4.out);rintro e w' ⟨rfl,⟨nd,rfl⟩⟩;refine ⟨_,rfl,?_⟩)|((with_reducible refine gate_callee (f:=98) rfl ?_);refine goesL_ (some 35) rfl rfl Try.func98 (by kernel_rfl) rfl #[.slice b1 a6.length b2,.slice d4 c2.length d5] rfl zzM2 ?_;(with_reducible refine (Qy.calls k _ _ a6 _ _ c2 true _ ?side1 ?side2 ?side3 ?side4 h5.out).mono ?_);(case side1=>repeat (first|exact (Kd.C_below g5.out zzh2)|(with_reducible refine Kd.C_alloc ?_ _)|(with_reducible refine Kd.C_drewN ?_ _)|(with_reducible refine Kd.C_drew ?_)));(case side2=>exact g6.out);(case side3=>repeat (first|exact (Kd.C_below g7.out zzh2)|(with_reducible refine Kd.C_alloc ?_ _)|(with_reducible refine Kd.C_drewN ?_ _)|(with_reducible refine Kd.C_drew ?_)));(case side4=>exact g8.out);rintro e w' ⟨rfl,⟨nd,rfl⟩⟩;refine ⟨_,rfl,?_⟩));go_ret;exact ⟨zzR,zzh3⟩
      ·
       replace h1:=Bool.eq_false_iff.mpr h1;subst h1;replace H:=zzIf H;obtain rfl:=Option.some.inj H;go_enter Try.func80,Try.ntmps80;go_wp2_with (first|((with_reducible refine gate_dst (N:=2) rfl ?_);refine box_event ?hg (N:=2) ?hd (cs:=#[.int .i64 a9,.int .i64 b0,.bool a4,.slice a7 a3.length a8,.bool a5,.slice b1 a6.length b2]) (t:=34) ?hr ?_;(case hd=>rfl);(case hg=>rfl);(case hr=>first|(go_simp;done)|(go_simp;rfl));intro a0 hg E1 hbox hb;have b3:=zzm (zzp zzh1 hb);have b4:=zzm (hbox);have b5:=zzm ((by rw [hg];exact (zzo zzh1):w.heap.size≤a0));have b6:=zzm ((by rw [hg];exact (zzo zzh1):w.heap.size≤a0));clear HB;have HB:=b3;have a1:=b4;have d7:=b5;have d8:=b6;clear b3 b4 b5 b6 hb hbox hg)|((with_reducible refine gate_dst (N:=3) rfl ?_);refine box_event ?hg (N:=3) ?hd (cs:=#[.int .i64 d2,.int .i64 d3,.bool c0,.slice d0 b9.length d1,.bool c1,.slice d4 c2.length d5]) (t:=34) ?hr ?_;(case hd=>rfl);(case hg=>rfl);(case hr=>first|(go_simp;done)|(go_simp;rfl));intro a2 hg E2 hbox hb;have b3:=zzm (zzh (g:=a0) (o:=.cells #[.int .i64 a9,.int .i64 b0,.bool a4,.slice a7 a3.length a8,.bool a5,.slice b1 a6.length b2] 34 (0,0)) (zzE a1.out) hb);have b4:=zzm (zzp zzh2 hb);have b5:=zzm (hbox);have b6:=zzm ((by rw [hg];exact (zzo zzh2):w.heap.size≤a2));have c7:=zzm ((by rw [hg];exact (zzo zzh2):w.heap.size≤a2));have c8:=zzm ((by rw [hg];exact Nat.ne_of_lt (blk_lt (g:=a0) (o:=.cells #[.int .i64 a9,.int .i64 b0,.bool a4,.slice a7 a3.length a8,.bool a5,.slice b1 a6.length b2] 34 (0,0)) (zzE a1.out)):a0≠a2));have c9:=zzm ((by rw [hg];exact Nat.ne_of_gt (blk_lt (g:=a0) (o:=.cells #[.int .i64 a9,.int .i64 b0,.bool a4,.slice a7 a3.length a8,.bool a5,.slice b1 a6.length b2] 34 (0,0)) (zzE a1.out)):a2≠a0));clear a1 HB;have a1:=b3;have HB:=b4;have c6:=b5;have d9:=b6;have e0:=c7;have b7:=c8;have b8:=c9;clear b3 b4 b5 b6 c7 c8 c9 hb hbox hg;have C6:=b7.out;have C7:=b8.out;obtain ⟨p8,p9,q0,q1,q2,q3,q4,q5,q6,q7,q8,q9⟩:=zzc6 a1.out;obtain ⟨r0,r1,r2,r3,r4,r5,r6,r7,r8,r9,s0,s1⟩:=zzc6 c6.out)|((with_reducible refine gate_callee (f:=98) rfl ?_);refine goesL_ (some 24) rfl rfl Try.func98 (by kernel_rfl) rfl #[.slice a7 a3.length a8,.slice d0 b9.length d1] rfl zzM2 ?_;(with_reducible refine (Qy.calls k _ _ a3 _ _ b9 true _ ?side1 ?side2 ?side3 ?side4 g9.out).mono ?_);(case side1=>exact zzcb e1 HB);(case side2=>exact e2.out);(case side3=>exact zzcb e3 HB);(case side4=>exact e4.out);rintro e w' ⟨rfl,⟨nd,rfl⟩⟩;refine ⟨_,rfl,?_⟩)|((with_reducible refine gate_callee (f:=98) rfl ?_);refine goesL_ (some 35) rfl rfl Try.func98 (by kernel_rfl) rfl #[.slice b1 a6.length b2,.slice d4 c2.length d5] rfl zzM2 ?_;(with_reducible refine (Qy.calls k _ _ a6 _ _ c2 false _ ?side1 ?side2 ?side3 ?side4 h5.out).mono ?_);(case side1=>repeat (first|exact (Kd.C_below g5.out zzh2)|(with_reducible refine Kd.C_alloc ?_ _)|(with_reducible refine Kd.C_drewN ?_ _)|(with_reducible refine Kd.C_drew ?_)));(case side2=>exact g6.out);(case side3=>repeat (first|exact (Kd.C_below g7.out zzh2)|(with_reducible refine Kd.C_alloc ?_ _)|(with_reducible refine Kd.C_drewN ?_ _)|(with_reducible refine Kd.C_drew ?_)));(case side4=>exact g8.out);rintro e w' ⟨rfl,⟨nd,rfl⟩⟩;refine ⟨_,rfl,?_⟩));go_ret;exact ⟨zzR,zzh3⟩
    ·
     replace h0:=Bool.eq_false_iff.mpr h0;subst h0;replace H:=zzIf H;obtain rfl:=Option.some.inj H;go_enter Try.func80,Try.ntmps80;go_wp2_with (first|((with_reducible refine gate_dst (N:=2) rfl ?_);refine box_event ?hg (N:=2) ?hd (cs:=#[.int .i64 a9,.int .i64 b0,.bool a4,.slice a7 a3.length a8,.bool a5,.slice b1 a6.length b2]) (t:=34) ?hr ?_;(case hd=>rfl);(case hg=>rfl);(case hr=>first|(go_simp;done)|(go_simp;rfl));intro a0 hg E3 hbox hb;have b3:=zzm (zzp zzh1 hb);have b4:=zzm (hbox);have b5:=zzm ((by rw [hg];exact (zzo zzh1):w.heap.size≤a0));have b6:=zzm ((by rw [hg];exact (zzo zzh1):w.heap.size≤a0));clear HB;have HB:=b3;have a1:=b4;have d7:=b5;have d8:=b6;clear b3 b4 b5 b6 hb hbox hg)|((with_reducible refine gate_dst (N:=3) rfl ?_);refine box_event ?hg (N:=3) ?hd (cs:=#[.int .i64 d2,.int .i64 d3,.bool c0,.slice d0 b9.length d1,.bool c1,.slice d4 c2.length d5]) (t:=34) ?hr ?_;(case hd=>rfl);(case hg=>rfl);(case hr=>first|(go_simp;done)|(go_simp;rfl));intro a2 hg E4 hbox hb;have b3:=zzm (zzh (g:=a0) (o:=.cells #[.int .i64 a9,.int .i64 b0,.bool a4,.slice a7 a3.length a8,.bool a5,.slice b1 a6.length b2] 34 (0,0)) (zzE a1.out) hb);have b4:=zzm (zzp zzh2 hb);have b5:=zzm (hbox);have b6:=zzm ((by rw [hg];exact (zzo zzh2):w.heap.size≤a2));have c7:=zzm ((by rw [hg];exact (zzo zzh2):w.heap.size≤a2));have c8:=zzm ((by rw [hg];exact Nat.ne_of_lt (blk_lt (g:=a0) (o:=.cells #[.int .i64 a9,.int .i64 b0,.bool a4,.slice a7 a3.length a8,.bool a5,.slice b1 a6.length b2] 34 (0,0)) (zzE a1.out)):a0≠a2));have c9:=zzm ((by rw [hg];exact Nat.ne_of_gt (blk_lt (g:=a0) (o:=.cells #[.int .i64 a9,.int .i64 b0,.bool a4,.slice a7 a3.length a8,.bool a5,.slice b1 a6.length b2] 34 (0,0)) (zzE a1.out)):a2≠a0));clear a1 HB;have a1:=b3;have HB:=b4;have c6:=b5;have d9:=b6;have e0:=c7;have b7:=c8;have b8:=c9;clear b3 b4 b5 b6 c7 c8 c9 hb hbox hg;have C8:=b7.out;have C9:=b8.out;obtain ⟨s2,s3,s4,s5,s6,s7,s8,s9,t0,t1,t2,t3⟩:=zzc6 a1.out;obtain ⟨t4,t5,t6,t7,t8,t9,v0,v1,v2,v3,v4,v5⟩:=zzc6 c6.out)|((with_reducible refine gate_callee (f:=98) rfl ?_);refine goesL_ (some 24) rfl rfl Try.func98 (by kernel_rfl) rfl #[.slice a7 a3.length a8,.slice d0 b9.length d1] rfl zzM2 ?_;(with_reducible refine (Qy.calls k _ _ a3 _ _ b9 false _ ?side1 ?side2 ?side3 ?side4 g9.out).mono ?_);(case side1=>exact zzcb e1 HB);(case side2=>exact e2.out);(case side3=>exact zzcb e3 HB);(case side4=>exact e4.out);rintro e w' ⟨rfl,⟨nd,rfl⟩⟩;refine ⟨_,rfl,?_⟩));go_ret;exact ⟨zzR,zzh3⟩
  ·
   rw [if_neg c4] at H;obtain ⟨h8,h9⟩:=zzY c4;obtain rfl:=Option.some.inj H;go_enter Try.func80,Try.ntmps80;go_wp2_with (first|((with_reducible refine gate_dst (N:=2) rfl ?_);refine box_event ?hg (N:=2) ?hd (cs:=#[.int .i64 a9,.int .i64 b0,.bool a4,.slice a7 a3.length a8,.bool a5,.slice b1 a6.length b2]) (t:=34) ?hr ?_;(case hd=>rfl);(case hg=>rfl);(case hr=>first|(go_simp;done)|(go_simp;rfl));intro a0 hg E5 hbox hb;have b3:=zzm (zzp zzh1 hb);have b4:=zzm (hbox);have b5:=zzm ((by rw [hg];exact (zzo zzh1):w.heap.size≤a0));have b6:=zzm ((by rw [hg];exact (zzo zzh1):w.heap.size≤a0));clear HB;have HB:=b3;have a1:=b4;have d7:=b5;have d8:=b6;clear b3 b4 b5 b6 hb hbox hg)|((with_reducible refine gate_dst (N:=3) rfl ?_);refine box_event ?hg (N:=3) ?hd (cs:=#[.int .i64 d2,.int .i64 d3,.bool c0,.slice d0 b9.length d1,.bool c1,.slice d4 c2.length d5]) (t:=34) ?hr ?_;(case hd=>rfl);(case hg=>rfl);(case hr=>first|(go_simp;done)|(go_simp;rfl));intro a2 hg E6 hbox hb;have b3:=zzm (zzh (g:=a0) (o:=.cells #[.int .i64 a9,.int .i64 b0,.bool a4,.slice a7 a3.length a8,.bool a5,.slice b1 a6.length b2] 34 (0,0)) (zzE a1.out) hb);have b4:=zzm (zzp zzh2 hb);have b5:=zzm (hbox);have b6:=zzm ((by rw [hg];exact (zzo zzh2):w.heap.size≤a2));have c7:=zzm ((by rw [hg];exact (zzo zzh2):w.heap.size≤a2));have c8:=zzm ((by rw [hg];exact Nat.ne_of_lt (blk_lt (g:=a0) (o:=.cells #[.int .i64 a9,.int .i64 b0,.bool a4,.slice a7 a3.length a8,.bool a5,.slice b1 a6.length b2] 34 (0,0)) (zzE a1.out)):a0≠a2));have c9:=zzm ((by rw [hg];exact Nat.ne_of_gt (blk_lt (g:=a0) (o:=.cells #[.int .i64 a9,.int .i64 b0,.bool a4,.slice a7 a3.length a8,.bool a5,.slice b1 a6.length b2] 34 (0,0)) (zzE a1.out)):a2≠a0));clear a1 HB;have a1:=b3;have HB:=b4;have c6:=b5;have d9:=b6;have e0:=c7;have b7:=c8;have b8:=c9;clear b3 b4 b5 b6 c7 c8 c9 hb hbox hg;have D0:=b7.out;have D1:=b8.out;obtain ⟨v6,v7,v8,v9,w0,w1,w2,w3,w4,w5,w8,w9⟩:=zzc6 a1.out;obtain ⟨x0,x1,x2,x3,x4,x5,x6,x7,x8,x9,y0,y1⟩:=zzc6 c6.out));go_ret;exact ⟨zzR,zzh3⟩
 ·
  rw [if_neg c3] at H;obtain ⟨h6,h7⟩:=zzY c3;obtain rfl:=Option.some.inj H;go_enter Try.func80,Try.ntmps80;go_wp2_with (first|((with_reducible refine gate_dst (N:=2) rfl ?_);refine box_event ?hg (N:=2) ?hd (cs:=#[.int .i64 a9,.int .i64 b0,.bool a4,.slice a7 a3.length a8,.bool a5,.slice b1 a6.length b2]) (t:=34) ?hr ?_;(case hd=>rfl);(case hg=>rfl);(case hr=>first|(go_simp;done)|(go_simp;rfl));intro a0 hg E7 hbox hb;have b3:=zzm (zzp zzh1 hb);have b4:=zzm (hbox);have b5:=zzm ((by rw [hg];exact (zzo zzh1):w.heap.size≤a0));have b6:=zzm ((by rw [hg];exact (zzo zzh1):w.heap.size≤a0));clear HB;have HB:=b3;have a1:=b4;have d7:=b5;have d8:=b6;clear b3 b4 b5 b6 hb hbox hg)|((with_reducible refine gate_dst (N:=3) rfl ?_);refine box_event ?hg (N:=3) ?hd (cs:=#[.int .i64 d2,.int .i64 d3,.bool c0,.slice d0 b9.length d1,.bool c1,.slice d4 c2.length d5]) (t:=34) ?hr ?_;(case hd=>rfl);(case hg=>rfl);(case hr=>first|(go_simp;done)|(go_simp;rfl));intro a2 hg E8 hbox hb;have b3:=zzm (zzh (g:=a0) (o:=.cells #[.int .i64 a9,.int .i64 b0,.bool a4,.slice a7 a3.length a8,.bool a5,.slice b1 a6.length b2] 34 (0,0)) (zzE a1.out) hb);have b4:=zzm (zzp zzh2 hb);have b5:=zzm (hbox);have b6:=zzm ((by rw [hg];exact (zzo zzh2):w.heap.size≤a2));have c7:=zzm ((by rw [hg];exact (zzo zzh2):w.heap.size≤a2));have c8:=zzm ((by rw [hg];exact Nat.ne_of_lt (blk_lt (g:=a0) (o:=.cells #[.int .i64 a9,.int .i64 b0,.bool a4,.slice a7 a3.length a8,.bool a5,.slice b1 a6.length b2] 34 (0,0)) (zzE a1.out)):a0≠a2));have c9:=zzm ((by rw [hg];exact Nat.ne_of_gt (blk_lt (g:=a0) (o:=.cells #[.int .i64 a9,.int .i64 b0,.bool a4,.slice a7 a3.length a8,.bool a5,.slice b1 a6.length b2] 34 (0,0)) (zzE a1.out)):a2≠a0));clear a1 HB;have a1:=b3;have HB:=b4;have c6:=b5;have d9:=b6;have e0:=c7;have b7:=c8;have b8:=c9;clear b3 b4 b5 b6 c7 c8 c9 hb hbox hg;have D2:=b7.out;have D3:=b8.out;obtain ⟨y2,y3,y4,y5,y6,y7,y8,y9,z0,z1,z2,z3⟩:=zzc6 a1.out;obtain ⟨z4,z5,z6,z7,z8,z9,A0,A1,A2,A3,A4,A5⟩:=zzc6 c6.out));go_ret;exact ⟨zzR,zzh3⟩
end Go.Proofs.Yticpnjhkdfdkkaa.T
