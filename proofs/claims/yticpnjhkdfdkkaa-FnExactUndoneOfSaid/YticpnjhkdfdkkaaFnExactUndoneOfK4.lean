/- The law FnExactUndoneOf holds (part 5 of 6; merged by pack2.py). -/
import Derived.Deep.Slices
import Derived.ChangeArms
import Derived.ProofKit
import Derived.Test.YticpnjhkdfdkkaaFnExactUndoneOfK3
set_option maxRecDepth 1000000
open List (setIfInBounds_toArray set_cons_zero set_cons_succ map_toArray map_cons map_nil length_drop length_take)
namespace Go.Proofs.Yticpnjhkdfdkkaa.T
open Go.RowKit Go.Proofs.YticpnjhkdfdkkaaW.PrintWords Go.Proofs.YticpnjhkdfdkkaaW.PrintLast Go.Proofs.YticpnjhkdfdkkaaW.PrintMore

set_option linter.unusedVariables false
set_option linter.unusedSimpArgs false
def Qm.l0:Nat→List (S34)→List (S34)→Int→Option (Bool)
 | 0,_,_,_=>none
 | k+1,x0,x1,x5=>if x5 < (x0.length:Int) then (if 0≤x5 then (if x5 < (x1.length:Int) then ((Rj.f k ((Qb x0 x5).f0) ((Qb x0 x5).f1) ((Qb x0 x5).f2) ((Qb x0 x5).f3) ((Qb x0 x5).f4) ((Qb x0 x5).f5) ((Qb x1 x5).f0) ((Qb x1 x5).f1) ((Qb x1 x5).f2) ((Qb x1 x5).f3) ((Qb x1 x5).f4) ((Qb x1 x5).f5)).bind fun t483=>(if t483=true then (Qm.l0 k x0 x1 (wrap64 (x5+1))) else (some false))) else (none)) else (none)) else (some true)
def Qm.f (k:Nat) (l0:List (S34)) (l1:List (S34)):Option (Bool):=if (l0.length:Int)=(l1.length:Int) then (Qm.l0 k l0 l1 0) else (some false)
def Qm.T6:Bool×List (List Nat×List Nat):=(true,[([],[]),([],[]),([0,1],[0,1]),([2],[2]),([],[]),([],[]),([4,5],[4,5]),([6],[6]),([3,7],[3,7]),([8],[8])])
def Qm.B6:List Nat:=[0,0,3,7,0,0,48,112,255,511]
theorem Qm.tab6:rtab .any (opsOf Try.f50 6)=Qm.T6:=by kernel_rfl
theorem Qm.bits6:waitsOk Qm.T6.2 Qm.B6=true:=by kernel_rfl
set_option maxHeartbeats 8000000 in
theorem Qm.calls (k:Nat) (A0:Option Addr) (c0:Nat) (l0:List (S34)) (A1:Option Addr) (c1:Nat) (l1:List (S34)) (r:Bool) (w:World) (j4:Kd.C k34 w A0 l0.length l0) (j5:l0.length≤c0) (j6:Kd.C k34 w A1 l1.length l1) (j7:l1.length≤c1) (h:Qm.f k l0 l1=some r) :
  Calls Try.prog 50 #[.slice A0 l0.length c0,.slice A1 l1.length c1] w fun e w'=>e = .returned (.bool r)∧Below w.heap.size w w':=by
 have hu34:=Try.underlying34;have j8:=zzm j4;have k5:=zzm j5;clear j4 j5;have j9:=zzm j6;have k6:=zzm j7;clear j6 j7;have HB:=zzm (Below.refl w.heap.size w);have H:(if (l0.length:Int)=(l1.length:Int) then (Qm.l0 k l0 l1 0) else (some false))=some r:=h;clear h;by_cases c3:(l0.length:Int)=(l1.length:Int)
 ·
  rw [if_pos c3] at H;obtain ⟨h8,h9⟩:=zzQ c3;have j3:(l0.length==l1.length)=true:=by first|simpa using c3|(simp at c3 ⊢;omega)
  clear c3;have H':=zzm H;clear H;go_enter Try.func50,Try.ntmps50;go_wp2;go_loopg [5] k (fun kq v5 w'=>∃ (a0:Int),v5 = .int .i64 a0∧Aside0 (Qm.l0 kq l0 l1 a0=some r)∧Aside0 (kq≤k)∧Aside0 (Below w.heap.size w w'))
  case atStart=>exact ⟨(0),(by first|rfl|(simp;done)|(simp [*];done)),H',⟨Nat.le_refl _⟩,⟨zzh1⟩⟩
  case round=>
   clear H';try clear c1
   try clear p2
   try clear c3
   try clear h8
   try clear h9
   try clear j3
   obtain ⟨a0,rfl,HA,HK1,HB⟩:=hrel;cases gk with
   | zero=>exact absurd HA.out (by simp [Qm.l0])
   | succ k1=>
    have H:=HA.out;clear HA;simp only [Qm.l0] at H;by_cases c4:a0 < (l0.length:Int)
    ·
     rw [if_pos c4] at H;have k0:decide (a0 < (l0.length:Int))=true:=decide_eq_true c4;clear c4;by_cases c5 : 0≤a0
     ·
      rw [if_pos c5] at H;have k3:decide (0≤a0)=true:=decide_eq_true c5;clear c5;by_cases c6:a0 < (l1.length:Int)
      ·
       rw [if_pos c6] at H;have k4:decide (a0 < (l1.length:Int))=true:=decide_eq_true c6;clear c6;obtain ⟨k2,A7,H⟩:=zzG H;by_cases c8:k2=true
       ·
        subst c8;replace H:=zzIt H;have H':=zzm H;clear H;try go_wp2
        have e8:=zzm (zzc HB.out);clear HB;have HB:=e8;clear e8;have g7 : 0≤(a0:Int):=zzt;have g8:a0 < (l0.length:Int):=zzt;obtain ⟨a1,e9,g0,g1,g2,h6,a4,a5,a6,a7,a8,a9,b7,b8,b9,c2⟩:=Q9 j8.out a0 g7 g8;have c7:=a9;have c9:=a8;have d0:=a7;have d1:=a6;have d2:=a5;have d3:=a4;cases h6;replace a4:=zzx HB.out a4;replace a5:=zzx HB.out a5;replace a6:=zzx HB.out a6;replace a7:=zzx HB.out a7;replace a8:=zzx HB.out a8;replace a9:=zzx HB.out a9;have d4:=zzm b8;have h1:=zzm b7;clear b8 b7;have d5:=zzm c2;have h2:=zzm b9;clear c2 b9;replace g7:=eq_true g7;replace g8:=eq_true g8;have g9 : 0≤(a0:Int):=zzt;have h0:a0 < (l1.length:Int):=zzt;obtain ⟨a2,g3,g4,g5,g6,h7,b0,b1,b2,b3,b4,b5,d6,d7,d8,d9⟩:=Q9 j9.out a0 g9 h0;have e0:=b5;have e1:=b4;have e2:=b3;have e3:=b2;have e4:=b1;have e5:=b0;cases h7;replace b0:=zzx HB.out b0;replace b1:=zzx HB.out b1;replace b2:=zzx HB.out b2;replace b3:=zzx HB.out b3;replace b4:=zzx HB.out b4;replace b5:=zzx HB.out b5;have e6:=zzm d7;have h3:=zzm d6;clear d7 d6;have e7:=zzm d9;have h4:=zzm d8;clear d9 d8;replace g9:=eq_true g9;replace h0:=eq_true h0;refine start_ (n:=10) (S:=fun w'=>w'.cell? (a1.add ((a0).toNat * 6))=some (.int .i64 ((Qb l0 a0).f0))∧w'.cell? ⟨(a1.add ((a0).toNat * 6)).block,(a1.add ((a0).toNat * 6)).off+1,none⟩=some (.int .i64 ((Qb l0 a0).f1))∧w'.cell? ⟨(a1.add ((a0).toNat * 6)).block,(a1.add ((a0).toNat * 6)).off+2,none⟩=some (.bool ((Qb l0 a0).f2))∧w'.cell? ⟨(a1.add ((a0).toNat * 6)).block,(a1.add ((a0).toNat * 6)).off+3,none⟩=some (.slice e9 ((Qb l0 a0).f3).length g0)∧w'.cell? ⟨(a1.add ((a0).toNat * 6)).block,(a1.add ((a0).toNat * 6)).off+4,none⟩=some (.bool ((Qb l0 a0).f4))∧w'.cell? ⟨(a1.add ((a0).toNat * 6)).block,(a1.add ((a0).toNat * 6)).off+5,none⟩=some (.slice g1 ((Qb l0 a0).f5).length g2)∧w'.cell? (a2.add ((a0).toNat * 6))=some (.int .i64 ((Qb l1 a0).f0))∧w'.cell? ⟨(a2.add ((a0).toNat * 6)).block,(a2.add ((a0).toNat * 6)).off+1,none⟩=some (.int .i64 ((Qb l1 a0).f1))∧w'.cell? ⟨(a2.add ((a0).toNat * 6)).block,(a2.add ((a0).toNat * 6)).off+2,none⟩=some (.bool ((Qb l1 a0).f2))∧w'.cell? ⟨(a2.add ((a0).toNat * 6)).block,(a2.add ((a0).toNat * 6)).off+3,none⟩=some (.slice g3 ((Qb l1 a0).f3).length g4)∧w'.cell? ⟨(a2.add ((a0).toNat * 6)).block,(a2.add ((a0).toNat * 6)).off+4,none⟩=some (.bool ((Qb l1 a0).f4))∧w'.cell? ⟨(a2.add ((a0).toNat * 6)).block,(a2.add ((a0).toNat * 6)).off+5,none⟩=some (.slice g5 ((Qb l1 a0).f5).length g6)) (ds:=[]) (zzB 10 0) (by kernel_rfl) rfl rfl ⟨(zzx HB.out d3),(zzx HB.out d2),(zzx HB.out d1),(zzx HB.out d0),(zzx HB.out c9),(zzx HB.out c7),(zzx HB.out e5),(zzx HB.out e4),(zzx HB.out e3),(zzx HB.out e2),(zzx HB.out e1),(zzx HB.out e0)⟩ (fun b6=>?_);refine with_tabW Qm.tab6 Qm.bits6 (fun a3 h5=>?_);generalize wr.drew=w9 at HB d4 d5 e6 e7 a4 a5 a6 a7 a8 a9 b0 b1 b2 b3 b4 b5 b6 ⊢;refine zzP 0 17 10 1 a3 ?_
        refine zzP 1 18 10 3 a3 ?_
        refine zzP 2 19 10 7 a3 ?_
        refine zzP 4 21 10 23 a3 ?_
        refine zzP 5 22 10 55 a3 ?_
        refine zzP 6 23 10 119 a3 ?_
        refine zzT 3 20 10 127 a3 h5 b6 ?_
        refine zzT 7 24 10 255 a3 h5 b6 ?_
        refine one_ (i:=8) (N:=some 25) (zzB 10 511) rfl rfl (one_of a3.out (by kernel_rfl)) (by decide) (fun K hK=>?_);refine goes_ Try.func80 (by kernel_rfl) rfl #[.agg #[.int .i64 ((Qb l0 a0).f0),.int .i64 ((Qb l0 a0).f1),.bool ((Qb l0 a0).f2),.slice e9 ((Qb l0 a0).f3).length g0,.bool ((Qb l0 a0).f4),.slice g1 ((Qb l0 a0).f5).length g2],.agg #[.int .i64 ((Qb l1 a0).f0),.int .i64 ((Qb l1 a0).f1),.bool ((Qb l1 a0).f2),.slice g3 ((Qb l1 a0).f3).length g4,.bool ((Qb l1 a0).f4),.slice g5 ((Qb l1 a0).f5).length g6]] (by rfl) rfl rfl zzM2 ?_;with_reducible refine (Rj.calls k1 ((Qb l0 a0).f0) ((Qb l0 a0).f1) ((Qb l0 a0).f2) _ _ ((Qb l0 a0).f3) ((Qb l0 a0).f4) _ _ ((Qb l0 a0).f5) ((Qb l1 a0).f0) ((Qb l1 a0).f1) ((Qb l1 a0).f2) _ _ ((Qb l1 a0).f3) ((Qb l1 a0).f4) _ _ ((Qb l1 a0).f5) true _ ?side1 ?side2 ?side3 ?side4 ?side5 ?side6 ?side7 ?side8 A7.out).mono ?_
        (case side1=>exact zzcb d4 HB)
        (case side2=>exact h1.out)
        (case side3=>exact zzcb d5 HB)
        (case side4=>exact h2.out)
        (case side5=>exact zzcb e6 HB)
        (case side6=>exact h3.out)
        (case side7=>exact zzcb e7 HB)
        (case side8=>exact h4.out);rintro e k7 ⟨rfl,hb⟩;refine ⟨_,rfl,?_⟩;have e8:=zzm (zzp zzh1 hb);clear HB;have HB:=e8;clear e8
        (try clear hb)
        (try clear hb2)
        (try clear hk)
        (try clear hi);refine hK.out _ _ ⟨(zzx HB.out d3),(zzx HB.out d2),(zzx HB.out d1),(zzx HB.out d0),(zzx HB.out c9),(zzx HB.out c7),(zzx HB.out e5),(zzx HB.out e4),(zzx HB.out e3),(zzx HB.out e2),(zzx HB.out e1),(zzx HB.out e0)⟩ (fun b6=>?_);clear hK K;refine zzO 25 ?_
        refine zzP 9 26 10 1023 a3 ?_
        refine done_ (done_of a3.out (by kernel_rfl)) ?_;try go_wp2
        go_roundg k1
        case measure=>have:=HK1.out;omega
        case rel=>exact ⟨(wrap64 (a0+1)),(by first|rfl|(simp;done)|(simp [*];done)),H',⟨by have:=HK1.out;omega⟩,⟨zzh1⟩⟩
       ·
        replace c8:=Bool.eq_false_iff.mpr c8;subst c8;replace H:=zzIf H;obtain rfl:=Option.some.inj H;try go_wp2
        have e8:=zzm (zzc HB.out);clear HB;have HB:=e8;clear e8;have g7 : 0≤(a0:Int):=zzt;have g8:a0 < (l0.length:Int):=zzt;obtain ⟨a1,e9,g0,g1,g2,h6,a4,a5,a6,a7,a8,a9,b7,b8,b9,c2⟩:=Q9 j8.out a0 g7 g8;have c7:=a9;have c9:=a8;have d0:=a7;have d1:=a6;have d2:=a5;have d3:=a4;cases h6;replace a4:=zzx HB.out a4;replace a5:=zzx HB.out a5;replace a6:=zzx HB.out a6;replace a7:=zzx HB.out a7;replace a8:=zzx HB.out a8;replace a9:=zzx HB.out a9;have d4:=zzm b8;have h1:=zzm b7;clear b8 b7;have d5:=zzm c2;have h2:=zzm b9;clear c2 b9;replace g7:=eq_true g7;replace g8:=eq_true g8;have g9 : 0≤(a0:Int):=zzt;have h0:a0 < (l1.length:Int):=zzt;obtain ⟨a2,g3,g4,g5,g6,h7,b0,b1,b2,b3,b4,b5,d6,d7,d8,d9⟩:=Q9 j9.out a0 g9 h0;have e0:=b5;have e1:=b4;have e2:=b3;have e3:=b2;have e4:=b1;have e5:=b0;cases h7;replace b0:=zzx HB.out b0;replace b1:=zzx HB.out b1;replace b2:=zzx HB.out b2;replace b3:=zzx HB.out b3;replace b4:=zzx HB.out b4;replace b5:=zzx HB.out b5;have e6:=zzm d7;have h3:=zzm d6;clear d7 d6;have e7:=zzm d9;have h4:=zzm d8;clear d9 d8;replace g9:=eq_true g9;replace h0:=eq_true h0;refine start_ (n:=10) (S:=fun w'=>w'.cell? (a1.add ((a0).toNat * 6))=some (.int .i64 ((Qb l0 a0).f0))∧w'.cell? ⟨(a1.add ((a0).toNat * 6)).block,(a1.add ((a0).toNat * 6)).off+1,none⟩=some (.int .i64 ((Qb l0 a0).f1))∧w'.cell? ⟨(a1.add ((a0).toNat * 6)).block,(a1.add ((a0).toNat * 6)).off+2,none⟩=some (.bool ((Qb l0 a0).f2))∧w'.cell? ⟨(a1.add ((a0).toNat * 6)).block,(a1.add ((a0).toNat * 6)).off+3,none⟩=some (.slice e9 ((Qb l0 a0).f3).length g0)∧w'.cell? ⟨(a1.add ((a0).toNat * 6)).block,(a1.add ((a0).toNat * 6)).off+4,none⟩=some (.bool ((Qb l0 a0).f4))∧w'.cell? ⟨(a1.add ((a0).toNat * 6)).block,(a1.add ((a0).toNat * 6)).off+5,none⟩=some (.slice g1 ((Qb l0 a0).f5).length g2)∧w'.cell? (a2.add ((a0).toNat * 6))=some (.int .i64 ((Qb l1 a0).f0))∧w'.cell? ⟨(a2.add ((a0).toNat * 6)).block,(a2.add ((a0).toNat * 6)).off+1,none⟩=some (.int .i64 ((Qb l1 a0).f1))∧w'.cell? ⟨(a2.add ((a0).toNat * 6)).block,(a2.add ((a0).toNat * 6)).off+2,none⟩=some (.bool ((Qb l1 a0).f2))∧w'.cell? ⟨(a2.add ((a0).toNat * 6)).block,(a2.add ((a0).toNat * 6)).off+3,none⟩=some (.slice g3 ((Qb l1 a0).f3).length g4)∧w'.cell? ⟨(a2.add ((a0).toNat * 6)).block,(a2.add ((a0).toNat * 6)).off+4,none⟩=some (.bool ((Qb l1 a0).f4))∧w'.cell? ⟨(a2.add ((a0).toNat * 6)).block,(a2.add ((a0).toNat * 6)).off+5,none⟩=some (.slice g5 ((Qb l1 a0).f5).length g6)) (ds:=[]) (zzB 10 0) (by kernel_rfl) rfl rfl ⟨(zzx HB.out d3),(zzx HB.out d2),(zzx HB.out d1),(zzx HB.out d0),(zzx HB.out c9),(zzx HB.out c7),(zzx HB.out e5),(zzx HB.out e4),(zzx HB.out e3),(zzx HB.out e2),(zzx HB.out e1),(zzx HB.out e0)⟩ (fun b6=>?_);refine with_tabW Qm.tab6 Qm.bits6 (fun a3 h5=>?_);generalize wr.drew=k8 at HB d4 d5 e6 e7 a4 a5 a6 a7 a8 a9 b0 b1 b2 b3 b4 b5 b6 ⊢;refine zzP 0 17 10 1 a3 ?_
        refine zzP 1 18 10 3 a3 ?_
        refine zzP 2 19 10 7 a3 ?_
        refine zzP 4 21 10 23 a3 ?_
        refine zzP 5 22 10 55 a3 ?_
        refine zzP 6 23 10 119 a3 ?_
        refine zzT 3 20 10 127 a3 h5 b6 ?_
        refine zzT 7 24 10 255 a3 h5 b6 ?_
        refine one_ (i:=8) (N:=some 25) (zzB 10 511) rfl rfl (one_of a3.out (by kernel_rfl)) (by decide) (fun K hK=>?_);refine goes_ Try.func80 (by kernel_rfl) rfl #[.agg #[.int .i64 ((Qb l0 a0).f0),.int .i64 ((Qb l0 a0).f1),.bool ((Qb l0 a0).f2),.slice e9 ((Qb l0 a0).f3).length g0,.bool ((Qb l0 a0).f4),.slice g1 ((Qb l0 a0).f5).length g2],.agg #[.int .i64 ((Qb l1 a0).f0),.int .i64 ((Qb l1 a0).f1),.bool ((Qb l1 a0).f2),.slice g3 ((Qb l1 a0).f3).length g4,.bool ((Qb l1 a0).f4),.slice g5 ((Qb l1 a0).f5).length g6]] (by rfl) rfl rfl zzM2 ?_;with_reducible refine (Rj.calls k1 ((Qb l0 a0).f0) ((Qb l0 a0).f1) ((Qb l0 a0).f2) _ _ ((Qb l0 a0).f3) ((Qb l0 a0).f4) _ _ ((Qb l0 a0).f5) ((Qb l1 a0).f0) ((Qb l1 a0).f1) ((Qb l1 a0).f2) _ _ ((Qb l1 a0).f3) ((Qb l1 a0).f4) _ _ ((Qb l1 a0).f5) false _ ?side1 ?side2 ?side3 ?side4 ?side5 ?side6 ?side7 ?side8 A7.out).mono ?_
        (case side1=>exact zzcb d4 HB)
        (case side2=>exact h1.out)
        (case side3=>exact zzcb d5 HB)
        (case side4=>exact h2.out)
        (case side5=>exact zzcb e6 HB)
        (case side6=>exact h3.out)
        (case side7=>exact zzcb e7 HB)
        (case side8=>exact h4.out);rintro e k9 ⟨rfl,hb⟩;refine ⟨_,rfl,?_⟩;have e8:=zzm (zzp zzh1 hb);clear HB;have HB:=e8;clear e8
        (try clear hb)
        (try clear hb2)
        (try clear hk)
        (try clear hi);refine hK.out _ _ ⟨(zzx HB.out d3),(zzx HB.out d2),(zzx HB.out d1),(zzx HB.out d0),(zzx HB.out c9),(zzx HB.out c7),(zzx HB.out e5),(zzx HB.out e4),(zzx HB.out e3),(zzx HB.out e2),(zzx HB.out e1),(zzx HB.out e0)⟩ (fun b6=>?_);clear hK K;refine zzO 25 ?_
        refine zzP 9 26 10 1023 a3 ?_
        refine done_ (done_of a3.out (by kernel_rfl)) ?_;try go_wp2
        go_ret;exact ⟨zzR,zzh1⟩
      ·
       rw [if_neg c6] at H;exact absurd H (by simp)
     ·
      rw [if_neg c5] at H;exact absurd H (by simp)
    ·
     rw [if_neg c4] at H;have k0:decide (a0 < (l0.length:Int))=false:=decide_eq_false c4;clear c4;obtain rfl:=Option.some.inj H;go_wp2;go_ret;exact ⟨zzR,zzh1⟩
 ·
  rw [if_neg c3] at H;obtain ⟨h8,h9⟩:=zzY c3;have j3:(l0.length==l1.length)=false:=by first|simpa using c3|(simp at c3 ⊢;omega)
  obtain rfl:=Option.some.inj H;go_enter Try.func50,Try.ntmps50;go_wp2;go_ret;exact ⟨zzR,zzh1⟩

set_option linter.unusedVariables false
set_option linter.unusedSimpArgs false
def Rl.f (k:Nat) (a0_0:Bool) (a0_1:Bool) (a0_2:Int) (a0_3:Int) (a0_4:Int) (l0_5:List (S34)) (a1_0:Bool) (a1_1:Bool) (a1_2:Int) (a1_3:Int) (a1_4:Int) (l1_5:List (S34)):Option (Bool):=if (a0_0 != a1_0)=true then (some false) else (if (a0_1 != a1_1)=true then (some false) else (if a0_2=a1_2 then (if a0_3=a1_3 then (if a0_4=a1_4 then ((Qm.f k l0_5 l1_5).bind fun t486=>(if t486=true then (some true) else (some false))) else (some false)) else (some false)) else (some false)))
set_option maxHeartbeats 8000000 in
theorem Rl.calls (k:Nat) (a3:Bool) (a4:Bool) (a9:Int) (b0:Int) (b1:Int) (b2:Option Addr) (b3:Nat) (a5:List (S34)) (b8:Bool) (b9:Bool) (c5:Int) (c6:Int) (c7:Int) (c8:Option Addr) (d0:Nat) (c0:List (S34)) (r:Bool) (w:World) (d9:Kd.C k34 w b2 a5.length a5) (e0:a5.length≤b3) (e1:Kd.C k34 w c8 c0.length c0) (e2:c0.length≤d0) (h:Rl.f k a3 a4 a9 b0 b1 a5 b8 b9 c5 c6 c7 c0=some r) :
  Calls Try.prog 24 #[.agg #[.bool a3,.bool a4,.int .i64 a9,.int .i64 b0,.int .i64 b1,.slice b2 a5.length b3],.agg #[.bool b8,.bool b9,.int .i64 c5,.int .i64 c6,.int .i64 c7,.slice c8 c0.length d0]] w fun e w'=>e = .returned (.bool r)∧Below w.heap.size w w':=by
 have hu27:=Try.underlying27;have e3:=zzm d9;have e4:=zzm e0;clear d9 e0;have e5:=zzm e1;have e6:=zzm e2;clear e1 e2;have HB:=zzm (Below.refl w.heap.size w);have H:(if (a3 != b8)=true then (some false) else (if (a4 != b9)=true then (some false) else (if a9=c5 then (if b0=c6 then (if b1=c7 then ((Qm.f k a5 c0).bind fun d8=>(if d8=true then (some true) else (some false))) else (some false)) else (some false)) else (some false))))=some r:=h;clear h;by_cases c3:(a3 != b8)=true
 ·
  rw [if_pos c3] at H;have g5:(a3 != b8)=true:=c3
  (try (have g6:decide (a3=b8)=false:=by simpa using c3))
  (try (have g7:(a3==b8)=false:=by simpa using c3))
  (try (have C1:¬ (a3=b8):=by simpa using c3));clear c3;obtain rfl:=Option.some.inj H;go_enter Try.func24,Try.ntmps24;go_wp2_with (first|((with_reducible refine gate_dst (N:=2) rfl ?_);refine box_event ?hg (N:=2) ?hd (cs:=#[.bool a3,.bool a4,.int .i64 a9,.int .i64 b0,.int .i64 b1,.slice b2 a5.length b3]) (t:=27) ?hr ?_;(case hd=>rfl);(case hg=>rfl);(case hr=>first|(go_simp;done)|(go_simp;rfl));intro a0 hg w4 hbox hb;have a6:=zzm (zzp zzh1 hb);have a7:=zzm (hbox);have a8:=zzm ((by rw [hg];exact (zzo zzh1):w.heap.size≤a0));have b4:=zzm ((by rw [hg];exact (zzo zzh1):w.heap.size≤a0));clear HB;have HB:=a6;have a1:=a7;have d1:=a8;have d2:=b4;clear a6 a7 a8 b4 hb hbox hg)|((with_reducible refine gate_dst (N:=3) rfl ?_);refine box_event ?hg (N:=3) ?hd (cs:=#[.bool b8,.bool b9,.int .i64 c5,.int .i64 c6,.int .i64 c7,.slice c8 c0.length d0]) (t:=27) ?hr ?_;(case hd=>rfl);(case hg=>rfl);(case hr=>first|(go_simp;done)|(go_simp;rfl));intro a2 hg w5 hbox hb;have a6:=zzm (zzh (g:=a0) (o:=.cells #[.bool a3,.bool a4,.int .i64 a9,.int .i64 b0,.int .i64 b1,.slice b2 a5.length b3] 27 (0,0)) (zzE a1.out) hb);have a7:=zzm (zzp zzh2 hb);have a8:=zzm (hbox);have b4:=zzm ((by rw [hg];exact (zzo zzh2):w.heap.size≤a2));have c1:=zzm ((by rw [hg];exact (zzo zzh2):w.heap.size≤a2));have c2:=zzm ((by rw [hg];exact Nat.ne_of_lt (blk_lt (g:=a0) (o:=.cells #[.bool a3,.bool a4,.int .i64 a9,.int .i64 b0,.int .i64 b1,.slice b2 a5.length b3] 27 (0,0)) (zzE a1.out)):a0≠a2));have c4:=zzm ((by rw [hg];exact Nat.ne_of_gt (blk_lt (g:=a0) (o:=.cells #[.bool a3,.bool a4,.int .i64 a9,.int .i64 b0,.int .i64 b1,.slice b2 a5.length b3] 27 (0,0)) (zzE a1.out)):a2≠a0));clear a1 HB;have a1:=a6;have HB:=a7;have b7:=a8;have d3:=b4;have d4:=c1;have b5:=c2;have b6:=c4;clear a6 a7 a8 b4 c1 c2 c4 hb hbox hg;have C2:=b5.out;have C3:=b6.out;obtain ⟨y2,y3,y4,y5,y6,y7,y8,y9,z0,z1,z2,z3⟩:=zzc6 a1.out;obtain ⟨z4,z5,z6,z7,z8,z9,A0,A1,A2,A3,A4,A5⟩:=zzc6 b7.out));go_ret;exact ⟨zzR,zzh3⟩
 ·
  rw [if_neg c3] at H;have g5:(a3 != b8)=false:=by simpa using c3
  (try (have g6:decide (a3=b8)=true:=by simpa using c3))
  (try (have g7:(a3==b8)=true:=by simpa using c3));clear c3;by_cases c9:(a4 != b9)=true
  ·
   rw [if_pos c9] at H;have g8:(a4 != b9)=true:=c9
   (try (have g9:decide (a4=b9)=false:=by simpa using c9))
   (try (have h0:(a4==b9)=false:=by simpa using c9))
   (try (have C4:¬ (a4=b9):=by simpa using c9));clear c9;obtain rfl:=Option.some.inj H;go_enter Try.func24,Try.ntmps24;go_wp2_with (first|((with_reducible refine gate_dst (N:=2) rfl ?_);refine box_event ?hg (N:=2) ?hd (cs:=#[.bool a3,.bool a4,.int .i64 a9,.int .i64 b0,.int .i64 b1,.slice b2 a5.length b3]) (t:=27) ?hr ?_;(case hd=>rfl);(case hg=>rfl);(case hr=>first|(go_simp;done)|(go_simp;rfl));intro a0 hg C5 hbox hb;have a6:=zzm (zzp zzh1 hb);have a7:=zzm (hbox);have a8:=zzm ((by rw [hg];exact (zzo zzh1):w.heap.size≤a0));have b4:=zzm ((by rw [hg];exact (zzo zzh1):w.heap.size≤a0));clear HB;have HB:=a6;have a1:=a7;have d1:=a8;have d2:=b4;clear a6 a7 a8 b4 hb hbox hg)|((with_reducible refine gate_dst (N:=3) rfl ?_);refine box_event ?hg (N:=3) ?hd (cs:=#[.bool b8,.bool b9,.int .i64 c5,.int .i64 c6,.int .i64 c7,.slice c8 c0.length d0]) (t:=27) ?hr ?_;(case hd=>rfl);(case hg=>rfl);(case hr=>first|(go_simp;done)|(go_simp;rfl));intro a2 hg C6 hbox hb;have a6:=zzm (zzh (g:=a0) (o:=.cells #[.bool a3,.bool a4,.int .i64 a9,.int .i64 b0,.int .i64 b1,.slice b2 a5.length b3] 27 (0,0)) (zzE a1.out) hb);have a7:=zzm (zzp zzh2 hb);have a8:=zzm (hbox);have b4:=zzm ((by rw [hg];exact (zzo zzh2):w.heap.size≤a2));have c1:=zzm ((by rw [hg];exact (zzo zzh2):w.heap.size≤a2));have c2:=zzm ((by rw [hg];exact Nat.ne_of_lt (blk_lt (g:=a0) (o:=.cells #[.bool a3,.bool a4,.int .i64 a9,.int .i64 b0,.int .i64 b1,.slice b2 a5.length b3] 27 (0,0)) (zzE a1.out)):a0≠a2));have c4:=zzm ((by rw [hg];exact Nat.ne_of_gt (blk_lt (g:=a0) (o:=.cells #[.bool a3,.bool a4,.int .i64 a9,.int .i64 b0,.int .i64 b1,.slice b2 a5.length b3] 27 (0,0)) (zzE a1.out)):a2≠a0));clear a1 HB;have a1:=a6;have HB:=a7;have b7:=a8;have d3:=b4;have d4:=c1;have b5:=c2;have b6:=c4;clear a6 a7 a8 b4 c1 c2 c4 hb hbox hg;have A6:=b5.out;have A7:=b6.out;obtain ⟨h1,h2,h3,h4,h5,h6,h7,h8,h9,j3,j4,j5⟩:=zzc6 a1.out;obtain ⟨j6,j7,j8,j9,k0,k1,k2,k3,k4,k5,k6,k7⟩:=zzc6 b7.out));go_ret;exact ⟨zzR,zzh3⟩
  ·
   rw [if_neg c9] at H;have g8:(a4 != b9)=false:=by simpa using c9
   (try (have g9:decide (a4=b9)=true:=by simpa using c9))
   (try (have h0:(a4==b9)=true:=by simpa using c9));clear c9;by_cases d5:a9=c5
   ·
    rw [if_pos d5] at H;obtain ⟨e8,e9⟩:=zzQ d5;clear d5;by_cases d6:b0=c6
    ·
     rw [if_pos d6] at H;obtain ⟨g0,g1⟩:=zzQ d6;clear d6;by_cases d7:b1=c7
     ·
      rw [if_pos d7] at H;obtain ⟨g2,g3⟩:=zzQ d7;clear d7;obtain ⟨d8,g4,H⟩:=zzG H;by_cases e7:d8=true
      ·
       subst e7;replace H:=zzIt H;obtain rfl:=Option.some.inj H;go_enter Try.func24,Try.ntmps24;go_wp2_with (first|((with_reducible refine gate_dst (N:=2) rfl ?_);refine box_event ?hg (N:=2) ?hd (cs:=#[.bool a3,.bool a4,.int .i64 a9,.int .i64 b0,.int .i64 b1,.slice b2 a5.length b3]) (t:=27) ?hr ?_;(case hd=>rfl);(case hg=>rfl);(case hr=>first|(go_simp;done)|(go_simp;rfl));intro a0 hg C7 hbox hb;have a6:=zzm (zzp zzh1 hb);have a7:=zzm (hbox);have a8:=zzm ((by rw [hg];exact (zzo zzh1):w.heap.size≤a0));have b4:=zzm ((by rw [hg];exact (zzo zzh1):w.heap.size≤a0));clear HB;have HB:=a6;have a1:=a7;have d1:=a8;have d2:=b4;clear a6 a7 a8 b4 hb hbox hg)|((with_reducible refine gate_dst (N:=3) rfl ?_);refine box_event ?hg (N:=3) ?hd (cs:=#[.bool b8,.bool b9,.int .i64 c5,.int .i64 c6,.int .i64 c7,.slice c8 c0.length d0]) (t:=27) ?hr ?_;(case hd=>rfl);(case hg=>rfl);(case hr=>first|(go_simp;done)|(go_simp;rfl));intro a2 hg C8 hbox hb;have a6:=zzm (zzh (g:=a0) (o:=.cells #[.bool a3,.bool a4,.int .i64 a9,.int .i64 b0,.int .i64 b1,.slice b2 a5.length b3] 27 (0,0)) (zzE a1.out) hb);have a7:=zzm (zzp zzh2 hb);have a8:=zzm (hbox);have b4:=zzm ((by rw [hg];exact (zzo zzh2):w.heap.size≤a2));have c1:=zzm ((by rw [hg];exact (zzo zzh2):w.heap.size≤a2));have c2:=zzm ((by rw [hg];exact Nat.ne_of_lt (blk_lt (g:=a0) (o:=.cells #[.bool a3,.bool a4,.int .i64 a9,.int .i64 b0,.int .i64 b1,.slice b2 a5.length b3] 27 (0,0)) (zzE a1.out)):a0≠a2));have c4:=zzm ((by rw [hg];exact Nat.ne_of_gt (blk_lt (g:=a0) (o:=.cells #[.bool a3,.bool a4,.int .i64 a9,.int .i64 b0,.int .i64 b1,.slice b2 a5.length b3] 27 (0,0)) (zzE a1.out)):a2≠a0));clear a1 HB;have a1:=a6;have HB:=a7;have b7:=a8;have d3:=b4;have d4:=c1;have b5:=c2;have b6:=c4;clear a6 a7 a8 b4 c1 c2 c4 hb hbox hg;have A8:=b5.out;have A9:=b6.out;obtain ⟨k8,k9,l2,l3,l4,l5,l6,l7,l8,l9,m0,m1⟩:=zzc6 a1.out;obtain ⟨m2,m3,m4,m5,m6,m7,m8,m9,n0,n1,n2,n3⟩:=zzc6 b7.out)|((with_reducible refine gate_callee (f:=50) rfl ?_);refine goesL_ (some 34) rfl rfl Try.func50 (by kernel_rfl) rfl #[.slice b2 a5.length b3,.slice c8 c0.length d0] rfl zzM2 ?_;(with_reducible refine (Qm.calls k _ _ a5 _ _ c0 true _ ?side1 ?side2 ?side3 ?side4 g4.out).mono ?_);(case side1=>exact zzcb e3 HB);(case side2=>exact e4.out);(case side3=>exact zzcb e5 HB);(case side4=>exact e6.out);rintro e C9 ⟨rfl,hb⟩;refine ⟨_,rfl,?_⟩;have a6:=zzm (zzh (g:=a0) (o:=.cells #[.bool a3,.bool a4,.int .i64 a9,.int .i64 b0,.int .i64 b1,.slice b2 a5.length b3] 27 (0,0)) (zzE a1.out) hb);have a7:=zzm (zzh (g:=a2) (o:=.cells #[.bool b8,.bool b9,.int .i64 c5,.int .i64 c6,.int .i64 c7,.slice c8 c0.length d0] 27 (0,0)) (zzE b7.out) hb);have a8:=zzm (zzp zzh2 hb);clear a1 b7 HB;have a1:=a6;have b7:=a7;have HB:=a8;clear a6 a7 a8;(try clear hb);(try clear hb2);(try clear hk);(try clear hi)));go_ret;exact ⟨zzR,zzh3⟩
      ·
       replace e7:=Bool.eq_false_iff.mpr e7;subst e7;replace H:=zzIf H;obtain rfl:=Option.some.inj H;go_enter Try.func24,Try.ntmps24;go_wp2_with (first|((with_reducible refine gate_dst (N:=2) rfl ?_);refine box_event ?hg (N:=2) ?hd (cs:=#[.bool a3,.bool a4,.int .i64 a9,.int .i64 b0,.int .i64 b1,.slice b2 a5.length b3]) (t:=27) ?hr ?_;(case hd=>rfl);(case hg=>rfl);(case hr=>first|(go_simp;done)|(go_simp;rfl));intro a0 hg D0 hbox hb;have a6:=zzm (zzp zzh1 hb);have a7:=zzm (hbox);have a8:=zzm ((by rw [hg];exact (zzo zzh1):w.heap.size≤a0));have b4:=zzm ((by rw [hg];exact (zzo zzh1):w.heap.size≤a0));clear HB;have HB:=a6;have a1:=a7;have d1:=a8;have d2:=b4;clear a6 a7 a8 b4 hb hbox hg)|((with_reducible refine gate_dst (N:=3) rfl ?_);refine box_event ?hg (N:=3) ?hd (cs:=#[.bool b8,.bool b9,.int .i64 c5,.int .i64 c6,.int .i64 c7,.slice c8 c0.length d0]) (t:=27) ?hr ?_;(case hd=>rfl);(case hg=>rfl);(case hr=>first|(go_simp;done)|(go_simp;rfl));intro a2 hg D1 hbox hb;have a6:=zzm (zzh (g:=a0) (o:=.cells #[.bool a3,.bool a4,.int .i64 a9,.int .i64 b0,.int .i64 b1,.slice b2 a5.length b3] 27 (0,0)) (zzE a1.out) hb);have a7:=zzm (zzp zzh2 hb);have a8:=zzm (hbox);have b4:=zzm ((by rw [hg];exact (zzo zzh2):w.heap.size≤a2));have c1:=zzm ((by rw [hg];exact (zzo zzh2):w.heap.size≤a2));have c2:=zzm ((by rw [hg];exact Nat.ne_of_lt (blk_lt (g:=a0) (o:=.cells #[.bool a3,.bool a4,.int .i64 a9,.int .i64 b0,.int .i64 b1,.slice b2 a5.length b3] 27 (0,0)) (zzE a1.out)):a0≠a2));have c4:=zzm ((by rw [hg];exact Nat.ne_of_gt (blk_lt (g:=a0) (o:=.cells #[.bool a3,.bool a4,.int .i64 a9,.int .i64 b0,.int .i64 b1,.slice b2 a5.length b3] 27 (0,0)) (zzE a1.out)):a2≠a0));clear a1 HB;have a1:=a6;have HB:=a7;have b7:=a8;have d3:=b4;have d4:=c1;have b5:=c2;have b6:=c4;clear a6 a7 a8 b4 c1 c2 c4 hb hbox hg;have B0:=b5.out;have B1:=b6.out;obtain ⟨n4,n5,n6,n7,n8,n9,o0,o1,o2,o3,o4,o5⟩:=zzc6 a1.out;obtain ⟨o6,o7,o8,o9,p0,p1,p2,p3,p4,p5,p6,p7⟩:=zzc6 b7.out)|((with_reducible refine gate_callee (f:=50) rfl ?_);refine goesL_ (some 34) rfl rfl Try.func50 (by kernel_rfl) rfl #[.slice b2 a5.length b3,.slice c8 c0.length d0] rfl zzM2 ?_;(with_reducible refine (Qm.calls k _ _ a5 _ _ c0 false _ ?side1 ?side2 ?side3 ?side4 g4.out).mono ?_);(case side1=>exact zzcb e3 HB);(case side2=>exact e4.out);(case side3=>exact zzcb e5 HB);(case side4=>exact e6.out);rintro e D2 ⟨rfl,hb⟩;refine ⟨_,rfl,?_⟩;have a6:=zzm (zzh (g:=a0) (o:=.cells #[.bool a3,.bool a4,.int .i64 a9,.int .i64 b0,.int .i64 b1,.slice b2 a5.length b3] 27 (0,0)) (zzE a1.out) hb);have a7:=zzm (zzh (g:=a2) (o:=.cells #[.bool b8,.bool b9,.int .i64 c5,.int .i64 c6,.int .i64 c7,.slice c8 c0.length d0] 27 (0,0)) (zzE b7.out) hb);have a8:=zzm (zzp zzh2 hb);clear a1 b7 HB;have a1:=a6;have b7:=a7;have HB:=a8;clear a6 a7 a8;(try clear hb);(try clear hb2);(try clear hk);(try clear hi)));go_ret;exact ⟨zzR,zzh3⟩
     ·
      rw [if_neg d7] at H;obtain ⟨g2,g3⟩:=zzY d7;obtain rfl:=Option.some.inj H;go_enter Try.func24,Try.ntmps24;go_wp2_with (first|((with_reducible refine gate_dst (N:=2) rfl ?_);refine box_event ?hg (N:=2) ?hd (cs:=#[.bool a3,.bool a4,.int .i64 a9,.int .i64 b0,.int .i64 b1,.slice b2 a5.length b3]) (t:=27) ?hr ?_;(case hd=>rfl);(case hg=>rfl);(case hr=>first|(go_simp;done)|(go_simp;rfl));intro a0 hg D3 hbox hb;have a6:=zzm (zzp zzh1 hb);have a7:=zzm (hbox);have a8:=zzm ((by rw [hg];exact (zzo zzh1):w.heap.size≤a0));have b4:=zzm ((by rw [hg];exact (zzo zzh1):w.heap.size≤a0));clear HB;have HB:=a6;have a1:=a7;have d1:=a8;have d2:=b4;clear a6 a7 a8 b4 hb hbox hg)|((with_reducible refine gate_dst (N:=3) rfl ?_);refine box_event ?hg (N:=3) ?hd (cs:=#[.bool b8,.bool b9,.int .i64 c5,.int .i64 c6,.int .i64 c7,.slice c8 c0.length d0]) (t:=27) ?hr ?_;(case hd=>rfl);(case hg=>rfl);(case hr=>first|(go_simp;done)|(go_simp;rfl));intro a2 hg D4 hbox hb;have a6:=zzm (zzh (g:=a0) (o:=.cells #[.bool a3,.bool a4,.int .i64 a9,.int .i64 b0,.int .i64 b1,.slice b2 a5.length b3] 27 (0,0)) (zzE a1.out) hb);have a7:=zzm (zzp zzh2 hb);have a8:=zzm (hbox);have b4:=zzm ((by rw [hg];exact (zzo zzh2):w.heap.size≤a2));have c1:=zzm ((by rw [hg];exact (zzo zzh2):w.heap.size≤a2));have c2:=zzm ((by rw [hg];exact Nat.ne_of_lt (blk_lt (g:=a0) (o:=.cells #[.bool a3,.bool a4,.int .i64 a9,.int .i64 b0,.int .i64 b1,.slice b2 a5.length b3] 27 (0,0)) (zzE a1.out)):a0≠a2));have c4:=zzm ((by rw [hg];exact Nat.ne_of_gt (blk_lt (g:=a0) (o:=.cells #[.bool a3,.bool a4,.int .i64 a9,.int .i64 b0,.int .i64 b1,.slice b2 a5.length b3] 27 (0,0)) (zzE a1.out)):a2≠a0));clear a1 HB;have a1:=a6;have HB:=a7;have b7:=a8;have d3:=b4;have d4:=c1;have b5:=c2;have b6:=c4;clear a6 a7 a8 b4 c1 c2 c4 hb hbox hg;have B2:=b5.out;have B3:=b6.out;obtain ⟨p8,p9,q0,q1,q2,q3,q4,q5,q6,q7,q8,q9⟩:=zzc6 a1.out;obtain ⟨r0,r1,r2,r3,r4,r5,r6,r7,r8,r9,s0,s1⟩:=zzc6 b7.out));go_ret;exact ⟨zzR,zzh3⟩
    ·
     rw [if_neg d6] at H;obtain ⟨g0,g1⟩:=zzY d6;obtain rfl:=Option.some.inj H;go_enter Try.func24,Try.ntmps24;go_wp2_with (first|((with_reducible refine gate_dst (N:=2) rfl ?_);refine box_event ?hg (N:=2) ?hd (cs:=#[.bool a3,.bool a4,.int .i64 a9,.int .i64 b0,.int .i64 b1,.slice b2 a5.length b3]) (t:=27) ?hr ?_;(case hd=>rfl);(case hg=>rfl);(case hr=>first|(go_simp;done)|(go_simp;rfl));intro a0 hg D5 hbox hb;have a6:=zzm (zzp zzh1 hb);have a7:=zzm (hbox);have a8:=zzm ((by rw [hg];exact (zzo zzh1):w.heap.size≤a0));have b4:=zzm ((by rw [hg];exact (zzo zzh1):w.heap.size≤a0));clear HB;have HB:=a6;have a1:=a7;have d1:=a8;have d2:=b4;clear a6 a7 a8 b4 hb hbox hg)|((with_reducible refine gate_dst (N:=3) rfl ?_);refine box_event ?hg (N:=3) ?hd (cs:=#[.bool b8,.bool b9,.int .i64 c5,.int .i64 c6,.int .i64 c7,.slice c8 c0.length d0]) (t:=27) ?hr ?_;(case hd=>rfl);(case hg=>rfl);(case hr=>first|(go_simp;done)|(go_simp;rfl));intro a2 hg D6 hbox hb;have a6:=zzm (zzh (g:=a0) (o:=.cells #[.bool a3,.bool a4,.int .i64 a9,.int .i64 b0,.int .i64 b1,.slice b2 a5.length b3] 27 (0,0)) (zzE a1.out) hb);have a7:=zzm (zzp zzh2 hb);have a8:=zzm (hbox);have b4:=zzm ((by rw [hg];exact (zzo zzh2):w.heap.size≤a2));have c1:=zzm ((by rw [hg];exact (zzo zzh2):w.heap.size≤a2));have c2:=zzm ((by rw [hg];exact Nat.ne_of_lt (blk_lt (g:=a0) (o:=.cells #[.bool a3,.bool a4,.int .i64 a9,.int .i64 b0,.int .i64 b1,.slice b2 a5.length b3] 27 (0,0)) (zzE a1.out)):a0≠a2));have c4:=zzm ((by rw [hg];exact Nat.ne_of_gt (blk_lt (g:=a0) (o:=.cells #[.bool a3,.bool a4,.int .i64 a9,.int .i64 b0,.int .i64 b1,.slice b2 a5.length b3] 27 (0,0)) (zzE a1.out)):a2≠a0));clear a1 HB;have a1:=a6;have HB:=a7;have b7:=a8;have d3:=b4;have d4:=c1;have b5:=c2;have b6:=c4;clear a6 a7 a8 b4 c1 c2 c4 hb hbox hg;have B5:=b5.out;have B7:=b6.out;obtain ⟨s2,s3,s4,s5,s6,s7,s8,s9,t0,t1,t2,t3⟩:=zzc6 a1.out;obtain ⟨t4,t5,t6,t7,t8,t9,v0,v1,v2,v3,v4,v5⟩:=zzc6 b7.out));go_ret;exact ⟨zzR,zzh3⟩
   ·
    rw [if_neg d5] at H;obtain ⟨e8,e9⟩:=zzY d5;obtain rfl:=Option.some.inj H;go_enter Try.func24,Try.ntmps24;go_wp2_with (first|((with_reducible refine gate_dst (N:=2) rfl ?_);refine box_event ?hg (N:=2) ?hd (cs:=#[.bool a3,.bool a4,.int .i64 a9,.int .i64 b0,.int .i64 b1,.slice b2 a5.length b3]) (t:=27) ?hr ?_;(case hd=>rfl);(case hg=>rfl);(case hr=>first|(go_simp;done)|(go_simp;rfl));intro a0 hg D7 hbox hb;have a6:=zzm (zzp zzh1 hb);have a7:=zzm (hbox);have a8:=zzm ((by rw [hg];exact (zzo zzh1):w.heap.size≤a0));have b4:=zzm ((by rw [hg];exact (zzo zzh1):w.heap.size≤a0));clear HB;have HB:=a6;have a1:=a7;have d1:=a8;have d2:=b4;clear a6 a7 a8 b4 hb hbox hg)|((with_reducible refine gate_dst (N:=3) rfl ?_);refine box_event ?hg (N:=3) ?hd (cs:=#[.bool b8,.bool b9,.int .i64 c5,.int .i64 c6,.int .i64 c7,.slice c8 c0.length d0]) (t:=27) ?hr ?_;(case hd=>rfl);(case hg=>rfl);(case hr=>first|(go_simp;done)|(go_simp;rfl));intro a2 hg D8 hbox hb;have a6:=zzm (zzh (g:=a0) (o:=.cells #[.bool a3,.bool a4,.int .i64 a9,.int .i64 b0,.int .i64 b1,.slice b2 a5.length b3] 27 (0,0)) (zzE a1.out) hb);have a7:=zzm (zzp zzh2 hb);have a8:=zzm (hbox);have b4:=zzm ((by rw [hg];exact (zzo zzh2):w.heap.size≤a2));have c1:=zzm ((by rw [hg];exact (zzo zzh2):w.heap.size≤a2));have c2:=zzm ((by rw [hg];exact Nat.ne_of_lt (blk_lt (g:=a0) (o:=.cells #[.bool a3,.bool a4,.int .i64 a9,.int .i64 b0,.int .i64 b1,.slice b2 a5.length b3] 27 (0,0)) (zzE a1.out)):a0≠a2));have c4:=zzm ((by rw [hg];exact Nat.ne_of_gt (blk_lt (g:=a0) (o:=.cells #[.bool a3,.bool a4,.int .i64 a9,.int .i64 b0,.int .i64 b1,.slice b2 a5.length b3] 27 (0,0)) (zzE a1.out)):a2≠a0));clear a1 HB;have a1:=a6;have HB:=a7;have b7:=a8;have d3:=b4;have d4:=c1;have b5:=c2;have b6:=c4;clear a6 a7 a8 b4 c1 c2 c4 hb hbox hg;have B9:=b5.out;have C0:=b6.out;obtain ⟨v6,v7,v8,v9,w0,w1,w2,w3,w6,w7,w8,w9⟩:=zzc6 a1.out;obtain ⟨x0,x1,x2,x3,x4,x5,x6,x7,x8,x9,y0,y1⟩:=zzc6 b7.out));go_ret;exact ⟨zzR,zzh3⟩

set_option linter.unusedVariables false
set_option linter.unusedSimpArgs false
def Qp.l0:Nat→List (S27)→List (S27)→Int→Option (Bool)
 | 0,_,_,_=>none
 | k+1,x0,x1,x5=>if x5 < (x0.length:Int) then (if 0≤x5 then (if x5 < (x1.length:Int) then ((Rl.f k ((Qa x0 x5).f0) ((Qa x0 x5).f1) ((Qa x0 x5).f2) ((Qa x0 x5).f3) ((Qa x0 x5).f4) ((Qa x0 x5).f5) ((Qa x1 x5).f0) ((Qa x1 x5).f1) ((Qa x1 x5).f2) ((Qa x1 x5).f3) ((Qa x1 x5).f4) ((Qa x1 x5).f5)).bind fun t489=>(if t489=true then (Qp.l0 k x0 x1 (wrap64 (x5+1))) else (some false))) else (none)) else (none)) else (some true)
def Qp.f (k:Nat) (l0:List (S27)) (l1:List (S27)):Option (Bool):=if (l0.length:Int)=(l1.length:Int) then (Qp.l0 k l0 l1 0) else (some false)
def Qp.T6:Bool×List (List Nat×List Nat):=(true,[([],[]),([],[]),([0,1],[0,1]),([2],[2]),([],[]),([],[]),([4,5],[4,5]),([6],[6]),([3,7],[3,7]),([8],[8])])
def Qp.B6:List Nat:=[0,0,3,7,0,0,48,112,255,511]
theorem Qp.tab6:rtab .any (opsOf Try.f41 6)=Qp.T6:=by kernel_rfl
theorem Qp.bits6:waitsOk Qp.T6.2 Qp.B6=true:=by kernel_rfl
set_option maxHeartbeats 8000000 in
theorem Qp.calls (k:Nat) (A0:Option Addr) (c0:Nat) (l0:List (S27)) (A1:Option Addr) (c1:Nat) (l1:List (S27)) (r:Bool) (w:World) (g9:Kd.C k27 w A0 l0.length l0) (h0:l0.length≤c0) (h1:Kd.C k27 w A1 l1.length l1) (h2:l1.length≤c1) (h:Qp.f k l0 l1=some r) :
  Calls Try.prog 41 #[.slice A0 l0.length c0,.slice A1 l1.length c1] w fun e w'=>e = .returned (.bool r)∧Below w.heap.size w w':=by
 have hu27:=Try.underlying27;have h3:=zzm g9;have h9:=zzm h0;clear g9 h0;have h4:=zzm h1;have j3:=zzm h2;clear h1 h2;have HB:=zzm (Below.refl w.heap.size w);have H:(if (l0.length:Int)=(l1.length:Int) then (Qp.l0 k l0 l1 0) else (some false))=some r:=h;clear h;by_cases c3:(l0.length:Int)=(l1.length:Int)
 ·
  rw [if_pos c3] at H;obtain ⟨g6,g7⟩:=zzQ c3;have g8:(l0.length==l1.length)=true:=by first|simpa using c3|(simp at c3 ⊢;omega)
  clear c3;have H':=zzm H;clear H;go_enter Try.func41,Try.ntmps41;go_wp2;go_loopg [5] k (fun kq v5 w'=>∃ (a0:Int),v5 = .int .i64 a0∧Aside0 (Qp.l0 kq l0 l1 a0=some r)∧Aside0 (kq≤k)∧Aside0 (Below w.heap.size w w'))
  case atStart=>exact ⟨(0),(by first|rfl|(simp;done)|(simp [*];done)),H',⟨Nat.le_refl _⟩,⟨zzh1⟩⟩
  case round=>
   clear H';try clear c1
   try clear p2
   try clear c3
   try clear g6
   try clear g7
   try clear g8
   obtain ⟨a0,rfl,HA,HK1,HB⟩:=hrel;cases gk with
   | zero=>exact absurd HA.out (by simp [Qp.l0])
   | succ k1=>
    have H:=HA.out;clear HA;simp only [Qp.l0] at H;by_cases c4:a0 < (l0.length:Int)
    ·
     rw [if_pos c4] at H;have h5:decide (a0 < (l0.length:Int))=true:=decide_eq_true c4;clear c4;by_cases c5 : 0≤a0
     ·
      rw [if_pos c5] at H;have h7:decide (0≤a0)=true:=decide_eq_true c5;clear c5;by_cases c6:a0 < (l1.length:Int)
      ·
       rw [if_pos c6] at H;have h8:decide (a0 < (l1.length:Int))=true:=decide_eq_true c6;clear c6;obtain ⟨h6,A7,H⟩:=zzG H;by_cases c8:h6=true
       ·
        subst c8;replace H:=zzIt H;have H':=zzm H;clear H;try go_wp2
        have e2:=zzm (zzc HB.out);clear HB;have HB:=e2;clear e2;have e7 : 0≤(a0:Int):=zzt;have e8:a0 < (l0.length:Int):=zzt;obtain ⟨a1,e3,e4,g4,a4,a5,a6,a7,a8,a9,b7,b8⟩:=Q2 h3.out a0 e7 e8;have b9:=a9;have c2:=a8;have c7:=a7;have c9:=a6;have d0:=a5;have d1:=a4;cases g4;replace a4:=zzx HB.out a4;replace a5:=zzx HB.out a5;replace a6:=zzx HB.out a6;replace a7:=zzx HB.out a7;replace a8:=zzx HB.out a8;replace a9:=zzx HB.out a9;have d2:=zzm b8;have g1:=zzm b7;clear b8 b7;replace e7:=eq_true e7;replace e8:=eq_true e8;have e9 : 0≤(a0:Int):=zzt;have g0:a0 < (l1.length:Int):=zzt;obtain ⟨a2,e5,e6,g5,b0,b1,b2,b3,b4,b5,d3,d4⟩:=Q2 h4.out a0 e9 g0;have d5:=b5;have d6:=b4;have d7:=b3;have d8:=b2;have d9:=b1;have e0:=b0;cases g5;replace b0:=zzx HB.out b0;replace b1:=zzx HB.out b1;replace b2:=zzx HB.out b2;replace b3:=zzx HB.out b3;replace b4:=zzx HB.out b4;replace b5:=zzx HB.out b5;have e1:=zzm d4;have g2:=zzm d3;clear d4 d3;replace e9:=eq_true e9;replace g0:=eq_true g0;refine start_ (n:=10) (S:=fun w'=>w'.cell? (a1.add ((a0).toNat * 6))=some (.bool ((Qa l0 a0).f0))∧w'.cell? ⟨(a1.add ((a0).toNat * 6)).block,(a1.add ((a0).toNat * 6)).off+1,none⟩=some (.bool ((Qa l0 a0).f1))∧w'.cell? ⟨(a1.add ((a0).toNat * 6)).block,(a1.add ((a0).toNat * 6)).off+2,none⟩=some (.int .i64 ((Qa l0 a0).f2))∧w'.cell? ⟨(a1.add ((a0).toNat * 6)).block,(a1.add ((a0).toNat * 6)).off+3,none⟩=some (.int .i64 ((Qa l0 a0).f3))∧w'.cell? ⟨(a1.add ((a0).toNat * 6)).block,(a1.add ((a0).toNat * 6)).off+4,none⟩=some (.int .i64 ((Qa l0 a0).f4))∧w'.cell? ⟨(a1.add ((a0).toNat * 6)).block,(a1.add ((a0).toNat * 6)).off+5,none⟩=some (.slice e3 ((Qa l0 a0).f5).length e4)∧w'.cell? (a2.add ((a0).toNat * 6))=some (.bool ((Qa l1 a0).f0))∧w'.cell? ⟨(a2.add ((a0).toNat * 6)).block,(a2.add ((a0).toNat * 6)).off+1,none⟩=some (.bool ((Qa l1 a0).f1))∧w'.cell? ⟨(a2.add ((a0).toNat * 6)).block,(a2.add ((a0).toNat * 6)).off+2,none⟩=some (.int .i64 ((Qa l1 a0).f2))∧w'.cell? ⟨(a2.add ((a0).toNat * 6)).block,(a2.add ((a0).toNat * 6)).off+3,none⟩=some (.int .i64 ((Qa l1 a0).f3))∧w'.cell? ⟨(a2.add ((a0).toNat * 6)).block,(a2.add ((a0).toNat * 6)).off+4,none⟩=some (.int .i64 ((Qa l1 a0).f4))∧w'.cell? ⟨(a2.add ((a0).toNat * 6)).block,(a2.add ((a0).toNat * 6)).off+5,none⟩=some (.slice e5 ((Qa l1 a0).f5).length e6)) (ds:=[]) (zzB 10 0) (by kernel_rfl) rfl rfl ⟨(zzx HB.out d1),(zzx HB.out d0),(zzx HB.out c9),(zzx HB.out c7),(zzx HB.out c2),(zzx HB.out b9),(zzx HB.out e0),(zzx HB.out d9),(zzx HB.out d8),(zzx HB.out d7),(zzx HB.out d6),(zzx HB.out d5)⟩ (fun b6=>?_);refine with_tabW Qp.tab6 Qp.bits6 (fun a3 g3=>?_);generalize wr.drew=w9 at HB d2 e1 a4 a5 a6 a7 a8 a9 b0 b1 b2 b3 b4 b5 b6 ⊢;refine zzP 0 17 10 1 a3 ?_
        refine zzP 1 18 10 3 a3 ?_
        refine zzP 2 19 10 7 a3 ?_
        refine zzP 4 21 10 23 a3 ?_
        refine zzP 5 22 10 55 a3 ?_
        refine zzP 6 23 10 119 a3 ?_
        refine zzT 3 20 10 127 a3 g3 b6 ?_
        refine zzT 7 24 10 255 a3 g3 b6 ?_
        refine one_ (i:=8) (N:=some 25) (zzB 10 511) rfl rfl (one_of a3.out (by kernel_rfl)) (by decide) (fun K hK=>?_);refine goes_ Try.func24 (by kernel_rfl) rfl #[.agg #[.bool ((Qa l0 a0).f0),.bool ((Qa l0 a0).f1),.int .i64 ((Qa l0 a0).f2),.int .i64 ((Qa l0 a0).f3),.int .i64 ((Qa l0 a0).f4),.slice e3 ((Qa l0 a0).f5).length e4],.agg #[.bool ((Qa l1 a0).f0),.bool ((Qa l1 a0).f1),.int .i64 ((Qa l1 a0).f2),.int .i64 ((Qa l1 a0).f3),.int .i64 ((Qa l1 a0).f4),.slice e5 ((Qa l1 a0).f5).length e6]] (by rfl) rfl rfl zzM2 ?_;with_reducible refine (Rl.calls k1 ((Qa l0 a0).f0) ((Qa l0 a0).f1) ((Qa l0 a0).f2) ((Qa l0 a0).f3) ((Qa l0 a0).f4) _ _ ((Qa l0 a0).f5) ((Qa l1 a0).f0) ((Qa l1 a0).f1) ((Qa l1 a0).f2) ((Qa l1 a0).f3) ((Qa l1 a0).f4) _ _ ((Qa l1 a0).f5) true _ ?side1 ?side2 ?side3 ?side4 A7.out).mono ?_
        (case side1=>exact zzcb d2 HB)
        (case side2=>exact g1.out)
        (case side3=>exact zzcb e1 HB)
        (case side4=>exact g2.out);rintro e j4 ⟨rfl,hb⟩;refine ⟨_,rfl,?_⟩;have e2:=zzm (zzp zzh1 hb);clear HB;have HB:=e2;clear e2
        (try clear hb)
        (try clear hb2)
        (try clear hk)
        (try clear hi);refine hK.out _ _ ⟨(zzx HB.out d1),(zzx HB.out d0),(zzx HB.out c9),(zzx HB.out c7),(zzx HB.out c2),(zzx HB.out b9),(zzx HB.out e0),(zzx HB.out d9),(zzx HB.out d8),(zzx HB.out d7),(zzx HB.out d6),(zzx HB.out d5)⟩ (fun b6=>?_);clear hK K;refine zzO 25 ?_
        refine zzP 9 26 10 1023 a3 ?_
        refine done_ (done_of a3.out (by kernel_rfl)) ?_;try go_wp2
        go_roundg k1
        case measure=>have:=HK1.out;omega
        case rel=>exact ⟨(wrap64 (a0+1)),(by first|rfl|(simp;done)|(simp [*];done)),H',⟨by have:=HK1.out;omega⟩,⟨zzh1⟩⟩
       ·
        replace c8:=Bool.eq_false_iff.mpr c8;subst c8;replace H:=zzIf H;obtain rfl:=Option.some.inj H;try go_wp2
        have e2:=zzm (zzc HB.out);clear HB;have HB:=e2;clear e2;have e7 : 0≤(a0:Int):=zzt;have e8:a0 < (l0.length:Int):=zzt;obtain ⟨a1,e3,e4,g4,a4,a5,a6,a7,a8,a9,b7,b8⟩:=Q2 h3.out a0 e7 e8;have b9:=a9;have c2:=a8;have c7:=a7;have c9:=a6;have d0:=a5;have d1:=a4;cases g4;replace a4:=zzx HB.out a4;replace a5:=zzx HB.out a5;replace a6:=zzx HB.out a6;replace a7:=zzx HB.out a7;replace a8:=zzx HB.out a8;replace a9:=zzx HB.out a9;have d2:=zzm b8;have g1:=zzm b7;clear b8 b7;replace e7:=eq_true e7;replace e8:=eq_true e8;have e9 : 0≤(a0:Int):=zzt;have g0:a0 < (l1.length:Int):=zzt;obtain ⟨a2,e5,e6,g5,b0,b1,b2,b3,b4,b5,d3,d4⟩:=Q2 h4.out a0 e9 g0;have d5:=b5;have d6:=b4;have d7:=b3;have d8:=b2;have d9:=b1;have e0:=b0;cases g5;replace b0:=zzx HB.out b0;replace b1:=zzx HB.out b1;replace b2:=zzx HB.out b2;replace b3:=zzx HB.out b3;replace b4:=zzx HB.out b4;replace b5:=zzx HB.out b5;have e1:=zzm d4;have g2:=zzm d3;clear d4 d3;replace e9:=eq_true e9;replace g0:=eq_true g0;refine start_ (n:=10) (S:=fun w'=>w'.cell? (a1.add ((a0).toNat * 6))=some (.bool ((Qa l0 a0).f0))∧w'.cell? ⟨(a1.add ((a0).toNat * 6)).block,(a1.add ((a0).toNat * 6)).off+1,none⟩=some (.bool ((Qa l0 a0).f1))∧w'.cell? ⟨(a1.add ((a0).toNat * 6)).block,(a1.add ((a0).toNat * 6)).off+2,none⟩=some (.int .i64 ((Qa l0 a0).f2))∧w'.cell? ⟨(a1.add ((a0).toNat * 6)).block,(a1.add ((a0).toNat * 6)).off+3,none⟩=some (.int .i64 ((Qa l0 a0).f3))∧w'.cell? ⟨(a1.add ((a0).toNat * 6)).block,(a1.add ((a0).toNat * 6)).off+4,none⟩=some (.int .i64 ((Qa l0 a0).f4))∧w'.cell? ⟨(a1.add ((a0).toNat * 6)).block,(a1.add ((a0).toNat * 6)).off+5,none⟩=some (.slice e3 ((Qa l0 a0).f5).length e4)∧w'.cell? (a2.add ((a0).toNat * 6))=some (.bool ((Qa l1 a0).f0))∧w'.cell? ⟨(a2.add ((a0).toNat * 6)).block,(a2.add ((a0).toNat * 6)).off+1,none⟩=some (.bool ((Qa l1 a0).f1))∧w'.cell? ⟨(a2.add ((a0).toNat * 6)).block,(a2.add ((a0).toNat * 6)).off+2,none⟩=some (.int .i64 ((Qa l1 a0).f2))∧w'.cell? ⟨(a2.add ((a0).toNat * 6)).block,(a2.add ((a0).toNat * 6)).off+3,none⟩=some (.int .i64 ((Qa l1 a0).f3))∧w'.cell? ⟨(a2.add ((a0).toNat * 6)).block,(a2.add ((a0).toNat * 6)).off+4,none⟩=some (.int .i64 ((Qa l1 a0).f4))∧w'.cell? ⟨(a2.add ((a0).toNat * 6)).block,(a2.add ((a0).toNat * 6)).off+5,none⟩=some (.slice e5 ((Qa l1 a0).f5).length e6)) (ds:=[]) (zzB 10 0) (by kernel_rfl) rfl rfl ⟨(zzx HB.out d1),(zzx HB.out d0),(zzx HB.out c9),(zzx HB.out c7),(zzx HB.out c2),(zzx HB.out b9),(zzx HB.out e0),(zzx HB.out d9),(zzx HB.out d8),(zzx HB.out d7),(zzx HB.out d6),(zzx HB.out d5)⟩ (fun b6=>?_);refine with_tabW Qp.tab6 Qp.bits6 (fun a3 g3=>?_);generalize wr.drew=j5 at HB d2 e1 a4 a5 a6 a7 a8 a9 b0 b1 b2 b3 b4 b5 b6 ⊢;refine zzP 0 17 10 1 a3 ?_
        refine zzP 1 18 10 3 a3 ?_
        refine zzP 2 19 10 7 a3 ?_
        refine zzP 4 21 10 23 a3 ?_
        refine zzP 5 22 10 55 a3 ?_
        refine zzP 6 23 10 119 a3 ?_
        refine zzT 3 20 10 127 a3 g3 b6 ?_
        refine zzT 7 24 10 255 a3 g3 b6 ?_
        refine one_ (i:=8) (N:=some 25) (zzB 10 511) rfl rfl (one_of a3.out (by kernel_rfl)) (by decide) (fun K hK=>?_);refine goes_ Try.func24 (by kernel_rfl) rfl #[.agg #[.bool ((Qa l0 a0).f0),.bool ((Qa l0 a0).f1),.int .i64 ((Qa l0 a0).f2),.int .i64 ((Qa l0 a0).f3),.int .i64 ((Qa l0 a0).f4),.slice e3 ((Qa l0 a0).f5).length e4],.agg #[.bool ((Qa l1 a0).f0),.bool ((Qa l1 a0).f1),.int .i64 ((Qa l1 a0).f2),.int .i64 ((Qa l1 a0).f3),.int .i64 ((Qa l1 a0).f4),.slice e5 ((Qa l1 a0).f5).length e6]] (by rfl) rfl rfl zzM2 ?_;with_reducible refine (Rl.calls k1 ((Qa l0 a0).f0) ((Qa l0 a0).f1) ((Qa l0 a0).f2) ((Qa l0 a0).f3) ((Qa l0 a0).f4) _ _ ((Qa l0 a0).f5) ((Qa l1 a0).f0) ((Qa l1 a0).f1) ((Qa l1 a0).f2) ((Qa l1 a0).f3) ((Qa l1 a0).f4) _ _ ((Qa l1 a0).f5) false _ ?side1 ?side2 ?side3 ?side4 A7.out).mono ?_
        (case side1=>exact zzcb d2 HB)
        (case side2=>exact g1.out)
        (case side3=>exact zzcb e1 HB)
        (case side4=>exact g2.out);rintro e j6 ⟨rfl,hb⟩;refine ⟨_,rfl,?_⟩;have e2:=zzm (zzp zzh1 hb);clear HB;have HB:=e2;clear e2
        (try clear hb)
        (try clear hb2)
        (try clear hk)
        (try clear hi);refine hK.out _ _ ⟨(zzx HB.out d1),(zzx HB.out d0),(zzx HB.out c9),(zzx HB.out c7),(zzx HB.out c2),(zzx HB.out b9),(zzx HB.out e0),(zzx HB.out d9),(zzx HB.out d8),(zzx HB.out d7),(zzx HB.out d6),(zzx HB.out d5)⟩ (fun b6=>?_);clear hK K;refine zzO 25 ?_
        refine zzP 9 26 10 1023 a3 ?_
        refine done_ (done_of a3.out (by kernel_rfl)) ?_;try go_wp2
        go_ret;exact ⟨zzR,zzh1⟩
      ·
       rw [if_neg c6] at H;exact absurd H (by simp)
     ·
      rw [if_neg c5] at H;exact absurd H (by simp)
    ·
     rw [if_neg c4] at H;have h5:decide (a0 < (l0.length:Int))=false:=decide_eq_false c4;clear c4;obtain rfl:=Option.some.inj H;go_wp2;go_ret;exact ⟨zzR,zzh1⟩
 ·
  rw [if_neg c3] at H;obtain ⟨g6,g7⟩:=zzY c3;have g8:(l0.length==l1.length)=false:=by first|simpa using c3|(simp at c3 ⊢;omega)
  obtain rfl:=Option.some.inj H;go_enter Try.func41,Try.ntmps41;go_wp2;go_ret;exact ⟨zzR,zzh1⟩

set_option linter.unusedVariables false
set_option linter.unusedSimpArgs false
def Ro.f (a0_0:Int) (a0_1:Int) (a0_2:Int) (a1_0:Int) (a1_1:Int) (a1_2:Int):Option (Bool):=if a0_0=a1_0 then (if a0_1=a1_1 then (if a0_2=a1_2 then (some true) else (some false)) else (some false)) else (some false)
set_option maxHeartbeats 8000000 in
theorem Ro.calls (a3:Int) (a4:Int) (a5:Int) (b3:Int) (b4:Int) (b5:Int) (r:Bool) (w:World) (h:Ro.f a3 a4 a5 b3 b4 b5=some r) :
  Calls Try.prog 79 #[.agg #[.int .i64 a3,.int .i64 a4,.int .i64 a5],.agg #[.int .i64 b3,.int .i64 b4,.int .i64 b5]] w fun e w'=>e = .returned (.bool r)∧Below w.heap.size w w':=by
 have hu46:=Try.underlying46;have HB:=zzm (Below.refl w.heap.size w);have H:(if a3=b3 then (if a4=b4 then (if a5=b5 then (some true) else (some false)) else (some false)) else (some false))=some r:=h;clear h;by_cases c3:a3=b3
 ·
  rw [if_pos c3] at H;obtain ⟨c6,c7⟩:=zzQ c3;clear c3;by_cases c4:a4=b4
  ·
   rw [if_pos c4] at H;obtain ⟨c8,c9⟩:=zzQ c4;clear c4;by_cases c5:a5=b5
   ·
    rw [if_pos c5] at H;obtain ⟨d0,d1⟩:=zzQ c5;clear c5;obtain rfl:=Option.some.inj H;go_enter Try.func79,Try.ntmps79;go_wp2_with (first|((with_reducible refine gate_dst (N:=2) rfl ?_);refine box_event ?hg (N:=2) ?hd (cs:=#[.int .i64 a3,.int .i64 a4,.int .i64 a5]) (t:=46) ?hr ?_;(case hd=>rfl);(case hg=>rfl);(case hr=>first|(go_simp;done)|(go_simp;rfl));intro a0 hg w6 hbox hb;have a6:=zzm (zzp zzh1 hb);have a7:=zzm (hbox);have a8:=zzm ((by rw [hg];exact (zzo zzh1):w.heap.size≤a0));have a9:=zzm ((by rw [hg];exact (zzo zzh1):w.heap.size≤a0));clear HB;have HB:=a6;have a1:=a7;have b9:=a8;have c0:=a9;clear a6 a7 a8 a9 hb hbox hg)|((with_reducible refine gate_dst (N:=3) rfl ?_);refine box_event ?hg (N:=3) ?hd (cs:=#[.int .i64 b3,.int .i64 b4,.int .i64 b5]) (t:=46) ?hr ?_;(case hd=>rfl);(case hg=>rfl);(case hr=>first|(go_simp;done)|(go_simp;rfl));intro a2 hg w7 hbox hb;have a6:=zzm (zzh (g:=a0) (o:=.cells #[.int .i64 a3,.int .i64 a4,.int .i64 a5] 46 (0,0)) (zzE a1.out) hb);have a7:=zzm (zzp zzh2 hb);have a8:=zzm (hbox);have a9:=zzm ((by rw [hg];exact (zzo zzh2):w.heap.size≤a2));have b6:=zzm ((by rw [hg];exact (zzo zzh2):w.heap.size≤a2));have b7:=zzm ((by rw [hg];exact Nat.ne_of_lt (blk_lt (g:=a0) (o:=.cells #[.int .i64 a3,.int .i64 a4,.int .i64 a5] 46 (0,0)) (zzE a1.out)):a0≠a2));have b8:=zzm ((by rw [hg];exact Nat.ne_of_gt (blk_lt (g:=a0) (o:=.cells #[.int .i64 a3,.int .i64 a4,.int .i64 a5] 46 (0,0)) (zzE a1.out)):a2≠a0));clear a1 HB;have a1:=a6;have HB:=a7;have b2:=a8;have c1:=a9;have c2:=b6;have b0:=b7;have b1:=b8;clear a6 a7 a8 a9 b6 b7 b8 hb hbox hg;have k9:=b0.out;have l2:=b1.out;obtain ⟨j7,j8,j9,k0,k1,k2⟩:=zzc3 a1.out;obtain ⟨d2,d3,d4,d5,d6,d7⟩:=zzc3 b2.out));go_ret;exact ⟨zzR,zzh3⟩
   ·
    rw [if_neg c5] at H;obtain ⟨d0,d1⟩:=zzY c5;obtain rfl:=Option.some.inj H;go_enter Try.func79,Try.ntmps79;go_wp2_with (first|((with_reducible refine gate_dst (N:=2) rfl ?_);refine box_event ?hg (N:=2) ?hd (cs:=#[.int .i64 a3,.int .i64 a4,.int .i64 a5]) (t:=46) ?hr ?_;(case hd=>rfl);(case hg=>rfl);(case hr=>first|(go_simp;done)|(go_simp;rfl));intro a0 hg l3 hbox hb;have a6:=zzm (zzp zzh1 hb);have a7:=zzm (hbox);have a8:=zzm ((by rw [hg];exact (zzo zzh1):w.heap.size≤a0));have a9:=zzm ((by rw [hg];exact (zzo zzh1):w.heap.size≤a0));clear HB;have HB:=a6;have a1:=a7;have b9:=a8;have c0:=a9;clear a6 a7 a8 a9 hb hbox hg)|((with_reducible refine gate_dst (N:=3) rfl ?_);refine box_event ?hg (N:=3) ?hd (cs:=#[.int .i64 b3,.int .i64 b4,.int .i64 b5]) (t:=46) ?hr ?_;(case hd=>rfl);(case hg=>rfl);(case hr=>first|(go_simp;done)|(go_simp;rfl));intro a2 hg l4 hbox hb;have a6:=zzm (zzh (g:=a0) (o:=.cells #[.int .i64 a3,.int .i64 a4,.int .i64 a5] 46 (0,0)) (zzE a1.out) hb);have a7:=zzm (zzp zzh2 hb);have a8:=zzm (hbox);have a9:=zzm ((by rw [hg];exact (zzo zzh2):w.heap.size≤a2));have b6:=zzm ((by rw [hg];exact (zzo zzh2):w.heap.size≤a2));have b7:=zzm ((by rw [hg];exact Nat.ne_of_lt (blk_lt (g:=a0) (o:=.cells #[.int .i64 a3,.int .i64 a4,.int .i64 a5] 46 (0,0)) (zzE a1.out)):a0≠a2));have b8:=zzm ((by rw [hg];exact Nat.ne_of_gt (blk_lt (g:=a0) (o:=.cells #[.int .i64 a3,.int .i64 a4,.int .i64 a5] 46 (0,0)) (zzE a1.out)):a2≠a0));clear a1 HB;have a1:=a6;have HB:=a7;have b2:=a8;have c1:=a9;have c2:=b6;have b0:=b7;have b1:=b8;clear a6 a7 a8 a9 b6 b7 b8 hb hbox hg;have k3:=b0.out;have k4:=b1.out;obtain ⟨d8,d9,e0,e1,e2,e3⟩:=zzc3 a1.out;obtain ⟨e4,e5,e6,e7,e8,e9⟩:=zzc3 b2.out));go_ret;exact ⟨zzR,zzh3⟩
  ·
   rw [if_neg c4] at H;obtain ⟨c8,c9⟩:=zzY c4;obtain rfl:=Option.some.inj H;go_enter Try.func79,Try.ntmps79;go_wp2_with (first|((with_reducible refine gate_dst (N:=2) rfl ?_);refine box_event ?hg (N:=2) ?hd (cs:=#[.int .i64 a3,.int .i64 a4,.int .i64 a5]) (t:=46) ?hr ?_;(case hd=>rfl);(case hg=>rfl);(case hr=>first|(go_simp;done)|(go_simp;rfl));intro a0 hg l5 hbox hb;have a6:=zzm (zzp zzh1 hb);have a7:=zzm (hbox);have a8:=zzm ((by rw [hg];exact (zzo zzh1):w.heap.size≤a0));have a9:=zzm ((by rw [hg];exact (zzo zzh1):w.heap.size≤a0));clear HB;have HB:=a6;have a1:=a7;have b9:=a8;have c0:=a9;clear a6 a7 a8 a9 hb hbox hg)|((with_reducible refine gate_dst (N:=3) rfl ?_);refine box_event ?hg (N:=3) ?hd (cs:=#[.int .i64 b3,.int .i64 b4,.int .i64 b5]) (t:=46) ?hr ?_;(case hd=>rfl);(case hg=>rfl);(case hr=>first|(go_simp;done)|(go_simp;rfl));intro a2 hg l6 hbox hb;have a6:=zzm (zzh (g:=a0) (o:=.cells #[.int .i64 a3,.int .i64 a4,.int .i64 a5] 46 (0,0)) (zzE a1.out) hb);have a7:=zzm (zzp zzh2 hb);have a8:=zzm (hbox);have a9:=zzm ((by rw [hg];exact (zzo zzh2):w.heap.size≤a2));have b6:=zzm ((by rw [hg];exact (zzo zzh2):w.heap.size≤a2));have b7:=zzm ((by rw [hg];exact Nat.ne_of_lt (blk_lt (g:=a0) (o:=.cells #[.int .i64 a3,.int .i64 a4,.int .i64 a5] 46 (0,0)) (zzE a1.out)):a0≠a2));have b8:=zzm ((by rw [hg];exact Nat.ne_of_gt (blk_lt (g:=a0) (o:=.cells #[.int .i64 a3,.int .i64 a4,.int .i64 a5] 46 (0,0)) (zzE a1.out)):a2≠a0));clear a1 HB;have a1:=a6;have HB:=a7;have b2:=a8;have c1:=a9;have c2:=b6;have b0:=b7;have b1:=b8;clear a6 a7 a8 a9 b6 b7 b8 hb hbox hg;have k5:=b0.out;have k6:=b1.out;obtain ⟨g0,g1,g2,g3,g4,g5⟩:=zzc3 a1.out;obtain ⟨g6,g7,g8,g9,h0,h1⟩:=zzc3 b2.out));go_ret;exact ⟨zzR,zzh3⟩
 ·
  rw [if_neg c3] at H;obtain ⟨c6,c7⟩:=zzY c3;obtain rfl:=Option.some.inj H;go_enter Try.func79,Try.ntmps79;go_wp2_with (first|((with_reducible refine gate_dst (N:=2) rfl ?_);refine box_event ?hg (N:=2) ?hd (cs:=#[.int .i64 a3,.int .i64 a4,.int .i64 a5]) (t:=46) ?hr ?_;(case hd=>rfl);(case hg=>rfl);(case hr=>first|(go_simp;done)|(go_simp;rfl));intro a0 hg l7 hbox hb;have a6:=zzm (zzp zzh1 hb);have a7:=zzm (hbox);have a8:=zzm ((by rw [hg];exact (zzo zzh1):w.heap.size≤a0));have a9:=zzm ((by rw [hg];exact (zzo zzh1):w.heap.size≤a0));clear HB;have HB:=a6;have a1:=a7;have b9:=a8;have c0:=a9;clear a6 a7 a8 a9 hb hbox hg)|((with_reducible refine gate_dst (N:=3) rfl ?_);refine box_event ?hg (N:=3) ?hd (cs:=#[.int .i64 b3,.int .i64 b4,.int .i64 b5]) (t:=46) ?hr ?_;(case hd=>rfl);(case hg=>rfl);(case hr=>first|(go_simp;done)|(go_simp;rfl));intro a2 hg l8 hbox hb;have a6:=zzm (zzh (g:=a0) (o:=.cells #[.int .i64 a3,.int .i64 a4,.int .i64 a5] 46 (0,0)) (zzE a1.out) hb);have a7:=zzm (zzp zzh2 hb);have a8:=zzm (hbox);have a9:=zzm ((by rw [hg];exact (zzo zzh2):w.heap.size≤a2));have b6:=zzm ((by rw [hg];exact (zzo zzh2):w.heap.size≤a2));have b7:=zzm ((by rw [hg];exact Nat.ne_of_lt (blk_lt (g:=a0) (o:=.cells #[.int .i64 a3,.int .i64 a4,.int .i64 a5] 46 (0,0)) (zzE a1.out)):a0≠a2));have b8:=zzm ((by rw [hg];exact Nat.ne_of_gt (blk_lt (g:=a0) (o:=.cells #[.int .i64 a3,.int .i64 a4,.int .i64 a5] 46 (0,0)) (zzE a1.out)):a2≠a0));clear a1 HB;have a1:=a6;have HB:=a7;have b2:=a8;have c1:=a9;have c2:=b6;have b0:=b7;have b1:=b8;clear a6 a7 a8 a9 b6 b7 b8 hb hbox hg;have k7:=b0.out;have k8:=b1.out;obtain ⟨h2,h3,h4,h5,h6,h7⟩:=zzc3 a1.out;obtain ⟨h8,h9,j3,j4,j5,j6⟩:=zzc3 b2.out));go_ret;exact ⟨zzR,zzh3⟩

set_option linter.unusedVariables false
set_option linter.unusedSimpArgs false
def Qf.l0:Nat→List (S46)→List (S46)→Int→Option (Bool)
 | 0,_,_,_=>none
 | k+1,x0,x1,x5=>if x5 < (x0.length:Int) then (if 0≤x5 then (if x5 < (x1.length:Int) then ((Ro.f ((Qk x0 x5).f0) ((Qk x0 x5).f1) ((Qk x0 x5).f2) ((Qk x1 x5).f0) ((Qk x1 x5).f1) ((Qk x1 x5).f2)).bind fun t494=>(if t494=true then (Qf.l0 k x0 x1 (wrap64 (x5+1))) else (some false))) else (none)) else (none)) else (some true)
def Qf.f (k:Nat) (l0:List (S46)) (l1:List (S46)):Option (Bool):=if (l0.length:Int)=(l1.length:Int) then (Qf.l0 k l0 l1 0) else (some false)
def Qf.T6:Bool×List (List Nat×List Nat):=(true,[([],[]),([],[]),([0,1],[0,1]),([2],[2]),([],[]),([],[]),([4,5],[4,5]),([6],[6]),([3,7],[3,7]),([8],[8])])
def Qf.B6:List Nat:=[0,0,3,7,0,0,48,112,255,511]
theorem Qf.tab6:rtab .any (opsOf Try.f46 6)=Qf.T6:=by kernel_rfl
theorem Qf.bits6:waitsOk Qf.T6.2 Qf.B6=true:=by kernel_rfl
set_option maxHeartbeats 8000000 in
theorem Qf.calls (k:Nat) (A0:Option Addr) (c0:Nat) (l0:List (S46)) (A1:Option Addr) (c1:Nat) (l1:List (S46)) (r:Bool) (w:World) (d5:Kd.C k46 w A0 l0.length l0) (d6:l0.length≤c0) (d7:Kd.C k46 w A1 l1.length l1) (d8:l1.length≤c1) (h:Qf.f k l0 l1=some r) :
  Calls Try.prog 46 #[.slice A0 l0.length c0,.slice A1 l1.length c1] w fun e w'=>e = .returned (.bool r)∧Below w.heap.size w w':=by
 have hu46:=Try.underlying46;have d9:=zzm d5;have e5:=zzm d6;clear d5 d6;have e0:=zzm d7;have e6:=zzm d8;clear d7 d8;have HB:=zzm (Below.refl w.heap.size w);have H:(if (l0.length:Int)=(l1.length:Int) then (Qf.l0 k l0 l1 0) else (some false))=some r:=h;clear h;by_cases c3:(l0.length:Int)=(l1.length:Int)
 ·
  rw [if_pos c3] at H;obtain ⟨d2,d3⟩:=zzQ c3;have d4:(l0.length==l1.length)=true:=by first|simpa using c3|(simp at c3 ⊢;omega)
  clear c3;have H':=zzm H;clear H;go_enter Try.func46,Try.ntmps46;go_wp2;go_loopg [5] k (fun kq v5 w'=>∃ (a0:Int),v5 = .int .i64 a0∧Aside0 (Qf.l0 kq l0 l1 a0=some r)∧Aside0 (kq≤k)∧Aside0 (Below w.heap.size w w'))
  case atStart=>exact ⟨(0),(by first|rfl|(simp;done)|(simp [*];done)),H',⟨Nat.le_refl _⟩,⟨zzh1⟩⟩
  case round=>
   clear H';try clear c1
   try clear p2
   try clear c3
   try clear d2
   try clear d3
   try clear d4
   obtain ⟨a0,rfl,HA,HK1,HB⟩:=hrel;cases gk with
   | zero=>exact absurd HA.out (by simp [Qf.l0])
   | succ k1=>
    have H:=HA.out;clear HA;simp only [Qf.l0] at H;by_cases c4:a0 < (l0.length:Int)
    ·
     rw [if_pos c4] at H;have e1:decide (a0 < (l0.length:Int))=true:=decide_eq_true c4;clear c4;by_cases c5 : 0≤a0
     ·
      rw [if_pos c5] at H;have e3:decide (0≤a0)=true:=decide_eq_true c5;clear c5;by_cases c6:a0 < (l1.length:Int)
      ·
       rw [if_pos c6] at H;have e4:decide (a0 < (l1.length:Int))=true:=decide_eq_true c6;clear c6;obtain ⟨e2,A7,H⟩:=zzG H;by_cases c8:e2=true
       ·
        subst c8;replace H:=zzIt H;have H':=zzm H;clear H;try go_wp2
        have b7:=zzm (zzc HB.out);clear HB;have HB:=b7;clear b7;have b8 : 0≤(a0:Int):=zzt;have b9:a0 < (l0.length:Int):=zzt;obtain ⟨a8,d0,a2,a3,a4⟩:=at_T46 d9.out a0 b8 b9;have b1:=a4;have b2:=a3;have b3:=a2;cases d0;replace a2:=zzx HB.out a2;replace a3:=zzx HB.out a3;replace a4:=zzx HB.out a4;replace b8:=eq_true b8;replace b9:=eq_true b9;have c2 : 0≤(a0:Int):=zzt;have c7:a0 < (l1.length:Int):=zzt;obtain ⟨a9,d1,a5,a6,a7⟩:=at_T46 e0.out a0 c2 c7;have b4:=a7;have b5:=a6;have b6:=a5;cases d1;replace a5:=zzx HB.out a5;replace a6:=zzx HB.out a6;replace a7:=zzx HB.out a7;replace c2:=eq_true c2;replace c7:=eq_true c7;refine start_ (n:=10) (S:=fun w'=>w'.cell? (a8.add ((a0).toNat * 3))=some (.int .i64 ((Qk l0 a0).f0))∧w'.cell? ⟨(a8.add ((a0).toNat * 3)).block,(a8.add ((a0).toNat * 3)).off+1,none⟩=some (.int .i64 ((Qk l0 a0).f1))∧w'.cell? ⟨(a8.add ((a0).toNat * 3)).block,(a8.add ((a0).toNat * 3)).off+2,none⟩=some (.int .i64 ((Qk l0 a0).f2))∧w'.cell? (a9.add ((a0).toNat * 3))=some (.int .i64 ((Qk l1 a0).f0))∧w'.cell? ⟨(a9.add ((a0).toNat * 3)).block,(a9.add ((a0).toNat * 3)).off+1,none⟩=some (.int .i64 ((Qk l1 a0).f1))∧w'.cell? ⟨(a9.add ((a0).toNat * 3)).block,(a9.add ((a0).toNat * 3)).off+2,none⟩=some (.int .i64 ((Qk l1 a0).f2))) (ds:=[]) (zzB 10 0) (by kernel_rfl) rfl rfl ⟨(zzx HB.out b3),(zzx HB.out b2),(zzx HB.out b1),(zzx HB.out b6),(zzx HB.out b5),(zzx HB.out b4)⟩ (fun b0=>?_);refine with_tabW Qf.tab6 Qf.bits6 (fun a1 c9=>?_);generalize wr.drew=w9 at HB a2 a3 a4 a5 a6 a7 b0 ⊢;refine zzP 0 17 10 1 a1 ?_
        refine zzP 1 18 10 3 a1 ?_
        refine zzP 2 19 10 7 a1 ?_
        refine zzP 4 21 10 23 a1 ?_
        refine zzP 5 22 10 55 a1 ?_
        refine zzP 6 23 10 119 a1 ?_
        refine zzT 3 20 10 127 a1 c9 b0 ?_
        refine zzT 7 24 10 255 a1 c9 b0 ?_
        refine one_ (i:=8) (N:=some 25) (zzB 10 511) rfl rfl (one_of a1.out (by kernel_rfl)) (by decide) (fun K hK=>?_);refine goes_ Try.func79 (by kernel_rfl) rfl #[.agg #[.int .i64 ((Qk l0 a0).f0),.int .i64 ((Qk l0 a0).f1),.int .i64 ((Qk l0 a0).f2)],.agg #[.int .i64 ((Qk l1 a0).f0),.int .i64 ((Qk l1 a0).f1),.int .i64 ((Qk l1 a0).f2)]] (by rfl) rfl rfl zzM2 ?_;with_reducible refine (Ro.calls ((Qk l0 a0).f0) ((Qk l0 a0).f1) ((Qk l0 a0).f2) ((Qk l1 a0).f0) ((Qk l1 a0).f1) ((Qk l1 a0).f2) true _ A7.out).mono ?_;rintro e e7 ⟨rfl,hb⟩;refine ⟨_,rfl,?_⟩;have b7:=zzm (zzp zzh1 hb);clear HB;have HB:=b7;clear b7
        (try clear hb)
        (try clear hb2)
        (try clear hk)
        (try clear hi);refine hK.out _ _ ⟨(zzx HB.out b3),(zzx HB.out b2),(zzx HB.out b1),(zzx HB.out b6),(zzx HB.out b5),(zzx HB.out b4)⟩ (fun b0=>?_);clear hK K;refine zzO 25 ?_
        refine zzP 9 26 10 1023 a1 ?_
        refine done_ (done_of a1.out (by kernel_rfl)) ?_;try go_wp2
        go_roundg k1
        case measure=>have:=HK1.out;omega
        case rel=>exact ⟨(wrap64 (a0+1)),(by first|rfl|(simp;done)|(simp [*];done)),H',⟨by have:=HK1.out;omega⟩,⟨zzh1⟩⟩
       ·
        replace c8:=Bool.eq_false_iff.mpr c8;subst c8;replace H:=zzIf H;obtain rfl:=Option.some.inj H;try go_wp2
        have b7:=zzm (zzc HB.out);clear HB;have HB:=b7;clear b7;have b8 : 0≤(a0:Int):=zzt;have b9:a0 < (l0.length:Int):=zzt;obtain ⟨a8,d0,a2,a3,a4⟩:=at_T46 d9.out a0 b8 b9;have b1:=a4;have b2:=a3;have b3:=a2;cases d0;replace a2:=zzx HB.out a2;replace a3:=zzx HB.out a3;replace a4:=zzx HB.out a4;replace b8:=eq_true b8;replace b9:=eq_true b9;have c2 : 0≤(a0:Int):=zzt;have c7:a0 < (l1.length:Int):=zzt;obtain ⟨a9,d1,a5,a6,a7⟩:=at_T46 e0.out a0 c2 c7;have b4:=a7;have b5:=a6;have b6:=a5;cases d1;replace a5:=zzx HB.out a5;replace a6:=zzx HB.out a6;replace a7:=zzx HB.out a7;replace c2:=eq_true c2;replace c7:=eq_true c7;refine start_ (n:=10) (S:=fun w'=>w'.cell? (a8.add ((a0).toNat * 3))=some (.int .i64 ((Qk l0 a0).f0))∧w'.cell? ⟨(a8.add ((a0).toNat * 3)).block,(a8.add ((a0).toNat * 3)).off+1,none⟩=some (.int .i64 ((Qk l0 a0).f1))∧w'.cell? ⟨(a8.add ((a0).toNat * 3)).block,(a8.add ((a0).toNat * 3)).off+2,none⟩=some (.int .i64 ((Qk l0 a0).f2))∧w'.cell? (a9.add ((a0).toNat * 3))=some (.int .i64 ((Qk l1 a0).f0))∧w'.cell? ⟨(a9.add ((a0).toNat * 3)).block,(a9.add ((a0).toNat * 3)).off+1,none⟩=some (.int .i64 ((Qk l1 a0).f1))∧w'.cell? ⟨(a9.add ((a0).toNat * 3)).block,(a9.add ((a0).toNat * 3)).off+2,none⟩=some (.int .i64 ((Qk l1 a0).f2))) (ds:=[]) (zzB 10 0) (by kernel_rfl) rfl rfl ⟨(zzx HB.out b3),(zzx HB.out b2),(zzx HB.out b1),(zzx HB.out b6),(zzx HB.out b5),(zzx HB.out b4)⟩ (fun b0=>?_);refine with_tabW Qf.tab6 Qf.bits6 (fun a1 c9=>?_);generalize wr.drew=e8 at HB a2 a3 a4 a5 a6 a7 b0 ⊢;refine zzP 0 17 10 1 a1 ?_
        refine zzP 1 18 10 3 a1 ?_
        refine zzP 2 19 10 7 a1 ?_
        refine zzP 4 21 10 23 a1 ?_
        refine zzP 5 22 10 55 a1 ?_
        refine zzP 6 23 10 119 a1 ?_
        refine zzT 3 20 10 127 a1 c9 b0 ?_
        refine zzT 7 24 10 255 a1 c9 b0 ?_
        refine one_ (i:=8) (N:=some 25) (zzB 10 511) rfl rfl (one_of a1.out (by kernel_rfl)) (by decide) (fun K hK=>?_);refine goes_ Try.func79 (by kernel_rfl) rfl #[.agg #[.int .i64 ((Qk l0 a0).f0),.int .i64 ((Qk l0 a0).f1),.int .i64 ((Qk l0 a0).f2)],.agg #[.int .i64 ((Qk l1 a0).f0),.int .i64 ((Qk l1 a0).f1),.int .i64 ((Qk l1 a0).f2)]] (by rfl) rfl rfl zzM2 ?_;with_reducible refine (Ro.calls ((Qk l0 a0).f0) ((Qk l0 a0).f1) ((Qk l0 a0).f2) ((Qk l1 a0).f0) ((Qk l1 a0).f1) ((Qk l1 a0).f2) false _ A7.out).mono ?_;rintro e e9 ⟨rfl,hb⟩;refine ⟨_,rfl,?_⟩;have b7:=zzm (zzp zzh1 hb);clear HB;have HB:=b7;clear b7
        (try clear hb)
        (try clear hb2)
        (try clear hk)
        (try clear hi);refine hK.out _ _ ⟨(zzx HB.out b3),(zzx HB.out b2),(zzx HB.out b1),(zzx HB.out b6),(zzx HB.out b5),(zzx HB.out b4)⟩ (fun b0=>?_);clear hK K;refine zzO 25 ?_
        refine zzP 9 26 10 1023 a1 ?_
        refine done_ (done_of a1.out (by kernel_rfl)) ?_;try go_wp2
        go_ret;exact ⟨zzR,zzh1⟩
      ·
       rw [if_neg c6] at H;exact absurd H (by simp)
     ·
      rw [if_neg c5] at H;exact absurd H (by simp)
    ·
     rw [if_neg c4] at H;have e1:decide (a0 < (l0.length:Int))=false:=decide_eq_false c4;clear c4;obtain rfl:=Option.some.inj H;go_wp2;go_ret;exact ⟨zzR,zzh1⟩
 ·
  rw [if_neg c3] at H;obtain ⟨d2,d3⟩:=zzY c3;have d4:(l0.length==l1.length)=false:=by first|simpa using c3|(simp at c3 ⊢;omega)
  obtain rfl:=Option.some.inj H;go_enter Try.func46,Try.ntmps46;go_wp2;go_ret;exact ⟨zzR,zzh1⟩

set_option linter.unusedVariables false
set_option linter.unusedSimpArgs false
section
inductive Sim:Value→Value→Prop
 | refl (u:Value):Sim u u
 | int (k:IntKind) (x y:Int):Sim (.int k x) (.int k y)
 | bool (x y:Bool):Sim (.bool x) (.bool y)
theorem Sim.trans {a b c:Value} (h:Sim a b) (k:Sim b c):Sim a c:=by
 cases h with
 | refl=>exact k
 | int kk x y=>
  cases k with
  | refl=>exact .int _ _ _
  | int _ _ z=>exact .int _ _ _
 | bool x y=>
  cases k with
  | refl=>exact .bool _ _
  | bool _ z=>exact .bool _ _
theorem Sim.of_int {k:IntKind} {x:Int} {u:Value} (h:Sim (.int k x) u):∃ y,u = .int k y:=by
 cases h with
 | refl=>exact ⟨x,rfl⟩
 | int _ _ y=>exact ⟨y,rfl⟩
theorem Sim.of_bool {x:Bool} {u:Value} (h:Sim (.bool x) u):∃ y,u = .bool y:=by
 cases h with
 | refl=>exact ⟨x,rfl⟩
 | bool _ y=>exact ⟨y,rfl⟩
theorem Sim.of_slice {A:Option Addr} {n c:Nat} {u:Value} (h:Sim (.slice A n c) u):u = .slice A n c:=by
 cases h with
 | refl=>rfl
structure Lk (P:Nat→Prop) (w w' : World):Prop where
 kept:Kept w w' P
 low:∀ B,(∀ k,P k→B≤k)→Below B w w'
 cell:∀ (g:Nat) (cs:Array Value) (t:Nat),w.heap[g]? = some (.cells cs t (0,0))→∃ cs' : Array Value,w'.heap[g]? = some (.cells cs' t (0,0))∧∀ (i:Nat) (u:Value),cs[i]? = some u→∃ u',cs'[i]? = some u'∧Sim u u'
theorem Lk.refl (P:Nat→Prop) (w:World):Lk P w w:=⟨Kept.refl _ _,fun _ _=>Below.refl _ _,fun g cs t h=>⟨cs,h,fun i u hu=>⟨u,hu,.refl u⟩⟩⟩
theorem Lk.trans {P:Nat→Prop} {x y z:World} (h:Lk P x y) (k:Lk P y z):Lk P x z:=by
 refine ⟨h.kept.then_ k.kept (fun _ h2=>.inl h2),fun B hB=>(h.low B hB).trans (k.low B hB),fun g cs t h0=>?_⟩;obtain ⟨c1,h1,q1⟩:=h.cell g cs t h0;obtain ⟨c2,h2,q2⟩:=k.cell g c1 t h1;refine ⟨c2,h2,fun i u hu=>?_⟩;obtain ⟨u1,e1,s1⟩:=q1 i u hu;obtain ⟨u2,e2,s2⟩:=q2 i u1 e1;exact ⟨u2,e2,s1.trans s2⟩
theorem Lk.set {P:Nat→Prop} {w:World} {g t i:Nat} {cs:Array Value} {u v:Value} (h:w.heap[g]? = some (.cells cs t (0,0))) (hu:cs[i]? = some u) (hs:Sim u v) (hp:P g):Lk P w (w.setCell ⟨g,i,none⟩ v):=by
 refine ⟨(Kept.refl w P).setCell (.inl hp) v,fun B hB=>(Below.refl B w).setCell (p:=⟨g,i,none⟩) (hB g hp) v,fun g' cs' t' h'=>?_⟩;by_cases e:g' = g
 ·subst e
  rw [h] at h';cases h';refine ⟨cs.setIfInBounds i v,zzi h i v rfl,fun j u2 hj=>?_⟩;by_cases ej:j=i
  ·subst ej
   rw [hu] at hj;cases hj;exact ⟨v,by rw [Array.getElem?_setIfInBounds_self_of_lt (Array.getElem?_eq_some_iff.1 hu).1],hs⟩
  ·exact ⟨u2,by rw [Array.getElem?_setIfInBounds_ne (Ne.symm ej)];exact hj,.refl _⟩
 ·exact ⟨cs',(Below.heap_setCell w ⟨g,i,none⟩ v g' e).trans h',fun j u2 hj=>⟨u2,hj,.refl _⟩⟩
def IntRow (P:Nat→Prop) (w:World) (A:Option Addr) (n:Nat):Prop:=0 < n→∃ (g:Nat) (cs:Array Value),A=some ⟨g,0,none⟩∧P g∧w.heap[g]? = some (.cells cs 3 (0,0))∧∀ i,i < n→∃ x,cs[i]? = some (.int .i64 x)
def RecRow (P:Nat→Prop) (w:World) (A:Option Addr) (n:Nat) (len:Nat→Nat×Nat):Prop:=0 < n→∃ (g:Nat) (cs:Array Value),A=some ⟨g,0,none⟩∧P g∧w.heap[g]? = some (.cells cs 34 (0,0))∧∀ i,i < n →
 ∃ x0 x1 b2 A3 c3 b4 A5 c5,(cs[i * 6+0]? = some (.int .i64 x0)∧cs[i * 6+1]? = some (.int .i64 x1)∧cs[i * 6+2]? = some (.bool b2)∧cs[i * 6+3]? = some (.slice A3 (len i).1 c3)∧cs[i * 6+4]? = some (.bool b4)∧cs[i * 6+5]? = some (.slice A5 (len i).2 c5))∧IntRow P w A3 (len i).1∧IntRow P w A5 (len i).2
def BatRow (P:Nat→Prop) (w:World) (A:Option Addr) (n:Nat) (num:Nat→Nat) (len:Nat→Nat→Nat×Nat):Prop:=0 < n→∃ (g:Nat) (cs:Array Value),A=some ⟨g,0,none⟩∧P g∧w.heap[g]? = some (.cells cs 27 (0,0))∧∀ i,i < n →
 ∃ b0 b1 x2 x3 x4 A5 c5,(cs[i * 6+0]? = some (.bool b0)∧cs[i * 6+1]? = some (.bool b1)∧cs[i * 6+2]? = some (.int .i64 x2)∧cs[i * 6+3]? = some (.int .i64 x3)∧cs[i * 6+4]? = some (.int .i64 x4)∧cs[i * 6+5]? = some (.slice A5 (num i) c5))∧RecRow P w A5 (num i) (len i)
theorem IntRow.lk {P:Nat→Prop} {w w' : World} {A:Option Addr} {n:Nat} (h:IntRow P w A n) (k:Lk P w w'):IntRow P w' A n:=by
 intro hn;obtain ⟨g,cs,rfl,hp,hh,hc⟩:=h hn;obtain ⟨cs',hh',hc'⟩:=k.cell g cs 3 hh;refine ⟨g,cs',rfl,hp,hh',fun i hi=>?_⟩;obtain ⟨x,hx⟩:=hc i hi;obtain ⟨u,hu,hs⟩:=hc' i _ hx;obtain ⟨y,rfl⟩:=hs.of_int;exact ⟨y,hu⟩
theorem RecRow.lk {P:Nat→Prop} {w w' : World} {A:Option Addr} {n:Nat} {len:Nat→Nat×Nat} (h:RecRow P w A n len) (k:Lk P w w'):RecRow P w' A n len:=by
 intro hn;obtain ⟨g,cs,rfl,hp,hh,hc⟩:=h hn;obtain ⟨cs',hh',hc'⟩:=k.cell g cs _ hh;refine ⟨g,cs',rfl,hp,hh',fun i hi=>?_⟩;obtain ⟨x0,x1,b2,A3,c3,b4,A5,c5,⟨h0,h1,h2,h3,h4,h5⟩,r3,r5⟩:=hc i hi;obtain ⟨_,q0,s0⟩:=hc' _ _ h0;obtain ⟨_,q1,s1⟩:=hc' _ _ h1;obtain ⟨_,q2,s2⟩:=hc' _ _ h2;obtain ⟨_,q3,s3⟩:=hc' _ _ h3;obtain ⟨_,q4,s4⟩:=hc' _ _ h4;obtain ⟨_,q5,s5⟩:=hc' _ _ h5;obtain ⟨y0,rfl⟩:=s0.of_int;obtain ⟨y1,rfl⟩:=s1.of_int;obtain ⟨y2,rfl⟩:=s2.of_bool;obtain rfl:=s3.of_slice;obtain ⟨y4,rfl⟩:=s4.of_bool;obtain rfl:=s5.of_slice;exact ⟨y0,y1,y2,A3,c3,y4,A5,c5,⟨q0,q1,q2,q3,q4,q5⟩,r3.lk k,r5.lk k⟩
theorem BatRow.lk {P:Nat→Prop} {w w' : World} {A:Option Addr} {n:Nat} {num:Nat→Nat} {len:Nat→Nat→Nat×Nat} (h:BatRow P w A n num len) (k:Lk P w w'):BatRow P w' A n num len:=by
 intro hn;obtain ⟨g,cs,rfl,hp,hh,hc⟩:=h hn;obtain ⟨cs',hh',hc'⟩:=k.cell g cs _ hh;refine ⟨g,cs',rfl,hp,hh',fun i hi=>?_⟩;obtain ⟨b0,b1,x2,x3,x4,A5,c5,⟨h0,h1,h2,h3,h4,h5⟩,r5⟩:=hc i hi;obtain ⟨_,q0,s0⟩:=hc' _ _ h0;obtain ⟨_,q1,s1⟩:=hc' _ _ h1;obtain ⟨_,q2,s2⟩:=hc' _ _ h2;obtain ⟨_,q3,s3⟩:=hc' _ _ h3;obtain ⟨_,q4,s4⟩:=hc' _ _ h4;obtain ⟨_,q5,s5⟩:=hc' _ _ h5;obtain ⟨y0,rfl⟩:=s0.of_bool;obtain ⟨y1,rfl⟩:=s1.of_bool;obtain ⟨y2,rfl⟩:=s2.of_int;obtain ⟨y3,rfl⟩:=s3.of_int;obtain ⟨y4,rfl⟩:=s4.of_int;obtain rfl:=s5.of_slice;exact ⟨y0,y1,y2,y3,y4,A5,c5,⟨q0,q1,q2,q3,q4,q5⟩,r5.lk k⟩
theorem IntRow.mono {P Q:Nat→Prop} {w:World} {A:Option Addr} {n:Nat} (h:IntRow P w A n) (hq:∀ k,P k→Q k):IntRow Q w A n:=fun hn=>by
 obtain ⟨g,cs,e,hp,r⟩:=h hn
 exact ⟨g,cs,e,hq g hp,r⟩
theorem RecRow.mono {P Q:Nat→Prop} {w:World} {A:Option Addr} {n:Nat} {len:Nat→Nat×Nat} (h:RecRow P w A n len) (hq:∀ k,P k→Q k):RecRow Q w A n len:=fun hn=>by
 obtain ⟨g,cs,e,hp,hh,r⟩:=h hn
 refine ⟨g,cs,e,hq g hp,hh,fun i hi=>?_⟩
 obtain ⟨x0,x1,b2,A3,c3,b4,A5,c5,hc,r3,r5⟩:=r i hi
 exact ⟨x0,x1,b2,A3,c3,b4,A5,c5,hc,r3.mono hq,r5.mono hq⟩
theorem mk_cell {cur:Array Value} {n sz:Nat} {inner c:List Value} (h4:List.take (n * sz) cur.toList=inner) {i j:Nat} (hi:i < n) (hc:(inner.drop (i * sz)).take sz=c) (hl:c.length=sz) {u:Value} (hu:c[j]? = some u):cur[i * sz+j]? = some u:=by
 have hj:j < sz:=by rw [← hl];exact (List.getElem?_eq_some_iff.1 hu).1
 have hb:i * sz+j < n * sz:=by
  have:(i+1) * sz≤n * sz:=Nat.mul_le_mul_right _ hi;rw [Nat.add_mul] at this;omega
 rw [← hc,List.getElem?_take_of_lt hj,List.getElem?_drop,← h4,List.getElem?_take_of_lt hb,Array.getElem?_toList] at hu;exact hu
theorem intRow_of {w:World} {base:Nat} {ok:Nat→Prop} {v:Value} {xs:List Int} (h:Kd.R (Kd.int .i64) 3 w base ok v xs):∃ A c,v = .slice A xs.length c∧IntRow ok w A xs.length:=by
 obtain ⟨h0,inner,⟨_,ho⟩,hr⟩:=h;rcases ho with ⟨rfl,hn⟩|⟨g,cap,cur,rfl,_,hh,_,_,_,h4⟩
 ·exact ⟨none,0,by rw [hn],fun hp=>by omega⟩
 ·refine ⟨_,cap,rfl,fun _=>⟨g,cur,rfl,h0 g rfl,hh,fun i hi=>?_⟩⟩
  have hM:(inner.drop (i * 1)).take 1 = [.int .i64 xs[i]]:=hr.2 i xs[i] (List.getElem?_eq_getElem hi);have hc:cur[i * 1+0]? = some (.int .i64 xs[i]):=mk_cell (j:=0) h4 hi hM rfl rfl;rw [Nat.mul_one,Nat.add_zero] at hc;exact ⟨xs[i],hc⟩
theorem recRow_of {w:World} {base:Nat} {ok:Nat→Prop} {v:Value} {xs:List S34} (h:Kd.R k34 34 w base ok v xs):∃ A c,v = .slice A xs.length c∧RecRow ok w A xs.length (fun i=>((Qb xs (i:Int)).f3.length,(Qb xs (i:Int)).f5.length)):=by
 obtain ⟨h0,inner,⟨_,ho⟩,hr⟩:=h;rcases ho with ⟨rfl,hn⟩|⟨g,cap,cur,rfl,_,hh,_,_,_,h4⟩
 ·exact ⟨none,0,by rw [hn],fun hp=>by omega⟩
 ·refine ⟨_,cap,rfl,fun _=>⟨g,cur,rfl,h0 g rfl,hh,fun i hi=>?_⟩⟩
  have hrd:Qb xs (i:Int)=xs[i]:=by unfold Qb;rw [Int.toNat_natCast,List.getD_eq_getElem?_getD,List.getElem?_eq_getElem hi];rfl
  obtain ⟨c0,d0,e0,f0,c1,d1,e1,f1,c2,d2,e2,f2,c3,d3,e3,⟨v3,f3,h3⟩,c4,d4,e4,f4,v5,f5,h5⟩:=hr.2 i xs[i] (List.getElem?_eq_getElem hi);subst f0 e1 f1 e2 f2 e3 f3 e4 f4 f5;obtain ⟨A3,k3,e3,r3⟩:=intRow_of h3;obtain ⟨A5,k5,e5,r5⟩:=intRow_of h5;subst e3 e5;dsimp only;rw [hrd];exact ⟨_,_,_,A3,k3,_,A5,k5,⟨mk_cell (j:=0) h4 hi e0 rfl rfl,mk_cell (j:=1) h4 hi e0 rfl rfl,mk_cell (j:=2) h4 hi e0 rfl rfl,mk_cell (j:=3) h4 hi e0 rfl rfl,mk_cell (j:=4) h4 hi e0 rfl rfl,mk_cell (j:=5) h4 hi e0 rfl rfl⟩,r3.mono (fun _ hk=>hk.1),r5.mono (fun _ hk=>hk.1)⟩
theorem batRow_of {w:World} {base:Nat} {ok:Nat→Prop} {v:Value} {xs:List S27} (h:Kd.R k27 27 w base ok v xs):∃ A c,v = .slice A xs.length c∧BatRow ok w A xs.length (fun i=>(Qa xs (i:Int)).f5.length) (fun i j=>((Qb (Qa xs (i:Int)).f5 (j:Int)).f3.length,(Qb (Qa xs (i:Int)).f5 (j:Int)).f5.length)):=by
 obtain ⟨h0,inner,⟨_,ho⟩,hr⟩:=h;rcases ho with ⟨rfl,hn⟩|⟨g,cap,cur,rfl,_,hh,_,_,_,h4⟩
 ·exact ⟨none,0,by rw [hn],fun hp=>by omega⟩
 ·refine ⟨_,cap,rfl,fun _=>⟨g,cur,rfl,h0 g rfl,hh,fun i hi=>?_⟩⟩
  have hrd:Qa xs (i:Int)=xs[i]:=by unfold Qa;rw [Int.toNat_natCast,List.getD_eq_getElem?_getD,List.getElem?_eq_getElem hi];rfl
  obtain ⟨c0,d0,e0,f0,c1,d1,e1,f1,c2,d2,e2,f2,c3,d3,e3,f3,c4,d4,e4,f4,v5,f5,h5⟩:=hr.2 i xs[i] (List.getElem?_eq_getElem hi);subst f0 e1 f1 e2 f2 e3 f3 e4 f4 f5;obtain ⟨A5,k5,e5,r5⟩:=recRow_of h5;subst e5;dsimp only;rw [hrd];exact ⟨_,_,_,_,_,A5,k5,⟨mk_cell (j:=0) h4 hi e0 rfl rfl,mk_cell (j:=1) h4 hi e0 rfl rfl,mk_cell (j:=2) h4 hi e0 rfl rfl,mk_cell (j:=3) h4 hi e0 rfl rfl,mk_cell (j:=4) h4 hi e0 rfl rfl,mk_cell (j:=5) h4 hi e0 rfl rfl⟩,r5.mono (fun _ hk=>hk.1)⟩
set_option maxHeartbeats 4000000 in
theorem markInt_lk (P:Nat→Prop) (A:Option Addr) (n c:Nat) (a1:Int) (w:World) (h:IntRow P w A n) (h0 : 0≤a1) (h1:a1+n≤9000000000000000000) :
  Calls Try.prog 81 #[.slice A n c,.int .i64 a1] w fun e w'=>e = .returned (.int .i64 (a1+n))∧Lk P w w':=by
 have HR:=zzm h;have H0:=zzm h0;have H1:=zzm h1;clear h h0 h1;go_enter Try.func81,Try.ntmps81;go_wp2;go_loopw [1,5] (fun v1 v5 W=>∃ m:Nat,m≤n∧v1 = .int .i64 (a1+m)∧v5 = .int .i64 m∧Lk P w W) (fun _ v5 _=>n - (intOf v5).toNat)
 case atStart=>exact ⟨0,Nat.zero_le _,by simp,by go_num,Lk.refl _ _⟩
 case round=>
  obtain ⟨m,hm,rfl,rfl,hL⟩:=hrel;have HL:=zzm hL;clear hL;have h0:=H0.out;have h1:=H1.out;by_cases hlt:m < n
  ·obtain ⟨g,cs,rfl,hP,hh,hc⟩:=HR.out.lk HL.out (by omega)
   obtain ⟨y,hy⟩:=hc m hlt;have HP:=zzm hP;have HH:=zzm hh;have HY:=zzm hy;have q:=(zzk hh m).trans hy;have f:=zzl hh m;have e1:wrap64 (a1+(m:Int)+1)=a1+((m+1:Nat):Int):=by unfold wrap64;omega
   have e2:wrap64 ((m:Int)+1)=((m+1:Nat):Int):=by unfold wrap64;omega
   have hmi:((m:Nat):Int) < ((n:Nat):Int):=by omega
   clear hP hh hc hy;go_wp2;go_roundw
   case rel=>exact ⟨m+1,by omega,congrArg (Value.int .i64) (by omega),congrArg (Value.int .i64) (by omega),HL.out.trans (Lk.set HH.out HY.out (.int _ _ _) HP.out)⟩
   case measure=>simp [intOf] <;> omega
  ·obtain rfl:m=n:=by omega
   have hmi:¬ ((m:Nat):Int) < ((m:Nat):Int):=by omega
   go_wp2;go_ret;exact ⟨rfl,HL.out⟩
theorem Lk.at_ {P:Nat→Prop} {W W' : World} {g t i:Nat} {cs:Array Value} {u:Value} (h:Lk P W W') (hh:W.heap[g]? = some (.cells cs t (0,0))) (hu:cs[i]? = some u):∃ cs' u',W'.heap[g]? = some (.cells cs' t (0,0))∧cs'[i]? = some u'∧Sim u u'∧W'.cell? ⟨g,i,none⟩=some u'∧W'.frozen? ⟨g,i,none⟩=false:=by
 obtain ⟨cs',hh',hc⟩:=h.cell g cs t hh;obtain ⟨u',hu',hs⟩:=hc i u hu;exact ⟨cs',u',hh',hu',hs,(zzk hh' i).trans hu',zzl hh' i⟩
theorem meas_lt {n m:Nat} {v:Value} (hv:v = .int .i64 ((m+1:Nat):Int)) (h:m < n):n - (intOf v).toNat < n - (intOf (.int .i64 (m:Int))).toNat:=by
 subst hv;simp [intOf];omega
def cntR (len:Nat→Nat×Nat):Nat→Nat
 | 0=>0
 | m+1=>cntR len m+(4+(len m).1+(len m).2)
theorem cntR_le (len:Nat→Nat×Nat):∀ {m n:Nat},m≤n→cntR len m≤cntR len n
 | m,0,h=>by rw [show m=0 by omega];exact Nat.le_refl _
 | m,n+1,h=>by
  by_cases e:m=n+1
  ·rw [e];exact Nat.le_refl _
  ·have h1:=cntR_le len (show m≤n by omega)
   have h2:cntR len (n+1)=cntR len n+(4+(len n).1+(len n).2):=rfl
   omega
theorem le_cntR (len:Nat→Nat×Nat):∀ m,m≤cntR len m
 | 0=>Nat.le_refl _
 | m+1=>by
  have h1:=le_cntR len m
  have h2:cntR len (m+1)=cntR len m+(4+(len m).1+(len m).2):=rfl
  omega
set_option maxHeartbeats 8000000 in
theorem markRec_lk (P:Nat→Prop) (A:Option Addr) (n c:Nat) (len:Nat→Nat×Nat) (a1:Int) (w:World) (h:RecRow P w A n len) (h0 : 0≤a1) (h1:a1+cntR len n≤9000000000000000000) :
    Calls Try.prog 51 #[.slice A n c,.int .i64 a1] w fun e w'=>e = .returned (.int .i64 (a1+cntR len n))∧Lk P w w':=by
  have HR:=zzm h;have H0:=zzm h0;have H1:=zzm h1;clear h h0 h1;have hu:=Try.underlying34;go_enter Try.func51,Try.ntmps51;go_wp2;go_loopw [1,5] (fun v1 v5 W=>∃ m:Nat,m≤n∧v1 = .int .i64 (a1+cntR len m)∧v5 = .int .i64 m∧Lk P w W) (fun _ v5 _=>n - (intOf v5).toNat)
  case atStart=>exact ⟨0,Nat.zero_le _,by simp [cntR],by go_num,Lk.refl _ _⟩
  case round=>
    obtain ⟨m,hm,rfl,rfl,hL⟩:=hrel;have HL:=zzm hL;clear hL;have h0:=H0.out;have h1:=H1.out;by_cases hlt:m < n
    · have hcl:=cntR_le len (show m+1≤n from hlt)
      have hcs:cntR len (m+1)=cntR len m+(4+(len m).1+(len m).2):=rfl;have hmc:=le_cntR len m;have e5:wrap64 ((m:Int)+1)=((m+1:Nat):Int):=by unfold wrap64;omega
      obtain ⟨kk,hkk⟩:∃ kk:Int,kk=a1+(cntR len m:Int):=⟨_,rfl⟩;rw [← hkk];have k0 : 0≤kk:=by omega
      have k1:kk+4+((len m).1:Int)+((len m).2:Int)≤9000000000000000000:=by omega
      have hend:((kk+1+1+1+((len m).1:Int))+1+((len m).2:Int))=a1+(cntR len (m+1):Int):=by omega
      have HE:=zzm hend;have b1 : 0≤kk+1+1+1:=by omega
      have b2:kk+1+1+1+((len m).1:Int)≤9000000000000000000:=by omega
      have b3 : 0≤kk+1+1+1+((len m).1:Int)+1:=by omega
      have b4:kk+1+1+1+((len m).1:Int)+1+((len m).2:Int)≤9000000000000000000:=by omega
      have B1:=zzm b1;have B2:=zzm b2;have B3:=zzm b3;have B4:=zzm b4;have e1:wrap64 (kk+1)=kk+1:=by unfold wrap64;omega
      have e2:wrap64 (kk+1+1)=kk+1+1:=by unfold wrap64;omega
      have e3:wrap64 (kk+1+1+1)=kk+1+1+1:=by unfold wrap64;omega
      have e4:wrap64 (kk+1+1+1+((len m).1:Int)+1)=kk+1+1+1+((len m).1:Int)+1:=by unfold wrap64;omega
      clear hkk hcl hcs h0 h1 hend hmc b1 b2 b3 b4;obtain ⟨g,cs,rfl,hP,hh,hc⟩:=HR.out.lk HL.out (Nat.lt_of_le_of_lt (Nat.zero_le m) hlt);obtain ⟨x0,x1,y2,A3,c3,y4',A5,c5,⟨q0,q1,q2,q3,q4,q5⟩,r3,r5⟩:=hc m hlt;rw [Nat.add_zero] at q0;have HP:=zzm hP;have HH:=zzm hh;have p0:=(zzk hh (m * 6)).trans q0;have z0:=zzl hh (m * 6);have p1:=(zzk hh (m * 6+1)).trans q1;have z1:=zzl hh (m * 6+1);have p2:=(zzk hh (m * 6+2)).trans q2;have z2:=zzl hh (m * 6+2);have p3:=(zzk hh (m * 6+3)).trans q3;have l1:Lk P wr (wr.setCell ⟨g,m * 6,none⟩ (.int .i64 kk)):=Lk.set hh q0 (.int _ _ _) hP;obtain ⟨cs1,u1,hh1,q1',s1,_,_⟩:=l1.at_ hh q1;have l2:=l1.trans (Lk.set hh1 q1' (v:=.int .i64 (kk+1)) (by obtain ⟨y,rfl⟩:=s1.of_int;exact .int _ _ _) hP);obtain ⟨cs2,u2,hh2,q2',s2,_,_⟩:=l2.at_ hh q2;have L3:=zzm (l2.trans (Lk.set hh2 q2' (v:=.bool ((kk+1+1) % 3==0)) (by obtain ⟨y,rfl⟩:=s2.of_bool;exact .bool _ _) hP));have hmi:((m:Nat):Int) < ((n:Nat):Int):=by omega
      have R3:=zzm r3;have R5:=zzm r5;clear hP hh r3 r5 hc l1 l2 hh1 hh2 q1' q2' s1 s2;go_wp2_with (first
        | (go_at_call 81;have hq:=markInt_lk P A3 (len m).1 c3 (kk+1+1+1) _ (R3.out.lk L3.out) B1.out B2.out;with_reducible refine hq.mono ?_;clear hq;rintro e W4 ⟨rfl,hL4⟩
           have l4:=L3.out.trans hL4;obtain ⟨cs4,v4,hh4,q4',s4,p4,z4⟩:=l4.at_ HH.out q4;obtain ⟨y4,rfl⟩:=s4.of_bool;obtain ⟨cs5,v5',hh5,q5',s5,p5,z5⟩:=l4.at_ HH.out q5;obtain rfl:=s5.of_slice;have L5:=zzm (l4.trans (Lk.set hh4 q4' (v:=.bool ((kk+1+1+1+((len m).1:Int)) % 3==0)) (.bool _ _) HP.out));clear hL4 l4 hh4 q4' s4 hh5 q5' s5)
        | (go_at_call 81;have hq:=markInt_lk P A5 (len m).2 c5 (kk+1+1+1+((len m).1:Int)+1) _ (R5.out.lk L5.out) B3.out B4.out;with_reducible refine hq.mono ?_;clear hq;rintro e W6 ⟨rfl,hL6⟩
           have L6:=zzm (L5.out.trans hL6);clear hL6))
      go_roundw
      case rel=>exact ⟨m+1,hlt,congrArg (Value.int .i64) HE.out,by first|exact congrArg (Value.int .i64) e5|exact congrArg (Value.int .i64) (by omega),HL.out.trans L6.out⟩
      case measure=>exact meas_lt (by first|exact congrArg (Value.int .i64) e5|rfl) hlt
    · obtain rfl:m=n:=by omega
      have hmi:¬ ((m:Nat):Int) < ((m:Nat):Int):=by omega
      go_wp2;go_ret;exact ⟨rfl,HL.out⟩
def tyS (ts:List Nat) (w:World) (k:Nat):Prop:=∃ q cells,q∈ts∧w.heap[k]? = some (.cells cells q (0,0))
theorem R_keptT {α:Type} {d:Kd α} {e:Nat} {W W2:World} {base:Nat} {ok P0:Nat→Prop} {v:Value} {xs:List α} {ts:List Nat} (h:d.R e W base ok v xs) (hk:Kept W W2 (fun k=>P0 k∧tyS ts W k)) (ht:∀ q,q∈e::d.E→q ∉ ts):d.R e W2 base (fun k=>ok k∧True) v xs:=by
 refine Kd.R_mono (Kd.R_kept (Kd.R_bound h) hk ?_) (fun _ hk=>⟨hk.1,trivial⟩);rintro k ⟨_,_,_,q,hq,cells,hc⟩ ⟨_,q',cells',hq',hc'⟩;rw [hc] at hc';injection hc' with hc';injection hc' with _ hc';subst hc';exact ht q hq hq'
end
section
def cntB (num:Nat→Nat) (len:Nat→Nat→Nat×Nat):Nat→Nat
 | 0=>0
 | m+1=>cntB num len m+(5+cntR (len m) (num m))
theorem cntB_le (num:Nat→Nat) (len:Nat→Nat→Nat×Nat):∀ {m n:Nat},m≤n→cntB num len m≤cntB num len n
 | m,0,h=>by rw [show m=0 by omega];exact Nat.le_refl _
 | m,n+1,h=>by
  by_cases e:m=n+1
  ·rw [e];exact Nat.le_refl _
  ·have h1:=cntB_le num len (show m≤n by omega)
   have h2:cntB num len (n+1)=cntB num len n+(5+cntR (len n) (num n)):=rfl
   omega
theorem le_cntB (num:Nat→Nat) (len:Nat→Nat→Nat×Nat):∀ m,m≤cntB num len m
 | 0=>Nat.le_refl _
 | m+1=>by
  have h1:=le_cntB num len m
  have h2:cntB num len (m+1)=cntB num len m+(5+cntR (len m) (num m)):=rfl
  omega
set_option maxHeartbeats 8000000 in
theorem markBat_lk (P:Nat→Prop) (A:Option Addr) (n c:Nat) (num:Nat→Nat) (len:Nat→Nat→Nat×Nat) (a1:Int) (w:World) (h:BatRow P w A n num len) (h0 : 0≤a1) (h1:a1+cntB num len n≤9000000000000000000) :
    Calls Try.prog 47 #[.slice A n c,.int .i64 a1] w fun e w'=>e = .returned (.int .i64 (a1+cntB num len n))∧Lk P w w':=by
  have HR:=zzm h;have H0:=zzm h0;have H1:=zzm h1;clear h h0 h1;have hu:=Try.underlying27;go_enter Try.func47,Try.ntmps47;go_wp2;go_loopw [1,5] (fun v1 v5 W=>∃ m:Nat,m≤n∧v1 = .int .i64 (a1+cntB num len m)∧v5 = .int .i64 m∧Lk P w W) (fun _ v5 _=>n - (intOf v5).toNat)
  case atStart=>exact ⟨0,Nat.zero_le _,by simp [cntB],by go_num,Lk.refl _ _⟩
  case round=>
    obtain ⟨m,hm,rfl,rfl,hL⟩:=hrel;have HL:=zzm hL;clear hL;have h0:=H0.out;have h1:=H1.out;by_cases hlt:m < n
    · have hcl:=cntB_le num len (show m+1≤n from hlt)
      have hcs:cntB num len (m+1)=cntB num len m+(5+cntR (len m) (num m)):=rfl;have hmc:=le_cntB num len m;have e9:wrap64 ((m:Int)+1)=((m+1:Nat):Int):=by unfold wrap64;omega
      obtain ⟨kk,hkk⟩:∃ kk:Int,kk=a1+(cntB num len m:Int):=⟨_,rfl⟩;rw [← hkk];have k0 : 0≤kk:=by omega
      have k1:kk+5+((cntR (len m) (num m):Nat):Int)≤9000000000000000000:=by omega
      have hend:(kk+1+1+1+1+1+((cntR (len m) (num m):Nat):Int))=a1+(cntB num len (m+1):Int):=by omega
      have HE:=zzm hend;have b1 : 0≤kk+1+1+1+1+1:=by omega
      have b2:kk+1+1+1+1+1+((cntR (len m) (num m):Nat):Int)≤9000000000000000000:=by omega
      have B1:=zzm b1;have B2:=zzm b2;clear hkk hcl hcs h0 h1 hend hmc b1 b2;obtain ⟨g,cs,rfl,hP,hh,hc⟩:=HR.out.lk HL.out (Nat.lt_of_le_of_lt (Nat.zero_le m) hlt);obtain ⟨y0,y1,x2,x3,x4,A5,c5,⟨q0,q1,q2,q3,q4,q5⟩,r5⟩:=hc m hlt;rw [Nat.add_zero] at q0;have HP:=zzm hP;have HH:=zzm hh;have p0:=(zzk hh (m * 6)).trans q0;have z0:=zzl hh (m * 6);have p1:=(zzk hh (m * 6+1)).trans q1;have z1:=zzl hh (m * 6+1);have p2:=(zzk hh (m * 6+2)).trans q2;have z2:=zzl hh (m * 6+2);have p3:=(zzk hh (m * 6+3)).trans q3;have z3:=zzl hh (m * 6+3);have p4:=(zzk hh (m * 6+4)).trans q4;have z4:=zzl hh (m * 6+4);have p5:=(zzk hh (m * 6+5)).trans q5;have l1:Lk P wr (wr.setCell ⟨g,m * 6,none⟩ (.bool (kk % 3==0))):=Lk.set hh q0 (.bool _ _) hP;obtain ⟨cs1,u1,hh1,q1',s1,_,_⟩:=l1.at_ hh q1;have l2:=l1.trans (Lk.set hh1 q1' (v:=.bool ((kk+1) % 3==0)) (by obtain ⟨y,rfl⟩:=s1.of_bool;exact .bool _ _) hP);obtain ⟨cs2,u2,hh2,q2',s2,_,_⟩:=l2.at_ hh q2;have l3:=l2.trans (Lk.set hh2 q2' (v:=.int .i64 (kk+1+1)) (by obtain ⟨y,rfl⟩:=s2.of_int;exact .int _ _ _) hP);obtain ⟨cs3,u3,hh3,q3',s3,_,_⟩:=l3.at_ hh q3;have l4:=l3.trans (Lk.set hh3 q3' (v:=.int .i64 (kk+1+1+1)) (by obtain ⟨y,rfl⟩:=s3.of_int;exact .int _ _ _) hP);obtain ⟨cs4,u4,hh4,q4',s4,_,_⟩:=l4.at_ hh q4;have L5:=zzm (l4.trans (Lk.set hh4 q4' (v:=.int .i64 (kk+1+1+1+1)) (by obtain ⟨y,rfl⟩:=s4.of_int;exact .int _ _ _) hP));have hmi:((m:Nat):Int) < ((n:Nat):Int):=by omega
      have R5:=zzm r5;clear hP hh r5 hc l1 l2 l3 l4 hh1 hh2 hh3 hh4 q1' q2' q3' q4' s1 s2 s3 s4;go_wp2_with (first
        | (go_at_call 51;have hq:=markRec_lk P A5 (num m) c5 (len m) (kk+1+1+1+1+1) _ (R5.out.lk L5.out) B1.out B2.out;with_reducible refine hq.mono ?_;clear hq;rintro e W6 ⟨rfl,hL6⟩
           have L6:=zzm (L5.out.trans hL6);clear hL6))
      go_roundw
      case rel=>exact ⟨m+1,hlt,congrArg (Value.int .i64) HE.out,by first|exact congrArg (Value.int .i64) e9|exact congrArg (Value.int .i64) (by omega),HL.out.trans L6.out⟩
      case measure=>exact meas_lt (by first|exact congrArg (Value.int .i64) e9|rfl) hlt
    · obtain rfl:m=n:=by omega
      have hmi:¬ ((m:Nat):Int) < ((m:Nat):Int):=by omega
      go_wp2;go_ret;exact ⟨rfl,HL.out⟩
end
section
abbrev numB (l:List S27) (i:Nat):Nat:=(Qa l (i:Int)).f5.length
abbrev lenB (l:List S27) (i j:Nat):Nat×Nat:=((Qb (Qa l (i:Int)).f5 (j:Int)).f3.length,(Qb (Qa l (i:Int)).f5 (j:Int)).f5.length)
def okMarkB (l:List S27) (a1:Int):Bool:=decide (0≤a1∧a1+(cntB (numB l) (lenB l) l.length:Int)≤9000000000000000000)
def Rd.f (l0:List S27) (a1:Int):Option Int:=if okMarkB l0 a1=true then some (a1+(cntB (numB l0) (lenB l0) l0.length:Int)) else none
set_option maxHeartbeats 4000000 in
theorem Rd.calls (P0_:Nat→Prop) (u:Value) (l0:List S27) (a1 r1:Int) (w0 w:World) (hB:Below w0.heap.size w0 w) (ho:Kd.R k27 27 w w0.heap.size P0_ u l0) (h:Rd.f l0 a1=some r1) :
  Calls Try.prog 47 #[u,.int .i64 a1] w fun e w'=>e = .returned (.int .i64 r1)∧Below w0.heap.size w0 w'∧Kept w w' (fun k=>P0_ k∧tyS [27,34,3] w k):=by
 have hok:okMarkB l0 a1=true∧r1=a1+(cntB (numB l0) (lenB l0) l0.length:Int):=by
  unfold Rd.f at h;by_cases h5:okMarkB l0 a1=true
  ·rw [if_pos h5] at h;exact ⟨h5,(Option.some.inj h).symm⟩
  ·rw [if_neg h5] at h;cases h
 obtain ⟨hok,hr⟩:=hok;unfold okMarkB at hok;rw [decide_eq_true_eq] at hok;obtain ⟨A,c,hv,hrow⟩:=batRow_of (Kd.R_bound ho);subst hv;refine (markBat_lk _ A l0.length c (numB l0) (lenB l0) a1 w hrow hok.1 hok.2).mono ?_;rintro e w' ⟨rfl,hL⟩;refine ⟨by rw [hr],hB.trans (hL.low w0.heap.size (fun k hk=>hk.2.1)),hL.kept.mono (fun k hk=>?_)⟩;obtain ⟨hp0,_,_,q,hq,cells,hc⟩:=hk;exact ⟨hp0,q,cells,(show ∀ q,q∈27::k27.E→q ∈ [27,34,3] by decide) q hq,hc⟩
end

set_option linter.unusedVariables false
set_option linter.unusedSimpArgs false
def Qn.l0:Nat→List (S46)→Int→Int→Option (Int×(List (S46)))
 | 0,_,_,_=>none
 | k+1,x0,x1,x5=>if x5 < (x0.length:Int) then (if 0≤x5 then ((some (x0.set (x5:Int).toNat (⟨x1,(Qk x0 x5).f1,(Qk x0 x5).f2⟩:S46):List (S46))).bind fun y496=>((some (y496.set (x5:Int).toNat (⟨(Qk y496 x5).f0,wrap64 (x1+1),(Qk y496 x5).f2⟩:S46):List (S46))).bind fun y497=>(Qn.l0 k (y497.set (x5:Int).toNat (⟨(Qk y497 x5).f0,(Qk y497 x5).f1,wrap64 ((wrap64 (x1+1))+1)⟩:S46)) (wrap64 ((wrap64 ((wrap64 (x1+1))+1))+1)) (wrap64 (x5+1))))) else (none)) else (some (x1,x0))
def Qn.f (k:Nat) (l0:List (S46)) (a1:Int):Option (Int×(List (S46))):=Qn.l0 k l0 a1 0
set_option maxHeartbeats 8000000 in
theorem Qn.calls (k:Nat) (P0_:Nat→Prop) (u9000_:Value) (l0:List (S46)) (a1:Int) (r1:Int) (r2:List (S46)) (w0 w:World) (hB:Below w0.heap.size w0 w) (ho0:Kd.R k46 46 w w0.heap.size P0_ u9000_ l0) (h:Qn.f k l0 a1=some (r1,r2)) :
  Calls Try.prog 48 #[u9000_,.int .i64 a1] w fun e w'=>e = .returned (.int .i64 r1)∧Kd.R k46 46 w' w0.heap.size (fun k_=>(P0_ k_∨w.heap.size≤k_)) u9000_ r2∧Below w0.heap.size w0 w'∧Kept w w' (fun k_=>P0_ k_):=by
 have c5:=zzm (show Kd.R k46 46 w w0.heap.size (fun k_=>(P0_ k_∨w.heap.size≤k_)) u9000_ l0 from Kd.R_mono ho0 (fun k_ hk=>(.inl hk)));have HK:=zzm (Kept.refl w (fun k_=>P0_ k_));have HW0:=zzm hB.size;have HB:=zzm hB;clear hB;have H:(Qn.l0 k l0 a1 0)=some (r1,r2):=h;clear h;have H':=zzm H;clear H;go_enter Try.func48,Try.ntmps48;go_wp2;go_loopg [1,5] k (fun kq v1 v5 w'=>∃ (a2:List (S46)) (a4:Int) (a0:Int),v1 = .int .i64 a4∧v5 = .int .i64 a0∧Aside0 (Qn.l0 kq a2 a4 a0=some (r1,r2))∧Aside0 (kq≤k)∧Aside0 (Kd.R k46 46 w' w0.heap.size (fun k_=>(P0_ k_∨w.heap.size≤k_)) u9000_ a2)∧Aside0 (Kept w w' (fun k_=>P0_ k_))∧Aside0 (Below w0.heap.size w0 w'))
 case atStart=>exact ⟨(l0),(a1),(0),(by first|rfl|(simp;done)|(simp [*];done)),(by first|rfl|(simp;done)|(simp [*];done)),H',⟨Nat.le_refl _⟩,⟨by (with_reducible repeat (first|apply Kd.R_alloc|apply Kd.R_drewN|apply Kd.R_drew));exact c5.out⟩,⟨by repeat (first|(with_reducible first|exact HK.out|apply Kept.alloc|apply Kept.drewN|apply Kept.drew)|exact HK.out)⟩,⟨zzh1⟩⟩
 case round=>
  clear H';try clear p2
  obtain ⟨a2,a4,a0,rfl,rfl,HA,HK1,a3,HK,HB⟩:=hrel;cases gk with
  | zero=>exact absurd HA.out (by simp [Qn.l0])
  | succ k1=>
   have H:=HA.out;clear HA;simp only [Qn.l0] at H;by_cases c3:a0 < (a2.length:Int)
   ·
    rw [if_pos c3] at H;have c2:decide (a0 < (a2.length:Int))=true:=decide_eq_true c3;clear c3;by_cases c4 : 0≤a0
    ·
     rw [if_pos c4] at H;have d5:decide (0≤a0)=true:=decide_eq_true c4;clear c4;obtain ⟨y496,hy496⟩:∃ y_:List (S46),y_=(a2.set (a0:Int).toNat (⟨a4,(Qk a2 a0).f1,(Qk a2 a0).f2⟩:S46)):=⟨_,rfl⟩;replace H:((some (y496.set (a0:Int).toNat (⟨(Qk y496 a0).f0,wrap64 (a4+1),(Qk y496 a0).f2⟩:S46):List (S46))).bind fun y497=>(Qn.l0 k1 (y497.set (a0:Int).toNat (⟨(Qk y497 a0).f0,(Qk y497 a0).f1,wrap64 ((wrap64 (a4+1))+1)⟩:S46)) (wrap64 ((wrap64 ((wrap64 (a4+1))+1))+1)) (wrap64 (a0+1))))=some (r1,r2):=by first|(rw [hy496];with_reducible exact H)|(have H2_:=(Option.bind_some _ _).symm.trans H;rw [hy496];with_reducible exact H2_)|(have H2_:=(Option.bind_some _ _).symm.trans H;with_reducible exact H2_)|with_reducible exact H|(rw [hy496];exact H)|exact H
     have Ny496:=zzm hy496;clear hy496;obtain ⟨y497,hy497⟩:∃ y_:List (S46),y_=(y496.set (a0:Int).toNat (⟨(Qk y496 a0).f0,wrap64 (a4+1),(Qk y496 a0).f2⟩:S46)):=⟨_,rfl⟩;replace H:(Qn.l0 k1 (y497.set (a0:Int).toNat (⟨(Qk y497 a0).f0,(Qk y497 a0).f1,wrap64 ((wrap64 (a4+1))+1)⟩:S46)) (wrap64 ((wrap64 ((wrap64 (a4+1))+1))+1)) (wrap64 (a0+1)))=some (r1,r2):=by first|(rw [hy497];with_reducible exact H)|(have H2_:=(Option.bind_some _ _).symm.trans H;rw [hy497];with_reducible exact H2_)|(have H2_:=(Option.bind_some _ _).symm.trans H;with_reducible exact H2_)|with_reducible exact H|(rw [hy497];exact H)|exact H
     have Ny497:=zzm hy497;clear hy497;obtain ⟨y498,hy498⟩:∃ y_:List (S46),y_=(y497.set (a0:Int).toNat (⟨(Qk y497 a0).f0,(Qk y497 a0).f1,wrap64 ((wrap64 (a4+1))+1)⟩:S46)):=⟨_,rfl⟩;replace H:(Qn.l0 k1 y498 (wrap64 ((wrap64 ((wrap64 (a4+1))+1))+1)) (wrap64 (a0+1)))=some (r1,r2):=by first|(rw [hy498];with_reducible exact H)|(have H2_:=(Option.bind_some _ _).symm.trans H;rw [hy498];with_reducible exact H2_)|(have H2_:=(Option.bind_some _ _).symm.trans H;with_reducible exact H2_)|with_reducible exact H|(rw [hy498];exact H)|exact H
     have Ny498:=zzm hy498;clear hy498;have H':=zzm H;clear H;obtain ⟨e0,b0,eo8⟩:=Kd.R_slice a3.out;subst eo8;have p5 : 0≤(a0:Int):=zzt;have q5:(a0:Int) < ((a2.length:Int):Int):=zzt;obtain ⟨go5,e1,eo5,c1,gl5,cl5,HG5⟩:=Kd.R_form a3.out (by omega)
     (first|cases eo5|(injection eo5 with ea_ en_ ec_;(first|subst ea_|(injection ea_ with ea_;subst ea_));subst ec_;clear en_));have GB5:=zzm c1;have GG5:=zzm HG5;clear c1 gl5 HG5;have HMgo5:=zzm (show (P0_ go5∨w.heap.size≤go5) from (a3.out.1 _ rfl));obtain ⟨e2,hcl5,hM5,b1,hfr5⟩:=Kd.R_elem a3.out z46 (a0:Int) p5 q5;obtain rfl:=k46_openM hM5;have c6:wr.cell? ⟨go5,(a0:Int).toNat * 3,none⟩=some (.int .i64 ((Qk a2 a0).f0)):=b1 0 _ rfl;have c7:wr.cell? ⟨go5,(a0:Int).toNat * 3+1,none⟩=some (.int .i64 ((Qk a2 a0).f1)):=b1 1 _ rfl;have c8:wr.cell? ⟨go5,(a0:Int).toNat * 3+2,none⟩=some (.int .i64 ((Qk a2 a0).f2)):=b1 2 _ rfl;have hf5_0:wr.frozen? ⟨go5,(a0:Int).toNat * 3,none⟩=false:=hfr5 0;have hf5_1:wr.frozen? ⟨go5,(a0:Int).toNat * 3+1,none⟩=false:=hfr5 1;have hf5_2:wr.frozen? ⟨go5,(a0:Int).toNat * 3+2,none⟩=false:=hfr5 2;clear hcl5 b1 hfr5 hM5;replace p5:=eq_true p5;replace q5:=eq_true q5;have HX9:=zzm (show Kd.R k46 46 wr w0.heap.size (fun k_=>(P0_ k_∨w.heap.size≤k_)) (.slice (some ⟨go5,0,none⟩) a2.length b0) a2 from (by (with_reducible repeat (first|apply Kd.R_alloc|apply Kd.R_drewN|apply Kd.R_drew));exact a3.out));obtain ⟨e3,hcl9,hM9,b6,hfr9⟩:=Kd.R_elem HX9.out z46 (a0:Int) (zzt) (by have h_:(a0:Int) < ((a2.length:Int):Int):=zzt;first|exact h_|(have e_:=(Kd.R_reads' a3.out).1;omega)|simpa using h_);obtain rfl:=k46_openM hM9;have HP9:=Kd.R_seg HX9.out (a0:Int) (zzt) (by have h_:(a0:Int) < ((a2.length:Int):Int):=zzt;first|exact h_|(have e_:=(Kd.R_reads' a3.out).1;omega)|simpa using h_) (seg:=[.int .i64 a4]) (j:=0) hcl9 b6 (show 1≤3 from by decide) (x':=(⟨a4,(Qk a2 a0).f1,(Qk a2 a0).f2⟩:S46)) (k46_mkM _ _ _ (⟨a4,(Qk a2 a0).f1,(Qk a2 a0).f2⟩:S46)) (fun _ hk=>hk);have c0:=b6 0 _ rfl
     (try simp only [show (k46).sz=3 from rfl,Nat.mul_one,Nat.add_zero] at c0);have hf9_0:=hfr9 0
     (try simp only [show (k46).sz=3 from rfl,Nat.mul_one,Nat.add_zero] at hf9_0);clear hcl9 b6 hfr9 hM9;go_wp2_with (first|((with_reducible refine gate_store (t:=3) (p:=16) rfl ?_);refine store_event (t:=3) (p:=16) (v:=?vo_w10) (w1:=(wr.setCell ⟨go5,(a0:Int).toNat * 3,none⟩ (.int .i64 a4))) ?hg ?ho ?hn ?hr ?_;(case ho=>rfl);(case hg=>rfl);(case hn=>rfl);(case hr=>first|(go_simp;done)|(go_simp;rfl));intro a5 hw;have hg:wr.grownBy a5 (some go5):=(by rw [hw];exact HP9.2);have hp_:Kd.R k46 46 a5 w0.heap.size (fun k_=>(P0_ k_∨w.heap.size≤k_)) (.slice (some ⟨go5,0,none⟩) a2.length b0) y496:=(by rw [hw,Ny496.out];exact HP9.1);clear HP9;have a7:=zzm (hp_);have a8:=zzm ((by rw [hw];exact zzd (HB.out) GB5.out:Below w0.heap.size w0 a5));have a9:=zzm (Kept.of_grown (S:=(fun k_=>P0_ k_)) hg (by repeat (first|(with_reducible first|exact HK.out|apply Kept.alloc|apply Kept.drewN|apply Kept.drew)|exact HK.out)) (fun k_ e_=>(a3.out.1 k_ e_)));clear a3 HB HK;have a3:=a7;have HB:=a8;have HK:=a9;clear a7 a8 a9 hg hw hp_;have p6 : 0≤(a0:Int):=zzt;have q6:(a0:Int) < ((a2.length:Int):Int):=zzt;obtain ⟨e4,hcl6,hM6,b2,hfr6⟩:=Kd.R_elem a3.out z46 (a0:Int) p6 q6;obtain rfl:=k46_openM hM6;have c9:a5.cell? ⟨go5,(a0:Int).toNat * 3,none⟩=some (.int .i64 ((Qk y496 a0).f0)):=b2 0 _ rfl;have d0:a5.cell? ⟨go5,(a0:Int).toNat * 3+1,none⟩=some (.int .i64 ((Qk y496 a0).f1)):=b2 1 _ rfl;have d1:a5.cell? ⟨go5,(a0:Int).toNat * 3+2,none⟩=some (.int .i64 ((Qk y496 a0).f2)):=b2 2 _ rfl;have hf6_0:a5.frozen? ⟨go5,(a0:Int).toNat * 3,none⟩=false:=hfr6 0;have hf6_1:a5.frozen? ⟨go5,(a0:Int).toNat * 3+1,none⟩=false:=hfr6 1;have hf6_2:a5.frozen? ⟨go5,(a0:Int).toNat * 3+2,none⟩=false:=hfr6 2;clear hcl6 b2 hfr6 hM6;replace p6:=eq_true p6;replace q6:=eq_true q6;have HX11:=zzm (show Kd.R k46 46 a5 w0.heap.size (fun k_=>(P0_ k_∨w.heap.size≤k_)) (.slice (some ⟨go5,0,none⟩) a2.length b0) y496 from (by (with_reducible repeat (first|apply Kd.R_alloc|apply Kd.R_drewN|apply Kd.R_drew));exact a3.out));obtain ⟨d6,hcl11,hM11,b3,hfr11⟩:=Kd.R_elem HX11.out z46 (a0:Int) (zzt) (by have h_:(a0:Int) < ((a2.length:Int):Int):=zzt;first|exact h_|(have e_:=(Kd.R_reads' a3.out).1;omega)|simpa using h_);obtain rfl:=k46_openM hM11;have HP11:=Kd.R_seg HX11.out (a0:Int) (zzt) (by have h_:(a0:Int) < ((a2.length:Int):Int):=zzt;first|exact h_|(have e_:=(Kd.R_reads' a3.out).1;omega)|simpa using h_) (seg:=[.int .i64 (wrap64 (a4+1))]) (j:=1) hcl11 b3 (show 2≤3 from by decide) (x':=(⟨(Qk y496 a0).f0,wrap64 (a4+1),(Qk y496 a0).f2⟩:S46)) (k46_mkM _ _ _ (⟨(Qk y496 a0).f0,wrap64 (a4+1),(Qk y496 a0).f2⟩:S46)) (fun _ hk=>hk);have b7:=b3 1 _ rfl;(try simp only [show (k46).sz=3 from rfl,Nat.mul_one,Nat.add_zero] at b7);have hf11_1:=hfr11 1;(try simp only [show (k46).sz=3 from rfl,Nat.mul_one,Nat.add_zero] at hf11_1);clear hcl11 b3 hfr11 hM11)|((with_reducible refine gate_store (t:=3) (p:=23) rfl ?_);refine store_event (t:=3) (p:=23) (v:=?vo_w12) (w1:=(a5.setCell ⟨go5,(a0:Int).toNat * 3+1,none⟩ (.int .i64 (wrap64 (a4+1))))) ?hg ?ho ?hn ?hr ?_;(case ho=>rfl);(case hg=>rfl);(case hn=>rfl);(case hr=>first|(go_simp;done)|(go_simp;rfl));intro a6 hw;have hg:a5.grownBy a6 (some go5):=(by rw [hw];exact HP11.2);have hp_:Kd.R k46 46 a6 w0.heap.size (fun k_=>(P0_ k_∨w.heap.size≤k_)) (.slice (some ⟨go5,0,none⟩) a2.length b0) y497:=(by rw [hw,Ny497.out];exact HP11.1);clear HP11;have a7:=zzm (hp_);have a8:=zzm ((by rw [hw];exact zzd (HB.out) GB5.out:Below w0.heap.size w0 a6));have a9:=zzm (Kept.of_grown (S:=(fun k_=>P0_ k_)) hg (by repeat (first|(with_reducible first|exact HK.out|apply Kept.alloc|apply Kept.drewN|apply Kept.drew)|exact HK.out)) (fun k_ e_=>(a3.out.1 k_ e_)));clear a3 HB HK;have a3:=a7;have HB:=a8;have HK:=a9;clear a7 a8 a9 hg hw hp_;have p7 : 0≤(a0:Int):=zzt;have q7:(a0:Int) < ((a2.length:Int):Int):=zzt;obtain ⟨e5,hcl7,hM7,b4,hfr7⟩:=Kd.R_elem a3.out z46 (a0:Int) p7 q7;obtain rfl:=k46_openM hM7;have d2:a6.cell? ⟨go5,(a0:Int).toNat * 3,none⟩=some (.int .i64 ((Qk y497 a0).f0)):=b4 0 _ rfl;have d3:a6.cell? ⟨go5,(a0:Int).toNat * 3+1,none⟩=some (.int .i64 ((Qk y497 a0).f1)):=b4 1 _ rfl;have d4:a6.cell? ⟨go5,(a0:Int).toNat * 3+2,none⟩=some (.int .i64 ((Qk y497 a0).f2)):=b4 2 _ rfl;have hf7_0:a6.frozen? ⟨go5,(a0:Int).toNat * 3,none⟩=false:=hfr7 0;have hf7_1:a6.frozen? ⟨go5,(a0:Int).toNat * 3+1,none⟩=false:=hfr7 1;have hf7_2:a6.frozen? ⟨go5,(a0:Int).toNat * 3+2,none⟩=false:=hfr7 2;clear hcl7 b4 hfr7 hM7;replace p7:=eq_true p7;replace q7:=eq_true q7;have HX13:=zzm (show Kd.R k46 46 a6 w0.heap.size (fun k_=>(P0_ k_∨w.heap.size≤k_)) (.slice (some ⟨go5,0,none⟩) a2.length b0) y497 from (by (with_reducible repeat (first|apply Kd.R_alloc|apply Kd.R_drewN|apply Kd.R_drew));exact a3.out));obtain ⟨d7,hcl13,hM13,b5,hfr13⟩:=Kd.R_elem HX13.out z46 (a0:Int) (zzt) (by have h_:(a0:Int) < ((a2.length:Int):Int):=zzt;first|exact h_|(have e_:=(Kd.R_reads' a3.out).1;omega)|simpa using h_);obtain rfl:=k46_openM hM13;have HP13:=Kd.R_seg HX13.out (a0:Int) (zzt) (by have h_:(a0:Int) < ((a2.length:Int):Int):=zzt;first|exact h_|(have e_:=(Kd.R_reads' a3.out).1;omega)|simpa using h_) (seg:=[.int .i64 (wrap64 ((wrap64 (a4+1))+1))]) (j:=2) hcl13 b5 (show 3≤3 from by decide) (x':=(⟨(Qk y497 a0).f0,(Qk y497 a0).f1,wrap64 ((wrap64 (a4+1))+1)⟩:S46)) (k46_mkM _ _ _ (⟨(Qk y497 a0).f0,(Qk y497 a0).f1,wrap64 ((wrap64 (a4+1))+1)⟩:S46)) (fun _ hk=>hk);have b8:=b5 2 _ rfl;(try simp only [show (k46).sz=3 from rfl,Nat.mul_one,Nat.add_zero] at b8);have hf13_2:=hfr13 2;(try simp only [show (k46).sz=3 from rfl,Nat.mul_one,Nat.add_zero] at hf13_2);clear hcl13 b5 hfr13 hM13)|((with_reducible refine gate_store (t:=3) (p:=30) rfl ?_);refine store_event (t:=3) (p:=30) (v:=?vo_w14) (w1:=(a6.setCell ⟨go5,(a0:Int).toNat * 3+2,none⟩ (.int .i64 (wrap64 ((wrap64 (a4+1))+1))))) ?hg ?ho ?hn ?hr ?_;(case ho=>rfl);(case hg=>rfl);(case hn=>rfl);(case hr=>first|(go_simp;done)|(go_simp;rfl));intro b9 hw;have hg:a6.grownBy b9 (some go5):=(by rw [hw];exact HP13.2);have hp_:Kd.R k46 46 b9 w0.heap.size (fun k_=>(P0_ k_∨w.heap.size≤k_)) (.slice (some ⟨go5,0,none⟩) a2.length b0) y498:=(by rw [hw,Ny498.out];exact HP13.1);clear HP13;have a7:=zzm (hp_);have a8:=zzm ((by rw [hw];exact zzd (HB.out) GB5.out:Below w0.heap.size w0 b9));have a9:=zzm (Kept.of_grown (S:=(fun k_=>P0_ k_)) hg (by repeat (first|(with_reducible first|exact HK.out|apply Kept.alloc|apply Kept.drewN|apply Kept.drew)|exact HK.out)) (fun k_ e_=>(a3.out.1 k_ e_)));clear a3 HB HK;have a3:=a7;have HB:=a8;have HK:=a9;clear a7 a8 a9 hg hw hp_));go_roundg k1
     case measure=>have:=HK1.out;omega
     case rel=>exact ⟨(y498),(wrap64 ((wrap64 ((wrap64 (a4+1))+1))+1)),(wrap64 (a0+1)),(by first|rfl|(simp;done)|(simp [*];done)),(by first|rfl|(simp;done)|(simp [*];done)),H',⟨by have:=HK1.out;omega⟩,⟨by (with_reducible repeat (first|apply Kd.R_alloc|apply Kd.R_drewN|apply Kd.R_drew));exact a3.out⟩,⟨by repeat (first|(with_reducible first|exact HK.out|apply Kept.alloc|apply Kept.drewN|apply Kept.drew)|exact HK.out)⟩,⟨zzh1⟩⟩
    ·
     rw [if_neg c4] at H;exact absurd H (by simp)
   ·
    rw [if_neg c3] at H;have c2:decide (a0 < (a2.length:Int))=false:=decide_eq_false c3;clear c3;simp only [Option.some.injEq,Prod.mk.injEq] at H;obtain ⟨rfl,rfl⟩:=H;obtain ⟨d8,d9,eo15⟩:=Kd.R_slice a3.out;subst eo15;go_wp2;go_ret;exact ⟨zzR,by (with_reducible repeat (first|apply Kd.R_alloc|apply Kd.R_drewN|apply Kd.R_drew));exact a3.out,zzh1,by repeat (first|(with_reducible first|exact HK.out|apply Kept.alloc|apply Kept.drewN|apply Kept.drew)|exact HK.out)⟩

set_option linter.unusedVariables false
set_option linter.unusedSimpArgs false
def Qj.l0:Nat→List (S46)→Int→Int→Option (Int)
 | 0,_,_,_=>none
 | k+1,x0,x1,x5=>if x5 < (x0.length:Int) then (if 0≤x5 then (if ((Qk x0 x5).f0)=x1 then (if ((Qk x0 x5).f1)=(wrap64 (x1+1)) then (if ((Qk x0 x5).f2)=(wrap64 ((wrap64 (x1+1))+1)) then (Qj.l0 k x0 (wrap64 ((wrap64 ((wrap64 (x1+1))+1))+1)) (wrap64 (x5+1))) else (some (-1))) else (some (-1))) else (some (-1))) else (none)) else (some x1)
def Qj.f (k:Nat) (l0:List (S46)) (a1:Int):Option (Int):=Qj.l0 k l0 a1 0
set_option maxHeartbeats 8000000 in
theorem Qj.calls (k:Nat) (A0:Option Addr) (c0:Nat) (l0:List (S46)) (a1:Int) (r:Int) (w:World) (d1:Kd.C k46 w A0 l0.length l0) (d2:l0.length≤c0) (h:Qj.f k l0 a1=some r) :
  Calls Try.prog 49 #[.slice A0 l0.length c0,.int .i64 a1] w fun e w'=>e = .returned (.int .i64 r)∧Drawn0 w w':=by
 have b1:=zzm d1;have e1:=zzm d2;clear d1 d2;have H:(Qj.l0 k l0 a1 0)=some r:=h;clear h;have H':=zzm H;clear H;go_enter Try.func49,Try.ntmps49;go_wp2;go_loopg [1,5] k (fun kq v1 v5 w'=>∃ (a7:Int) (a0:Int),v1 = .int .i64 a7∧v5 = .int .i64 a0∧Aside0 (Qj.l0 kq l0 a7 a0=some r)∧Aside0 (kq≤k)∧Drawn0 w w')
 case atStart=>exact ⟨(a1),(0),(by first|rfl|(simp;done)|(simp [*];done)),(by first|rfl|(simp;done)|(simp [*];done)),H',⟨Nat.le_refl _⟩,by repeat (first|exact Drawn0.refl _|apply Drawn0.step)⟩
 case round=>
  clear H';try clear p2
  obtain ⟨a7,a0,rfl,rfl,HA,HK1,⟨m1,rfl⟩⟩:=hrel;cases gk with
  | zero=>exact absurd HA.out (by simp [Qj.l0])
  | succ k1=>
   have H:=HA.out;clear HA;simp only [Qj.l0] at H;by_cases c3:a0 < (l0.length:Int)
   ·
    rw [if_pos c3] at H;have d3:decide (a0 < (l0.length:Int))=true:=decide_eq_true c3;clear c3;by_cases c4 : 0≤a0
    ·
     rw [if_pos c4] at H;have e0:decide (0≤a0)=true:=decide_eq_true c4;clear c4;by_cases c5:((Qk l0 a0).f0)=a7
     ·
      rw [if_pos c5] at H;obtain ⟨d4,d5⟩:=zzQ c5;clear c5;by_cases c6:((Qk l0 a0).f1)=(wrap64 (a7+1))
      ·
       rw [if_pos c6] at H;obtain ⟨d6,d7⟩:=zzQ c6;clear c6;by_cases c7:((Qk l0 a0).f2)=(wrap64 ((wrap64 (a7+1))+1))
       ·
        rw [if_pos c7] at H;obtain ⟨d8,d9⟩:=zzQ c7;clear c7;have H':=zzm H;clear H;have a2 : 0≤(a0:Int):=zzt;have a3:a0 < (l0.length:Int):=zzt;obtain ⟨a6,a8,b3,b4,b5⟩:=at_T46 b1.out a0 a2 a3;cases a8;replace a2:=eq_true a2;replace a3:=eq_true a3;have a4 : 0≤(a0:Int):=zzt;have a5:a0 < (l0.length:Int):=zzt;obtain ⟨b2,b6,b7,b8,b9⟩:=at_T46 b1.out a0 a4 a5;obtain rfl:a6=b2:=(by injection b6);replace a4:=eq_true a4;replace a5:=eq_true a5;have a9 : 0≤(a0:Int):=zzt;have b0:a0 < (l0.length:Int):=zzt;obtain ⟨c1,c2,c8,c9,d0⟩:=at_T46 b1.out a0 a9 b0;obtain rfl:a6=c1:=(by injection c2);replace a9:=eq_true a9;replace b0:=eq_true b0;go_wp2;go_roundg k1
        case measure=>have:=HK1.out;omega
        case rel=>exact ⟨(wrap64 ((wrap64 ((wrap64 (a7+1))+1))+1)),(wrap64 (a0+1)),(by first|rfl|(simp;done)|(simp [*];done)),(by first|rfl|(simp;done)|(simp [*];done)),H',⟨by have:=HK1.out;omega⟩,by repeat (first|exact Drawn0.refl _|apply Drawn0.step)⟩
       ·
        rw [if_neg c7] at H;obtain ⟨d8,d9⟩:=zzY c7;obtain rfl:=Option.some.inj H;have a2 : 0≤(a0:Int):=zzt;have a3:a0 < (l0.length:Int):=zzt;obtain ⟨a6,a8,b3,b4,b5⟩:=at_T46 b1.out a0 a2 a3;cases a8;replace a2:=eq_true a2;replace a3:=eq_true a3;have a4 : 0≤(a0:Int):=zzt;have a5:a0 < (l0.length:Int):=zzt;obtain ⟨b2,b6,b7,b8,b9⟩:=at_T46 b1.out a0 a4 a5;obtain rfl:a6=b2:=(by injection b6);replace a4:=eq_true a4;replace a5:=eq_true a5;have a9 : 0≤(a0:Int):=zzt;have b0:a0 < (l0.length:Int):=zzt;obtain ⟨c1,c2,c8,c9,d0⟩:=at_T46 b1.out a0 a9 b0;obtain rfl:a6=c1:=(by injection c2);replace a9:=eq_true a9;replace b0:=eq_true b0;go_wp2;go_ret;exact ⟨by first|rfl|(simp;done)|(simp [*];done),by repeat (first|exact Drawn0.refl _|apply Drawn0.step)⟩
      ·
       rw [if_neg c6] at H;obtain ⟨d6,d7⟩:=zzY c6;obtain rfl:=Option.some.inj H;have a2 : 0≤(a0:Int):=zzt;have a3:a0 < (l0.length:Int):=zzt;obtain ⟨a6,a8,b3,b4,b5⟩:=at_T46 b1.out a0 a2 a3;cases a8;replace a2:=eq_true a2;replace a3:=eq_true a3;have a4 : 0≤(a0:Int):=zzt;have a5:a0 < (l0.length:Int):=zzt;obtain ⟨b2,b6,b7,b8,b9⟩:=at_T46 b1.out a0 a4 a5;obtain rfl:a6=b2:=(by injection b6);replace a4:=eq_true a4;replace a5:=eq_true a5;go_wp2;go_ret;exact ⟨by first|rfl|(simp;done)|(simp [*];done),by repeat (first|exact Drawn0.refl _|apply Drawn0.step)⟩
     ·
      rw [if_neg c5] at H;obtain ⟨d4,d5⟩:=zzY c5;obtain rfl:=Option.some.inj H;have a2 : 0≤(a0:Int):=zzt;have a3:a0 < (l0.length:Int):=zzt;obtain ⟨a6,a8,b3,b4,b5⟩:=at_T46 b1.out a0 a2 a3;cases a8;replace a2:=eq_true a2;replace a3:=eq_true a3;go_wp2;go_ret;exact ⟨by first|rfl|(simp;done)|(simp [*];done),by repeat (first|exact Drawn0.refl _|apply Drawn0.step)⟩
    ·
     rw [if_neg c4] at H;exact absurd H (by simp)
   ·
    rw [if_neg c3] at H;have d3:decide (a0 < (l0.length:Int))=false:=decide_eq_false c3;clear c3;obtain rfl:=Option.some.inj H;go_wp2;go_ret;exact ⟨by first|rfl|(simp;done)|(simp [*];done),by repeat (first|exact Drawn0.refl _|apply Drawn0.step)⟩

set_option linter.unusedVariables false
set_option linter.unusedSimpArgs false
def laws_FnExactUndoneOf.j0:Nat→List (S83)→List (S46)→List (S46)→Bool→Option (Bool)
 | 0,_,_,_,_=>none
 | k+1,x0,x4,x6,x42=>if x42=true then (some false) else ((Qn.f k x6 1).bind fun bt522=>((Qj.f k bt522.2 1).bind fun t524=>(if t524 < 0 then (some false) else (if t524=bt522.1 then ((Qh.f k x0).bind fun t525=>((Qc.f k t525).bind fun t528=>((Qf.f k t528 x4).bind fun t531=>(if t531=true then ((Qj.f k bt522.2 1).bind fun t532=>(if t532 < 0 then (some false) else (if t532=bt522.1 then (some true) else (some false)))) else (some false))))) else (some false)))))
def laws_FnExactUndoneOf.f (k:Nat) (l0:List (S83)):Option (Bool):=(Qu.f k l0 1048576).bind fun t502=>(if t502 < 0 then (some true) else ((Qh.f k l0).bind fun t503=>((Qe.f k t503).bind fun t506=>((Qh.f k l0).bind fun t509=>((Qc.f k t509).bind fun t512=>((Qf.f k t512 t506).bind fun t515=>(if t515=true then ((Qh.f k l0).bind fun t516=>((Qp.f k t509 t516).bind fun t519=>(if t519=true then ((Rd.f t509 1).bind fun t520=>(if t520 < 0 then (laws_FnExactUndoneOf.j0 k l0 t506 t512 true) else ((Qf.f k t512 t506).bind fun t521=>(laws_FnExactUndoneOf.j0 k l0 t506 t512 (!t521))))) else (some false)))) else (some false))))))))
set_option maxHeartbeats 8000000 in
theorem laws_FnExactUndoneOf.calls (k:Nat) (A0:Option Addr) (c0:Nat) (l0:List (S83)) (r:Bool) (w:World) (k6:Kd.C k83 w A0 l0.length l0) (k7:l0.length≤c0) (h:laws_FnExactUndoneOf.f k l0=some r) :
  Calls Try.prog 16 #[.slice A0 l0.length c0] w fun e w'=>e = .returned (.bool r)∧Below w.heap.size w w':=by
 have c9:=zzm k6;have d0:=zzm k7;clear k6 k7;have HB:=zzm (Below.refl w.heap.size w);have H:((Qu.f k l0 1048576).bind fun d3=>(if d3 < 0 then (some true) else ((Qh.f k l0).bind fun c8=>((Qe.f k c8).bind fun b8=>((Qh.f k l0).bind fun c2=>((Qc.f k c2).bind fun a6=>((Qf.f k a6 b8).bind fun g3=>(if g3=true then ((Qh.f k l0).bind fun d4=>((Qp.f k c2 d4).bind fun g4=>(if g4=true then ((Rd.f c2 1).bind fun e0=>(if e0 < 0 then (laws_FnExactUndoneOf.j0 k l0 b8 a6 true) else ((Qf.f k a6 b8).bind fun e6=>(laws_FnExactUndoneOf.j0 k l0 b8 a6 (!e6))))) else (some false)))) else (some false)))))))))=some r:=h;clear h;obtain ⟨d3,A2,H⟩:=zzG H;by_cases c3:d3 < 0
 ·
  rw [if_pos c3] at H;have h4:decide (d3 < 0)=true:=decide_eq_true c3;clear c3;obtain rfl:=Option.some.inj H;go_enter Try.func16,Try.ntmps16;go_wp2_with (first|((with_reducible refine gate_callee (f:=39) rfl ?_);refine goesL_ (some 13) rfl rfl Try.func39 (by kernel_rfl) rfl #[.slice A0 l0.length c0,.int .i64 1048576] rfl zzM2 ?_;(with_reducible refine (Qu.calls k _ _ l0 1048576 d3 _ ?side1 ?side2 A2.out).mono ?_);(case side1=>repeat (first|exact c9.out|(with_reducible refine Kd.C_alloc ?_ _)|(with_reducible refine Kd.C_drewN ?_ _)|(with_reducible refine Kd.C_drew ?_)));(case side2=>exact d0.out);rintro e w4 ⟨rfl,hb⟩;refine ⟨_,rfl,?_⟩;have a1:=zzm (zzp zzh1 hb);clear HB;have HB:=a1;clear a1;(try clear hb);(try clear hb2);(try clear hk);(try clear hi)));go_ret;exact ⟨zzR,zzh1⟩
 ·
  rw [if_neg c3] at H;have h4:decide (d3 < 0)=false:=decide_eq_false c3;clear c3;obtain ⟨c8,A5,H⟩:=zzG H;obtain ⟨b8,A6,H⟩:=zzG H;obtain ⟨c2,A7,H⟩:=zzG H;obtain ⟨a6,A8,H⟩:=zzG H;obtain ⟨g3,A9,H⟩:=zzG H;by_cases e9:g3=true
  ·
   subst e9;replace H:=zzIt H;obtain ⟨d4,k8,H⟩:=zzG H;obtain ⟨g4,k9,H⟩:=zzG H;by_cases g0:g4=true
   ·
    subst g0;replace H:=zzIt H;obtain ⟨e0,o6,H⟩:=zzG H;have g5:=zzm H;clear H;go_enter Try.func16,Try.ntmps16;go_upto_region 14 with (first|((with_reducible refine gate_callee (f:=39) rfl ?_);refine goesL_ (some 13) rfl rfl Try.func39 (by kernel_rfl) rfl #[.slice A0 l0.length c0,.int .i64 1048576] rfl zzM2 ?_;(with_reducible refine (Qu.calls k _ _ l0 1048576 d3 _ ?side1 ?side2 A2.out).mono ?_);(case side1=>repeat (first|exact c9.out|(with_reducible refine Kd.C_alloc ?_ _)|(with_reducible refine Kd.C_drewN ?_ _)|(with_reducible refine Kd.C_drew ?_)));(case side2=>exact d0.out);rintro e o9 ⟨rfl,hb⟩;refine ⟨_,rfl,?_⟩;have a1:=zzm (zzp zzh1 hb);clear HB;have HB:=a1;clear a1;(try clear hb);(try clear hb2);(try clear hk);(try clear hi))|((with_reducible refine gate_callee (f:=40) rfl ?_);refine goesL_ (some 17) rfl rfl Try.func40 (by kernel_rfl) rfl #[.slice A0 l0.length c0] rfl zzM2 ?_;(with_reducible refine (Qh.calls k _ _ l0 c8 _ ?side1 ?side2 A5.out).mono ?_);(case side1=>exact zzcb c9 HB);(case side2=>exact d0.out);rintro e p0 ⟨h5,rfl,ho0,hb⟩;refine ⟨_,rfl,?_⟩;have a1:=zzm (Kd.R_lower ho0 (zzo zzh1));have a2:=zzm (zzp zzh1 hb);clear HB;have a3:=a1;have HB:=a2;clear a1 a2;(try clear hb);(try clear hb2);(try clear hk);(try clear hi);(try clear ho0);obtain ⟨h6,h7,eo18⟩:=Kd.R_slice a3.out;subst eo18)|((with_reducible refine gate_callee (f:=33) rfl ?_);refine goesL_ (some 18) rfl rfl Try.func33 (by kernel_rfl) rfl #[.slice h6 c8.length h7] rfl zzM2 ?_;(with_reducible refine (Qe.calls k _ _ c8 b8 _ ?side1 ?side2 A6.out).mono ?_);(case side1=>repeat (first|exact (Kd.R_reads' a3.out).2.2|(with_reducible refine Kd.C_alloc ?_ _)|(with_reducible refine Kd.C_drewN ?_ _)|(with_reducible refine Kd.C_drew ?_)));(case side2=>exact (Kd.R_reads' a3.out).2.1);rintro e p1 ⟨h8,rfl,ho0,hb⟩;refine ⟨_,rfl,?_⟩;have a1:=zzm (Kd.R_below (by (with_reducible repeat (first|apply Kd.R_alloc|apply Kd.R_drewN|apply Kd.R_drew));exact a3.out) hb);have a2:=zzm (Kd.R_lower ho0 (zzo zzh1));have a4:=zzm (zzp zzh1 hb);clear a3 HB;have a3:=a1;have a5:=a2;have HB:=a4;clear a1 a2 a4;(try clear hb);(try clear hb2);(try clear hk);(try clear hi);(try clear ho0))|((with_reducible refine gate_callee (f:=40) rfl ?_);refine goesL_ (some 20) rfl rfl Try.func40 (by kernel_rfl) rfl #[.slice A0 l0.length c0] rfl zzM2 ?_;(with_reducible refine (Qh.calls k _ _ l0 c2 _ ?side1 ?side2 A7.out).mono ?_);(case side1=>exact zzcb c9 HB);(case side2=>exact d0.out);rintro e p3 ⟨h9,rfl,ho0,hb⟩;refine ⟨_,rfl,?_⟩;have a1:=zzm (Kd.R_elder' (by (with_reducible repeat (first|apply Kd.R_alloc|apply Kd.R_drewN|apply Kd.R_drew));exact a3.out) (Kd.R_base ho0) hb);have a2:=zzm (Kd.R_below (by (with_reducible repeat (first|apply Kd.R_alloc|apply Kd.R_drewN|apply Kd.R_drew));exact a5.out) hb);have a4:=zzm (Kd.R_lower (Kd.R_new' ho0 (Kd.R_lt (by (with_reducible repeat (first|apply Kd.R_alloc|apply Kd.R_drewN|apply Kd.R_drew));exact a3.out))) (zzo zzh1));have a9:=zzm (zzp zzh1 hb);clear a3 a5 HB;have a3:=a1;have a5:=a2;have a8:=a4;have HB:=a9;clear a1 a2 a4 a9;(try clear hb);(try clear hb2);(try clear hk);(try clear hi);(try clear ho0);obtain ⟨e7,e8,eo21⟩:=Kd.R_slice a8.out;subst eo21)|((with_reducible refine gate_callee (f:=32) rfl ?_);refine goesL_ (some 22) rfl rfl Try.func32 (by kernel_rfl) rfl #[.slice e7 c2.length e8] rfl zzM2 ?_;(with_reducible refine (Qc.calls k _ _ c2 a6 _ ?side1 ?side2 A8.out).mono ?_);(case side1=>repeat (first|exact (Kd.R_reads' a8.out).2.2|(with_reducible refine Kd.C_alloc ?_ _)|(with_reducible refine Kd.C_drewN ?_ _)|(with_reducible refine Kd.C_drew ?_)));(case side2=>exact (Kd.R_reads' a8.out).2.1);rintro e p4 ⟨j3,rfl,ho0,hb⟩;refine ⟨_,rfl,?_⟩;have a1:=zzm (Kd.R_below (by (with_reducible repeat (first|apply Kd.R_alloc|apply Kd.R_drewN|apply Kd.R_drew));exact a3.out) hb);have a2:=zzm (Kd.R_elder' (by (with_reducible repeat (first|apply Kd.R_alloc|apply Kd.R_drewN|apply Kd.R_drew));exact a5.out) (Kd.R_base ho0) hb);have a4:=zzm (Kd.R_below (by (with_reducible repeat (first|apply Kd.R_alloc|apply Kd.R_drewN|apply Kd.R_drew));exact a8.out) hb);have a9:=zzm (Kd.R_lower (Kd.R_new' ho0 (Kd.R_lt (by (with_reducible repeat (first|apply Kd.R_alloc|apply Kd.R_drewN|apply Kd.R_drew));exact a5.out))) (zzo zzh1));have b2:=zzm (zzp zzh1 hb);clear a3 a5 a8 HB;have a3:=a1;have a5:=a2;have a8:=a4;have b0:=a9;have HB:=b2;clear a1 a2 a4 a9 b2;(try clear hb);(try clear hb2);(try clear hk);(try clear hi);(try clear ho0);obtain ⟨b4,b5,eo23⟩:=Kd.R_slice b0.out;subst eo23;obtain ⟨d5,d6,eo24⟩:=Kd.R_slice a5.out;subst eo24)|((with_reducible refine gate_callee (f:=46) rfl ?_);refine goesL_ (some 25) rfl rfl Try.func46 (by kernel_rfl) rfl #[.slice b4 a6.length b5,.slice d5 b8.length d6] rfl zzM2 ?_;(with_reducible refine (Qf.calls k _ _ a6 _ _ b8 true _ ?side1 ?side2 ?side3 ?side4 A9.out).mono ?_);(case side1=>repeat (first|exact (Kd.R_reads' b0.out).2.2|(with_reducible refine Kd.C_alloc ?_ _)|(with_reducible refine Kd.C_drewN ?_ _)|(with_reducible refine Kd.C_drew ?_)));(case side2=>exact (Kd.R_reads' b0.out).2.1);(case side3=>repeat (first|exact (Kd.R_reads' a5.out).2.2|(with_reducible refine Kd.C_alloc ?_ _)|(with_reducible refine Kd.C_drewN ?_ _)|(with_reducible refine Kd.C_drew ?_)));(case side4=>exact (Kd.R_reads' a5.out).2.1);rintro e p5 ⟨rfl,hb⟩;refine ⟨_,rfl,?_⟩;have a1:=zzm (Kd.R_below (by (with_reducible repeat (first|apply Kd.R_alloc|apply Kd.R_drewN|apply Kd.R_drew));exact a3.out) hb);have a2:=zzm (Kd.R_below (by (with_reducible repeat (first|apply Kd.R_alloc|apply Kd.R_drewN|apply Kd.R_drew));exact a5.out) hb);have a4:=zzm (Kd.R_below (by (with_reducible repeat (first|apply Kd.R_alloc|apply Kd.R_drewN|apply Kd.R_drew));exact a8.out) hb);have a9:=zzm (Kd.R_below (by (with_reducible repeat (first|apply Kd.R_alloc|apply Kd.R_drewN|apply Kd.R_drew));exact b0.out) hb);have b2:=zzm (zzp zzh1 hb);clear a3 a5 a8 b0 HB;have a3:=a1;have a5:=a2;have a8:=a4;have b0:=a9;have HB:=b2;clear a1 a2 a4 a9 b2;(try clear hb);(try clear hb2);(try clear hk);(try clear hi))|((with_reducible refine gate_callee (f:=40) rfl ?_);refine goesL_ (some 29) rfl rfl Try.func40 (by kernel_rfl) rfl #[.slice A0 l0.length c0] rfl zzM2 ?_;(with_reducible refine (Qh.calls k _ _ l0 d4 _ ?side1 ?side2 k8.out).mono ?_);(case side1=>exact zzcb c9 HB);(case side2=>exact d0.out);rintro e p6 ⟨l3,rfl,ho0,hb⟩;refine ⟨_,rfl,?_⟩;have a1:=zzm (Kd.R_elder' (by (with_reducible repeat (first|apply Kd.R_alloc|apply Kd.R_drewN|apply Kd.R_drew));exact a3.out) (Kd.R_base ho0) hb);have a2:=zzm (Kd.R_below (by (with_reducible repeat (first|apply Kd.R_alloc|apply Kd.R_drewN|apply Kd.R_drew));exact a5.out) hb);have a4:=zzm (Kd.R_elder' (by (with_reducible repeat (first|apply Kd.R_alloc|apply Kd.R_drewN|apply Kd.R_drew));exact a8.out) (Kd.R_base ho0) hb);have a9:=zzm (Kd.R_below (by (with_reducible repeat (first|apply Kd.R_alloc|apply Kd.R_drewN|apply Kd.R_drew));exact b0.out) hb);have b2:=zzm (Kd.R_lower (Kd.R_new' (Kd.R_new' ho0 (Kd.R_lt (by (with_reducible repeat (first|apply Kd.R_alloc|apply Kd.R_drewN|apply Kd.R_drew));exact a3.out))) (Kd.R_lt (by (with_reducible repeat (first|apply Kd.R_alloc|apply Kd.R_drewN|apply Kd.R_drew));exact a8.out))) (zzo zzh1));have d7:=zzm (zzp zzh1 hb);clear a3 a5 a8 b0 HB;have a3:=a1;have a5:=a2;have a8:=a4;have b0:=a9;have b9:=b2;have HB:=d7;clear a1 a2 a4 a9 b2 d7;(try clear hb);(try clear hb2);(try clear hk);(try clear hi);(try clear ho0);obtain ⟨j4,j5,eo27⟩:=Kd.R_slice b9.out;subst eo27)|((with_reducible refine gate_callee (f:=41) rfl ?_);refine goesL_ (some 30) rfl rfl Try.func41 (by kernel_rfl) rfl #[.slice e7 c2.length e8,.slice j4 d4.length j5] rfl zzM2 ?_;(with_reducible refine (Qp.calls k _ _ c2 _ _ d4 true _ ?side1 ?side2 ?side3 ?side4 k9.out).mono ?_);(case side1=>repeat (first|exact (Kd.R_reads' a8.out).2.2|(with_reducible refine Kd.C_alloc ?_ _)|(with_reducible refine Kd.C_drewN ?_ _)|(with_reducible refine Kd.C_drew ?_)));(case side2=>exact (Kd.R_reads' a8.out).2.1);(case side3=>repeat (first|exact (Kd.R_reads' b9.out).2.2|(with_reducible refine Kd.C_alloc ?_ _)|(with_reducible refine Kd.C_drewN ?_ _)|(with_reducible refine Kd.C_drew ?_)));(case side4=>exact (Kd.R_reads' b9.out).2.1);rintro e p7 ⟨rfl,hb⟩;refine ⟨_,rfl,?_⟩;have a1:=zzm (Kd.R_below (by (with_reducible repeat (first|apply Kd.R_alloc|apply Kd.R_drewN|apply Kd.R_drew));exact a3.out) hb);have a2:=zzm (Kd.R_below (by (with_reducible repeat (first|apply Kd.R_alloc|apply Kd.R_drewN|apply Kd.R_drew));exact a5.out) hb);have a4:=zzm (Kd.R_below (by (with_reducible repeat (first|apply Kd.R_alloc|apply Kd.R_drewN|apply Kd.R_drew));exact a8.out) hb);have a9:=zzm (Kd.R_below (by (with_reducible repeat (first|apply Kd.R_alloc|apply Kd.R_drewN|apply Kd.R_drew));exact b0.out) hb);have b2:=zzm (Kd.R_below (by (with_reducible repeat (first|apply Kd.R_alloc|apply Kd.R_drewN|apply Kd.R_drew));exact b9.out) hb);have d7:=zzm (zzp zzh1 hb);clear a3 a5 a8 b0 b9 HB;have a3:=a1;have a5:=a2;have a8:=a4;have b0:=a9;have b9:=b2;have HB:=d7;clear a1 a2 a4 a9 b2 d7;(try clear hb);(try clear hb2);(try clear hk);(try clear hi))|((with_reducible refine gate_callee (f:=47) rfl ?_);refine goesL_ (some 34) rfl rfl Try.func47 (by kernel_rfl) rfl #[.slice e7 c2.length e8,.int .i64 1] rfl zzM2 ?_;(with_reducible refine (Rd.calls _ (.slice e7 c2.length e8) c2 1 e0 w _ ?side1 (a8.out) o6.out).mono ?_);(case side1=>repeat (first|(with_reducible first|exact HB.out|apply zza|apply zzb|apply zzc)|exact HB.out));rintro e l2 ⟨rfl,hb,hkp⟩;refine ⟨_,rfl,?_⟩;have a1:=zzm (Kd.R_nil k27 27 l2 w.heap.size (fun k_=>some k_≠(.slice j4 d4.length j5:Value).ownBlock));have a2:=zzm (Kd.R_mono (ok':=fun k_=>some k_≠(.slice b4 a6.length b5:Value).ownBlock) (R_keptT ((Kd.R_apart' a5.out (Kd.R_typed a8.out) (by decide))) hkp (by decide)) (fun k_ hk_=>hk_.1.1.2));have a4:=zzm (Kd.R_mono (ok':=fun k_=>some k_≠(.slice d5 b8.length d6:Value).ownBlock) (R_keptT ((Kd.R_apart' b0.out (Kd.R_typed a8.out) (by decide))) hkp (by decide)) (fun k_ hk_=>hk_.1.1.2));have a9:=zzm (Kd.R_nil k27 27 l2 w.heap.size (fun k_=>some k_≠(.slice h6 c8.length h7:Value).ownBlock));have b2:=zzm (hb);clear a3 a5 b0 b9 HB a8;have a3:=a1;have a5:=a2;have b0:=a4;have b9:=a9;have HB:=b2;clear a1 a2 a4 a9 b2;(try clear hb);(try clear hkp)))
    (try simp only [Act.put,zzq,zzr,zzs]);go_cut [42] (fun o7 wc=>∃ (kq:Nat) (d9:Bool),o7 = .bool d9∧Aside0 (laws_FnExactUndoneOf.j0 kq l0 b8 a6 d9=some r)∧Aside0 (kq≤k)∧Aside0 (Kd.R k46 46 wc w.heap.size (fun k_=>some k_≠((.slice b4 a6.length b5):Value).ownBlock) (.slice d5 b8.length d6) b8)∧Aside0 (Kd.R k46 46 wc w.heap.size (fun k_=>some k_≠((.slice d5 b8.length d6):Value).ownBlock) (.slice b4 a6.length b5) a6)∧Aside0 (Below w.heap.size w wc))
    case first=>
     have H:=g5.out;clear g5;by_cases e1:e0 < 0
     ·
      rw [if_pos e1] at H;have d8:decide (e0 < 0)=true:=decide_eq_true e1;clear e1
      (first|rw [d8]|(simp only [i64_w,i32_w];rw [d8])|skip);have H':=zzm H;clear H;go_wp2;go_meet
      case rel=>exact ⟨_,(true),(by first|rfl|(simp;done)|(simp [*];done)),H',⟨by first|omega|exact Nat.le_refl _⟩,⟨by (with_reducible repeat (first|apply Kd.R_alloc|apply Kd.R_drewN|apply Kd.R_drew));exact a5.out⟩,⟨by (with_reducible repeat (first|apply Kd.R_alloc|apply Kd.R_drewN|apply Kd.R_drew));exact b0.out⟩,⟨zzh1⟩⟩
     ·
      rw [if_neg e1] at H;have d8:decide (e0 < 0)=false:=decide_eq_false e1;clear e1
      (first|rw [d8]|(simp only [i64_w,i32_w];rw [d8])|skip);obtain ⟨e6,o8,H⟩:=zzG H;have H':=zzm H;clear H;go_wp2_with (first|(go_at_call 46;(with_reducible refine (Qf.calls k _ _ a6 _ _ b8 e6 _ ?side1 ?side2 ?side3 ?side4 o8.out).mono ?_);(case side1=>repeat (first|exact (Kd.R_reads' b0.out).2.2|(with_reducible refine Kd.C_alloc ?_ _)|(with_reducible refine Kd.C_drewN ?_ _)|(with_reducible refine Kd.C_drew ?_)));(case side2=>exact (Kd.R_reads' b0.out).2.1);(case side3=>repeat (first|exact (Kd.R_reads' a5.out).2.2|(with_reducible refine Kd.C_alloc ?_ _)|(with_reducible refine Kd.C_drewN ?_ _)|(with_reducible refine Kd.C_drew ?_)));(case side4=>exact (Kd.R_reads' a5.out).2.1);rintro e p8 ⟨rfl,hb⟩;have a1:=zzm (Kd.R_below (by (with_reducible repeat (first|apply Kd.R_alloc|apply Kd.R_drewN|apply Kd.R_drew));exact a3.out) hb);have a2:=zzm (Kd.R_below (by (with_reducible repeat (first|apply Kd.R_alloc|apply Kd.R_drewN|apply Kd.R_drew));exact a5.out) hb);have a4:=zzm (Kd.R_below (by (with_reducible repeat (first|apply Kd.R_alloc|apply Kd.R_drewN|apply Kd.R_drew));exact b0.out) hb);have a9:=zzm (Kd.R_below (by (with_reducible repeat (first|apply Kd.R_alloc|apply Kd.R_drewN|apply Kd.R_drew));exact b9.out) hb);have b2:=zzm (zzp zzh1 hb);clear a3 a5 b0 b9 HB;have a3:=a1;have a5:=a2;have b0:=a4;have b9:=a9;have HB:=b2;clear a1 a2 a4 a9 b2;(try clear hb);(try clear hb2);(try clear hk);(try clear hi)));go_meet
      case rel=>exact ⟨_,(!e6),(by first|rfl|(simp;done)|(simp [*];done)),H',⟨by first|omega|exact Nat.le_refl _⟩,⟨by (with_reducible repeat (first|apply Kd.R_alloc|apply Kd.R_drewN|apply Kd.R_drew));exact a5.out⟩,⟨by (with_reducible repeat (first|apply Kd.R_alloc|apply Kd.R_drewN|apply Kd.R_drew));exact b0.out⟩,⟨zzh1⟩⟩
    case rest=>
     clear g5;try clear c1
     try clear p2
     try clear c3
     try clear h4
     try clear c4
     try clear e9
     try clear g0
     try clear p9
     try clear e1
     try clear d8
     try clear q0
     obtain ⟨kq,d9,rfl,HA,HJ14,a7,a0,HB⟩:=hcut;cases kq with
     | zero=>exact absurd HA.out (by simp [laws_FnExactUndoneOf.j0])
     | succ b7=>
      have H:=HA.out;clear HA;simp only [laws_FnExactUndoneOf.j0] at H;by_cases g9:d9=true
      ·
       subst g9;replace H:=zzIt H;obtain rfl:=Option.some.inj H;go_wp2;go_ret;exact ⟨zzR,zzh1⟩
      ·
       replace g9:=Bool.eq_false_iff.mpr g9;subst g9;replace H:=zzIf H;replace H:=zzH H;obtain ⟨⟨d1,b3⟩,j6,H⟩:=H;replace H:((Qj.f b7 b3 1).bind fun c7=>(if c7 < 0 then (some false) else (if c7=d1 then ((Qh.f b7 l0).bind fun c5=>((Qc.f b7 c5).bind fun c6=>((Qf.f b7 c6 b8).bind fun g6=>(if g6=true then ((Qj.f b7 b3 1).bind fun d2=>(if d2 < 0 then (some false) else (if d2=d1 then (some true) else (some false)))) else (some false))))) else (some false))))=some r:=H;have e2:=zzm j6;clear j6;obtain ⟨c7,e3,H⟩:=zzG H;by_cases e4:c7 < 0
       ·
        rw [if_pos e4] at H;have k0:decide (c7 < 0)=true:=decide_eq_true e4;clear e4;obtain rfl:=Option.some.inj H;go_wp2_with (first|((with_reducible refine gate_callee (f:=48) rfl ?_);refine goesL_ (some 45) rfl rfl Try.func48 (by kernel_rfl) rfl #[.slice b4 a6.length b5,.int .i64 1] rfl zzM2 ?_;(with_reducible refine (Qn.calls b7 (fun k_=>some k_=(.slice b4 a6.length b5:Value).ownBlock) (.slice b4 a6.length b5) a6 1 d1 b3 w _ ?side1 ?side2 e2.out).mono ?_);(case side1=>repeat (first|(with_reducible first|exact HB.out|apply zza|apply zzb|apply zzc)|exact HB.out));(case side2=>exact Kd.R_tight rfl a0.out);rintro e q1 ⟨rfl,hy0,hb,hkp⟩;refine ⟨_,rfl,?_⟩;have a1:=zzm (Kd.R_mono (ok':=fun k_=>some k_≠(.slice b4 a6.length b5:Value).ownBlock) (Kd.R_keptB (a7.out) hkp (fun k_ hk_ hs_=>(hk_) hs_)) (fun k_ hk_=>hk_.1));have a2:=zzm (Kd.R_reok rfl hy0 (fun k_ e_=>a0.out.1 k_ e_));have a4:=zzm (hb);clear a7 a0 HB;have a7:=a1;have a0:=a2;have HB:=a4;clear a1 a2 a4;(try clear hb);(try clear hkp);(try clear hy0))|((with_reducible refine gate_callee (f:=49) rfl ?_);refine goesL_ (some 48) rfl rfl Try.func49 (by kernel_rfl) rfl #[.slice b4 b3.length b5,.int .i64 1] rfl (by (try simp only [map_toArray,map_cons,map_nil]);first|done|(rw [show b3.length=a6.length from (Kd.R_reads' a0.out).1.symm] <;> rfl)|rfl|(simp only [length_drop,length_take];rfl)) ?_;(with_reducible refine (Qj.calls b7 _ _ b3 1 c7 _ ?side1 ?side2 e3.out).mono ?_);(case side1=>repeat (first|exact (Kd.R_reads' a0.out).2.2|(with_reducible refine Kd.C_alloc ?_ _)|(with_reducible refine Kd.C_drewN ?_ _)|(with_reducible refine Kd.C_drew ?_)));(case side2=>rw [show b3.length=a6.length from (Kd.R_reads' a0.out).1.symm];exact (Kd.R_reads' a0.out).2.1);rintro e w' ⟨rfl,⟨nd,rfl⟩⟩;refine ⟨_,rfl,?_⟩));go_ret;exact ⟨zzR,zzh1⟩
       ·
        rw [if_neg e4] at H;have k0:decide (c7 < 0)=false:=decide_eq_false e4;clear e4;by_cases g1:c7=d1
        ·
         rw [if_pos g1] at H;obtain ⟨k1,k2⟩:=zzQ g1;clear g1;obtain ⟨c5,h0,H⟩:=zzG H;obtain ⟨c6,h1,H⟩:=zzG H;obtain ⟨g6,h2,H⟩:=zzG H;by_cases h3:g6=true
         ·
          subst h3;replace H:=zzIt H;obtain ⟨d2,j7,H⟩:=zzG H;by_cases e5:d2 < 0
          ·
           rw [if_pos e5] at H;have k3:decide (d2 < 0)=true:=decide_eq_true e5;clear e5;obtain rfl:=Option.some.inj H;go_wp2_with (first|((with_reducible refine gate_callee (f:=48) rfl ?_);refine goesL_ (some 45) rfl rfl Try.func48 (by kernel_rfl) rfl #[.slice b4 a6.length b5,.int .i64 1] rfl zzM2 ?_;(with_reducible refine (Qn.calls b7 (fun k_=>some k_=(.slice b4 a6.length b5:Value).ownBlock) (.slice b4 a6.length b5) a6 1 d1 b3 w _ ?side1 ?side2 e2.out).mono ?_);(case side1=>repeat (first|(with_reducible first|exact HB.out|apply zza|apply zzb|apply zzc)|exact HB.out));(case side2=>exact Kd.R_tight rfl a0.out);rintro e q2 ⟨rfl,hy0,hb,hkp⟩;refine ⟨_,rfl,?_⟩;have a1:=zzm (Kd.R_mono (ok':=fun k_=>some k_≠(.slice b4 a6.length b5:Value).ownBlock) (Kd.R_keptB (a7.out) hkp (fun k_ hk_ hs_=>(hk_) hs_)) (fun k_ hk_=>hk_.1));have a2:=zzm (Kd.R_reok rfl hy0 (fun k_ e_=>a0.out.1 k_ e_));have a4:=zzm (hb);clear a7 a0 HB;have a7:=a1;have a0:=a2;have HB:=a4;clear a1 a2 a4;(try clear hb);(try clear hkp);(try clear hy0))|((with_reducible refine gate_callee (f:=49) rfl ?_);refine goesL_ (some 48) rfl rfl Try.func49 (by kernel_rfl) rfl #[.slice b4 b3.length b5,.int .i64 1] rfl (by (try simp only [map_toArray,map_cons,map_nil]);first|done|(rw [show b3.length=a6.length from (Kd.R_reads' a0.out).1.symm] <;> rfl)|rfl|(simp only [length_drop,length_take];rfl)) ?_;(with_reducible refine (Qj.calls b7 _ _ b3 1 c7 _ ?side1 ?side2 e3.out).mono ?_);(case side1=>repeat (first|exact (Kd.R_reads' a0.out).2.2|(with_reducible refine Kd.C_alloc ?_ _)|(with_reducible refine Kd.C_drewN ?_ _)|(with_reducible refine Kd.C_drew ?_)));(case side2=>rw [show b3.length=a6.length from (Kd.R_reads' a0.out).1.symm];exact (Kd.R_reads' a0.out).2.1);rintro e w' ⟨rfl,⟨nd,rfl⟩⟩;refine ⟨_,rfl,?_⟩)|((with_reducible refine gate_callee (f:=40) rfl ?_);refine goesL_ (some 55) rfl rfl Try.func40 (by kernel_rfl) rfl #[.slice A0 l0.length c0] rfl zzM2 ?_;(with_reducible refine (Qh.calls b7 _ _ l0 c5 _ ?side1 ?side2 h0.out).mono ?_);(case side1=>repeat (first|exact (Kd.C_below c9.out zzh1)|(with_reducible refine Kd.C_alloc ?_ _)|(with_reducible refine Kd.C_drewN ?_ _)|(with_reducible refine Kd.C_drew ?_)));(case side2=>exact d0.out);rintro e q3 ⟨g7,rfl,ho0,hb⟩;refine ⟨_,rfl,?_⟩;have a1:=zzm (Kd.R_below (by (with_reducible repeat (first|apply Kd.R_alloc|apply Kd.R_drewN|apply Kd.R_drew));exact a7.out) hb);have a2:=zzm (Kd.R_below (by (with_reducible repeat (first|apply Kd.R_alloc|apply Kd.R_drewN|apply Kd.R_drew));exact a0.out) hb);have a4:=zzm (Kd.R_lower ho0 (zzo zzh1));have a9:=zzm (zzp zzh1 hb);clear a7 a0 HB;have a7:=a1;have a0:=a2;have b1:=a4;have HB:=a9;clear a1 a2 a4 a9;(try clear hb);(try clear hb2);(try clear hk);(try clear hi);(try clear ho0);obtain ⟨l4,l5,eo47⟩:=Kd.R_slice b1.out;subst eo47)|((with_reducible refine gate_callee (f:=32) rfl ?_);refine goesL_ (some 56) rfl rfl Try.func32 (by kernel_rfl) rfl #[.slice l4 c5.length l5] rfl zzM2 ?_;(with_reducible refine (Qc.calls b7 _ _ c5 c6 _ ?side1 ?side2 h1.out).mono ?_);(case side1=>repeat (first|exact (Kd.R_reads' b1.out).2.2|(with_reducible refine Kd.C_alloc ?_ _)|(with_reducible refine Kd.C_drewN ?_ _)|(with_reducible refine Kd.C_drew ?_)));(case side2=>exact (Kd.R_reads' b1.out).2.1);rintro e q4 ⟨g8,rfl,ho0,hb⟩;refine ⟨_,rfl,?_⟩;have a1:=zzm (Kd.R_elder' (by (with_reducible repeat (first|apply Kd.R_alloc|apply Kd.R_drewN|apply Kd.R_drew));exact a7.out) (Kd.R_base ho0) hb);have a2:=zzm (Kd.R_elder' (by (with_reducible repeat (first|apply Kd.R_alloc|apply Kd.R_drewN|apply Kd.R_drew));exact a0.out) (Kd.R_base ho0) hb);have a4:=zzm (Kd.R_below (by (with_reducible repeat (first|apply Kd.R_alloc|apply Kd.R_drewN|apply Kd.R_drew));exact b1.out) hb);have a9:=zzm (Kd.R_lower (Kd.R_new' (Kd.R_new' ho0 (Kd.R_lt (by (with_reducible repeat (first|apply Kd.R_alloc|apply Kd.R_drewN|apply Kd.R_drew));exact a7.out))) (Kd.R_lt (by (with_reducible repeat (first|apply Kd.R_alloc|apply Kd.R_drewN|apply Kd.R_drew));exact a0.out))) (zzo zzh1));have b2:=zzm (zzp zzh1 hb);clear a7 a0 b1 HB;have a7:=a1;have a0:=a2;have b1:=a4;have b6:=a9;have HB:=b2;clear a1 a2 a4 a9 b2;(try clear hb);(try clear hb2);(try clear hk);(try clear hi);(try clear ho0);obtain ⟨l6,l7,eo49⟩:=Kd.R_slice b6.out;subst eo49)|((with_reducible refine gate_callee (f:=46) rfl ?_);refine goesL_ (some 59) rfl rfl Try.func46 (by kernel_rfl) rfl #[.slice l6 c6.length l7,.slice d5 b8.length d6] rfl zzM2 ?_;(with_reducible refine (Qf.calls b7 _ _ c6 _ _ b8 true _ ?side1 ?side2 ?side3 ?side4 h2.out).mono ?_);(case side1=>repeat (first|exact (Kd.R_reads' b6.out).2.2|(with_reducible refine Kd.C_alloc ?_ _)|(with_reducible refine Kd.C_drewN ?_ _)|(with_reducible refine Kd.C_drew ?_)));(case side2=>exact (Kd.R_reads' b6.out).2.1);(case side3=>repeat (first|exact (Kd.R_reads' a7.out).2.2|(with_reducible refine Kd.C_alloc ?_ _)|(with_reducible refine Kd.C_drewN ?_ _)|(with_reducible refine Kd.C_drew ?_)));(case side4=>exact (Kd.R_reads' a7.out).2.1);rintro e q5 ⟨rfl,hb⟩;refine ⟨_,rfl,?_⟩;have a1:=zzm (Kd.R_below (by (with_reducible repeat (first|apply Kd.R_alloc|apply Kd.R_drewN|apply Kd.R_drew));exact a7.out) hb);have a2:=zzm (Kd.R_below (by (with_reducible repeat (first|apply Kd.R_alloc|apply Kd.R_drewN|apply Kd.R_drew));exact a0.out) hb);have a4:=zzm (Kd.R_below (by (with_reducible repeat (first|apply Kd.R_alloc|apply Kd.R_drewN|apply Kd.R_drew));exact b1.out) hb);have a9:=zzm (Kd.R_below (by (with_reducible repeat (first|apply Kd.R_alloc|apply Kd.R_drewN|apply Kd.R_drew));exact b6.out) hb);have b2:=zzm (zzp zzh1 hb);clear a7 a0 b1 b6 HB;have a7:=a1;have a0:=a2;have b1:=a4;have b6:=a9;have HB:=b2;clear a1 a2 a4 a9 b2;(try clear hb);(try clear hb2);(try clear hk);(try clear hi))|((with_reducible refine gate_callee (f:=49) rfl ?_);refine goesL_ (some 63) rfl rfl Try.func49 (by kernel_rfl) rfl #[.slice b4 b3.length b5,.int .i64 1] rfl (by (try simp only [map_toArray,map_cons,map_nil]);first|done|(rw [show b3.length=a6.length from (Kd.R_reads' a0.out).1.symm] <;> rfl)|rfl|(simp only [length_drop,length_take];rfl)) ?_;(with_reducible refine (Qj.calls b7 _ _ b3 1 d2 _ ?side1 ?side2 j7.out).mono ?_);(case side1=>repeat (first|exact (Kd.R_reads' a0.out).2.2|(with_reducible refine Kd.C_alloc ?_ _)|(with_reducible refine Kd.C_drewN ?_ _)|(with_reducible refine Kd.C_drew ?_)));(case side2=>rw [show b3.length=a6.length from (Kd.R_reads' a0.out).1.symm];exact (Kd.R_reads' a0.out).2.1);rintro e w' ⟨rfl,⟨nd,rfl⟩⟩;refine ⟨_,rfl,?_⟩));go_ret;exact ⟨zzR,zzh1⟩
          ·
           rw [if_neg e5] at H;have k3:decide (d2 < 0)=false:=decide_eq_false e5;clear e5;by_cases g2:d2=d1
           ·
            rw [if_pos g2] at H;obtain ⟨k4,k5⟩:=zzQ g2;clear g2;obtain rfl:=Option.some.inj H;go_wp2_with (first|((with_reducible refine gate_callee (f:=48) rfl ?_);refine goesL_ (some 45) rfl rfl Try.func48 (by kernel_rfl) rfl #[.slice b4 a6.length b5,.int .i64 1] rfl zzM2 ?_;(with_reducible refine (Qn.calls b7 (fun k_=>some k_=(.slice b4 a6.length b5:Value).ownBlock) (.slice b4 a6.length b5) a6 1 d1 b3 w _ ?side1 ?side2 e2.out).mono ?_);(case side1=>repeat (first|(with_reducible first|exact HB.out|apply zza|apply zzb|apply zzc)|exact HB.out));(case side2=>exact Kd.R_tight rfl a0.out);rintro e q6 ⟨rfl,hy0,hb,hkp⟩;refine ⟨_,rfl,?_⟩;have a1:=zzm (Kd.R_mono (ok':=fun k_=>some k_≠(.slice b4 a6.length b5:Value).ownBlock) (Kd.R_keptB (a7.out) hkp (fun k_ hk_ hs_=>(hk_) hs_)) (fun k_ hk_=>hk_.1));have a2:=zzm (Kd.R_reok rfl hy0 (fun k_ e_=>a0.out.1 k_ e_));have a4:=zzm (hb);clear a7 a0 HB;have a7:=a1;have a0:=a2;have HB:=a4;clear a1 a2 a4;(try clear hb);(try clear hkp);(try clear hy0))|((with_reducible refine gate_callee (f:=49) rfl ?_);refine goesL_ (some 48) rfl rfl Try.func49 (by kernel_rfl) rfl #[.slice b4 b3.length b5,.int .i64 1] rfl (by (try simp only [map_toArray,map_cons,map_nil]);first|done|(rw [show b3.length=a6.length from (Kd.R_reads' a0.out).1.symm] <;> rfl)|rfl|(simp only [length_drop,length_take];rfl)) ?_;(with_reducible refine (Qj.calls b7 _ _ b3 1 c7 _ ?side1 ?side2 e3.out).mono ?_);(case side1=>repeat (first|exact (Kd.R_reads' a0.out).2.2|(with_reducible refine Kd.C_alloc ?_ _)|(with_reducible refine Kd.C_drewN ?_ _)|(with_reducible refine Kd.C_drew ?_)));(case side2=>rw [show b3.length=a6.length from (Kd.R_reads' a0.out).1.symm];exact (Kd.R_reads' a0.out).2.1);rintro e w' ⟨rfl,⟨nd,rfl⟩⟩;refine ⟨_,rfl,?_⟩)|((with_reducible refine gate_callee (f:=40) rfl ?_);refine goesL_ (some 55) rfl rfl Try.func40 (by kernel_rfl) rfl #[.slice A0 l0.length c0] rfl zzM2 ?_;(with_reducible refine (Qh.calls b7 _ _ l0 c5 _ ?side1 ?side2 h0.out).mono ?_);(case side1=>repeat (first|exact (Kd.C_below c9.out zzh1)|(with_reducible refine Kd.C_alloc ?_ _)|(with_reducible refine Kd.C_drewN ?_ _)|(with_reducible refine Kd.C_drew ?_)));(case side2=>exact d0.out);rintro e q7 ⟨g7,rfl,ho0,hb⟩;refine ⟨_,rfl,?_⟩;have a1:=zzm (Kd.R_below (by (with_reducible repeat (first|apply Kd.R_alloc|apply Kd.R_drewN|apply Kd.R_drew));exact a7.out) hb);have a2:=zzm (Kd.R_below (by (with_reducible repeat (first|apply Kd.R_alloc|apply Kd.R_drewN|apply Kd.R_drew));exact a0.out) hb);have a4:=zzm (Kd.R_lower ho0 (zzo zzh1));have a9:=zzm (zzp zzh1 hb);clear a7 a0 HB;have a7:=a1;have a0:=a2;have b1:=a4;have HB:=a9;clear a1 a2 a4 a9;(try clear hb);(try clear hb2);(try clear hk);(try clear hi);(try clear ho0);obtain ⟨l8,l9,eo54⟩:=Kd.R_slice b1.out;subst eo54)|((with_reducible refine gate_callee (f:=32) rfl ?_);refine goesL_ (some 56) rfl rfl Try.func32 (by kernel_rfl) rfl #[.slice l8 c5.length l9] rfl zzM2 ?_;(with_reducible refine (Qc.calls b7 _ _ c5 c6 _ ?side1 ?side2 h1.out).mono ?_);(case side1=>repeat (first|exact (Kd.R_reads' b1.out).2.2|(with_reducible refine Kd.C_alloc ?_ _)|(with_reducible refine Kd.C_drewN ?_ _)|(with_reducible refine Kd.C_drew ?_)));(case side2=>exact (Kd.R_reads' b1.out).2.1);rintro e q8 ⟨g8,rfl,ho0,hb⟩;refine ⟨_,rfl,?_⟩;have a1:=zzm (Kd.R_elder' (by (with_reducible repeat (first|apply Kd.R_alloc|apply Kd.R_drewN|apply Kd.R_drew));exact a7.out) (Kd.R_base ho0) hb);have a2:=zzm (Kd.R_elder' (by (with_reducible repeat (first|apply Kd.R_alloc|apply Kd.R_drewN|apply Kd.R_drew));exact a0.out) (Kd.R_base ho0) hb);have a4:=zzm (Kd.R_below (by (with_reducible repeat (first|apply Kd.R_alloc|apply Kd.R_drewN|apply Kd.R_drew));exact b1.out) hb);have a9:=zzm (Kd.R_lower (Kd.R_new' (Kd.R_new' ho0 (Kd.R_lt (by (with_reducible repeat (first|apply Kd.R_alloc|apply Kd.R_drewN|apply Kd.R_drew));exact a7.out))) (Kd.R_lt (by (with_reducible repeat (first|apply Kd.R_alloc|apply Kd.R_drewN|apply Kd.R_drew));exact a0.out))) (zzo zzh1));have b2:=zzm (zzp zzh1 hb);clear a7 a0 b1 HB;have a7:=a1;have a0:=a2;have b1:=a4;have b6:=a9;have HB:=b2;clear a1 a2 a4 a9 b2;(try clear hb);(try clear hb2);(try clear hk);(try clear hi);(try clear ho0);obtain ⟨m0,m1,eo56⟩:=Kd.R_slice b6.out;subst eo56)|((with_reducible refine gate_callee (f:=46) rfl ?_);refine goesL_ (some 59) rfl rfl Try.func46 (by kernel_rfl) rfl #[.slice m0 c6.length m1,.slice d5 b8.length d6] rfl zzM2 ?_;(with_reducible refine (Qf.calls b7 _ _ c6 _ _ b8 true _ ?side1 ?side2 ?side3 ?side4 h2.out).mono ?_);(case side1=>repeat (first|exact (Kd.R_reads' b6.out).2.2|(with_reducible refine Kd.C_alloc ?_ _)|(with_reducible refine Kd.C_drewN ?_ _)|(with_reducible refine Kd.C_drew ?_)));(case side2=>exact (Kd.R_reads' b6.out).2.1);(case side3=>repeat (first|exact (Kd.R_reads' a7.out).2.2|(with_reducible refine Kd.C_alloc ?_ _)|(with_reducible refine Kd.C_drewN ?_ _)|(with_reducible refine Kd.C_drew ?_)));(case side4=>exact (Kd.R_reads' a7.out).2.1);rintro e q9 ⟨rfl,hb⟩;refine ⟨_,rfl,?_⟩;have a1:=zzm (Kd.R_below (by (with_reducible repeat (first|apply Kd.R_alloc|apply Kd.R_drewN|apply Kd.R_drew));exact a7.out) hb);have a2:=zzm (Kd.R_below (by (with_reducible repeat (first|apply Kd.R_alloc|apply Kd.R_drewN|apply Kd.R_drew));exact a0.out) hb);have a4:=zzm (Kd.R_below (by (with_reducible repeat (first|apply Kd.R_alloc|apply Kd.R_drewN|apply Kd.R_drew));exact b1.out) hb);have a9:=zzm (Kd.R_below (by (with_reducible repeat (first|apply Kd.R_alloc|apply Kd.R_drewN|apply Kd.R_drew));exact b6.out) hb);have b2:=zzm (zzp zzh1 hb);clear a7 a0 b1 b6 HB;have a7:=a1;have a0:=a2;have b1:=a4;have b6:=a9;have HB:=b2;clear a1 a2 a4 a9 b2;(try clear hb);(try clear hb2);(try clear hk);(try clear hi))|((with_reducible refine gate_callee (f:=49) rfl ?_);refine goesL_ (some 63) rfl rfl Try.func49 (by kernel_rfl) rfl #[.slice b4 b3.length b5,.int .i64 1] rfl (by (try simp only [map_toArray,map_cons,map_nil]);first|done|(rw [show b3.length=a6.length from (Kd.R_reads' a0.out).1.symm] <;> rfl)|rfl|(simp only [length_drop,length_take];rfl)) ?_;(with_reducible refine (Qj.calls b7 _ _ b3 1 d2 _ ?side1 ?side2 j7.out).mono ?_);(case side1=>repeat (first|exact (Kd.R_reads' a0.out).2.2|(with_reducible refine Kd.C_alloc ?_ _)|(with_reducible refine Kd.C_drewN ?_ _)|(with_reducible refine Kd.C_drew ?_)));(case side2=>rw [show b3.length=a6.length from (Kd.R_reads' a0.out).1.symm];exact (Kd.R_reads' a0.out).2.1);rintro e w' ⟨rfl,⟨nd,rfl⟩⟩;refine ⟨_,rfl,?_⟩));go_ret;exact ⟨zzR,zzh1⟩
           ·
            rw [if_neg g2] at H;obtain ⟨k4,k5⟩:=zzY g2;obtain rfl:=Option.some.inj H;go_wp2_with (first|((with_reducible refine gate_callee (f:=48) rfl ?_);refine goesL_ (some 45) rfl rfl Try.func48 (by kernel_rfl) rfl #[.slice b4 a6.length b5,.int .i64 1] rfl zzM2 ?_;(with_reducible refine (Qn.calls b7 (fun k_=>some k_=(.slice b4 a6.length b5:Value).ownBlock) (.slice b4 a6.length b5) a6 1 d1 b3 w _ ?side1 ?side2 e2.out).mono ?_);(case side1=>repeat (first|(with_reducible first|exact HB.out|apply zza|apply zzb|apply zzc)|exact HB.out));(case side2=>exact Kd.R_tight rfl a0.out);rintro e r0 ⟨rfl,hy0,hb,hkp⟩;refine ⟨_,rfl,?_⟩;have a1:=zzm (Kd.R_mono (ok':=fun k_=>some k_≠(.slice b4 a6.length b5:Value).ownBlock) (Kd.R_keptB (a7.out) hkp (fun k_ hk_ hs_=>(hk_) hs_)) (fun k_ hk_=>hk_.1));have a2:=zzm (Kd.R_reok rfl hy0 (fun k_ e_=>a0.out.1 k_ e_));have a4:=zzm (hb);clear a7 a0 HB;have a7:=a1;have a0:=a2;have HB:=a4;clear a1 a2 a4;(try clear hb);(try clear hkp);(try clear hy0))|((with_reducible refine gate_callee (f:=49) rfl ?_);refine goesL_ (some 48) rfl rfl Try.func49 (by kernel_rfl) rfl #[.slice b4 b3.length b5,.int .i64 1] rfl (by (try simp only [map_toArray,map_cons,map_nil]);first|done|(rw [show b3.length=a6.length from (Kd.R_reads' a0.out).1.symm] <;> rfl)|rfl|(simp only [length_drop,length_take];rfl)) ?_;(with_reducible refine (Qj.calls b7 _ _ b3 1 c7 _ ?side1 ?side2 e3.out).mono ?_);(case side1=>repeat (first|exact (Kd.R_reads' a0.out).2.2|(with_reducible refine Kd.C_alloc ?_ _)|(with_reducible refine Kd.C_drewN ?_ _)|(with_reducible refine Kd.C_drew ?_)));(case side2=>rw [show b3.length=a6.length from (Kd.R_reads' a0.out).1.symm];exact (Kd.R_reads' a0.out).2.1);rintro e w' ⟨rfl,⟨nd,rfl⟩⟩;refine ⟨_,rfl,?_⟩)|((with_reducible refine gate_callee (f:=40) rfl ?_);refine goesL_ (some 55) rfl rfl Try.func40 (by kernel_rfl) rfl #[.slice A0 l0.length c0] rfl zzM2 ?_;(with_reducible refine (Qh.calls b7 _ _ l0 c5 _ ?side1 ?side2 h0.out).mono ?_);(case side1=>repeat (first|exact (Kd.C_below c9.out zzh1)|(with_reducible refine Kd.C_alloc ?_ _)|(with_reducible refine Kd.C_drewN ?_ _)|(with_reducible refine Kd.C_drew ?_)));(case side2=>exact d0.out);rintro e r1 ⟨g7,rfl,ho0,hb⟩;refine ⟨_,rfl,?_⟩;have a1:=zzm (Kd.R_below (by (with_reducible repeat (first|apply Kd.R_alloc|apply Kd.R_drewN|apply Kd.R_drew));exact a7.out) hb);have a2:=zzm (Kd.R_below (by (with_reducible repeat (first|apply Kd.R_alloc|apply Kd.R_drewN|apply Kd.R_drew));exact a0.out) hb);have a4:=zzm (Kd.R_lower ho0 (zzo zzh1));have a9:=zzm (zzp zzh1 hb);clear a7 a0 HB;have a7:=a1;have a0:=a2;have b1:=a4;have HB:=a9;clear a1 a2 a4 a9;(try clear hb);(try clear hb2);(try clear hk);(try clear hi);(try clear ho0);obtain ⟨m2,m3,eo60⟩:=Kd.R_slice b1.out;subst eo60)|((with_reducible refine gate_callee (f:=32) rfl ?_);refine goesL_ (some 56) rfl rfl Try.func32 (by kernel_rfl) rfl #[.slice m2 c5.length m3] rfl zzM2 ?_;(with_reducible refine (Qc.calls b7 _ _ c5 c6 _ ?side1 ?side2 h1.out).mono ?_);(case side1=>repeat (first|exact (Kd.R_reads' b1.out).2.2|(with_reducible refine Kd.C_alloc ?_ _)|(with_reducible refine Kd.C_drewN ?_ _)|(with_reducible refine Kd.C_drew ?_)));(case side2=>exact (Kd.R_reads' b1.out).2.1);rintro e r2 ⟨g8,rfl,ho0,hb⟩;refine ⟨_,rfl,?_⟩;have a1:=zzm (Kd.R_elder' (by (with_reducible repeat (first|apply Kd.R_alloc|apply Kd.R_drewN|apply Kd.R_drew));exact a7.out) (Kd.R_base ho0) hb);have a2:=zzm (Kd.R_elder' (by (with_reducible repeat (first|apply Kd.R_alloc|apply Kd.R_drewN|apply Kd.R_drew));exact a0.out) (Kd.R_base ho0) hb);have a4:=zzm (Kd.R_below (by (with_reducible repeat (first|apply Kd.R_alloc|apply Kd.R_drewN|apply Kd.R_drew));exact b1.out) hb);have a9:=zzm (Kd.R_lower (Kd.R_new' (Kd.R_new' ho0 (Kd.R_lt (by (with_reducible repeat (first|apply Kd.R_alloc|apply Kd.R_drewN|apply Kd.R_drew));exact a7.out))) (Kd.R_lt (by (with_reducible repeat (first|apply Kd.R_alloc|apply Kd.R_drewN|apply Kd.R_drew));exact a0.out))) (zzo zzh1));have b2:=zzm (zzp zzh1 hb);clear a7 a0 b1 HB;have a7:=a1;have a0:=a2;have b1:=a4;have b6:=a9;have HB:=b2;clear a1 a2 a4 a9 b2;(try clear hb);(try clear hb2);(try clear hk);(try clear hi);(try clear ho0);obtain ⟨m4,m5,eo62⟩:=Kd.R_slice b6.out;subst eo62)|((with_reducible refine gate_callee (f:=46) rfl ?_);refine goesL_ (some 59) rfl rfl Try.func46 (by kernel_rfl) rfl #[.slice m4 c6.length m5,.slice d5 b8.length d6] rfl zzM2 ?_;(with_reducible refine (Qf.calls b7 _ _ c6 _ _ b8 true _ ?side1 ?side2 ?side3 ?side4 h2.out).mono ?_);(case side1=>repeat (first|exact (Kd.R_reads' b6.out).2.2|(with_reducible refine Kd.C_alloc ?_ _)|(with_reducible refine Kd.C_drewN ?_ _)|(with_reducible refine Kd.C_drew ?_)));(case side2=>exact (Kd.R_reads' b6.out).2.1);(case side3=>repeat (first|exact (Kd.R_reads' a7.out).2.2|(with_reducible refine Kd.C_alloc ?_ _)|(with_reducible refine Kd.C_drewN ?_ _)|(with_reducible refine Kd.C_drew ?_)));(case side4=>exact (Kd.R_reads' a7.out).2.1);rintro e r3 ⟨rfl,hb⟩;refine ⟨_,rfl,?_⟩;have a1:=zzm (Kd.R_below (by (with_reducible repeat (first|apply Kd.R_alloc|apply Kd.R_drewN|apply Kd.R_drew));exact a7.out) hb);have a2:=zzm (Kd.R_below (by (with_reducible repeat (first|apply Kd.R_alloc|apply Kd.R_drewN|apply Kd.R_drew));exact a0.out) hb);have a4:=zzm (Kd.R_below (by (with_reducible repeat (first|apply Kd.R_alloc|apply Kd.R_drewN|apply Kd.R_drew));exact b1.out) hb);have a9:=zzm (Kd.R_below (by (with_reducible repeat (first|apply Kd.R_alloc|apply Kd.R_drewN|apply Kd.R_drew));exact b6.out) hb);have b2:=zzm (zzp zzh1 hb);clear a7 a0 b1 b6 HB;have a7:=a1;have a0:=a2;have b1:=a4;have b6:=a9;have HB:=b2;clear a1 a2 a4 a9 b2;(try clear hb);(try clear hb2);(try clear hk);(try clear hi))|((with_reducible refine gate_callee (f:=49) rfl ?_);refine goesL_ (some 63) rfl rfl Try.func49 (by kernel_rfl) rfl #[.slice b4 b3.length b5,.int .i64 1] rfl (by (try simp only [map_toArray,map_cons,map_nil]);first|done|(rw [show b3.length=a6.length from (Kd.R_reads' a0.out).1.symm] <;> rfl)|rfl|(simp only [length_drop,length_take];rfl)) ?_;(with_reducible refine (Qj.calls b7 _ _ b3 1 d2 _ ?side1 ?side2 j7.out).mono ?_);(case side1=>repeat (first|exact (Kd.R_reads' a0.out).2.2|(with_reducible refine Kd.C_alloc ?_ _)|(with_reducible refine Kd.C_drewN ?_ _)|(with_reducible refine Kd.C_drew ?_)));(case side2=>rw [show b3.length=a6.length from (Kd.R_reads' a0.out).1.symm];exact (Kd.R_reads' a0.out).2.1);rintro e w' ⟨rfl,⟨nd,rfl⟩⟩;refine ⟨_,rfl,?_⟩));go_ret;exact ⟨zzR,zzh1⟩
         ·
          replace h3:=Bool.eq_false_iff.mpr h3;subst h3;replace H:=zzIf H;obtain rfl:=Option.some.inj H;go_wp2_with (first|((with_reducible refine gate_callee (f:=48) rfl ?_);refine goesL_ (some 45) rfl rfl Try.func48 (by kernel_rfl) rfl #[.slice b4 a6.length b5,.int .i64 1] rfl zzM2 ?_;(with_reducible refine (Qn.calls b7 (fun k_=>some k_=(.slice b4 a6.length b5:Value).ownBlock) (.slice b4 a6.length b5) a6 1 d1 b3 w _ ?side1 ?side2 e2.out).mono ?_);(case side1=>repeat (first|(with_reducible first|exact HB.out|apply zza|apply zzb|apply zzc)|exact HB.out));(case side2=>exact Kd.R_tight rfl a0.out);rintro e r4 ⟨rfl,hy0,hb,hkp⟩;refine ⟨_,rfl,?_⟩;have a1:=zzm (Kd.R_mono (ok':=fun k_=>some k_≠(.slice b4 a6.length b5:Value).ownBlock) (Kd.R_keptB (a7.out) hkp (fun k_ hk_ hs_=>(hk_) hs_)) (fun k_ hk_=>hk_.1));have a2:=zzm (Kd.R_reok rfl hy0 (fun k_ e_=>a0.out.1 k_ e_));have a4:=zzm (hb);clear a7 a0 HB;have a7:=a1;have a0:=a2;have HB:=a4;clear a1 a2 a4;(try clear hb);(try clear hkp);(try clear hy0))|((with_reducible refine gate_callee (f:=49) rfl ?_);refine goesL_ (some 48) rfl rfl Try.func49 (by kernel_rfl) rfl #[.slice b4 b3.length b5,.int .i64 1] rfl (by (try simp only [map_toArray,map_cons,map_nil]);first|done|(rw [show b3.length=a6.length from (Kd.R_reads' a0.out).1.symm] <;> rfl)|rfl|(simp only [length_drop,length_take];rfl)) ?_;(with_reducible refine (Qj.calls b7 _ _ b3 1 c7 _ ?side1 ?side2 e3.out).mono ?_);(case side1=>repeat (first|exact (Kd.R_reads' a0.out).2.2|(with_reducible refine Kd.C_alloc ?_ _)|(with_reducible refine Kd.C_drewN ?_ _)|(with_reducible refine Kd.C_drew ?_)));(case side2=>rw [show b3.length=a6.length from (Kd.R_reads' a0.out).1.symm];exact (Kd.R_reads' a0.out).2.1);rintro e w' ⟨rfl,⟨nd,rfl⟩⟩;refine ⟨_,rfl,?_⟩)|((with_reducible refine gate_callee (f:=40) rfl ?_);refine goesL_ (some 55) rfl rfl Try.func40 (by kernel_rfl) rfl #[.slice A0 l0.length c0] rfl zzM2 ?_;(with_reducible refine (Qh.calls b7 _ _ l0 c5 _ ?side1 ?side2 h0.out).mono ?_);(case side1=>repeat (first|exact (Kd.C_below c9.out zzh1)|(with_reducible refine Kd.C_alloc ?_ _)|(with_reducible refine Kd.C_drewN ?_ _)|(with_reducible refine Kd.C_drew ?_)));(case side2=>exact d0.out);rintro e r5 ⟨g7,rfl,ho0,hb⟩;refine ⟨_,rfl,?_⟩;have a1:=zzm (Kd.R_below (by (with_reducible repeat (first|apply Kd.R_alloc|apply Kd.R_drewN|apply Kd.R_drew));exact a7.out) hb);have a2:=zzm (Kd.R_below (by (with_reducible repeat (first|apply Kd.R_alloc|apply Kd.R_drewN|apply Kd.R_drew));exact a0.out) hb);have a4:=zzm (Kd.R_lower ho0 (zzo zzh1));have a9:=zzm (zzp zzh1 hb);clear a7 a0 HB;have a7:=a1;have a0:=a2;have b1:=a4;have HB:=a9;clear a1 a2 a4 a9;(try clear hb);(try clear hb2);(try clear hk);(try clear hi);(try clear ho0);obtain ⟨m6,m7,eo66⟩:=Kd.R_slice b1.out;subst eo66)|((with_reducible refine gate_callee (f:=32) rfl ?_);refine goesL_ (some 56) rfl rfl Try.func32 (by kernel_rfl) rfl #[.slice m6 c5.length m7] rfl zzM2 ?_;(with_reducible refine (Qc.calls b7 _ _ c5 c6 _ ?side1 ?side2 h1.out).mono ?_);(case side1=>repeat (first|exact (Kd.R_reads' b1.out).2.2|(with_reducible refine Kd.C_alloc ?_ _)|(with_reducible refine Kd.C_drewN ?_ _)|(with_reducible refine Kd.C_drew ?_)));(case side2=>exact (Kd.R_reads' b1.out).2.1);rintro e r6 ⟨g8,rfl,ho0,hb⟩;refine ⟨_,rfl,?_⟩;have a1:=zzm (Kd.R_elder' (by (with_reducible repeat (first|apply Kd.R_alloc|apply Kd.R_drewN|apply Kd.R_drew));exact a7.out) (Kd.R_base ho0) hb);have a2:=zzm (Kd.R_elder' (by (with_reducible repeat (first|apply Kd.R_alloc|apply Kd.R_drewN|apply Kd.R_drew));exact a0.out) (Kd.R_base ho0) hb);have a4:=zzm (Kd.R_below (by (with_reducible repeat (first|apply Kd.R_alloc|apply Kd.R_drewN|apply Kd.R_drew));exact b1.out) hb);have a9:=zzm (Kd.R_lower (Kd.R_new' (Kd.R_new' ho0 (Kd.R_lt (by (with_reducible repeat (first|apply Kd.R_alloc|apply Kd.R_drewN|apply Kd.R_drew));exact a7.out))) (Kd.R_lt (by (with_reducible repeat (first|apply Kd.R_alloc|apply Kd.R_drewN|apply Kd.R_drew));exact a0.out))) (zzo zzh1));have b2:=zzm (zzp zzh1 hb);clear a7 a0 b1 HB;have a7:=a1;have a0:=a2;have b1:=a4;have b6:=a9;have HB:=b2;clear a1 a2 a4 a9 b2;(try clear hb);(try clear hb2);(try clear hk);(try clear hi);(try clear ho0);obtain ⟨m8,m9,eo68⟩:=Kd.R_slice b6.out;subst eo68)|((with_reducible refine gate_callee (f:=46) rfl ?_);refine goesL_ (some 59) rfl rfl Try.func46 (by kernel_rfl) rfl #[.slice m8 c6.length m9,.slice d5 b8.length d6] rfl zzM2 ?_;(with_reducible refine (Qf.calls b7 _ _ c6 _ _ b8 false _ ?side1 ?side2 ?side3 ?side4 h2.out).mono ?_);(case side1=>repeat (first|exact (Kd.R_reads' b6.out).2.2|(with_reducible refine Kd.C_alloc ?_ _)|(with_reducible refine Kd.C_drewN ?_ _)|(with_reducible refine Kd.C_drew ?_)));(case side2=>exact (Kd.R_reads' b6.out).2.1);(case side3=>repeat (first|exact (Kd.R_reads' a7.out).2.2|(with_reducible refine Kd.C_alloc ?_ _)|(with_reducible refine Kd.C_drewN ?_ _)|(with_reducible refine Kd.C_drew ?_)));(case side4=>exact (Kd.R_reads' a7.out).2.1);rintro e r7 ⟨rfl,hb⟩;refine ⟨_,rfl,?_⟩;have a1:=zzm (Kd.R_below (by (with_reducible repeat (first|apply Kd.R_alloc|apply Kd.R_drewN|apply Kd.R_drew));exact a7.out) hb);have a2:=zzm (Kd.R_below (by (with_reducible repeat (first|apply Kd.R_alloc|apply Kd.R_drewN|apply Kd.R_drew));exact a0.out) hb);have a4:=zzm (Kd.R_below (by (with_reducible repeat (first|apply Kd.R_alloc|apply Kd.R_drewN|apply Kd.R_drew));exact b1.out) hb);have a9:=zzm (Kd.R_below (by (with_reducible repeat (first|apply Kd.R_alloc|apply Kd.R_drewN|apply Kd.R_drew));exact b6.out) hb);have b2:=zzm (zzp zzh1 hb);clear a7 a0 b1 b6 HB;have a7:=a1;have a0:=a2;have b1:=a4;have b6:=a9;have HB:=b2;clear a1 a2 a4 a9 b2;(try clear hb);(try clear hb2);(try clear hk);(try clear hi)));go_ret;exact ⟨zzR,zzh1⟩
        ·
         rw [if_neg g1] at H;obtain ⟨k1,k2⟩:=zzY g1;obtain rfl:=Option.some.inj H;go_wp2_with (first|((with_reducible refine gate_callee (f:=48) rfl ?_);refine goesL_ (some 45) rfl rfl Try.func48 (by kernel_rfl) rfl #[.slice b4 a6.length b5,.int .i64 1] rfl zzM2 ?_;(with_reducible refine (Qn.calls b7 (fun k_=>some k_=(.slice b4 a6.length b5:Value).ownBlock) (.slice b4 a6.length b5) a6 1 d1 b3 w _ ?side1 ?side2 e2.out).mono ?_);(case side1=>repeat (first|(with_reducible first|exact HB.out|apply zza|apply zzb|apply zzc)|exact HB.out));(case side2=>exact Kd.R_tight rfl a0.out);rintro e r8 ⟨rfl,hy0,hb,hkp⟩;refine ⟨_,rfl,?_⟩;have a1:=zzm (Kd.R_mono (ok':=fun k_=>some k_≠(.slice b4 a6.length b5:Value).ownBlock) (Kd.R_keptB (a7.out) hkp (fun k_ hk_ hs_=>(hk_) hs_)) (fun k_ hk_=>hk_.1));have a2:=zzm (Kd.R_reok rfl hy0 (fun k_ e_=>a0.out.1 k_ e_));have a4:=zzm (hb);clear a7 a0 HB;have a7:=a1;have a0:=a2;have HB:=a4;clear a1 a2 a4;(try clear hb);(try clear hkp);(try clear hy0))|((with_reducible refine gate_callee (f:=49) rfl ?_);refine goesL_ (some 48) rfl rfl Try.func49 (by kernel_rfl) rfl #[.slice b4 b3.length b5,.int .i64 1] rfl (by (try simp only [map_toArray,map_cons,map_nil]);first|done|(rw [show b3.length=a6.length from (Kd.R_reads' a0.out).1.symm] <;> rfl)|rfl|(simp only [length_drop,length_take];rfl)) ?_;(with_reducible refine (Qj.calls b7 _ _ b3 1 c7 _ ?side1 ?side2 e3.out).mono ?_);(case side1=>repeat (first|exact (Kd.R_reads' a0.out).2.2|(with_reducible refine Kd.C_alloc ?_ _)|(with_reducible refine Kd.C_drewN ?_ _)|(with_reducible refine Kd.C_drew ?_)));(case side2=>rw [show b3.length=a6.length from (Kd.R_reads' a0.out).1.symm];exact (Kd.R_reads' a0.out).2.1);rintro e w' ⟨rfl,⟨nd,rfl⟩⟩;refine ⟨_,rfl,?_⟩));go_ret;exact ⟨zzR,zzh1⟩
   ·
    replace g0:=Bool.eq_false_iff.mpr g0;subst g0;replace H:=zzIf H;obtain rfl:=Option.some.inj H;go_enter Try.func16,Try.ntmps16;go_wp2_with (first|((with_reducible refine gate_callee (f:=39) rfl ?_);refine goesL_ (some 13) rfl rfl Try.func39 (by kernel_rfl) rfl #[.slice A0 l0.length c0,.int .i64 1048576] rfl zzM2 ?_;(with_reducible refine (Qu.calls k _ _ l0 1048576 d3 _ ?side1 ?side2 A2.out).mono ?_);(case side1=>repeat (first|exact c9.out|(with_reducible refine Kd.C_alloc ?_ _)|(with_reducible refine Kd.C_drewN ?_ _)|(with_reducible refine Kd.C_drew ?_)));(case side2=>exact d0.out);rintro e r9 ⟨rfl,hb⟩;refine ⟨_,rfl,?_⟩;have a1:=zzm (zzp zzh1 hb);clear HB;have HB:=a1;clear a1;(try clear hb);(try clear hb2);(try clear hk);(try clear hi))|((with_reducible refine gate_callee (f:=40) rfl ?_);refine goesL_ (some 17) rfl rfl Try.func40 (by kernel_rfl) rfl #[.slice A0 l0.length c0] rfl zzM2 ?_;(with_reducible refine (Qh.calls k _ _ l0 c8 _ ?side1 ?side2 A5.out).mono ?_);(case side1=>exact zzcb c9 HB);(case side2=>exact d0.out);rintro e s0 ⟨h5,rfl,ho0,hb⟩;refine ⟨_,rfl,?_⟩;have a1:=zzm (Kd.R_lower ho0 (zzo zzh1));have a2:=zzm (zzp zzh1 hb);clear HB;have a3:=a1;have HB:=a2;clear a1 a2;(try clear hb);(try clear hb2);(try clear hk);(try clear hi);(try clear ho0);obtain ⟨n0,n1,eo73⟩:=Kd.R_slice a3.out;subst eo73)|((with_reducible refine gate_callee (f:=33) rfl ?_);refine goesL_ (some 18) rfl rfl Try.func33 (by kernel_rfl) rfl #[.slice n0 c8.length n1] rfl zzM2 ?_;(with_reducible refine (Qe.calls k _ _ c8 b8 _ ?side1 ?side2 A6.out).mono ?_);(case side1=>repeat (first|exact (Kd.R_reads' a3.out).2.2|(with_reducible refine Kd.C_alloc ?_ _)|(with_reducible refine Kd.C_drewN ?_ _)|(with_reducible refine Kd.C_drew ?_)));(case side2=>exact (Kd.R_reads' a3.out).2.1);rintro e s1 ⟨h8,rfl,ho0,hb⟩;refine ⟨_,rfl,?_⟩;have a1:=zzm (Kd.R_below (by (with_reducible repeat (first|apply Kd.R_alloc|apply Kd.R_drewN|apply Kd.R_drew));exact a3.out) hb);have a2:=zzm (Kd.R_lower ho0 (zzo zzh1));have a4:=zzm (zzp zzh1 hb);clear a3 HB;have a3:=a1;have a5:=a2;have HB:=a4;clear a1 a2 a4;(try clear hb);(try clear hb2);(try clear hk);(try clear hi);(try clear ho0))|((with_reducible refine gate_callee (f:=40) rfl ?_);refine goesL_ (some 20) rfl rfl Try.func40 (by kernel_rfl) rfl #[.slice A0 l0.length c0] rfl zzM2 ?_;(with_reducible refine (Qh.calls k _ _ l0 c2 _ ?side1 ?side2 A7.out).mono ?_);(case side1=>exact zzcb c9 HB);(case side2=>exact d0.out);rintro e s2 ⟨h9,rfl,ho0,hb⟩;refine ⟨_,rfl,?_⟩;have a1:=zzm (Kd.R_elder' (by (with_reducible repeat (first|apply Kd.R_alloc|apply Kd.R_drewN|apply Kd.R_drew));exact a3.out) (Kd.R_base ho0) hb);have a2:=zzm (Kd.R_below (by (with_reducible repeat (first|apply Kd.R_alloc|apply Kd.R_drewN|apply Kd.R_drew));exact a5.out) hb);have a4:=zzm (Kd.R_lower (Kd.R_new' ho0 (Kd.R_lt (by (with_reducible repeat (first|apply Kd.R_alloc|apply Kd.R_drewN|apply Kd.R_drew));exact a3.out))) (zzo zzh1));have a9:=zzm (zzp zzh1 hb);clear a3 a5 HB;have a3:=a1;have a5:=a2;have a8:=a4;have HB:=a9;clear a1 a2 a4 a9;(try clear hb);(try clear hb2);(try clear hk);(try clear hi);(try clear ho0);obtain ⟨j8,j9,eo76⟩:=Kd.R_slice a8.out;subst eo76)|((with_reducible refine gate_callee (f:=32) rfl ?_);refine goesL_ (some 22) rfl rfl Try.func32 (by kernel_rfl) rfl #[.slice j8 c2.length j9] rfl zzM2 ?_;(with_reducible refine (Qc.calls k _ _ c2 a6 _ ?side1 ?side2 A8.out).mono ?_);(case side1=>repeat (first|exact (Kd.R_reads' a8.out).2.2|(with_reducible refine Kd.C_alloc ?_ _)|(with_reducible refine Kd.C_drewN ?_ _)|(with_reducible refine Kd.C_drew ?_)));(case side2=>exact (Kd.R_reads' a8.out).2.1);rintro e s3 ⟨j3,rfl,ho0,hb⟩;refine ⟨_,rfl,?_⟩;have a1:=zzm (Kd.R_below (by (with_reducible repeat (first|apply Kd.R_alloc|apply Kd.R_drewN|apply Kd.R_drew));exact a3.out) hb);have a2:=zzm (Kd.R_elder' (by (with_reducible repeat (first|apply Kd.R_alloc|apply Kd.R_drewN|apply Kd.R_drew));exact a5.out) (Kd.R_base ho0) hb);have a4:=zzm (Kd.R_below (by (with_reducible repeat (first|apply Kd.R_alloc|apply Kd.R_drewN|apply Kd.R_drew));exact a8.out) hb);have a9:=zzm (Kd.R_lower (Kd.R_new' ho0 (Kd.R_lt (by (with_reducible repeat (first|apply Kd.R_alloc|apply Kd.R_drewN|apply Kd.R_drew));exact a5.out))) (zzo zzh1));have b2:=zzm (zzp zzh1 hb);clear a3 a5 a8 HB;have a3:=a1;have a5:=a2;have a8:=a4;have b0:=a9;have HB:=b2;clear a1 a2 a4 a9 b2;(try clear hb);(try clear hb2);(try clear hk);(try clear hi);(try clear ho0);obtain ⟨n2,n3,eo78⟩:=Kd.R_slice b0.out;subst eo78;obtain ⟨n4,n5,eo79⟩:=Kd.R_slice a5.out;subst eo79)|((with_reducible refine gate_callee (f:=46) rfl ?_);refine goesL_ (some 25) rfl rfl Try.func46 (by kernel_rfl) rfl #[.slice n2 a6.length n3,.slice n4 b8.length n5] rfl zzM2 ?_;(with_reducible refine (Qf.calls k _ _ a6 _ _ b8 true _ ?side1 ?side2 ?side3 ?side4 A9.out).mono ?_);(case side1=>repeat (first|exact (Kd.R_reads' b0.out).2.2|(with_reducible refine Kd.C_alloc ?_ _)|(with_reducible refine Kd.C_drewN ?_ _)|(with_reducible refine Kd.C_drew ?_)));(case side2=>exact (Kd.R_reads' b0.out).2.1);(case side3=>repeat (first|exact (Kd.R_reads' a5.out).2.2|(with_reducible refine Kd.C_alloc ?_ _)|(with_reducible refine Kd.C_drewN ?_ _)|(with_reducible refine Kd.C_drew ?_)));(case side4=>exact (Kd.R_reads' a5.out).2.1);rintro e s4 ⟨rfl,hb⟩;refine ⟨_,rfl,?_⟩;have a1:=zzm (Kd.R_below (by (with_reducible repeat (first|apply Kd.R_alloc|apply Kd.R_drewN|apply Kd.R_drew));exact a3.out) hb);have a2:=zzm (Kd.R_below (by (with_reducible repeat (first|apply Kd.R_alloc|apply Kd.R_drewN|apply Kd.R_drew));exact a5.out) hb);have a4:=zzm (Kd.R_below (by (with_reducible repeat (first|apply Kd.R_alloc|apply Kd.R_drewN|apply Kd.R_drew));exact a8.out) hb);have a9:=zzm (Kd.R_below (by (with_reducible repeat (first|apply Kd.R_alloc|apply Kd.R_drewN|apply Kd.R_drew));exact b0.out) hb);have b2:=zzm (zzp zzh1 hb);clear a3 a5 a8 b0 HB;have a3:=a1;have a5:=a2;have a8:=a4;have b0:=a9;have HB:=b2;clear a1 a2 a4 a9 b2;(try clear hb);(try clear hb2);(try clear hk);(try clear hi))|((with_reducible refine gate_callee (f:=40) rfl ?_);refine goesL_ (some 29) rfl rfl Try.func40 (by kernel_rfl) rfl #[.slice A0 l0.length c0] rfl zzM2 ?_;(with_reducible refine (Qh.calls k _ _ l0 d4 _ ?side1 ?side2 k8.out).mono ?_);(case side1=>exact zzcb c9 HB);(case side2=>exact d0.out);rintro e s5 ⟨l3,rfl,ho0,hb⟩;refine ⟨_,rfl,?_⟩;have a1:=zzm (Kd.R_elder' (by (with_reducible repeat (first|apply Kd.R_alloc|apply Kd.R_drewN|apply Kd.R_drew));exact a3.out) (Kd.R_base ho0) hb);have a2:=zzm (Kd.R_below (by (with_reducible repeat (first|apply Kd.R_alloc|apply Kd.R_drewN|apply Kd.R_drew));exact a5.out) hb);have a4:=zzm (Kd.R_elder' (by (with_reducible repeat (first|apply Kd.R_alloc|apply Kd.R_drewN|apply Kd.R_drew));exact a8.out) (Kd.R_base ho0) hb);have a9:=zzm (Kd.R_below (by (with_reducible repeat (first|apply Kd.R_alloc|apply Kd.R_drewN|apply Kd.R_drew));exact b0.out) hb);have b2:=zzm (Kd.R_lower (Kd.R_new' (Kd.R_new' ho0 (Kd.R_lt (by (with_reducible repeat (first|apply Kd.R_alloc|apply Kd.R_drewN|apply Kd.R_drew));exact a3.out))) (Kd.R_lt (by (with_reducible repeat (first|apply Kd.R_alloc|apply Kd.R_drewN|apply Kd.R_drew));exact a8.out))) (zzo zzh1));have d7:=zzm (zzp zzh1 hb);clear a3 a5 a8 b0 HB;have a3:=a1;have a5:=a2;have a8:=a4;have b0:=a9;have b9:=b2;have HB:=d7;clear a1 a2 a4 a9 b2 d7;(try clear hb);(try clear hb2);(try clear hk);(try clear hi);(try clear ho0);obtain ⟨n6,n7,eo82⟩:=Kd.R_slice b9.out;subst eo82)|((with_reducible refine gate_callee (f:=41) rfl ?_);refine goesL_ (some 30) rfl rfl Try.func41 (by kernel_rfl) rfl #[.slice j8 c2.length j9,.slice n6 d4.length n7] rfl zzM2 ?_;(with_reducible refine (Qp.calls k _ _ c2 _ _ d4 false _ ?side1 ?side2 ?side3 ?side4 k9.out).mono ?_);(case side1=>repeat (first|exact (Kd.R_reads' a8.out).2.2|(with_reducible refine Kd.C_alloc ?_ _)|(with_reducible refine Kd.C_drewN ?_ _)|(with_reducible refine Kd.C_drew ?_)));(case side2=>exact (Kd.R_reads' a8.out).2.1);(case side3=>repeat (first|exact (Kd.R_reads' b9.out).2.2|(with_reducible refine Kd.C_alloc ?_ _)|(with_reducible refine Kd.C_drewN ?_ _)|(with_reducible refine Kd.C_drew ?_)));(case side4=>exact (Kd.R_reads' b9.out).2.1);rintro e s6 ⟨rfl,hb⟩;refine ⟨_,rfl,?_⟩;have a1:=zzm (Kd.R_below (by (with_reducible repeat (first|apply Kd.R_alloc|apply Kd.R_drewN|apply Kd.R_drew));exact a3.out) hb);have a2:=zzm (Kd.R_below (by (with_reducible repeat (first|apply Kd.R_alloc|apply Kd.R_drewN|apply Kd.R_drew));exact a5.out) hb);have a4:=zzm (Kd.R_below (by (with_reducible repeat (first|apply Kd.R_alloc|apply Kd.R_drewN|apply Kd.R_drew));exact a8.out) hb);have a9:=zzm (Kd.R_below (by (with_reducible repeat (first|apply Kd.R_alloc|apply Kd.R_drewN|apply Kd.R_drew));exact b0.out) hb);have b2:=zzm (Kd.R_below (by (with_reducible repeat (first|apply Kd.R_alloc|apply Kd.R_drewN|apply Kd.R_drew));exact b9.out) hb);have d7:=zzm (zzp zzh1 hb);clear a3 a5 a8 b0 b9 HB;have a3:=a1;have a5:=a2;have a8:=a4;have b0:=a9;have b9:=b2;have HB:=d7;clear a1 a2 a4 a9 b2 d7;(try clear hb);(try clear hb2);(try clear hk);(try clear hi)));go_ret;exact ⟨zzR,zzh1⟩
  ·
   replace e9:=Bool.eq_false_iff.mpr e9;subst e9;replace H:=zzIf H;obtain rfl:=Option.some.inj H;go_enter Try.func16,Try.ntmps16;go_wp2_with (first|((with_reducible refine gate_callee (f:=39) rfl ?_);refine goesL_ (some 13) rfl rfl Try.func39 (by kernel_rfl) rfl #[.slice A0 l0.length c0,.int .i64 1048576] rfl zzM2 ?_;(with_reducible refine (Qu.calls k _ _ l0 1048576 d3 _ ?side1 ?side2 A2.out).mono ?_);(case side1=>repeat (first|exact c9.out|(with_reducible refine Kd.C_alloc ?_ _)|(with_reducible refine Kd.C_drewN ?_ _)|(with_reducible refine Kd.C_drew ?_)));(case side2=>exact d0.out);rintro e s7 ⟨rfl,hb⟩;refine ⟨_,rfl,?_⟩;have a1:=zzm (zzp zzh1 hb);clear HB;have HB:=a1;clear a1;(try clear hb);(try clear hb2);(try clear hk);(try clear hi))|((with_reducible refine gate_callee (f:=40) rfl ?_);refine goesL_ (some 17) rfl rfl Try.func40 (by kernel_rfl) rfl #[.slice A0 l0.length c0] rfl zzM2 ?_;(with_reducible refine (Qh.calls k _ _ l0 c8 _ ?side1 ?side2 A5.out).mono ?_);(case side1=>exact zzcb c9 HB);(case side2=>exact d0.out);rintro e s8 ⟨h5,rfl,ho0,hb⟩;refine ⟨_,rfl,?_⟩;have a1:=zzm (Kd.R_lower ho0 (zzo zzh1));have a2:=zzm (zzp zzh1 hb);clear HB;have a3:=a1;have HB:=a2;clear a1 a2;(try clear hb);(try clear hb2);(try clear hk);(try clear hi);(try clear ho0);obtain ⟨n8,n9,eo86⟩:=Kd.R_slice a3.out;subst eo86)|((with_reducible refine gate_callee (f:=33) rfl ?_);refine goesL_ (some 18) rfl rfl Try.func33 (by kernel_rfl) rfl #[.slice n8 c8.length n9] rfl zzM2 ?_;(with_reducible refine (Qe.calls k _ _ c8 b8 _ ?side1 ?side2 A6.out).mono ?_);(case side1=>repeat (first|exact (Kd.R_reads' a3.out).2.2|(with_reducible refine Kd.C_alloc ?_ _)|(with_reducible refine Kd.C_drewN ?_ _)|(with_reducible refine Kd.C_drew ?_)));(case side2=>exact (Kd.R_reads' a3.out).2.1);rintro e s9 ⟨h8,rfl,ho0,hb⟩;refine ⟨_,rfl,?_⟩;have a1:=zzm (Kd.R_below (by (with_reducible repeat (first|apply Kd.R_alloc|apply Kd.R_drewN|apply Kd.R_drew));exact a3.out) hb);have a2:=zzm (Kd.R_lower ho0 (zzo zzh1));have a4:=zzm (zzp zzh1 hb);clear a3 HB;have a3:=a1;have a5:=a2;have HB:=a4;clear a1 a2 a4;(try clear hb);(try clear hb2);(try clear hk);(try clear hi);(try clear ho0))|((with_reducible refine gate_callee (f:=40) rfl ?_);refine goesL_ (some 20) rfl rfl Try.func40 (by kernel_rfl) rfl #[.slice A0 l0.length c0] rfl zzM2 ?_;(with_reducible refine (Qh.calls k _ _ l0 c2 _ ?side1 ?side2 A7.out).mono ?_);(case side1=>exact zzcb c9 HB);(case side2=>exact d0.out);rintro e t0 ⟨h9,rfl,ho0,hb⟩;refine ⟨_,rfl,?_⟩;have a1:=zzm (Kd.R_elder' (by (with_reducible repeat (first|apply Kd.R_alloc|apply Kd.R_drewN|apply Kd.R_drew));exact a3.out) (Kd.R_base ho0) hb);have a2:=zzm (Kd.R_below (by (with_reducible repeat (first|apply Kd.R_alloc|apply Kd.R_drewN|apply Kd.R_drew));exact a5.out) hb);have a4:=zzm (Kd.R_lower (Kd.R_new' ho0 (Kd.R_lt (by (with_reducible repeat (first|apply Kd.R_alloc|apply Kd.R_drewN|apply Kd.R_drew));exact a3.out))) (zzo zzh1));have a9:=zzm (zzp zzh1 hb);clear a3 a5 HB;have a3:=a1;have a5:=a2;have a8:=a4;have HB:=a9;clear a1 a2 a4 a9;(try clear hb);(try clear hb2);(try clear hk);(try clear hi);(try clear ho0);obtain ⟨o0,o1,eo89⟩:=Kd.R_slice a8.out;subst eo89)|((with_reducible refine gate_callee (f:=32) rfl ?_);refine goesL_ (some 22) rfl rfl Try.func32 (by kernel_rfl) rfl #[.slice o0 c2.length o1] rfl zzM2 ?_;(with_reducible refine (Qc.calls k _ _ c2 a6 _ ?side1 ?side2 A8.out).mono ?_);(case side1=>repeat (first|exact (Kd.R_reads' a8.out).2.2|(with_reducible refine Kd.C_alloc ?_ _)|(with_reducible refine Kd.C_drewN ?_ _)|(with_reducible refine Kd.C_drew ?_)));(case side2=>exact (Kd.R_reads' a8.out).2.1);rintro e t1 ⟨j3,rfl,ho0,hb⟩;refine ⟨_,rfl,?_⟩;have a1:=zzm (Kd.R_below (by (with_reducible repeat (first|apply Kd.R_alloc|apply Kd.R_drewN|apply Kd.R_drew));exact a3.out) hb);have a2:=zzm (Kd.R_elder' (by (with_reducible repeat (first|apply Kd.R_alloc|apply Kd.R_drewN|apply Kd.R_drew));exact a5.out) (Kd.R_base ho0) hb);have a4:=zzm (Kd.R_below (by (with_reducible repeat (first|apply Kd.R_alloc|apply Kd.R_drewN|apply Kd.R_drew));exact a8.out) hb);have a9:=zzm (Kd.R_lower (Kd.R_new' ho0 (Kd.R_lt (by (with_reducible repeat (first|apply Kd.R_alloc|apply Kd.R_drewN|apply Kd.R_drew));exact a5.out))) (zzo zzh1));have b2:=zzm (zzp zzh1 hb);clear a3 a5 a8 HB;have a3:=a1;have a5:=a2;have a8:=a4;have b0:=a9;have HB:=b2;clear a1 a2 a4 a9 b2;(try clear hb);(try clear hb2);(try clear hk);(try clear hi);(try clear ho0);obtain ⟨o2,o3,eo91⟩:=Kd.R_slice b0.out;subst eo91;obtain ⟨o4,o5,eo92⟩:=Kd.R_slice a5.out;subst eo92)|((with_reducible refine gate_callee (f:=46) rfl ?_);refine goesL_ (some 25) rfl rfl Try.func46 (by kernel_rfl) rfl #[.slice o2 a6.length o3,.slice o4 b8.length o5] rfl zzM2 ?_;(with_reducible refine (Qf.calls k _ _ a6 _ _ b8 false _ ?side1 ?side2 ?side3 ?side4 A9.out).mono ?_);(case side1=>repeat (first|exact (Kd.R_reads' b0.out).2.2|(with_reducible refine Kd.C_alloc ?_ _)|(with_reducible refine Kd.C_drewN ?_ _)|(with_reducible refine Kd.C_drew ?_)));(case side2=>exact (Kd.R_reads' b0.out).2.1);(case side3=>repeat (first|exact (Kd.R_reads' a5.out).2.2|(with_reducible refine Kd.C_alloc ?_ _)|(with_reducible refine Kd.C_drewN ?_ _)|(with_reducible refine Kd.C_drew ?_)));(case side4=>exact (Kd.R_reads' a5.out).2.1);rintro e t2 ⟨rfl,hb⟩;refine ⟨_,rfl,?_⟩;have a1:=zzm (Kd.R_below (by (with_reducible repeat (first|apply Kd.R_alloc|apply Kd.R_drewN|apply Kd.R_drew));exact a3.out) hb);have a2:=zzm (Kd.R_below (by (with_reducible repeat (first|apply Kd.R_alloc|apply Kd.R_drewN|apply Kd.R_drew));exact a5.out) hb);have a4:=zzm (Kd.R_below (by (with_reducible repeat (first|apply Kd.R_alloc|apply Kd.R_drewN|apply Kd.R_drew));exact a8.out) hb);have a9:=zzm (Kd.R_below (by (with_reducible repeat (first|apply Kd.R_alloc|apply Kd.R_drewN|apply Kd.R_drew));exact b0.out) hb);have b2:=zzm (zzp zzh1 hb);clear a3 a5 a8 b0 HB;have a3:=a1;have a5:=a2;have a8:=a4;have b0:=a9;have HB:=b2;clear a1 a2 a4 a9 b2;(try clear hb);(try clear hb2);(try clear hk);(try clear hi)));go_ret;exact ⟨zzR,zzh1⟩
end Go.Proofs.Yticpnjhkdfdkkaa.T
namespace Go.Proofs.Yticpnjhkdfdkkaa.Q
open Go.RowKit Go.Proofs.YticpnjhkdfdkkaaW.PrintWords
def Opens {α:Type} (P:Program) (d:Kd α) (t:TypeId) (WF : α→Prop):Prop:=
 ∀ (H:Type) (enc:TypeId×Value→H) (w:World) (base:Nat) (spare:Nat→Bool) (held:Bool) (fuel:Nat) (cs:List Value) (x:DataW H×List MemPlace),DataW.trod enc P w base spare held fuel t cs=some x→∃ v : α,d.K w v cs∧WF v
theorem Opens.int {P:Program} {t:TypeId} {k:IntKind} (ht:P.underlying t=some (.int k)):Opens P (Kd.int k) t (fun n=>(Lit.int k n).wf=true):=by
 intro H enc w base spare held fuel cs x h
 obtain ⟨n,rfl,_,hw⟩:=DataW.trod_int ht h
 exact ⟨n,rfl,hw⟩
theorem Opens.bool {P:Program} {t:TypeId} (ht:P.underlying t=some .bool):Opens P Kd.bool t (fun _=>True):=by
 intro H enc w base spare held fuel cs x h
 obtain ⟨n,rfl,_⟩:=DataW.trod_bool ht h
 exact ⟨n,rfl,trivial⟩
theorem Opens.iso {α β:Type} {P:Program} {t:TypeId} {d:Kd α} {WF : α→Prop} {f : β→α} (h:Opens P d t WF) (g : α→β) (hg:∀ a,f (g a)=a):Opens P (Kd.iso d f) t (fun b=>WF (f b)):=by
 intro H enc w base spare held fuel cs x hx
 obtain ⟨v,hv,hw⟩:=h H enc w base spare held fuel cs x hx
 exact ⟨g v,by show d.K w (f (g v)) cs;rw [hg];exact hv,by show WF (f (g v));rw [hg];exact hw⟩
theorem list_of {α:Type} {Q:Nat→α→Prop} : ∀ (n:Nat),(∀ i,i < n→∃ v,Q i v)→∃ l:List α,l.length=n∧∀ j p,l[j]? = some p→Q j p
 | 0,_=>⟨[],rfl,fun j p h=>by simp at h⟩
 | n+1,h=>by
  obtain ⟨l,hl,hq⟩:=list_of n (fun i hi=>h i (by omega))
  obtain ⟨v,hv⟩:=h n (by omega)
  refine ⟨l ++ [v],by simp [hl],fun j p hj=>?_⟩
  rcases Nat.lt_or_ge j l.length with h1|h1
  ·rw [List.getElem?_append_left h1] at hj
   exact hq j p hj
  ·rw [List.getElem?_append_right h1] at hj
   have h2:j - l.length=0:=by
    have:=(List.getElem?_eq_some_iff.1 hj).1
    simp at this
    omega
   rw [h2] at hj
   simp at hj
   subst hj
   have:j=n:=by omega
   subst this
   exact hv
theorem cells_get {w:World} {base:Nat} {a:Addr} {n:Nat} {cs:List Value} (h:w.cells? base a n=some cs):cs.length=n∧∀ (i:Nat) (u:Value),cs[i]? = some u→w.cell? (a.add i)=some u:=by
 unfold World.cells? at h
 split at h
 ·have hl:cs.length=n:=by simpa using mapM_some_length h
  refine ⟨hl,fun i u hu=>?_⟩
  have hi:i < cs.length:=(List.getElem?_eq_some_iff.1 hu).1
  have:=mapM_some_get h i i (by rw [List.getElem?_range (by omega)])
  rw [this,hu]
 ·cases h
theorem add_add' (a:Addr) (x y:Nat):(a.add x).add y=a.add (x+y):=by
 by_cases hx:x=0 <;> by_cases hy:y=0 <;> simp [Addr.add,hx,hy,Nat.add_assoc]
theorem Opens.slice {α:Type} {P:Program} {t e:TypeId} {d:Kd α} {WF : α→Prop} (ht:P.underlying t=some (.slice e)) (h:Opens P d e WF) (hs:P.cellsOf e=d.sz):Opens P (Kd.slice e d) t (fun l=>l.length≤maxLen∧∀ v∈l,WF v):=by
 intro H enc w base spare held fuel cs x hx
 rcases Go.Deep.open_slice ht hx with ⟨rfl,_⟩|⟨a,len,cap,m,n,D,Pl,rfl,hb,hl,hm,hmm,_,hi⟩
 ·exact ⟨[],⟨none,0,rfl,Nat.le_refl _,rfl,by simp,fun h=>by simp at h⟩,by simp,fun v hv=>by simp at hv⟩
 ·have hlm:len≤m:=by rw [hmm];split <;> omega
  obtain ⟨l,hll,hq⟩:=list_of (Q:=fun i v=>∃ c,w.cells? base (a.add (i * P.cellsOf e)) (P.cellsOf e)=some c∧d.K w v c∧WF v) len (fun i hlt=>by
   obtain ⟨c,hc,hd⟩:=hi i (by omega)
   obtain ⟨v,hv,hw⟩:=h H enc w base spare held n c _ hd
   exact ⟨v,c,hc,hv,hw⟩)
  subst hll
  refine ⟨l,⟨some a,cap,rfl,hl,rfl,by unfold maxLen at hm;omega,fun _=>⟨a,rfl,fun j p hj=>?_⟩⟩,Nat.le_trans hl hm,fun v hv=>?_⟩
  ·obtain ⟨c,hc,hk,_⟩:=hq j p hj
   obtain ⟨h1,h2⟩:=cells_get hc
   refine ⟨c,by rw [h1,hs],hk,fun i u hu=>?_⟩
   rw [← hs,← add_add']
   exact h2 i u hu
  ·obtain ⟨j,hj,rfl⟩:=List.getElem_of_mem hv
   obtain ⟨_,_,_,hw⟩:=hq j _ (List.getElem?_eq_getElem hj)
   exact hw
def OpensFs {α:Type} (P:Program) (o:Nat) (fs:List Field) (d:Kd α) (WF : α→Prop):Prop:=
 ∀ (H:Type) (enc:TypeId×Value→H) (w:World) (base:Nat) (spare:Nat→Bool) (held:Bool) (fuel:Nat) (cs:List Value),(∀ f∈fs,∃ x:DataW H×List MemPlace,DataW.trod enc P w base spare held fuel f.type ((cs.drop f.offset).take (P.cellsOf f.type))=some x)→cs.length=o+d.sz→∃ v : α,d.K w v (cs.drop o)∧WF v
theorem OpensFs.one {α:Type} {P:Program} {o:Nat} {f:Field} {d:Kd α} {WF : α→Prop} (ho:f.offset=o) (hs:P.cellsOf f.type=d.sz) (h:Opens P d f.type WF):OpensFs P o [f] d WF:=by
 intro H enc w base spare held fuel cs hx hl
 obtain ⟨x,hx⟩:=hx f (by simp)
 rw [ho,hs,List.take_of_length_le (by rw [length_drop];omega)] at hx
 exact h H enc w base spare held fuel _ x hx
theorem OpensFs.cons {α β:Type} {P:Program} {o:Nat} {f:Field} {fs:List Field} {d:Kd α} {d' : Kd β} {WF : α→Prop} {WF' : β→Prop} (ho:f.offset=o) (hs:P.cellsOf f.type=d.sz) (h:Opens P d f.type WF) (h' : OpensFs P (o+d.sz) fs d' WF'):OpensFs P o (f::fs) (Kd.pair d d') (fun p=>WF p.1∧WF' p.2):=by
 intro H enc w base spare held fuel cs hx hl
 obtain ⟨x,hx0⟩:=hx f (by simp)
 rw [ho,hs] at hx0
 obtain ⟨v,hv,hw⟩:=h H enc w base spare held fuel _ x hx0
 have hl' : cs.length=o+d.sz+d'.sz:=by rw [hl];exact (Nat.add_assoc _ _ _).symm
 obtain ⟨v',hv',hw'⟩:=h' H enc w base spare held fuel cs (fun f' hf'=>hx f' (List.mem_cons_of_mem _ hf')) hl'
 refine ⟨(v,v'),⟨(cs.drop o).take d.sz,cs.drop (o+d.sz),?_,hv,hv'⟩,hw,hw'⟩
 rw [← List.drop_drop,List.take_append_drop]
theorem Opens.struct {α:Type} {P:Program} {t:TypeId} {fs:Array Field} {d:Kd α} {WF : α→Prop} (ht:P.underlying t=some (.struct fs)) (hs:P.cellsOf t=d.sz) (h:OpensFs P 0 fs.toList d WF):Opens P d t WF:=by
 intro H enc w base spare held fuel cs x hx
 obtain ⟨xs,n,_,_,hl,hxs,hf⟩:=DataW.trod_struct ht hx
 refine h H enc w base spare held n cs (fun f hfm=>?_) (by rw [hl,hs,Nat.zero_add])
 obtain ⟨i,hi,rfl⟩:=List.getElem_of_mem hfm
 have hi' : i < fs.size:=by simpa using hi
 have:=hf i fs[i] (Array.getElem?_eq_getElem hi')
 rw [List.getElem?_eq_getElem (by omega)] at this
 exact ⟨_,by simpa using this⟩
end Go.Proofs.Yticpnjhkdfdkkaa.Q
namespace Go.Proofs.Yticpnjhkdfdkkaa.T
open Go.RowKit Go.Proofs.YticpnjhkdfdkkaaW.PrintWords
set_option linter.unusedVariables false
def WF120 (x:S120):Prop:=(Lit.int .i64 x.f0).wf=true∧(Lit.int .i64 x.f1).wf=true∧True∧(x.f3.length≤maxLen∧∀ v∈x.f3,(Lit.int .i64 v).wf=true)∧True∧(x.f5.length≤maxLen∧∀ v∈x.f5,(Lit.int .i64 v).wf=true)
theorem opens120:Q.Opens Try.prog k120 120 WF120:=
 Q.Opens.iso (Q.Opens.struct Try.underlying120 (by kernel_rfl) (Q.OpensFs.cons rfl (by kernel_rfl) (Q.Opens.int Try.underlying3) (Q.OpensFs.cons rfl (by kernel_rfl) (Q.Opens.int Try.underlying3) (Q.OpensFs.cons rfl (by kernel_rfl) (Q.Opens.bool Try.underlying4) (Q.OpensFs.cons rfl (by kernel_rfl) (Q.Opens.slice Try.underlying32 (Q.Opens.int Try.underlying3) (by kernel_rfl)) (Q.OpensFs.cons rfl (by kernel_rfl) (Q.Opens.bool Try.underlying4) (Q.OpensFs.one rfl (by kernel_rfl) (Q.Opens.slice Try.underlying32 (Q.Opens.int Try.underlying3) (by kernel_rfl))))))))) (fun p=>⟨p.1,p.2.1,p.2.2.1,p.2.2.2.1,p.2.2.2.2.1,p.2.2.2.2.2⟩) (fun _=>rfl)
def WF83 (x:S83):Prop:=True∧True∧(Lit.int .i64 x.f2).wf=true∧(Lit.int .i64 x.f3).wf=true∧(Lit.int .i64 x.f4).wf=true∧(x.f5.length≤maxLen∧∀ v∈x.f5,WF120 v)
theorem opens83:Q.Opens Try.prog k83 83 WF83:=
 Q.Opens.iso (Q.Opens.struct Try.underlying83 (by kernel_rfl) (Q.OpensFs.cons rfl (by kernel_rfl) (Q.Opens.bool Try.underlying4) (Q.OpensFs.cons rfl (by kernel_rfl) (Q.Opens.bool Try.underlying4) (Q.OpensFs.cons rfl (by kernel_rfl) (Q.Opens.int Try.underlying3) (Q.OpensFs.cons rfl (by kernel_rfl) (Q.Opens.int Try.underlying3) (Q.OpensFs.cons rfl (by kernel_rfl) (Q.Opens.int Try.underlying3) (Q.OpensFs.one rfl (by kernel_rfl) (Q.Opens.slice Try.underlying81 opens120 (by kernel_rfl))))))))) (fun p=>⟨p.1,p.2.1,p.2.2.1,p.2.2.2.1,p.2.2.2.2.1,p.2.2.2.2.2⟩) (fun _=>rfl)
end Go.Proofs.Yticpnjhkdfdkkaa.T
namespace Go.Proofs.Yticpnjhkdfdkkaa.Q
open Go.RowKit Go.Proofs.YticpnjhkdfdkkaaW.PrintWords
set_option linter.unusedVariables false
set_option linter.unusedSimpArgs false
theorem ev_succ {α:Type} {g:Nat→Option α} {r : α} (h:Ev (fun k=>g (k+1)) r):Ev g r:=Ev.step (f:=fun k=>g (k+1)) (fun _=>rfl) h
theorem ev_of_all {α:Type} {g:Nat→Option α} {r : α} (h:∀ k,g k=some r):Ev g r:=⟨0,fun k _=>h k⟩
theorem ev_some {α:Type} (r : α):Ev (fun _=>some r) r:=ev_of_all fun _=>rfl
def Evs {α:Type} (g:Nat→Option α) (Q : α→Prop):Prop:=∃ r,Ev g r∧Q r
theorem Evs.of {α:Type} {g:Nat→Option α} {Q : α→Prop} {r : α} (h:Ev g r) (hq:Q r):Evs g Q:=⟨r,h,hq⟩
theorem Evs.done {α:Type} {Q : α→Prop} {r : α} (hq:Q r):Evs (fun _=>some r) Q:=⟨r,ev_some r,hq⟩
theorem Evs.mono {α:Type} {g:Nat→Option α} {Q Q' : α→Prop} (h:Evs g Q) (hq:∀ r,Q r→Q' r):Evs g Q':=by
 obtain ⟨r,h1,h2⟩:=h
 exact ⟨r,h1,hq r h2⟩
theorem Evs.succ {α:Type} {g:Nat→Option α} {Q : α→Prop} (h:Evs (fun k=>g (k+1)) Q):Evs g Q:=by
 obtain ⟨r,h1,h2⟩:=h
 exact ⟨r,ev_succ h1,h2⟩
theorem Evs.bind {α β:Type} {g:Nat→Option α} {f:Nat→α→Option β} {Q : α→Prop} {R : β→Prop} (h:Evs g Q) (k:∀ a,Q a→Evs (fun n=>f n a) R):Evs (fun n=>(g n).bind (f n)) R:=by
 obtain ⟨a,h1,h2⟩:=h
 obtain ⟨r,k1,k2⟩:=k a h2
 exact ⟨r,Ev.bind h1 k1,k2⟩
theorem bsome {α β:Type} (a : α) (f : α→Option β):(some a).bind f=f a:=Eq.trans (Option.bind_some a f) (Eq.refl _)
end Go.Proofs.Yticpnjhkdfdkkaa.Q
namespace Go.Proofs.Yticpnjhkdfdkkaa.Q
open Go.RowKit Go.Proofs.Yticpnjhkdfdkkaa.T Go.Proofs.YticpnjhkdfdkkaaW.PrintWords Go.Proofs.YticpnjhkdfdkkaaW.PrintLast
set_option linter.unusedVariables false
set_option linter.unusedSimpArgs false
theorem wrap_id {x:Int} (h0 : -9223372036854775808≤x) (h1:x < 9223372036854775808):wrap64 x=x:=by unfold wrap64;omega
theorem Rq (a b c:Int):Qr.f a b c=some (decide (b≤a∧a≤c)):=by
 unfold Qr.f
 by_cases h:a ≥ b
 ·rw [if_pos h]
  have:(b≤a∧a≤c)↔a≤c:=⟨fun h=>h.2,fun h'=>⟨h,h'⟩⟩
  simp [this]
 ·rw [if_neg h]
  have:¬ (b≤a∧a≤c):=fun h'=>h h'.1
  simp [this]
theorem spec_l6In_eq (a b c:Int):Qv.f a b c=some (decide (b≤a∧a≤c)):=by
 unfold Qv.f
 by_cases h:a ≥ b
 ·rw [if_pos h]
  have:(b≤a∧a≤c)↔a≤c:=⟨fun h=>h.2,fun h'=>⟨h,h'⟩⟩
  simp [this]
 ·rw [if_neg h]
  have:¬ (b≤a∧a≤c):=fun h'=>h h'.1
  simp [this]
theorem rd_nat (l:List Int) (j:Nat) (h:j < l.length):rd l (j:Int)=l[j]:=by
 unfold rd
 rw [Int.toNat_natCast,List.getD_eq_getElem?_getD,List.getElem?_eq_getElem h]
 rfl
theorem drop_int {l:List Int} {i:Nat} (h:i < l.length):l.drop i=rd l i::l.drop (i+1):=by
 rw [List.drop_eq_getElem_cons h,rd_nat l i h]
def ab (l:List Int):Bool:=decide (∀ x∈l,0≤x∧x≤255)
theorem ab_cons (x:Int) (l:List Int):ab (x::l)=(decide (0≤x∧x≤255)&&ab l):=by
 rw [Bool.eq_iff_iff]
 simp [ab,List.forall_mem_cons]
theorem ab_nil:ab []=true:=by simp [ab]
theorem isByte_eq (a:Int):Rr.f a=some (decide (0≤a∧a≤255)):=by
 unfold Rr.f
 by_cases h:a ≥ 0
 ·rw [if_pos h]
  have:(0≤a∧a≤255)↔a≤255:=⟨fun h=>h.2,fun h'=>⟨h,h'⟩⟩
  simp [this]
 ·rw [if_neg h]
  have:¬ (0≤a∧a≤255):=fun h'=>h h'.1
  simp [this]
theorem baseValid_eq (a b:Int):Ra.f a b=some (decide ((0≤a∧a≤99999)∧(0≤b∧b≤99999))):=by
 unfold Ra.f
 rw [Rq,Rq]
 by_cases h : 0≤a∧a≤99999 <;> simp [h]
theorem idValid_eqB (a:Int):Rf.f a=some (decide (0≤a∧a≤254)):=by
 unfold Rf.f
 rw [Rq]
 rfl
theorem implAll_loop (l:List Int) (hl:l.length≤1000000000000000):∀ (d i:Nat),l.length - i=d→i≤l.length→Ev (fun k=>Q0.l0 k l (l.length:Int) (i:Int)) (ab (l.drop i)):=by
 intro d
 induction d with
 | zero=>
  intro i hd hi
  rw [show l.drop i = [] from List.drop_eq_nil_of_le (by omega),ab_nil]
  refine ev_succ ?_
  simp only [Q0.l0,if_neg (show ¬ (i:Int) < (l.length:Int) by omega)]
  exact ev_some _
 | succ d ih=>
  intro i hd hi
  have e1:wrap64 ((i:Int)+1)=((i+1:Nat):Int):=by rw [wrap_id (by omega) (by omega)];omega
  rw [drop_int (show i < l.length by omega),ab_cons]
  refine ev_succ ?_
  simp only [Q0.l0,if_pos (show (i:Int) < (l.length:Int) by omega),if_pos (show (0:Int)≤i by omega),isByte_eq,bsome,decide_eq_true_eq,e1]
  by_cases h : 0≤rd l (i:Int)∧rd l (i:Int)≤255
  ·simp only [if_pos h,decide_eq_true h,Bool.true_and]
   exact ih (i+1) (by omega) (by omega)
  ·simp only [if_neg h,decide_eq_false h,Bool.false_and]
   exact ev_some _
theorem implAll (l:List Int) (hl:l.length≤1000000000000000):Ev (fun k=>Q0.f k l) (ab l):=by
 unfold Q0.f
 have:=implAll_loop l hl l.length 0 (by omega) (by omega)
 simpa using this
theorem specAll_loop (l:List Int) (hl:l.length≤1000000000000000):∀ (d i:Nat),l.length - i=d→i≤l.length→Ev (fun k=>Q4.l0 k l (i:Int)) (ab (l.drop i)):=by
 intro d
 induction d with
 | zero=>
  intro i hd hi
  rw [show l.drop i = [] from List.drop_eq_nil_of_le (by omega),ab_nil]
  refine ev_succ ?_
  simp only [Q4.l0,if_neg (show ¬ (i:Int) < (l.length:Int) by omega)]
  exact ev_some _
 | succ d ih=>
  intro i hd hi
  have e1:wrap64 ((i:Int)+1)=((i+1:Nat):Int):=by rw [wrap_id (by omega) (by omega)];omega
  rw [drop_int (show i < l.length by omega),ab_cons]
  refine ev_succ ?_
  simp only [Q4.l0,if_pos (show (i:Int) < (l.length:Int) by omega),if_pos (show (0:Int)≤i by omega),spec_l6In_eq,bsome,decide_eq_true_eq,e1]
  by_cases h : 0≤rd l (i:Int)∧rd l (i:Int)≤255
  ·simp only [if_pos h,decide_eq_true h,Bool.true_and]
   exact ih (i+1) (by omega) (by omega)
  ·simp only [if_neg h,decide_eq_false h,Bool.false_and]
   exact ev_some _
theorem specAll (l:List Int) (hl:l.length≤1000000000000000):Ev (fun k=>Q4.f k l) (ab l):=by
 unfold Q4.f
 have:=specAll_loop l hl l.length 0 (by omega) (by omega)
 simpa using this
def pv (has:Bool) (l:List Int):Bool:=if has=true then decide (l.length≤12)&&ab l else decide (l.length=0)
theorem implPart (has:Bool) (l:List Int) (hl:l.length≤1000000000000000):Ev (fun k=>Q5.f k has l) (pv has l):=by
 unfold Q5.f pv
 cases has with
 | true=>
  simp only [if_true]
  by_cases h:(l.length:Int)≤12
  ·simp only [if_pos h,decide_eq_true (show l.length≤12 by omega),Bool.true_and]
   exact Ev.bind (implAll l hl) (ev_some _)
  ·simp only [if_neg h,decide_eq_false (show ¬ l.length≤12 by omega),Bool.false_and]
   exact ev_some _
 | false=>
  simp only [Bool.false_eq_true,if_false]
  rw [show ((l.length:Int)==0)=decide (l.length=0) by rw [Bool.eq_iff_iff];simp]
  exact ev_some _
theorem specPart (has:Bool) (l:List Int) (hl:l.length≤1000000000000000):Ev (fun k=>Rg.f k has l) (pv has l):=by
 unfold Rg.f pv
 cases has with
 | true=>
  simp only [if_true]
  refine Ev.bind (specAll l hl) ?_
  by_cases h:ab l=true
  ·simp only [if_pos h,h,Bool.and_true]
   rw [show decide ((l.length:Int)≤12)=decide (l.length≤12) by rw [decide_eq_decide];omega]
   exact ev_some _
  ·simp only [if_neg h,show ab l=false by simpa using h,Bool.and_false]
   exact ev_some _
 | false=>
  simp only [Bool.false_eq_true,if_false]
  by_cases h:l.length=0
  ·simp only [if_pos (show (l.length:Int)=0 by omega),decide_eq_true h]
   refine Ev.bind (specAll l hl) ?_
   have hn:l = []:=List.length_eq_zero_iff.1 h
   subst hn
   simp only [ab_nil,if_true]
   exact ev_some _
  ·simp only [if_neg (show ¬ (l.length:Int)=0 by omega),decide_eq_false h]
   exact ev_some _
abbrev Rc:=S34
abbrev rr (l:List Rc) (i:Int):Rc:=Qb l i
theorem rr_nat (l:List Rc) (j:Nat) (h:j < l.length):rr l (j:Int)=l[j]:=by
 unfold rr Qb
 rw [Int.toNat_natCast,List.getD_eq_getElem?_getD,List.getElem?_eq_getElem h]
 rfl
def smallR (r:Rc):Prop:=r.f3.length≤1000000000000000∧r.f5.length≤1000000000000000
def smallRs (l:List Rc):Prop:=l.length≤1000000000000000∧∀ r∈l,smallR r
theorem smallRs_at {l:List Rc} (h:smallRs l) (j:Nat) (hj:j < l.length):smallR (rr l (j:Int)):=by
 rw [rr_nat l j hj]
 exact h.2 _ (List.getElem_mem hj)
def rv (r:Rc):Bool:=decide ((0≤r.f0∧r.f0≤99999)∧(0≤r.f1∧r.f1≤99999))&&(pv r.f2 r.f3&&pv r.f4 r.f5)
theorem implRec (r:Rc) (h:smallR r):Ev (fun k=>Q6.f k r.f0 r.f1 r.f2 r.f3 r.f4 r.f5) (rv r):=by
 unfold Q6.f rv
 simp only [baseValid_eq,bsome,decide_eq_true_eq]
 by_cases h0:(0≤r.f0∧r.f0≤99999)∧(0≤r.f1∧r.f1≤99999)
 ·simp only [if_pos h0,decide_eq_true h0,Bool.true_and]
  refine Ev.bind (implPart _ _ h.1) ?_
  by_cases h1:pv r.f2 r.f3=true
  ·simp only [if_pos h1,h1,Bool.true_and]
   exact Ev.bind (implPart _ _ h.2) (ev_some _)
  ·simp only [if_neg h1,show pv r.f2 r.f3=false by simpa using h1,Bool.false_and]
   exact ev_some _
 ·simp only [if_neg h0,decide_eq_false h0,Bool.false_and]
  exact ev_some _
theorem specRec (r:Rc) (h:smallR r):Ev (fun k=>Q7.f k r.f0 r.f1 r.f2 r.f3 r.f4 r.f5) (rv r):=by
 unfold Q7.f rv
 simp only [spec_l6In_eq,bsome,decide_eq_true_eq]
 by_cases h0 : 0≤r.f0∧r.f0≤99999
 ·by_cases h1 : 0≤r.f1∧r.f1≤99999
  ·simp only [if_pos h0,if_pos h1,decide_eq_true (show (0≤r.f0∧r.f0≤99999)∧(0≤r.f1∧r.f1≤99999) from ⟨h0,h1⟩),Bool.true_and]
   refine Ev.bind (specPart _ _ h.1) ?_
   by_cases h2:pv r.f2 r.f3=true
   ·simp only [if_pos h2,h2,Bool.true_and]
    exact Ev.bind (specPart _ _ h.2) (ev_some _)
   ·simp only [if_neg h2,show pv r.f2 r.f3=false by simpa using h2,Bool.false_and]
    exact ev_some _
  ·simp only [if_pos h0,if_neg h1,decide_eq_false (show ¬ ((0≤r.f0∧r.f0≤99999)∧(0≤r.f1∧r.f1≤99999)) from fun h=>h1 h.2),Bool.false_and]
   exact ev_some _
 ·simp only [if_neg h0,decide_eq_false (show ¬ ((0≤r.f0∧r.f0≤99999)∧(0≤r.f1∧r.f1≤99999)) from fun h=>h0 h.1),Bool.false_and]
  exact ev_some _
def RF (l:List Rc) (i:Nat):Prop:=∀ j,i≤j→j < l.length→rv (rr l j)=true∧(0 < j→(rr l ((j:Int) - 1)).f0 < (rr l j).f0)
theorem RF_end {l:List Rc} {i:Nat} (h:l.length≤i):RF l i:=fun j h1 h2=>by omega
theorem RF_step {l:List Rc} {i:Nat} (h:i < l.length):RF l i↔(rv (rr l i)=true∧(0 < i→(rr l ((i:Int) - 1)).f0 < (rr l i).f0))∧RF l (i+1):=by
 constructor
 ·intro hv
  exact ⟨hv i (Nat.le_refl _) h,fun j h1 h2=>hv j (by omega) h2⟩
 ·rintro ⟨h1,h2⟩ j h3 h4
  by_cases e:j=i
  ·subst e;exact h1
  ·exact h2 j (by omega) h4
theorem implRecs_loop (l:List Rc) (hl:smallRs l) (a0 a1:Bool) (a2 a3 a4:Int):∀ (d i:Nat),l.length - i=d→i≤l.length→Evs (fun k=>Qd.l0 k l (l.length:Int) (i:Int) a0 a1 a2 a3 a4 l) (fun b=>b=true↔RF l i):=by
 intro d
 induction d with
 | zero=>
  intro i hd hi
  refine Evs.succ ?_
  simp only [Qd.l0,if_neg (show ¬ (i:Int) < (l.length:Int) by omega)]
  exact Evs.done (by simp;exact RF_end (by omega))
 | succ d ih=>
  intro i hd hi
  have hll:=hl.1
  have hn:=ih (i+1) (by omega) (by omega)
  have e1:wrap64 ((i:Int)+1)=((i+1:Nat):Int):=by rw [wrap_id (by omega) (by omega)];omega
  have e2:wrap64 ((i:Int) - 1)=(i:Int) - 1:=wrap_id (by omega) (by omega)
  rw [RF_step (show i < l.length by omega)]
  refine Evs.succ ?_
  simp only [Qd.l0,if_pos (show (i:Int) < (l.length:Int) by omega),if_pos (show (0:Int)≤i by omega),e1,e2]
  refine Evs.bind (Evs.of (implRec (rr l (i:Int)) (smallRs_at hl i (by omega))) rfl:Evs _ (fun x=>x=rv (rr l (i:Int)))) ?_
  rintro _ rfl
  by_cases h1:rv (rr l (i:Int))=true
  ·simp only [if_pos h1]
   by_cases h0:(i:Int) > 0
   ·simp only [if_pos h0,if_pos (show 0≤(i:Int) - 1 by omega),if_pos (show (i:Int) - 1 < (l.length:Int) by omega)]
    by_cases h2:(rr l ((i:Int) - 1)).f0 ≥ (rr l (i:Int)).f0
    ·simp only [if_pos h2]
     refine Evs.done ?_
     simp only [Bool.false_eq_true,false_iff]
     rintro ⟨⟨_,h3⟩,_⟩
     have:=h3 (by omega)
     omega
    ·simp only [if_neg h2]
     refine hn.mono fun b hb=>?_
     rw [hb]
     exact ⟨fun h=>⟨⟨h1,fun _=>by omega⟩,h⟩,fun h=>h.2⟩
   ·simp only [if_neg h0]
    refine hn.mono fun b hb=>?_
    rw [hb]
    exact ⟨fun h=>⟨⟨h1,fun h'=>absurd h' (by omega)⟩,h⟩,fun h=>h.2⟩
  ·simp only [if_neg h1]
   exact Evs.done (by simp only [Bool.false_eq_true,false_iff];exact fun h=>h1 h.1.1)
theorem specRecs_loop (l:List Rc) (hl:smallRs l):∀ (d i:Nat),l.length - i=d→i≤l.length→Evs (fun k=>Qg.l0 k l (i:Int)) (fun b=>b=true↔RF l i∧1≤l.length∧l.length≤6):=by
 intro d
 induction d with
 | zero=>
  intro i hd hi
  refine Evs.succ ?_
  simp only [Qg.l0,if_neg (show ¬ (i:Int) < (l.length:Int) by omega),spec_l6In_eq,bsome]
  exact Evs.done (by simp only [decide_eq_true_eq];exact ⟨fun h=>⟨RF_end (by omega),by omega,by omega⟩,fun h=>by have:=h.2;omega⟩)
 | succ d ih=>
  intro i hd hi
  have hll:=hl.1
  have hn:=ih (i+1) (by omega) (by omega)
  have e1:wrap64 ((i:Int)+1)=((i+1:Nat):Int):=by rw [wrap_id (by omega) (by omega)];omega
  have e2:wrap64 ((i:Int) - 1)=(i:Int) - 1:=wrap_id (by omega) (by omega)
  rw [RF_step (show i < l.length by omega)]
  refine Evs.succ ?_
  simp only [Qg.l0,if_pos (show (i:Int) < (l.length:Int) by omega),if_pos (show (0:Int)≤i by omega),e1,e2]
  refine Evs.bind (Evs.of (specRec (rr l (i:Int)) (smallRs_at hl i (by omega))) rfl:Evs _ (fun x=>x=rv (rr l (i:Int)))) ?_
  rintro _ rfl
  by_cases h1:rv (rr l (i:Int))=true
  ·simp only [if_pos h1]
   by_cases h0:(i:Int) > 0
   ·simp only [if_pos h0,if_pos (show 0≤(i:Int) - 1 by omega),if_pos (show (i:Int) - 1 < (l.length:Int) by omega)]
    by_cases h2:(rr l ((i:Int) - 1)).f0 ≥ (rr l (i:Int)).f0
    ·simp only [if_pos h2]
     refine Evs.done ?_
     simp only [Bool.false_eq_true,false_iff]
     rintro ⟨⟨⟨_,h3⟩,_⟩,_⟩
     have:=h3 (by omega)
     omega
    ·simp only [if_neg h2]
     refine hn.mono fun b hb=>?_
     rw [hb]
     exact ⟨fun h=>⟨⟨⟨h1,fun _=>by omega⟩,h.1⟩,h.2⟩,fun h=>⟨h.1.2,h.2⟩⟩
   ·simp only [if_neg h0]
    refine hn.mono fun b hb=>?_
    rw [hb]
    exact ⟨fun h=>⟨⟨⟨h1,fun h'=>absurd h' (by omega)⟩,h.1⟩,h.2⟩,fun h=>⟨h.1.2,h.2⟩⟩
  ·simp only [if_neg h1]
   exact Evs.done (by simp only [Bool.false_eq_true,false_iff];exact fun h=>h1 h.1.1.1)
def VB (a1:Bool) (a2 a3 a4:Int) (l:List Rc):Prop:=
 (if a2=255 then a3=0∧a4=0∧a1=false else (0≤a2∧a2≤254)∧(0≤a3∧a3≤99)∧(0≤a4∧a4≤9999))∧(1≤l.length∧l.length≤6)∧(a1=true→l.length=1)∧RF l 0
theorem implB_j0 (a0 a1:Bool) (a2 a3 a4:Int) (l:List Rc) (hl:smallRs l):Evs (fun k=>Qd.j0 k a0 a1 a2 a3 a4 l) (fun b=>b=true↔(1≤l.length∧l.length≤6)∧(a1=true→l.length=1)∧RF l 0):=by
 have hr:=implRecs_loop l hl a0 a1 a2 a3 a4 l.length 0 (by omega) (by omega)
 refine Evs.succ ?_
 simp only [Qd.j0,Rq,bsome,decide_eq_true_eq]
 by_cases h : 1≤(l.length:Int)∧(l.length:Int)≤6
 ·simp only [if_pos h]
  cases a1 with
  | true=>
   simp only [if_true]
   refine Evs.succ ?_
   by_cases h1:l.length=1
   ·simp only [Qd.j1,show ((l.length:Int) != 1)=false by rw [h1];rfl,Bool.false_eq_true,if_false]
    refine hr.mono fun b hb=>?_
    rw [hb]
    exact ⟨fun h2=>⟨by omega,fun _=>h1,h2⟩,fun h2=>h2.2.2⟩
   ·simp only [Qd.j1,show ((l.length:Int) != 1)=true by simp;omega,if_true]
    exact Evs.done (by simp only [Bool.false_eq_true,false_iff];exact fun h2=>h1 (h2.2.1 trivial))
  | false=>
   simp only [Bool.false_eq_true,if_false]
   refine Evs.succ ?_
   simp only [Qd.j1,Bool.false_eq_true,if_false]
   refine hr.mono fun b hb=>?_
   rw [hb]
   exact ⟨fun h2=>⟨by omega,(fun h3=>h3.elim),h2⟩,fun h2=>h2.2.2⟩
 ·simp only [if_neg h]
  refine Evs.succ ?_
  simp only [Qd.j1,if_true]
  exact Evs.done (by simp only [Bool.false_eq_true,false_iff];exact fun h2=>h ⟨by have:=h2.1.1;omega,by have:=h2.1.2;omega⟩)
theorem implB_evs (a0 a1:Bool) (a2 a3 a4:Int) (l:List Rc) (hl:smallRs l):Evs (fun k=>Qd.f k a0 a1 a2 a3 a4 l) (fun b=>b=true↔VB a1 a2 a3 a4 l):=by
 have hj:=implB_j0 a0 a1 a2 a3 a4 l hl
 unfold Qd.f VB
 by_cases h:a2=255
 ·simp only [if_pos h]
  by_cases h3:a3=0
  ·simp only [if_pos h3]
   by_cases h4:a4=0
   ·simp only [if_pos h4]
    cases a1 with
    | true=>
     simp only [if_true]
     exact Evs.done (by simp)
    | false=>
     simp only [Bool.false_eq_true,if_false]
     refine hj.mono fun b hb=>?_
     rw [hb]
     exact ⟨fun h2=>⟨⟨h3,h4,trivial⟩,h2.1,(fun h5=>h5.elim),h2.2.2⟩,fun h2=>⟨h2.2.1,(fun h5=>by cases h5),h2.2.2.2⟩⟩
   ·simp only [if_neg h4]
    exact Evs.done (by simp only [Bool.false_eq_true,false_iff];exact fun h2=>h4 h2.1.2.1)
  ·simp only [if_neg h3]
   exact Evs.done (by simp only [Bool.false_eq_true,false_iff];exact fun h2=>h3 h2.1.1)
 ·simp only [if_neg h,idValid_eqB,Rq,bsome,decide_eq_true_eq]
  by_cases h2 : 0≤a2∧a2≤254
  ·simp only [if_pos h2]
   by_cases h3 : 0≤a3∧a3≤99
   ·simp only [if_pos h3]
    by_cases h4 : 0≤a4∧a4≤9999
    ·simp only [if_pos h4]
     refine hj.mono fun b hb=>?_
     rw [hb]
     exact ⟨fun h5=>⟨⟨h2,h3,h4⟩,h5⟩,fun h5=>h5.2⟩
    ·simp only [if_neg h4]
     exact Evs.done (by simp only [Bool.false_eq_true,false_iff];exact fun h5=>h4 h5.1.2.2)
   ·simp only [if_neg h3]
    exact Evs.done (by simp only [Bool.false_eq_true,false_iff];exact fun h5=>h3 h5.1.2.1)
  ·simp only [if_neg h2]
   exact Evs.done (by simp only [Bool.false_eq_true,false_iff];exact fun h5=>h2 h5.1.1)
theorem specB_j0_true (a0 a1:Bool) (a2 a3 a4:Int) (l:List Rc):Evs (fun k=>Qo.j0 k true a0 a1 a2 a3 a4 l) (fun b=>b=false):=by
 refine Evs.succ ?_
 simp only [Qo.j0,if_true]
 exact Evs.done rfl
theorem specB_evs (a0 a1:Bool) (a2 a3 a4:Int) (l:List Rc) (hl:smallRs l):Evs (fun k=>Qo.f k a0 a1 a2 a3 a4 l) (fun b=>b=true↔VB a1 a2 a3 a4 l):=by
 have hr:=specRecs_loop l hl l.length 0 (by omega) (by omega)
 have no:∀ {P:Prop},¬ P→∀ b:Bool,b=false→(b=true↔P):=fun hP b hb=>by rw [hb];simp only [Bool.false_eq_true,false_iff];exact hP
 unfold Qo.f
 unfold Qg.f
 refine Evs.bind hr ?_
 intro t ht
 by_cases h:t=true
 ·obtain ⟨hRF,hl1⟩:=ht.1 h
  simp only [if_pos h,spec_l6In_eq,bsome,decide_eq_true_eq]
  by_cases h2 : 0≤a2∧a2≤255
  ·simp only [if_pos h2]
   by_cases h3 : 0≤a3∧a3≤99
   ·simp only [if_pos h3]
    by_cases h4 : 0≤a4∧a4≤9999
    ·simp only [decide_eq_true h4,Bool.not_true]
     refine Evs.succ ?_
     simp only [Qo.j0,Bool.false_eq_true,if_false]
     unfold VB
     by_cases h5:a2=255
     ·simp only [if_pos h5]
      by_cases h6:a3=0
      ·simp only [if_pos h6]
       by_cases h7:a4=0
       ·simp only [if_pos h7]
        refine Evs.done ?_
        cases a1
        ·simp;exact ⟨⟨h6,h7⟩,hl1,hRF⟩
        ·simp
       ·simp only [if_neg h7]
        exact Evs.done (no (fun h8=>h7 h8.1.2.1) _ rfl)
      ·simp only [if_neg h6]
       exact Evs.done (no (fun h8=>h6 h8.1.1) _ rfl)
     ·simp only [if_neg h5]
      cases a1 with
      | true=>
       simp only [if_true]
       refine Evs.done ?_
       simp only [beq_iff_eq]
       exact ⟨fun h8=>⟨⟨by omega,h3,h4⟩,hl1,fun _=>by omega,hRF⟩,fun h8=>by have:=h8.2.2.1 trivial;omega⟩
      | false=>
       simp only [Bool.false_eq_true,if_false]
       refine Evs.done ?_
       simp only [true_iff]
       exact ⟨⟨by omega,h3,h4⟩,hl1,(fun h8=>h8.elim),hRF⟩
    ·simp only [decide_eq_false h4,Bool.not_false]
     refine (specB_j0_true a0 a1 a2 a3 a4 l).mono (no ?_)
     unfold VB
     split
     ·rintro ⟨⟨_,h8,_⟩,_⟩
      exact h4 (by omega)
     ·exact fun h8=>h4 h8.1.2.2
   ·simp only [if_neg h3]
    refine (specB_j0_true a0 a1 a2 a3 a4 l).mono (no ?_)
    unfold VB
    split
    ·rintro ⟨⟨h8,_,_⟩,_⟩
     exact h3 (by omega)
    ·exact fun h8=>h3 h8.1.2.1
  ·simp only [if_neg h2]
   refine (specB_j0_true a0 a1 a2 a3 a4 l).mono (no ?_)
   unfold VB
   split
   ·rename_i h8
    exact fun _=>h2 (by omega)
   ·exact fun h8=>h2 (by have:=h8.1.1;omega)
 ·simp only [if_neg h]
  refine (specB_j0_true a0 a1 a2 a3 a4 l).mono (no ?_)
  exact fun h8=>h (ht.2 ⟨h8.2.2.2,h8.2.1⟩)
open Classical in
noncomputable def vb (a1:Bool) (a2 a3 a4:Int) (l:List Rc):Bool:=decide (VB a1 a2 a3 a4 l)
theorem vb_iff (a1:Bool) (a2 a3 a4:Int) (l:List Rc):vb a1 a2 a3 a4 l=true↔VB a1 a2 a3 a4 l:=by unfold vb;simp
theorem implB (a0 a1:Bool) (a2 a3 a4:Int) (l:List Rc) (hl:smallRs l):Ev (fun k=>Qd.f k a0 a1 a2 a3 a4 l) (vb a1 a2 a3 a4 l):=by
 obtain ⟨b,hb,h⟩:=implB_evs a0 a1 a2 a3 a4 l hl
 rw [show vb a1 a2 a3 a4 l=b by rw [Bool.eq_iff_iff,vb_iff,h]]
 exact hb
theorem specB (a0 a1:Bool) (a2 a3 a4:Int) (l:List Rc) (hl:smallRs l):Ev (fun k=>Qo.f k a0 a1 a2 a3 a4 l) (vb a1 a2 a3 a4 l):=by
 obtain ⟨b,hb,h⟩:=specB_evs a0 a1 a2 a3 a4 l hl
 rw [show vb a1 a2 a3 a4 l=b by rw [Bool.eq_iff_iff,vb_iff,h]]
 exact hb
abbrev Bt:=S27
abbrev rb (l:List Bt) (i:Int):Bt:=Qa l i
theorem rb_nat (l:List Bt) (j:Nat) (h:j < l.length):rb l (j:Int)=l[j]:=by
 unfold rb Qa
 rw [Int.toNat_natCast,List.getD_eq_getElem?_getD,List.getElem?_eq_getElem h]
 rfl
def smallBs (l:List Bt):Prop:=l.length≤2000000∧∀ b∈l,smallRs b.f5
theorem smallBs_at {l:List Bt} (h:smallBs l) (j:Nat) (hj:j < l.length):smallRs (rb l (j:Int)).f5:=by
 rw [rb_nat l j hj]
 exact h.2 _ (List.getElem_mem hj)
def fOff (b:Bt):Int:=(rr b.f5 0).f0
def lOff (b:Bt):Int:=(rr b.f5 ((b.f5.length:Int) - 1)).f0
def vB (b:Bt):Prop:=VB b.f1 b.f2 b.f3 b.f4 b.f5
theorem vB_pos {b:Bt} (h:vB b) : 1≤b.f5.length∧b.f5.length≤6:=h.2.1
theorem first_eq {b:Bt} (h:vB b):Q3.f b.f0 b.f1 b.f2 b.f3 b.f4 b.f5=some (fOff b):=by
 have:=vB_pos h
 unfold Q3.f
 rw [if_pos (show 0 < (b.f5.length:Int) by omega)]
 rfl
theorem last_eq {b:Bt} (h:vB b):Re.f b.f0 b.f1 b.f2 b.f3 b.f4 b.f5=some (lOff b):=by
 have:=vB_pos h
 have e:wrap64 ((b.f5.length:Int) - 1)=(b.f5.length:Int) - 1:=wrap_id (by omega) (by omega)
 unfold Re.f
 rw [e,if_pos (show 0≤(b.f5.length:Int) - 1 by omega),if_pos (show (b.f5.length:Int) - 1 < (b.f5.length:Int) by omega)]
 rfl
theorem lastS_eq {b:Bt} (h:vB b):Rh.f b.f0 b.f1 b.f2 b.f3 b.f4 b.f5=some (lOff b):=by
 have:=vB_pos h
 have e:wrap64 ((b.f5.length:Int) - 1)=(b.f5.length:Int) - 1:=wrap_id (by omega) (by omega)
 unfold Rh.f
 rw [e,if_pos (show 0≤(b.f5.length:Int) - 1 by omega),if_pos (show (b.f5.length:Int) - 1 < (b.f5.length:Int) by omega)]
 rfl
def LF (l:List Bt) (i:Nat):Prop:=∀ j,i≤j→j < l.length→vB (rb l j)∧(0 < j→lOff (rb l ((j:Int) - 1)) < fOff (rb l j))
def VL (l:List Bt):Prop:=l.length≤8∧LF l 0
theorem LF_end {l:List Bt} {i:Nat} (h:l.length≤i):LF l i:=fun j h1 h2=>by omega
theorem LF_step {l:List Bt} {i:Nat} (h:i < l.length):LF l i↔(vB (rb l i)∧(0 < i→lOff (rb l ((i:Int) - 1)) < fOff (rb l i)))∧LF l (i+1):=by
 constructor
 ·intro hl
  exact ⟨hl i (Nat.le_refl _) h,fun j h1 h2=>hl j (by omega) h2⟩
 ·rintro ⟨h0,h1⟩ j hj1 hj2
  by_cases he:j=i
  ·subst he;exact h0
  ·exact h1 j (by omega) hj2
open Classical in
noncomputable def vl (l:List Bt):Bool:=decide (VL l)
theorem vl_iff (l:List Bt):vl l=true↔VL l:=by unfold vl;simp
theorem vl_of {b:Bool} {l:List Bt} (h:b=true↔VL l):b=vl l:=by
 rw [Bool.eq_iff_iff,h,vl_iff]
theorem vb_vB (b:Bt):vb b.f1 b.f2 b.f3 b.f4 b.f5=true↔vB b:=vb_iff _ _ _ _ _
theorem implLog_loop (l:List Bt) (hl:smallBs l):∀ (d i:Nat),l.length - i=d→i≤l.length→(∀ j,j < i→vB (rb l (j:Int)))→Evs (fun k=>Qi.l0 k l l (l.length:Int) (i:Int)) (fun b=>b=true↔LF l i):=by
 have hs:=hl.1
 intro d
 induction d with
 | zero=>
  intro i hd hi _
  refine Evs.succ ?_
  simp only [Qi.l0,if_neg (show ¬ (i:Int) < (l.length:Int) by omega)]
  exact Evs.done ⟨fun _=>LF_end (by omega),fun _=>rfl⟩
 | succ d ih=>
  intro i hd hi hv
  have hlt:i < l.length:=by omega
  have e1:wrap64 ((i:Int)+1)=((i+1:Nat):Int):=by rw [wrap_id (by omega) (by omega)];omega
  refine Evs.succ ?_
  simp only [Qi.l0,if_pos (show (i:Int) < (l.length:Int) by omega),if_pos (show (0:Int)≤(i:Int) by omega),e1]
  refine Evs.bind (Evs.of (implB (rb l i).f0 (rb l i).f1 (rb l i).f2 (rb l i).f3 (rb l i).f4 (rb l i).f5 (smallBs_at hl i hlt)) rfl) ?_
  rintro _ rfl
  by_cases hb:vB (rb l i)
  ·have hb2:=(vb_vB (rb l i)).2 hb
   simp only [if_pos hb2]
   have hv2:∀ j,j < i+1→vB (rb l (j:Int)):=fun j hj=>by
    by_cases he:j=i
    ·subst he;exact hb
    ·exact hv j (by omega)
   by_cases h0:i=0
   ·subst h0
    simp only [if_neg (show ¬ ((0:Nat):Int) > 0 by omega)]
    refine (ih 1 (by omega) (by omega) hv2).mono fun b hb3=>?_
    rw [hb3,LF_step hlt]
    exact ⟨fun h=>⟨⟨hb,fun h=>absurd h (by omega)⟩,h⟩,fun h=>h.2⟩
   ·have e2:wrap64 ((i:Int) - 1)=(i:Int) - 1:=wrap_id (by omega) (by omega)
    have hp:vB (rb l ((i:Int) - 1)):=by have:=hv (i - 1) (by omega);rwa [show ((i - 1:Nat):Int)=(i:Int) - 1 by omega] at this
    have f1:=last_eq hp
    have f2:=first_eq hb
    simp only [if_pos (show (i:Int) > 0 by omega),e2,if_pos (show 0≤(i:Int) - 1 by omega),if_pos (show (i:Int) - 1 < (l.length:Int) by omega)]
    rw [show (Qa l ((i:Int) - 1))=rb l ((i:Int) - 1) from rfl,show (Qa l (i:Int))=rb l (i:Int) from rfl,f1,f2]
    simp only [bsome]
    by_cases hc:lOff (rb l ((i:Int) - 1)) ≥ fOff (rb l i)
    ·simp only [if_pos hc]
     refine Evs.done ?_
     rw [LF_step hlt]
     simp only [Bool.false_eq_true,false_iff]
     intro h
     have:=h.1.2 (by omega)
     omega
    ·simp only [if_neg hc]
     refine (ih (i+1) (by omega) (by omega) hv2).mono fun b hb3=>?_
     rw [hb3,LF_step hlt]
     exact ⟨fun h=>⟨⟨hb,fun _=>by omega⟩,h⟩,fun h=>h.2⟩
  ·have hb2:¬ vb (rb l i).f1 (rb l i).f2 (rb l i).f3 (rb l i).f4 (rb l i).f5=true:=fun h=>hb ((vb_vB (rb l i)).1 h)
   simp only [if_neg hb2]
   refine Evs.done ?_
   rw [LF_step hlt]
   simp only [Bool.false_eq_true,false_iff]
   exact fun h=>hb h.1.1
theorem implLog (l:List Bt) (hl:smallBs l):Ev (fun k=>Qi.f k l) (vl l):=by
 have hs:=hl.1
 unfold Qi.f
 by_cases h:(l.length:Int) > 8
 ·simp only [if_pos h]
  have:vl l=false:=by rw [← Bool.not_eq_true,vl_iff];exact fun h2=>by have:=h2.1;omega
  rw [this]
  exact ev_some _
 ·simp only [if_neg h]
  obtain ⟨b,h1,h2⟩:=implLog_loop l hl l.length 0 (by omega) (by omega) (fun j hj=>by omega)
  have:b=vl l:=vl_of (h2.trans ⟨fun h3=>⟨by omega,h3⟩,fun h3=>h3.2⟩)
  rw [← this]
  exact h1
theorem specLog_loop (l:List Bt) (hl:smallBs l):∀ (d i:Nat),l.length - i=d→i≤l.length→(∀ j,j < i→vB (rb l (j:Int)))→Evs (fun k=>Ql.l0 k l (i:Int)) (fun b=>b=true↔LF l i∧l.length≤8):=by
 have hs:=hl.1
 intro d
 induction d with
 | zero=>
  intro i hd hi _
  refine Evs.succ ?_
  simp only [Ql.l0,if_neg (show ¬ (i:Int) < (l.length:Int) by omega)]
  refine Evs.done ?_
  rw [decide_eq_true_eq]
  exact ⟨fun h=>⟨LF_end (by omega),by omega⟩,fun h=>by omega⟩
 | succ d ih=>
  intro i hd hi hv
  have hlt:i < l.length:=by omega
  have e1:wrap64 ((i:Int)+1)=((i+1:Nat):Int):=by rw [wrap_id (by omega) (by omega)];omega
  refine Evs.succ ?_
  simp only [Ql.l0,if_pos (show (i:Int) < (l.length:Int) by omega),if_pos (show (0:Int)≤(i:Int) by omega),e1]
  refine Evs.bind (Evs.of (specB (rb l i).f0 (rb l i).f1 (rb l i).f2 (rb l i).f3 (rb l i).f4 (rb l i).f5 (smallBs_at hl i hlt)) rfl) ?_
  rintro _ rfl
  by_cases hb:vB (rb l i)
  ·have hb2:=(vb_vB (rb l i)).2 hb
   simp only [if_pos hb2]
   have hv2:∀ j,j < i+1→vB (rb l (j:Int)):=fun j hj=>by
    by_cases he:j=i
    ·subst he;exact hb
    ·exact hv j (by omega)
   by_cases h0:i=0
   ·subst h0
    simp only [if_neg (show ¬ ((0:Nat):Int) > 0 by omega)]
    refine (ih 1 (by omega) (by omega) hv2).mono fun b hb3=>?_
    rw [hb3,LF_step hlt]
    exact ⟨fun h=>⟨⟨⟨hb,fun h=>absurd h (by omega)⟩,h.1⟩,h.2⟩,fun h=>⟨h.1.2,h.2⟩⟩
   ·have e2:wrap64 ((i:Int) - 1)=(i:Int) - 1:=wrap_id (by omega) (by omega)
    have hp:vB (rb l ((i:Int) - 1)):=by have:=hv (i - 1) (by omega);rwa [show ((i - 1:Nat):Int)=(i:Int) - 1 by omega] at this
    have f1:=lastS_eq hp
    have hpos:=(vB_pos hb).1
    simp only [if_pos (show (i:Int) > 0 by omega),e2,if_pos (show 0≤(i:Int) - 1 by omega),if_pos (show (i:Int) - 1 < (l.length:Int) by omega)]
    rw [show (Qa l ((i:Int) - 1))=rb l ((i:Int) - 1) from rfl,show (Qa l (i:Int))=rb l (i:Int) from rfl,f1]
    simp only [bsome,if_pos (show 0 < ((rb l (i:Int)).f5.length:Int) by omega)]
    by_cases hc:lOff (rb l ((i:Int) - 1)) ≥ fOff (rb l i)
    ·simp only [if_pos (show lOff (rb l ((i:Int) - 1)) ≥ (Qb (rb l (i:Int)).f5 0).f0 from hc)]
     refine Evs.done ?_
     rw [LF_step hlt]
     simp only [Bool.false_eq_true,false_iff]
     intro h
     have:=h.1.1.2 (by omega)
     omega
    ·simp only [if_neg (show ¬ lOff (rb l ((i:Int) - 1)) ≥ (Qb (rb l (i:Int)).f5 0).f0 from hc)]
     refine (ih (i+1) (by omega) (by omega) hv2).mono fun b hb3=>?_
     rw [hb3,LF_step hlt]
     exact ⟨fun h=>⟨⟨⟨hb,fun _=>by omega⟩,h.1⟩,h.2⟩,fun h=>⟨h.1.2,h.2⟩⟩
  ·have hb2:¬ vb (rb l i).f1 (rb l i).f2 (rb l i).f3 (rb l i).f4 (rb l i).f5=true:=fun h=>hb ((vb_vB (rb l i)).1 h)
   simp only [if_neg hb2]
   refine Evs.done ?_
   rw [LF_step hlt]
   simp only [Bool.false_eq_true,false_iff]
   exact fun h=>hb h.1.1.1
theorem specLog (l:List Bt) (hl:smallBs l):Ev (fun k=>Ql.f k l) (vl l):=by
 unfold Ql.f
 obtain ⟨b,h1,h2⟩:=specLog_loop l hl l.length 0 (by omega) (by omega) (fun j hj=>by omega)
 have:b=vl l:=vl_of (h2.trans ⟨fun h3=>⟨h3.2,h3.1⟩,fun h3=>⟨h3.2,h3.1⟩⟩)
 rw [← this]
 exact h1
theorem VL_at {l:List Bt} (h:VL l) (j:Nat) (hj:j < l.length):vB (rb l (j:Int)):=(h.2 j (Nat.zero_le _) hj).1
abbrev pr (l:List Bt) (i:Nat):Int:=(rb l (i:Int)).f2
abbrev mk (l:List Bt) (i:Nat):Bool:=(rb l (i:Int)).f1
def nm (l:List Bt):Nat→Nat→Option Nat
 | 0,_=>none
 | k+1,i=>match nm l k i with
  | some j=>some j
  | none=>if i < k∧mk l k=true∧pr l k=pr l i then some k else none
theorem nm_succ_some {l:List Bt} {k i j:Nat} (h:nm l k i=some j):nm l (k+1) i=some j:=by simp only [nm,h]
theorem nm_le {l:List Bt} {i j:Nat} : ∀ {k m:Nat},nm l k i=some j→k≤m→nm l m i=some j:=by
 intro k m h hk
 induction m with
 | zero=>
  have:k=0:=by omega
  subst this;exact h
 | succ m ih=>
  by_cases he:k=m+1
  ·subst he;exact h
  ·exact nm_succ_some (ih (by omega))
theorem nm_some {l:List Bt} {i j:Nat} : ∀ {k:Nat},nm l k i=some j→i < j∧j < k∧mk l j=true∧pr l j=pr l i
 | 0,h=>by simp [nm] at h
 | k+1,h=>by
  simp only [nm] at h
  cases hn:nm l k i with
  | some j'=>
   rw [hn] at h
   obtain rfl:=Option.some.inj h
   have:=nm_some hn
   exact ⟨this.1,by omega,this.2.2⟩
  | none=>
   rw [hn] at h
   dsimp only at h
   split at h
   ·rename_i hc
    obtain rfl:=Option.some.inj h
    exact ⟨hc.1,by omega,hc.2⟩
   ·cases h
theorem nm_self {l:List Bt} : ∀ {k i:Nat},k≤i+1→nm l k i=none
 | 0,_,_=>rfl
 | k+1,i,h=>by
  simp only [nm,nm_self (show k≤i+1 by omega)]
  rw [if_neg (by omega)]
def wAt (l:List Bt) (k i:Nat):Int:=if pr l i=255 then 1 else if mk l i=true then 3 else match nm l k i with
 | none=>0
 | some j=>if tellsP (rb l (j:Int))=true then 1 else 2
def bAt (l:List Bt) (k i:Nat):Int:=if pr l i=255 then -1 else if mk l i=true then -1 else match nm l k i with
 | none=>-1
 | some j=>(j:Int)
def opens (l:List Bt) (k i:Nat):Bool:=decide (pr l i≠255)&&(!mk l i&&(nm l k i).isNone)
theorem fold_fin (l:List Bt) (i:Nat):∀ (xs:List Nat) (s:FSt),(∀ x∈xs,x < s.ws.length∧x < s.bs.length) →
  (xs.foldl (fin1 l i) s).op=s.op++xs.filter (fun x=>decide (pr l x≠pr l i)) ∧
  (∀ y,(xs.foldl (fin1 l i) s).ws.getD y 0=if y∈xs∧pr l y=pr l i then (if tellsP (rb l (i:Int))=true then 1 else 2) else s.ws.getD y 0) ∧
  (∀ y,(xs.foldl (fin1 l i) s).bs.getD y 0=if y∈xs∧pr l y=pr l i then (i:Int) else s.bs.getD y 0)
 | [],s,_=>by simp
 | x::xs,s,h=>by
  have hx:=h x (by simp)
  by_cases hp:pr l x=pr l i
  ·have hf:fin1 l i s x=⟨s.ws.set x (if tellsP (rb l (i:Int))=true then 1 else 2),s.bs.set x (i:Int),s.op⟩:=if_pos hp
   have ih:=fold_fin l i xs (fin1 l i s x) (fun y hy=>by rw [hf];simpa using h y (by simp [hy]))
   rw [List.foldl_cons]
   rw [hf] at ih ⊢
   refine ⟨?_,fun y=>?_,fun y=>?_⟩
   ·rw [ih.1];simp [hp]
   ·rw [ih.2.1 y]
    by_cases hy:y=x
    ·subst hy
     simp [hp,List.getD_eq_getElem?_getD,List.getElem?_set_self hx.1]
    ·simp [hy,List.getD_eq_getElem?_getD,List.getElem?_set_ne (Ne.symm hy)]
   ·rw [ih.2.2 y]
    by_cases hy:y=x
    ·subst hy
     simp [hp,List.getD_eq_getElem?_getD,List.getElem?_set_self hx.2]
    ·simp [hy,List.getD_eq_getElem?_getD,List.getElem?_set_ne (Ne.symm hy)]
  ·have hf:fin1 l i s x=⟨s.ws,s.bs,s.op ++ [x]⟩:=if_neg hp
   have ih:=fold_fin l i xs (fin1 l i s x) (fun y hy=>by rw [hf];exact h y (by simp [hy]))
   rw [List.foldl_cons]
   rw [hf] at ih ⊢
   refine ⟨?_,fun y=>?_,fun y=>?_⟩
   ·rw [ih.1];simp [hp]
   ·rw [ih.2.1 y]
    by_cases hy:y=x
    ·subst hy;simp [hp]
    ·simp [hy]
   ·rw [ih.2.2 y]
    by_cases hy:y=x
    ·subst hy;simp [hp]
    ·simp [hy]
structure FP (l:List Bt) (k:Nat) (s:FSt):Prop where
 op:s.op=(List.range k).filter (opens l k)
 ws:∀ i,i < k→s.ws.getD i 0=wAt l k i
 wz:∀ i,k≤i→s.ws.getD i 0=0
 bs:∀ i,i < k→s.bs.getD i 0=bAt l k i
theorem nm_step {l:List Bt} {k i:Nat} (h:¬ (mk l k=true∧pr l k=pr l i)):nm l (k+1) i=nm l k i:=by
 cases hn:nm l k i with
 | some j=>exact nm_succ_some hn
 | none=>simp only [nm,hn];rw [if_neg (fun h2=>h h2.2)]
theorem FP_step {l:List Bt} {k:Nat} (hk:k < l.length) {s:FSt} (hok:FOk l.length k s) (h:FP l k s):FP l (k+1) (fstep l s k):=by
 have hlw:=hok.lw
 have hlb:=hok.lb
 have gs:∀ (a:List Int) (i x:Nat) (v:Int),x < a.length→(a.set x v).getD i 0=if i=x then v else a.getD i 0:=by
  intro a i x v hx
  by_cases hi:i=x
  ·subst hi;simp [List.getD_eq_getElem?_getD,List.getElem?_set_self hx]
  ·simp [hi,List.getD_eq_getElem?_getD,List.getElem?_set_ne (Ne.symm hi)]
 unfold fstep
 by_cases h255:pr l k=255
 ·rw [if_pos h255]
  have same:∀ i,pr l i≠255→nm l (k+1) i=nm l k i:=fun i hi=>nm_step (fun h2=>hi (h2.2.symm.trans h255))
  refine ⟨?_,fun i hi=>?_,fun i hi=>?_,fun i hi=>?_⟩
  ·dsimp only
   rw [h.op,List.range_succ,List.filter_append]
   have h1 : [k].filter (opens l (k+1)) = []:=by simp [opens,h255]
   rw [h1,List.append_nil]
   refine List.filter_congr (fun i hi=>?_)
   unfold opens
   by_cases hp:pr l i=255
   ·simp [hp]
   ·rw [same i hp]
  ·dsimp only
   rw [gs _ _ _ _ (by omega)]
   by_cases he:i=k
   ·rw [if_pos he,he];unfold wAt;rw [if_pos h255]
   ·rw [if_neg he,h.ws i (by omega)]
    unfold wAt
    by_cases hp:pr l i=255
    ·rw [if_pos hp,if_pos hp]
    ·rw [if_neg hp,if_neg hp,same i hp]
  ·dsimp only
   rw [gs _ _ _ _ (by omega),if_neg (by omega)]
   exact h.wz i (by omega)
  ·dsimp only
   rw [gs _ _ _ _ (by omega)]
   by_cases he:i=k
   ·rw [if_pos he,he];unfold bAt;rw [if_pos h255]
   ·rw [if_neg he,h.bs i (by omega)]
    unfold bAt
    by_cases hp:pr l i=255
    ·rw [if_pos hp,if_pos hp]
    ·rw [if_neg hp,if_neg hp,same i hp]
 ·rw [if_neg h255]
  by_cases hm:mk l k=false
  ·rw [if_pos hm]
   have same:∀ i,nm l (k+1) i=nm l k i:=fun i=>nm_step (fun h2=>by rw [hm] at h2;cases h2.1)
   have hk0:nm l (k+1) k=none:=nm_self (Nat.le_refl _)
   refine ⟨?_,fun i hi=>?_,fun i hi=>?_,fun i hi=>?_⟩
   ·dsimp only
    rw [h.op,List.range_succ,List.filter_append]
    have h1 : [k].filter (opens l (k+1)) = [k]:=by simp [opens,h255,hm,hk0]
    rw [h1]
    congr 1
    refine List.filter_congr (fun i hi=>?_)
    unfold opens
    rw [same i]
   ·dsimp only
    by_cases he:i=k
    ·rw [he,h.wz k (Nat.le_refl _)]
     unfold wAt
     rw [if_neg h255,if_neg (by rw [hm];simp),hk0]
    ·rw [h.ws i (by omega)]
     unfold wAt
     rw [same i]
   ·dsimp only
    exact h.wz i (by omega)
   ·dsimp only
    rw [gs _ _ _ _ (by omega)]
    by_cases he:i=k
    ·rw [if_pos he,he];unfold bAt;rw [if_neg h255,if_neg (by rw [hm];simp),hk0]
    ·rw [if_neg he,h.bs i (by omega)]
     unfold bAt
     rw [same i]
  ·have hm' : mk l k=true:=by simpa using hm
   rw [if_neg hm]
   have hop:∀ x,x∈s.op↔x < k∧pr l x≠255∧mk l x=false∧nm l k x=none:=by
    intro x
    rw [h.op,List.mem_filter,List.mem_range]
    simp [opens]
   have hF:=fold_fin l k s.op ⟨s.ws.set k 3,s.bs.set k (-1),[]⟩ (fun x hx=>by
    have:=hok.op x hx
    simp only [List.length_set]
    omega)
   dsimp only at hF
   have hn:∀ i,i < k→nm l (k+1) i=match nm l k i with|some j=>some j|none=>if pr l k=pr l i then some k else none:=by
    intro i hi
    simp only [nm]
    cases nm l k i with
    | some j=>rfl
    | none=>simp [hi,hm']
   refine ⟨?_,fun i hi=>?_,fun i hi=>?_,fun i hi=>?_⟩
   ·rw [hF.1,List.nil_append,h.op,List.range_succ,List.filter_append,List.filter_filter]
    have h1 : [k].filter (opens l (k+1)) = []:=by simp [opens,hm']
    rw [h1,List.append_nil]
    refine List.filter_congr (fun i hi=>?_)
    rw [List.mem_range] at hi
    unfold opens
    rw [hn i hi]
    cases hni:nm l k i with
    | some j=>simp
    | none=>
     by_cases hp:pr l k=pr l i
     ·simp [hp]
     ·have hp2:¬ pr l i=pr l k:=fun e=>hp e.symm
      simp [hp,hp2]
   ·rw [hF.2.1 i]
    by_cases he:i=k
    ·subst he
     rw [if_neg (by rw [hop];omega),gs _ _ _ _ (by omega),if_pos rfl]
     unfold wAt
     rw [if_neg h255,if_pos hm']
    ·have hik:i < k:=by omega
     rw [gs _ _ _ _ (by omega),if_neg he,h.ws i hik]
     unfold wAt
     by_cases hp:pr l i=255
     ·rw [if_neg (by rw [hop];exact fun h2=>h2.1.2.1 hp),if_pos hp,if_pos hp]
     ·rw [if_neg hp,if_neg hp]
      by_cases hmi:mk l i=true
      ·rw [if_neg (by rw [hop];intro h2;rw [hmi] at h2;cases h2.1.2.2.1),if_pos hmi,if_pos hmi]
      ·rw [if_neg hmi,if_neg hmi,hn i hik]
       cases hni:nm l k i with
       | some j=>rw [if_neg (by rw [hop,hni];intro h2;cases h2.1.2.2.2)]
       | none=>
        by_cases hpk:pr l i=pr l k
        ·rw [if_pos ⟨(hop i).2 ⟨hik,hp,by simpa using hmi,hni⟩,hpk⟩]
         simp [hpk]
        ·rw [if_neg (fun h2=>hpk h2.2)]
         have hp2:¬ pr l k=pr l i:=fun e=>hpk e.symm
         simp [hp2]
   ·rw [hF.2.1 i,if_neg (by rw [hop];omega),gs _ _ _ _ (by omega),if_neg (by omega)]
    exact h.wz i (by omega)
   ·rw [hF.2.2 i]
    by_cases he:i=k
    ·subst he
     rw [if_neg (by rw [hop];omega),gs _ _ _ _ (by omega),if_pos rfl]
     unfold bAt
     rw [if_neg h255,if_pos hm']
    ·have hik:i < k:=by omega
     rw [gs _ _ _ _ (by omega),if_neg he,h.bs i hik]
     unfold bAt
     by_cases hp:pr l i=255
     ·rw [if_neg (by rw [hop];exact fun h2=>h2.1.2.1 hp),if_pos hp,if_pos hp]
     ·rw [if_neg hp,if_neg hp]
      by_cases hmi:mk l i=true
      ·rw [if_neg (by rw [hop];intro h2;rw [hmi] at h2;cases h2.1.2.2.1),if_pos hmi,if_pos hmi]
      ·rw [if_neg hmi,if_neg hmi,hn i hik]
       cases hni:nm l k i with
       | some j=>rw [if_neg (by rw [hop,hni];intro h2;cases h2.1.2.2.2)]
       | none=>
        by_cases hpk:pr l i=pr l k
        ·rw [if_pos ⟨(hop i).2 ⟨hik,hp,by simpa using hmi,hni⟩,hpk⟩]
         simp [hpk]
        ·rw [if_neg (fun h2=>hpk h2.2)]
         have hp2:¬ pr l k=pr l i:=fun e=>hpk e.symm
         simp [hp2]
theorem FP_all (l:List Bt):∀ k,k≤l.length→FP l k (fatesTo l k)
 | 0,_=>⟨by simp [fatesTo,fates0],fun i h=>by omega,fun i h=>by simp [fatesTo,fates0,List.getD_eq_getElem?_getD,List.getElem?_replicate];split <;> rfl,fun i h=>by omega⟩
 | k+1,h=>by
  rw [fatesTo_succ]
  exact FP_step (by omega) (fates_ok l k (by omega)) (FP_all l k (by omega))
theorem fates_len (l:List Bt):(fatesTo l l.length).ws.length=l.length∧(fatesTo l l.length).bs.length=l.length:=⟨(fates_ok l _ (Nat.le_refl _)).lw,(fates_ok l _ (Nat.le_refl _)).lb⟩
theorem fates_w (l:List Bt) (i:Nat) (h:i < l.length):rd (fatesTo l l.length).ws (i:Int)=wAt l l.length i:=by
 have:=(FP_all l l.length (Nat.le_refl _)).ws i h
 unfold rd
 rwa [Int.toNat_natCast]
theorem fates_b (l:List Bt) (i:Nat) (h:i < l.length):rd (fatesTo l l.length).bs (i:Int)=bAt l l.length i:=by
 have:=(FP_all l l.length (Nat.le_refl _)).bs i h
 unfold rd
 rwa [Int.toNat_natCast]
theorem fates_fit {l:List Bt} (h:VL l):Rb.f l=some ((fatesTo l l.length).ws,(fatesTo l l.length).bs):=by
 unfold Rb.f
 rw [if_pos]
 unfold fatesFit
 rw [Bool.and_eq_true,decide_eq_true_eq,List.all_eq_true]
 refine ⟨by have:=h.1;omega,fun b hb=>?_⟩
 obtain ⟨j,hj,rfl⟩:=List.getElem_of_mem hb
 have:=(vB_pos (VL_at h j hj)).1
 rw [rb_nat l j hj] at this
 exact decide_eq_true (by omega)
end Go.Proofs.Yticpnjhkdfdkkaa.Q
namespace Go.Proofs.Yticpnjhkdfdkkaa.T
open Go.RowKit Go.Proofs.YticpnjhkdfdkkaaW.PrintWords Go.Proofs.YticpnjhkdfdkkaaW.PrintLast Go.Proofs.YticpnjhkdfdkkaaW.PrintMore

set_option linter.unusedVariables false
set_option linter.unusedSimpArgs false
end Go.Proofs.Yticpnjhkdfdkkaa.T
namespace Go.Proofs.Yticpnjhkdfdkkaa.T
open Go.RowKit Go.Proofs.YticpnjhkdfdkkaaW.PrintWords Go.Proofs.YticpnjhkdfdkkaaW.PrintLast Go.Proofs.YticpnjhkdfdkkaaW.PrintMore

set_option linter.unusedVariables false
set_option linter.unusedSimpArgs false

set_option linter.unusedVariables false
set_option linter.unusedSimpArgs false

set_option linter.unusedVariables false
set_option linter.unusedSimpArgs false
end Go.Proofs.Yticpnjhkdfdkkaa.T
namespace Go.Proofs.Yticpnjhkdfdkkaa.Q
open Go.RowKit Go.Proofs.Yticpnjhkdfdkkaa.T Go.Proofs.YticpnjhkdfdkkaaW.PrintWords Go.Proofs.YticpnjhkdfdkkaaW.PrintLast
set_option linter.unusedVariables false
set_option linter.unusedSimpArgs false
def nmI:Option Nat→Int
 | none=>-1
 | some j=>(j:Int)
theorem specMark_loop (l:List Bt) (hl:l.length≤2000000) (i:Nat) (hi:i < l.length):∀ (d j:Nat),l.length - j=d→i < j→j≤l.length→nm l j i=none→Ev (fun k=>Qw.l0 k l (i:Int) (j:Int)) (nmI (nm l l.length i)):=by
 intro d
 induction d with
 | zero=>
  intro j hd h1 h2 hn
  have hj:j=l.length:=by omega
  subst hj
  refine ev_succ ?_
  simp only [Qw.l0,if_neg (show ¬ (l.length:Int) < (l.length:Int) by omega),hn]
  exact ev_some _
 | succ d ih=>
  intro j hd h1 h2 hn
  have e1:wrap64 ((j:Int)+1)=((j+1:Nat):Int):=by rw [wrap_id (by omega) (by omega)];omega
  refine ev_succ ?_
  simp only [Qw.l0,if_pos (show (j:Int) < (l.length:Int) by omega),if_pos (show (0:Int)≤(j:Int) by omega),e1]
  have next:¬ (mk l j=true∧pr l j=pr l i)→Ev (fun k=>Qw.l0 k l (i:Int) ((j+1:Nat):Int)) (nmI (nm l l.length i)):=fun h=>ih (j+1) (by omega) (by omega) (by omega) (by rw [nm_step h];exact hn)
  by_cases hm:mk l j=true
  ·simp only [if_pos (show (Qa l (j:Int)).f1=true from hm),if_pos (show (0:Int)≤(i:Int) by omega),if_pos (show (i:Int) < (l.length:Int) by omega)]
   by_cases hp:pr l j=pr l i
   ·simp only [if_pos (show (Qa l (j:Int)).f2=(Qa l (i:Int)).f2 from hp)]
    have h3:nm l (j+1) i=some j:=by simp only [nm,hn];rw [if_pos ⟨h1,hm,hp⟩]
    rw [nm_le h3 (by omega)]
    exact ev_some _
   ·simp only [if_neg (show ¬ (Qa l (j:Int)).f2=(Qa l (i:Int)).f2 from hp)]
    exact next (fun h=>hp h.2)
  ·simp only [if_neg (show ¬ (Qa l (j:Int)).f1=true from hm)]
   exact next (fun h=>hm h.1)
theorem specMarkAt (l:List Bt) (hl:l.length≤2000000) (i:Nat) (hi:i < l.length):Ev (fun k=>Qw.f k l (i:Int)) (nmI (nm l l.length i)):=by
 unfold Qw.f
 have e1:wrap64 ((i:Int)+1)=((i+1:Nat):Int):=by rw [wrap_id (by omega) (by omega)];omega
 rw [e1]
 exact specMark_loop l hl i hi _ (i+1) rfl (by omega) (by omega) (nm_self (Nat.le_refl _))
theorem ours_eq (b:Bt):Rm.f b.f0 b.f1 b.f2 b.f3 b.f4 b.f5=some (decide (b.f2≠255) && !b.f1):=by
 unfold Rm.f
 by_cases h:b.f2=255
 ·rw [if_pos h];simp [h]
 ·rw [if_neg h];simp [h]
theorem vl_true {l:List Bt} (h:VL l):vl l=true:=(vl_iff l).2 h
theorem vl_false {l:List Bt} (h:¬ VL l):vl l=false:=by rw [← Bool.not_eq_true,vl_iff];exact h
end Go.Proofs.Yticpnjhkdfdkkaa.Q
namespace Go.Proofs.Yticpnjhkdfdkkaa.T
open Go.RowKit Go.Proofs.YticpnjhkdfdkkaaW.PrintWords Go.Proofs.YticpnjhkdfdkkaaW.PrintLast Go.Proofs.YticpnjhkdfdkkaaW.PrintMore

set_option linter.unusedVariables false
set_option linter.unusedSimpArgs false
theorem eqA46 (d:Nat) (w:World) (x0 y0:Int) (x1 y1:Int) (x2 y2:Int) :
  (Op.equalIn (d+2) 46 (.agg #[.int .i64 x0,.int .i64 x1,.int .i64 x2]) (.agg #[.int .i64 y0,.int .i64 y1,.int .i64 y2])).run Try.prog w = .ok (x0==y0&&(x1==y1&&(x2==y2))) w:=by
 refine eqA_of Try.underlying46 (by kernel_rfl) ?_;refine eqf_cons (by rfl) (by go_simp;rfl) (by go_simp;rfl) (by go_simp) ?_;refine eqf_cons (by rfl) (by go_simp;rfl) (by go_simp;rfl) (by go_simp) ?_;exact eqf_last (by rfl) (by go_simp;rfl) (by go_simp;rfl) (by go_simp)

set_option linter.unusedVariables false
set_option linter.unusedSimpArgs false
attribute [local go_sem high] eqA46
end Go.Proofs.Yticpnjhkdfdkkaa.T
namespace Go.Proofs.Yticpnjhkdfdkkaa.Q
open Go.RowKit Go.Proofs.Yticpnjhkdfdkkaa.T Go.Proofs.YticpnjhkdfdkkaaW.PrintWords Go.Proofs.YticpnjhkdfdkkaaW.PrintLast
set_option linter.unusedVariables false
set_option linter.unusedSimpArgs false
abbrev Un:=S46
def fsA (l:List Bt) (i:Nat):Nat→Bool
 | 0=>true
 | m+1=>if pr l m=pr l i then mk l m else fsA l i m
def uAt (l:List Bt) (i:Nat):Option Un:=match nm l l.length i with
 | some j=>if (pr l i≠255∧mk l i=false)∧tellsP (rb l (j:Int))=false∧fsA l i i=true then some ⟨pr l i,fOff (rb l (i:Int)),fOff (rb l (j:Int))⟩ else none
 | none=>none
def undTo (l:List Bt) (i:Nat):List Un:=(List.range i).filterMap (uAt l)
theorem undTo_succ (l:List Bt) (i:Nat):undTo l (i+1)=undTo l i++(match uAt l i with|some u=>[u]|none=>[]):=by
 unfold undTo
 rw [List.range_succ,List.filterMap_append]
 congr 1
 cases h:uAt l i <;> simp [h]
theorem undTo_len (l:List Bt) (i:Nat):(undTo l i).length≤i:=by
 have:=List.length_filterMap_le (uAt l) (List.range i)
 rwa [List.length_range] at this
theorem uAt_w (l:List Bt) (i:Nat) (h:wAt l l.length i≠2):uAt l i=none:=by
 unfold uAt
 unfold wAt at h
 cases hn:nm l l.length i with
 | none=>rfl
 | some j=>
  rw [hn] at h
  dsimp only
  refine if_neg (fun hc=>h ?_)
  rw [if_neg hc.1.1,if_neg (by rw [hc.1.2];simp)]
  dsimp only
  rw [if_neg (by rw [hc.2.1];simp)]
theorem wAt_two {l:List Bt} {i:Nat} (h:wAt l l.length i=2):∃ j,nm l l.length i=some j∧(pr l i≠255∧mk l i=false)∧tellsP (rb l (j:Int))=false∧bAt l l.length i=(j:Int):=by
 unfold wAt at h
 unfold bAt
 by_cases h1:pr l i=255
 ·rw [if_pos h1] at h;omega
 ·rw [if_neg h1] at h
  by_cases h2:mk l i=true
  ·rw [if_pos h2] at h;omega
  ·rw [if_neg h2] at h
   cases hn:nm l l.length i with
   | none=>rw [hn] at h;dsimp only at h;omega
   | some j=>
    rw [hn] at h
    dsimp only at h
    by_cases h3:tellsP (rb l (j:Int))=true
    ·rw [if_pos h3] at h;omega
    ·exact ⟨j,rfl,⟨h1,by simpa using h2⟩,by simpa using h3,by rw [if_neg h1,if_neg h2]⟩
theorem implU_l1 (l:List Bt) (hl:l.length≤2000000) (i:Nat) (hi:i < l.length) (o:List Un) (ws bs:List Int) (R:List Un) (hR:Ev (fun k=>Qc.j2 k l o (i:Int) (fsA l i i) l (l.length:Int) (i:Int) ws bs (rb l i).f0 (rb l i).f1 (rb l i).f2 (rb l i).f3 (rb l i).f4 (rb l i).f5) R) :
  ∀ m:Nat,m≤i→fsA l i m=fsA l i i→Ev (fun k=>Qc.l1 k l o (i:Int) true ((m:Int) - 1) l (l.length:Int) (i:Int) ws bs (rb l i).f0 (rb l i).f1 (rb l i).f2 (rb l i).f3 (rb l i).f4 (rb l i).f5) R:=by
 intro m
 induction m with
 | zero=>
  intro _ hf
  refine ev_succ ?_
  simp only [Qc.l1,if_neg (show ¬ ((0:Nat):Int) - 1 ≥ 0 by omega)]
  rw [← hf] at hR
  exact hR
 | succ m ih=>
  intro hm hf
  have e0:((m+1:Nat):Int) - 1=(m:Int):=by omega
  have e1:wrap64 ((m:Int) - 1)=(m:Int) - 1:=wrap_id (by omega) (by omega)
  rw [e0]
  refine ev_succ ?_
  simp only [Qc.l1,if_pos (show (m:Int) ≥ 0 by omega),if_pos (show (0:Int)≤(m:Int) by omega),if_pos (show (m:Int) < (l.length:Int) by omega),e1]
  by_cases hp:pr l m=pr l i
  ·simp only [if_pos (show (Qa l (m:Int)).f2=(rb l (i:Int)).f2 from hp)]
   have:fsA l i (m+1)=mk l m:=if_pos hp
   rw [← hf,this] at hR
   exact hR
  ·simp only [if_neg (show ¬ (Qa l (m:Int)).f2=(rb l (i:Int)).f2 from hp)]
   have:fsA l i (m+1)=fsA l i m:=if_neg hp
   exact ih (by omega) (by rw [← this];exact hf)
theorem implU_loop (l:List Bt) (hl:smallBs l) (h:VL l):∀ (d i:Nat),l.length - i=d→i≤l.length→Ev (fun k=>Qc.l0 k l (undTo l i) l (l.length:Int) (i:Int) (fatesTo l l.length).ws (fatesTo l l.length).bs) (undTo l l.length):=by
 have hs:=hl.1
 have hlw:=(fates_len l).1
 have hlb:=(fates_len l).2
 intro d
 induction d with
 | zero=>
  intro i hd hi
  have he:i=l.length:=by omega
  subst he
  refine ev_succ ?_
  simp only [Qc.l0,if_neg (show ¬ (l.length:Int) < (l.length:Int) by omega)]
  exact ev_some _
 | succ d ih=>
  intro i hd hi
  have hlt:i < l.length:=by omega
  have e1:wrap64 ((i:Int)+1)=((i+1:Nat):Int):=by rw [wrap_id (by omega) (by omega)];omega
  have e2:wrap64 ((i:Int) - 1)=(i:Int) - 1:=wrap_id (by omega) (by omega)
  have hnext:=ih (i+1) (by omega) (by omega)
  have hol:=undTo_len l i
  refine ev_succ ?_
  simp only [Qc.l0,if_pos (show (i:Int) < (l.length:Int) by omega),if_pos (show (0:Int)≤(i:Int) by omega),hlw,fates_w l i hlt,e1,e2]
  by_cases hw:wAt l l.length i=2
  ·obtain ⟨j,hj,hij,ht,hb⟩:=wAt_two hw
   have hjl:=nm_some hj
   simp only [if_pos hw]
   refine implU_l1 l hs i hlt _ _ _ _ ?_ i (Nat.le_refl _) rfl
   refine ev_succ ?_
   have hu:uAt l i=if fsA l i i=true then some ⟨pr l i,fOff (rb l (i:Int)),fOff (rb l (j:Int))⟩ else none:=by
    unfold uAt
    rw [hj]
    dsimp only
    by_cases hf:fsA l i i=true
    ·rw [if_pos ⟨hij,ht,hf⟩,if_pos hf]
    ·rw [if_neg (fun h2=>hf h2.2.2),if_neg hf]
   rw [undTo_succ,hu] at hnext
   by_cases hf:fsA l i i=true
   ·have f1:=first_eq (VL_at h i hlt)
    have f2:=first_eq (VL_at h j hjl.2.1)
    simp only [Qc.j2,hf,if_true,f1,bsome,hlb,fates_b l i hlt,hb,if_pos (show (0:Int)≤(i:Int) by omega),if_pos (show (i:Int) < (l.length:Int) by omega),if_pos (show (0:Int)≤(j:Int) by omega),if_pos (show (j:Int) < (l.length:Int) by omega),e1]
    rw [show (Qa l (j:Int))=rb l (j:Int) from rfl,f2]
    simp only [bsome,if_pos (show (undTo l i).length < 5864062014805 by omega)]
    rw [hf] at hnext
    exact hnext
   ·simp only [Qc.j2,show fsA l i i=false by simpa using hf,Bool.false_eq_true,if_false,e1]
    rw [if_neg hf] at hnext
    simpa using hnext
  ·simp only [if_neg hw]
   rw [undTo_succ,uAt_w l i hw] at hnext
   simpa using hnext
noncomputable def und (l:List Bt):List Un:=if vl l=true then undTo l l.length else []
theorem implUnd (l:List Bt) (hl:smallBs l):Ev (fun k=>Qc.f k l) (und l):=by
 unfold Qc.f und
 simp only [bsome]
 refine Ev.bind (implLog l hl) ?_
 by_cases h:VL l
 ·rw [vl_true h]
  simp only [if_true,fates_fit h,bsome]
  exact implU_loop l hl h l.length 0 (by omega) (by omega)
 ·rw [vl_false h]
  simp only [Bool.false_eq_true,if_false]
  exact ev_some _
theorem specFirst (l:List Bt) (hl:l.length≤2000000) (i:Nat) (hi:i < l.length):Ev (fun k=>Q1.f k l (i:Int)) (fsA l i i):=by
 have e2:wrap64 ((i:Int) - 1)=(i:Int) - 1:=wrap_id (by omega) (by omega)
 unfold Q1.f
 rw [e2]
 have:∀ m:Nat,m≤i→Ev (fun k=>Q1.l0 k l (i:Int) ((m:Int) - 1)) (fsA l i m):=by
  intro m
  induction m with
  | zero=>
   intro _
   refine ev_succ ?_
   simp only [Q1.l0,if_neg (show ¬ ((0:Nat):Int) - 1 ≥ 0 by omega)]
   exact ev_some _
  | succ m ih=>
   intro hm
   have e0:((m+1:Nat):Int) - 1=(m:Int):=by omega
   have e1:wrap64 ((m:Int) - 1)=(m:Int) - 1:=wrap_id (by omega) (by omega)
   rw [e0]
   refine ev_succ ?_
   simp only [Q1.l0,if_pos (show (m:Int) ≥ 0 by omega),if_pos (show (0:Int)≤(m:Int) by omega),if_pos (show (m:Int) < (l.length:Int) by omega),if_pos (show (0:Int)≤(i:Int) by omega),if_pos (show (i:Int) < (l.length:Int) by omega),e1]
   by_cases hp:pr l m=pr l i
   ·simp only [if_pos (show (Qa l (m:Int)).f2=(Qa l (i:Int)).f2 from hp)]
    rw [show fsA l i (m+1)=mk l m from if_pos hp]
    exact ev_some _
   ·simp only [if_neg (show ¬ (Qa l (m:Int)).f2=(Qa l (i:Int)).f2 from hp)]
    rw [show fsA l i (m+1)=fsA l i m from if_neg hp]
    exact ih (by omega)
 exact this i (Nat.le_refl _)
theorem fine_eq {b:Bt} (h:vB b):Ri.f b.f0 b.f1 b.f2 b.f3 b.f4 b.f5=some (tellsP b):=by
 have hp:=vB_pos h
 unfold Ri.f tellsP
 rw [if_pos (show 0 < (b.f5.length:Int) by omega)]
 generalize (Qb b.f5 0).f5=v
 by_cases hl:(v.length:Int)=1
 ·rw [if_pos hl,if_pos (show 0 < (v.length:Int) by omega)]
  obtain ⟨x,rfl⟩:∃ x,v = [x]:=List.length_eq_one_iff.1 (by omega)
  simp [rd]
  rfl
 ·rw [if_neg hl,decide_eq_false (fun e=>hl (by rw [e];rfl))]
theorem specU_loop (l:List Bt) (hl:smallBs l) (h:VL l):∀ (d i:Nat),l.length - i=d→i≤l.length→Ev (fun k=>Qe.l0 k l (undTo l i) (i:Int)) (undTo l l.length):=by
 have hs:=hl.1
 intro d
 induction d with
 | zero=>
  intro i hd hi
  have he:i=l.length:=by omega
  subst he
  refine ev_succ ?_
  simp only [Qe.l0,if_neg (show ¬ (l.length:Int) < (l.length:Int) by omega)]
  refine ev_succ ?_
  simp only [Qe.j1,Bool.false_eq_true,if_false]
  exact ev_some _
 | succ d ih=>
  intro i hd hi
  have hlt:i < l.length:=by omega
  have e1:wrap64 ((i:Int)+1)=((i+1:Nat):Int):=by rw [wrap_id (by omega) (by omega)];omega
  have hnext:=ih (i+1) (by omega) (by omega)
  have hol:=undTo_len l i
  have f:=ours_eq (rb l (i:Int))
  rw [undTo_succ] at hnext
  have skip:uAt l i=none→Ev (fun k=>Qe.j2 k l (undTo l i) (i:Int) true) (undTo l l.length):=by
   intro hu
   refine ev_succ ?_
   simp only [Qe.j2,if_true,e1]
   rw [hu] at hnext
   simpa using hnext
  refine ev_succ ?_
  simp only [Qe.l0,if_pos (show (i:Int) < (l.length:Int) by omega)]
  refine Ev.bind (specLog l hl) ?_
  rw [vl_true h]
  refine ev_succ ?_
  simp only [Qe.j1,if_true,if_pos (show (0:Int)≤(i:Int) by omega),if_pos (show (i:Int) < (l.length:Int) by omega)]
  rw [show (Qa l (i:Int))=rb l (i:Int) from rfl,f]
  simp only [bsome]
  by_cases hu:(decide ((rb l (i:Int)).f2≠255) && !(rb l (i:Int)).f1)=true
  ·simp only [if_pos hu]
   have hu2:pr l i≠255∧mk l i=false:=by simpa using hu
   refine Ev.bind (specFirst l hs i hlt) ?_
   by_cases hf:fsA l i i=true
   ·rw [hf]
    refine ev_succ ?_
    simp only [Qe.j2,Bool.not_true,Bool.false_eq_true,if_false,e1]
    refine Ev.bind (specMarkAt l hs i hlt) ?_
    cases hn:nm l l.length i with
    | none=>
     have hua:uAt l i=none:=by unfold uAt;rw [hn]
     simp only [nmI,if_neg (show ¬ (-1:Int) ≥ 0 by omega)]
     rw [hua] at hnext
     simpa using hnext
    | some j=>
     have hjl:=nm_some hn
     have f2:Ri.f (Qa l (j:Int)).f0 (Qa l (j:Int)).f1 (Qa l (j:Int)).f2 (Qa l (j:Int)).f3 (Qa l (j:Int)).f4 (Qa l (j:Int)).f5=some (tellsP (rb l (j:Int))):=fine_eq (VL_at h j hjl.2.1)
     have p1:=(vB_pos (VL_at h i hlt)).1
     have p2:=(vB_pos (VL_at h j hjl.2.1)).1
     simp only [nmI,if_pos (show (j:Int) ≥ 0 by omega),if_pos (show (0:Int)≤(j:Int) by omega),if_pos (show (j:Int) < (l.length:Int) by omega)]
     simp only [f2,bsome]
     by_cases ht:tellsP (rb l (j:Int))=true
     ·have hua:uAt l i=none:=by unfold uAt;rw [hn];exact if_neg (fun h2=>by rw [ht] at h2;cases h2.2.1)
      simp only [if_pos ht]
      simp only [if_pos (show (j:Int) ≥ 0 by omega),if_pos (show (0:Int)≤(j:Int) by omega),if_pos (show (j:Int) < (l.length:Int) by omega)]
      rw [hua] at hnext
      simpa using hnext
     ·have hua:uAt l i=some ⟨pr l i,fOff (rb l (i:Int)),fOff (rb l (j:Int))⟩:=by unfold uAt;rw [hn];exact if_pos ⟨hu2,by simpa using ht,hf⟩
      simp only [if_neg ht,if_pos (show (0:Int)≤(i:Int) by omega),if_pos (show (i:Int) < (l.length:Int) by omega),if_pos (show 0 < ((rb l (i:Int)).f5.length:Int) by omega),if_pos (show 0 < ((Qa l (j:Int)).f5.length:Int) by have : 1≤(Qa l (j:Int)).f5.length:=p2;omega),if_pos (show (undTo l i).length < 5864062014805 by omega)]
      simp only [if_pos (show (j:Int) ≥ 0 by omega),if_pos (show (0:Int)≤(j:Int) by omega),if_pos (show (j:Int) < (l.length:Int) by omega)]
      rw [hua] at hnext
      exact hnext
   ·rw [show fsA l i i=false by simpa using hf]
    refine skip ?_
    unfold uAt
    cases nm l l.length i with
    | none=>rfl
    | some j=>exact if_neg (fun h2=>hf h2.2.2)
  ·simp only [if_neg hu]
   refine skip ?_
   unfold uAt
   cases nm l l.length i with
   | none=>rfl
   | some j=>exact if_neg (fun h2=>hu (by simp [h2.1.1,h2.1.2]))
theorem specUnd (l:List Bt) (hl:smallBs l):Ev (fun k=>Qe.f k l) (und l):=by
 unfold Qe.f und
 by_cases h:VL l
 ·rw [vl_true h]
  simp only [if_true]
  exact specU_loop l hl h l.length 0 (by omega) (by omega)
 ·rw [vl_false h]
  simp only [Bool.false_eq_true,if_false]
  refine ev_succ ?_
  have stop:Ev (fun k=>Qe.j1 k l [] 0 false) []:=by
   refine ev_succ ?_
   simp only [Qe.j1,Bool.false_eq_true,if_false]
   exact ev_some _
  by_cases h0:(0:Int) < (l.length:Int)
  ·simp only [Qe.l0,if_pos h0]
   refine Ev.bind (specLog l hl) ?_
   rw [vl_false h]
   exact stop
  ·simp only [Qe.l0,if_neg h0]
   exact stop
end Go.Proofs.Yticpnjhkdfdkkaa.Q
