/- The law FnExactStateOf holds (part 5 of 6; merged by pack2.py). -/
import Derived.Deep.Slices
import Derived.ChangeArms
import Derived.ProofKit
import Derived.Test.YtppaknpjgkaciaaFnExactStateOfK3
set_option maxRecDepth 1000000
open List (setIfInBounds_toArray set_cons_zero set_cons_succ map_toArray map_cons map_nil length_drop length_take)
namespace Go.Proofs.Ytppaknpjgkaciaa.T
open Go.RowKit Go.Proofs.YtppaknpjgkaciaaW.PrintWords Go.Proofs.YtppaknpjgkaciaaW.PrintLast Go.Proofs.YtppaknpjgkaciaaW.PrintMore

set_option linter.unusedVariables false
set_option linter.unusedSimpArgs false
def Qm.l0:Nat→List (S39)→List (S39)→Int→Option (Bool)
 | 0,_,_,_=>none
 | k+1,x0,x1,x5=>if x5 < (x0.length:Int) then (if 0≤x5 then (if x5 < (x1.length:Int) then ((Rs.f k ((Qa x0 x5).f0) ((Qa x0 x5).f1) ((Qa x0 x5).f2) ((Qa x0 x5).f3) ((Qa x0 x5).f4) ((Qa x0 x5).f5) ((Qa x1 x5).f0) ((Qa x1 x5).f1) ((Qa x1 x5).f2) ((Qa x1 x5).f3) ((Qa x1 x5).f4) ((Qa x1 x5).f5)).bind fun t289=>(if t289=true then (Qm.l0 k x0 x1 (wrap64 (x5+1))) else (some false))) else (none)) else (none)) else (some true)
def Qm.f (k:Nat) (l0:List (S39)) (l1:List (S39)):Option (Bool):=if (l0.length:Int)=(l1.length:Int) then (Qm.l0 k l0 l1 0) else (some false)
def Qm.T6:Bool×List (List Nat×List Nat):=(true,[([],[]),([],[]),([0,1],[0,1]),([2],[2]),([],[]),([],[]),([4,5],[4,5]),([6],[6]),([3,7],[3,7]),([8],[8])])
def Qm.B6:List Nat:=[0,0,3,7,0,0,48,112,255,511]
theorem Qm.tab6:rtab .any (opsOf Try.f9 6)=Qm.T6:=by kernel_rfl
theorem Qm.bits6:waitsOk Qm.T6.2 Qm.B6=true:=by kernel_rfl
set_option maxHeartbeats 8000000 in
theorem Qm.calls (k:Nat) (A0:Option Addr) (c0:Nat) (l0:List (S39)) (A1:Option Addr) (c1:Nat) (l1:List (S39)) (r:Bool) (w:World) (g9:Kd.C k39 w A0 l0.length l0) (h0:l0.length≤c0) (h1:Kd.C k39 w A1 l1.length l1) (h2:l1.length≤c1) (h:Qm.f k l0 l1=some r) :
  Calls Try.prog 9 #[.slice A0 l0.length c0,.slice A1 l1.length c1] w fun e w'=>e = .returned (.bool r)∧Below w.heap.size w w':=by
 have hu39:=Try.underlying39;have h3:=zzm g9;have h9:=zzm h0;clear g9 h0;have h4:=zzm h1;have j2:=zzm h2;clear h1 h2;have HB:=zzm (Below.refl w.heap.size w);have H:(if (l0.length:Int)=(l1.length:Int) then (Qm.l0 k l0 l1 0) else (some false))=some r:=h;clear h;by_cases c3:(l0.length:Int)=(l1.length:Int)
 ·
  rw [if_pos c3] at H;obtain ⟨g6,g7⟩:=zzQ c3;have g8:(l0.length==l1.length)=true:=by first|simpa using c3|(simp at c3 ⊢;omega)
  clear c3;have H':=zzm H;clear H;go_enter Try.func9,Try.ntmps9;go_wp2;go_loopg [5] k (fun kq v5 w'=>∃ (a0:Int),v5 = .int .i64 a0∧Aside0 (Qm.l0 kq l0 l1 a0=some r)∧Aside0 (kq≤k)∧Aside0 (Below w.heap.size w w'))
  case atStart=>exact ⟨(0),(by first|rfl|(simp;done)|(simp [*];done)),H',⟨Nat.le_refl _⟩,⟨zzh1⟩⟩
  case round=>
   clear H';try clear c1
   try clear p2
   try clear c3
   try clear g6
   try clear g7
   try clear g8
   obtain ⟨a0,rfl,HA,HK1,HB⟩:=hrel;cases gk with
   | zero=>exact absurd HA.out (by simp [Qm.l0])
   | succ k1=>
    have H:=HA.out;clear HA;simp only [Qm.l0] at H;by_cases c4:a0 < (l0.length:Int)
    ·
     rw [if_pos c4] at H;have h5:decide (a0 < (l0.length:Int))=true:=decide_eq_true c4;clear c4;by_cases c5 : 0≤a0
     ·
      rw [if_pos c5] at H;have h7:decide (0≤a0)=true:=decide_eq_true c5;clear c5;by_cases c6:a0 < (l1.length:Int)
      ·
       rw [if_pos c6] at H;have h8:decide (a0 < (l1.length:Int))=true:=decide_eq_true c6;clear c6;obtain ⟨h6,A7,H⟩:=zzG H;by_cases c8:h6=true
       ·
        subst c8;replace H:=zzIt H;have H':=zzm H;clear H;try go_wp2
        have e2:=zzm (zzc HB.out);clear HB;have HB:=e2;clear e2;have e7 : 0≤(a0:Int):=zzt;have e8:a0 < (l0.length:Int):=zzt;obtain ⟨a1,e3,e4,g4,a4,a5,a6,a7,a8,a9,b7,b8⟩:=Q0 h3.out a0 e7 e8;have b9:=a9;have c2:=a8;have c7:=a7;have c9:=a6;have d0:=a5;have d1:=a4;cases g4;replace a4:=zzx HB.out a4;replace a5:=zzx HB.out a5;replace a6:=zzx HB.out a6;replace a7:=zzx HB.out a7;replace a8:=zzx HB.out a8;replace a9:=zzx HB.out a9;have d2:=zzm b8;have g1:=zzm b7;clear b8 b7;replace e7:=eq_true e7;replace e8:=eq_true e8;have e9 : 0≤(a0:Int):=zzt;have g0:a0 < (l1.length:Int):=zzt;obtain ⟨a2,e5,e6,g5,b0,b1,b2,b3,b4,b5,d3,d4⟩:=Q0 h4.out a0 e9 g0;have d5:=b5;have d6:=b4;have d7:=b3;have d8:=b2;have d9:=b1;have e0:=b0;cases g5;replace b0:=zzx HB.out b0;replace b1:=zzx HB.out b1;replace b2:=zzx HB.out b2;replace b3:=zzx HB.out b3;replace b4:=zzx HB.out b4;replace b5:=zzx HB.out b5;have e1:=zzm d4;have g2:=zzm d3;clear d4 d3;replace e9:=eq_true e9;replace g0:=eq_true g0;refine start_ (n:=10) (S:=fun w'=>w'.cell? (a1.add ((a0).toNat * 6))=some (.bool ((Qa l0 a0).f0))∧w'.cell? ⟨(a1.add ((a0).toNat * 6)).block,(a1.add ((a0).toNat * 6)).off+1,none⟩=some (.bool ((Qa l0 a0).f1))∧w'.cell? ⟨(a1.add ((a0).toNat * 6)).block,(a1.add ((a0).toNat * 6)).off+2,none⟩=some (.int .i64 ((Qa l0 a0).f2))∧w'.cell? ⟨(a1.add ((a0).toNat * 6)).block,(a1.add ((a0).toNat * 6)).off+3,none⟩=some (.int .i64 ((Qa l0 a0).f3))∧w'.cell? ⟨(a1.add ((a0).toNat * 6)).block,(a1.add ((a0).toNat * 6)).off+4,none⟩=some (.int .i64 ((Qa l0 a0).f4))∧w'.cell? ⟨(a1.add ((a0).toNat * 6)).block,(a1.add ((a0).toNat * 6)).off+5,none⟩=some (.slice e3 ((Qa l0 a0).f5).length e4)∧w'.cell? (a2.add ((a0).toNat * 6))=some (.bool ((Qa l1 a0).f0))∧w'.cell? ⟨(a2.add ((a0).toNat * 6)).block,(a2.add ((a0).toNat * 6)).off+1,none⟩=some (.bool ((Qa l1 a0).f1))∧w'.cell? ⟨(a2.add ((a0).toNat * 6)).block,(a2.add ((a0).toNat * 6)).off+2,none⟩=some (.int .i64 ((Qa l1 a0).f2))∧w'.cell? ⟨(a2.add ((a0).toNat * 6)).block,(a2.add ((a0).toNat * 6)).off+3,none⟩=some (.int .i64 ((Qa l1 a0).f3))∧w'.cell? ⟨(a2.add ((a0).toNat * 6)).block,(a2.add ((a0).toNat * 6)).off+4,none⟩=some (.int .i64 ((Qa l1 a0).f4))∧w'.cell? ⟨(a2.add ((a0).toNat * 6)).block,(a2.add ((a0).toNat * 6)).off+5,none⟩=some (.slice e5 ((Qa l1 a0).f5).length e6)) (ds:=[]) (zzB 10 0) (by kernel_rfl) rfl rfl ⟨(zzx HB.out d1 :),(zzx HB.out d0 :),(zzx HB.out c9 :),(zzx HB.out c7 :),(zzx HB.out c2 :),(zzx HB.out b9 :),(zzx HB.out e0 :),(zzx HB.out d9 :),(zzx HB.out d8 :),(zzx HB.out d7 :),(zzx HB.out d6 :),(zzx HB.out d5 :)⟩ (fun b6=>?_);refine with_tabW Qm.tab6 Qm.bits6 (fun a3 g3=>?_);generalize wr.drew=w9 at HB d2 e1 a4 a5 a6 a7 a8 a9 b0 b1 b2 b3 b4 b5 b6 ⊢;refine zzP 0 17 10 1 a3 ?_
        refine zzP 1 18 10 3 a3 ?_
        refine zzP 2 19 10 7 a3 ?_
        refine zzP 4 21 10 23 a3 ?_
        refine zzP 5 22 10 55 a3 ?_
        refine zzP 6 23 10 119 a3 ?_
        refine zzT 3 20 10 127 a3 g3 b6 ?_
        refine zzT 7 24 10 255 a3 g3 b6 ?_
        refine one_ (i:=8) (N:=some 25) (zzB 10 511) rfl rfl (one_of a3.out (by kernel_rfl)) (by decide) (fun K hK=>?_);refine goes_ Try.func23 (by kernel_rfl) rfl #[.agg #[.bool ((Qa l0 a0).f0),.bool ((Qa l0 a0).f1),.int .i64 ((Qa l0 a0).f2),.int .i64 ((Qa l0 a0).f3),.int .i64 ((Qa l0 a0).f4),.slice e3 ((Qa l0 a0).f5).length e4],.agg #[.bool ((Qa l1 a0).f0),.bool ((Qa l1 a0).f1),.int .i64 ((Qa l1 a0).f2),.int .i64 ((Qa l1 a0).f3),.int .i64 ((Qa l1 a0).f4),.slice e5 ((Qa l1 a0).f5).length e6]] (by rfl) rfl rfl zzM2 ?_;with_reducible refine (Rs.calls k1 ((Qa l0 a0).f0) ((Qa l0 a0).f1) ((Qa l0 a0).f2) ((Qa l0 a0).f3) ((Qa l0 a0).f4) _ _ ((Qa l0 a0).f5) ((Qa l1 a0).f0) ((Qa l1 a0).f1) ((Qa l1 a0).f2) ((Qa l1 a0).f3) ((Qa l1 a0).f4) _ _ ((Qa l1 a0).f5) true _ ?side1 ?side2 ?side3 ?side4 A7.out).mono ?_
        (case side1=>exact zzcb d2 HB)
        (case side2=>exact g1.out)
        (case side3=>exact zzcb e1 HB)
        (case side4=>exact g2.out);rintro e j3 ⟨rfl,hb⟩;refine ⟨_,rfl,?_⟩;have e2:=zzm (zzp zzh1 hb);clear HB;have HB:=e2;clear e2
        (try clear hb)
        (try clear hb2)
        (try clear hk)
        (try clear hi);refine hK.out _ _ ⟨(zzx HB.out d1 :),(zzx HB.out d0 :),(zzx HB.out c9 :),(zzx HB.out c7 :),(zzx HB.out c2 :),(zzx HB.out b9 :),(zzx HB.out e0 :),(zzx HB.out d9 :),(zzx HB.out d8 :),(zzx HB.out d7 :),(zzx HB.out d6 :),(zzx HB.out d5 :)⟩ (fun b6=>?_);clear hK K;refine zzO 25 ?_
        refine zzP 9 26 10 1023 a3 ?_
        refine done_ (done_of a3.out (by kernel_rfl)) ?_;try go_wp2
        go_roundg k1
        case measure=>have:=HK1.out;omega
        case rel=>exact ⟨(wrap64 (a0+1)),(by first|rfl|(simp;done)|(simp [*];done)),H',⟨by have:=HK1.out;omega⟩,⟨zzh1⟩⟩
       ·
        replace c8:=Bool.eq_false_iff.mpr c8;subst c8;replace H:=zzIf H;obtain rfl:=Option.some.inj H;try go_wp2
        have e2:=zzm (zzc HB.out);clear HB;have HB:=e2;clear e2;have e7 : 0≤(a0:Int):=zzt;have e8:a0 < (l0.length:Int):=zzt;obtain ⟨a1,e3,e4,g4,a4,a5,a6,a7,a8,a9,b7,b8⟩:=Q0 h3.out a0 e7 e8;have b9:=a9;have c2:=a8;have c7:=a7;have c9:=a6;have d0:=a5;have d1:=a4;cases g4;replace a4:=zzx HB.out a4;replace a5:=zzx HB.out a5;replace a6:=zzx HB.out a6;replace a7:=zzx HB.out a7;replace a8:=zzx HB.out a8;replace a9:=zzx HB.out a9;have d2:=zzm b8;have g1:=zzm b7;clear b8 b7;replace e7:=eq_true e7;replace e8:=eq_true e8;have e9 : 0≤(a0:Int):=zzt;have g0:a0 < (l1.length:Int):=zzt;obtain ⟨a2,e5,e6,g5,b0,b1,b2,b3,b4,b5,d3,d4⟩:=Q0 h4.out a0 e9 g0;have d5:=b5;have d6:=b4;have d7:=b3;have d8:=b2;have d9:=b1;have e0:=b0;cases g5;replace b0:=zzx HB.out b0;replace b1:=zzx HB.out b1;replace b2:=zzx HB.out b2;replace b3:=zzx HB.out b3;replace b4:=zzx HB.out b4;replace b5:=zzx HB.out b5;have e1:=zzm d4;have g2:=zzm d3;clear d4 d3;replace e9:=eq_true e9;replace g0:=eq_true g0;refine start_ (n:=10) (S:=fun w'=>w'.cell? (a1.add ((a0).toNat * 6))=some (.bool ((Qa l0 a0).f0))∧w'.cell? ⟨(a1.add ((a0).toNat * 6)).block,(a1.add ((a0).toNat * 6)).off+1,none⟩=some (.bool ((Qa l0 a0).f1))∧w'.cell? ⟨(a1.add ((a0).toNat * 6)).block,(a1.add ((a0).toNat * 6)).off+2,none⟩=some (.int .i64 ((Qa l0 a0).f2))∧w'.cell? ⟨(a1.add ((a0).toNat * 6)).block,(a1.add ((a0).toNat * 6)).off+3,none⟩=some (.int .i64 ((Qa l0 a0).f3))∧w'.cell? ⟨(a1.add ((a0).toNat * 6)).block,(a1.add ((a0).toNat * 6)).off+4,none⟩=some (.int .i64 ((Qa l0 a0).f4))∧w'.cell? ⟨(a1.add ((a0).toNat * 6)).block,(a1.add ((a0).toNat * 6)).off+5,none⟩=some (.slice e3 ((Qa l0 a0).f5).length e4)∧w'.cell? (a2.add ((a0).toNat * 6))=some (.bool ((Qa l1 a0).f0))∧w'.cell? ⟨(a2.add ((a0).toNat * 6)).block,(a2.add ((a0).toNat * 6)).off+1,none⟩=some (.bool ((Qa l1 a0).f1))∧w'.cell? ⟨(a2.add ((a0).toNat * 6)).block,(a2.add ((a0).toNat * 6)).off+2,none⟩=some (.int .i64 ((Qa l1 a0).f2))∧w'.cell? ⟨(a2.add ((a0).toNat * 6)).block,(a2.add ((a0).toNat * 6)).off+3,none⟩=some (.int .i64 ((Qa l1 a0).f3))∧w'.cell? ⟨(a2.add ((a0).toNat * 6)).block,(a2.add ((a0).toNat * 6)).off+4,none⟩=some (.int .i64 ((Qa l1 a0).f4))∧w'.cell? ⟨(a2.add ((a0).toNat * 6)).block,(a2.add ((a0).toNat * 6)).off+5,none⟩=some (.slice e5 ((Qa l1 a0).f5).length e6)) (ds:=[]) (zzB 10 0) (by kernel_rfl) rfl rfl ⟨(zzx HB.out d1 :),(zzx HB.out d0 :),(zzx HB.out c9 :),(zzx HB.out c7 :),(zzx HB.out c2 :),(zzx HB.out b9 :),(zzx HB.out e0 :),(zzx HB.out d9 :),(zzx HB.out d8 :),(zzx HB.out d7 :),(zzx HB.out d6 :),(zzx HB.out d5 :)⟩ (fun b6=>?_);refine with_tabW Qm.tab6 Qm.bits6 (fun a3 g3=>?_);generalize wr.drew=j4 at HB d2 e1 a4 a5 a6 a7 a8 a9 b0 b1 b2 b3 b4 b5 b6 ⊢;refine zzP 0 17 10 1 a3 ?_
        refine zzP 1 18 10 3 a3 ?_
        refine zzP 2 19 10 7 a3 ?_
        refine zzP 4 21 10 23 a3 ?_
        refine zzP 5 22 10 55 a3 ?_
        refine zzP 6 23 10 119 a3 ?_
        refine zzT 3 20 10 127 a3 g3 b6 ?_
        refine zzT 7 24 10 255 a3 g3 b6 ?_
        refine one_ (i:=8) (N:=some 25) (zzB 10 511) rfl rfl (one_of a3.out (by kernel_rfl)) (by decide) (fun K hK=>?_);refine goes_ Try.func23 (by kernel_rfl) rfl #[.agg #[.bool ((Qa l0 a0).f0),.bool ((Qa l0 a0).f1),.int .i64 ((Qa l0 a0).f2),.int .i64 ((Qa l0 a0).f3),.int .i64 ((Qa l0 a0).f4),.slice e3 ((Qa l0 a0).f5).length e4],.agg #[.bool ((Qa l1 a0).f0),.bool ((Qa l1 a0).f1),.int .i64 ((Qa l1 a0).f2),.int .i64 ((Qa l1 a0).f3),.int .i64 ((Qa l1 a0).f4),.slice e5 ((Qa l1 a0).f5).length e6]] (by rfl) rfl rfl zzM2 ?_;with_reducible refine (Rs.calls k1 ((Qa l0 a0).f0) ((Qa l0 a0).f1) ((Qa l0 a0).f2) ((Qa l0 a0).f3) ((Qa l0 a0).f4) _ _ ((Qa l0 a0).f5) ((Qa l1 a0).f0) ((Qa l1 a0).f1) ((Qa l1 a0).f2) ((Qa l1 a0).f3) ((Qa l1 a0).f4) _ _ ((Qa l1 a0).f5) false _ ?side1 ?side2 ?side3 ?side4 A7.out).mono ?_
        (case side1=>exact zzcb d2 HB)
        (case side2=>exact g1.out)
        (case side3=>exact zzcb e1 HB)
        (case side4=>exact g2.out);rintro e j5 ⟨rfl,hb⟩;refine ⟨_,rfl,?_⟩;have e2:=zzm (zzp zzh1 hb);clear HB;have HB:=e2;clear e2
        (try clear hb)
        (try clear hb2)
        (try clear hk)
        (try clear hi);refine hK.out _ _ ⟨(zzx HB.out d1 :),(zzx HB.out d0 :),(zzx HB.out c9 :),(zzx HB.out c7 :),(zzx HB.out c2 :),(zzx HB.out b9 :),(zzx HB.out e0 :),(zzx HB.out d9 :),(zzx HB.out d8 :),(zzx HB.out d7 :),(zzx HB.out d6 :),(zzx HB.out d5 :)⟩ (fun b6=>?_);clear hK K;refine zzO 25 ?_
        refine zzP 9 26 10 1023 a3 ?_
        refine done_ (done_of a3.out (by kernel_rfl)) ?_;try go_wp2
        go_ret;exact ⟨zzR,zzh1⟩
      ·
       rw [if_neg c6] at H;exact absurd H (by simp)
     ·
      rw [if_neg c5] at H;exact absurd H (by simp)
    ·
     rw [if_neg c4] at H;have h5:decide (a0 < (l0.length:Int))=false:=decide_eq_false c4;clear c4;obtain rfl:=Option.some.inj H;go_wp2;go_ret;exact ⟨zzR,zzh1⟩
 ·
  rw [if_neg c3] at H;obtain ⟨g6,g7⟩:=zzY c3;have g8:(l0.length==l1.length)=false:=by first|simpa using c3|(simp at c3 ⊢;omega)
  obtain rfl:=Option.some.inj H;go_enter Try.func9,Try.ntmps9;go_wp2;go_ret;exact ⟨zzR,zzh1⟩

set_option linter.unusedVariables false
set_option linter.unusedSimpArgs false
def Q1.l0:Nat→List Int→Int→Int→Option (Int×List Int)
 | 0,_,_,_=>none
 | k+1,x0,x1,x5=>if x5 < (x0.length:Int) then (if 0≤x5 then (Q1.l0 k (x0.set (x5:Int).toNat x1) (wrap64 (x1+1)) (wrap64 (x5+1))) else (none)) else (some (x1,x0))
def Q1.f (k:Nat) (l0:List Int) (a1:Int):Option (Int×List Int):=Q1.l0 k l0 a1 0
set_option maxHeartbeats 8000000 in
theorem Q1.calls (k:Nat) (P0_:Nat→Prop) (u9000_:Value) (l0:List Int) (a1:Int) (r1:Int) (r2:List Int) (w0 w:World) (hB:Below w0.heap.size w0 w) (ho0:Kd.R (Kd.int .i64) 3 w w0.heap.size P0_ u9000_ l0) (h:Q1.f k l0 a1=some (r1,r2)) :
  Calls Try.prog 24 #[u9000_,.int .i64 a1] w fun e w'=>e = .returned (.int .i64 r1)∧Kd.R (Kd.int .i64) 3 w' w0.heap.size (fun k_=>(P0_ k_∨w.heap.size≤k_)) u9000_ r2∧Below w0.heap.size w0 w'∧Kept w w' (fun k_=>P0_ k_):=by
 have b0:=zzm (show Kd.R (Kd.int .i64) 3 w w0.heap.size (fun k_=>(P0_ k_∨w.heap.size≤k_)) u9000_ l0 from Kd.R_mono ho0 (fun k_ hk=>(.inl hk)));have HK:=zzm (Kept.refl w (fun k_=>P0_ k_));have HW0:=zzm hB.size;have HB:=zzm hB;clear hB;have H:(Q1.l0 k l0 a1 0)=some (r1,r2):=h;clear h;have H':=zzm H;clear H;go_enter Try.func24,Try.ntmps24;go_wp2;go_loopg [1,5] k (fun kq v1 v5 w'=>∃ (a3:List Int) (a4:Int) (a0:Int),v1 = .int .i64 a4∧v5 = .int .i64 a0∧Aside0 (Q1.l0 kq a3 a4 a0=some (r1,r2))∧Aside0 (kq≤k)∧Aside0 (Kd.R (Kd.int .i64) 3 w' w0.heap.size (fun k_=>(P0_ k_∨w.heap.size≤k_)) u9000_ a3)∧Aside0 (Kept w w' (fun k_=>P0_ k_))∧Aside0 (Below w0.heap.size w0 w'))
 case atStart=>exact ⟨(l0),(a1),(0),(by first|rfl|(simp;done)|(simp [*];done)),(by first|rfl|(simp;done)|(simp [*];done)),H',⟨Nat.le_refl _⟩,⟨by (with_reducible repeat (first|apply Kd.R_alloc|apply Kd.R_drewN|apply Kd.R_drew));exact b0.out⟩,⟨by repeat (first|(with_reducible first|exact HK.out|apply Kept.alloc|apply Kept.drewN|apply Kept.drew)|exact HK.out)⟩,⟨zzh1⟩⟩
 case round=>
  clear H';try clear c2
  try clear p2
  obtain ⟨a3,a4,a0,rfl,rfl,HA,HK1,a2,HK,HB⟩:=hrel;cases gk with
  | zero=>exact absurd HA.out (by simp [Q1.l0])
  | succ k1=>
   have H:=HA.out;clear HA;simp only [Q1.l0] at H;by_cases c3:a0 < (a3.length:Int)
   ·
    rw [if_pos c3] at H;have a9:decide (a0 < (a3.length:Int))=true:=decide_eq_true c3;clear c3;by_cases c4 : 0≤a0
    ·
     rw [if_pos c4] at H;have b3:decide (0≤a0)=true:=decide_eq_true c4;clear c4;obtain ⟨y290,hy290⟩:∃ y_:List Int,y_=(a3.set (a0:Int).toNat a4):=⟨_,rfl⟩;replace H:(Q1.l0 k1 y290 (wrap64 (a4+1)) (wrap64 (a0+1)))=some (r1,r2):=by first|(rw [hy290];with_reducible exact H)|(have H2_:=(Option.bind_some _ _).symm.trans H;rw [hy290];with_reducible exact H2_)|(have H2_:=(Option.bind_some _ _).symm.trans H;with_reducible exact H2_)|with_reducible exact H|(rw [hy290];exact H)|exact H
     have Ny290:=zzm hy290;clear hy290;have H':=zzm H;clear H;obtain ⟨b4,b1,eo6⟩:=Kd.R_slice a2.out;subst eo6;have p5 : 0≤(a0:Int):=zzt;have q5:(a0:Int) < ((a3.length:Int):Int):=zzt;obtain ⟨go5,b5,eo5,a5,gl5,cl5,HG5⟩:=Kd.R_form a2.out (by omega)
     (first|cases eo5|(injection eo5 with ea_ en_ ec_;(first|subst ea_|(injection ea_ with ea_;subst ea_));subst ec_;clear en_));have GB5:=zzm a5;have GG5:=zzm HG5;clear a5 gl5 HG5;have HMgo5:=zzm (show (P0_ go5∨w.heap.size≤go5) from (a2.out.1 _ rfl));obtain ⟨b2,hf5_0⟩:=Kd.R_celln 0 a2.out (a0:Int) p5 q5;replace p5:=eq_true p5;replace q5:=eq_true q5;have HP7:=Kd.R_putg a2.out (a0:Int) a4;go_wp2_with (first|((with_reducible refine gate_store (t:=3) (p:=15) rfl ?_);refine store_event (t:=3) (p:=15) (v:=?vo_w8) (w1:=(wr.setCell ⟨go5,(a0:Int).toNat,none⟩ (.int .i64 a4))) ?hg ?ho ?hn ?hr ?_;(case ho=>rfl);(case hg=>rfl);(case hn=>rfl);(case hr=>first|(go_simp;done)|(go_simp;rfl));intro w8 hw;have hg:wr.grownBy w8 (some go5):=(by rw [hw];exact HP7.2);have hp_:Kd.R (Kd.int .i64) 3 w8 w0.heap.size (fun k_=>(P0_ k_∨w.heap.size≤k_)) (.slice (some ⟨go5,0,none⟩) a3.length b1) y290:=(by rw [hw,Ny290.out];exact HP7.1);clear HP7;have a6:=zzm (hp_);have a7:=zzm ((by rw [hw];exact zzd (HB.out) GB5.out:Below w0.heap.size w0 w8));have a8:=zzm (Kept.of_grown (S:=(fun k_=>P0_ k_)) hg (by repeat (first|(with_reducible first|exact HK.out|apply Kept.alloc|apply Kept.drewN|apply Kept.drew)|exact HK.out)) (fun k_ e_=>(a2.out.1 k_ e_)));clear a2 HB HK;have a2:=a6;have HB:=a7;have HK:=a8;clear a6 a7 a8 hg hw hp_));go_roundg k1
     case measure=>have:=HK1.out;omega
     case rel=>exact ⟨(y290),(wrap64 (a4+1)),(wrap64 (a0+1)),(by first|rfl|(simp;done)|(simp [*];done)),(by first|rfl|(simp;done)|(simp [*];done)),H',⟨by have:=HK1.out;omega⟩,⟨by (with_reducible repeat (first|apply Kd.R_alloc|apply Kd.R_drewN|apply Kd.R_drew));exact a2.out⟩,⟨by repeat (first|(with_reducible first|exact HK.out|apply Kept.alloc|apply Kept.drewN|apply Kept.drew)|exact HK.out)⟩,⟨zzh1⟩⟩
    ·
     rw [if_neg c4] at H;exact absurd H (by simp)
   ·
    rw [if_neg c3] at H;have a9:decide (a0 < (a3.length:Int))=false:=decide_eq_false c3;clear c3;simp only [Option.some.injEq,Prod.mk.injEq] at H;obtain ⟨rfl,rfl⟩:=H;obtain ⟨b6,b7,eo9⟩:=Kd.R_slice a2.out;subst eo9;go_wp2;go_ret;exact ⟨zzR,by (with_reducible repeat (first|apply Kd.R_alloc|apply Kd.R_drewN|apply Kd.R_drew));exact a2.out,zzh1,by repeat (first|(with_reducible first|exact HK.out|apply Kept.alloc|apply Kept.drewN|apply Kept.drew)|exact HK.out)⟩

set_option linter.unusedVariables false
set_option linter.unusedSimpArgs false
def Qo.l0:Nat→List Int→Int→Int→Option (Int)
 | 0,_,_,_=>none
 | k+1,x0,x1,x5=>if x5 < (x0.length:Int) then (if 0≤x5 then (if (rd x0 x5)=x1 then (Qo.l0 k x0 (wrap64 (x1+1)) (wrap64 (x5+1))) else (some (-1))) else (none)) else (some x1)
def Qo.f (k:Nat) (l0:List Int) (a1:Int):Option (Int):=Qo.l0 k l0 a1 0
set_option maxHeartbeats 8000000 in
theorem Qo.calls (k:Nat) (A0:Option Addr) (c0:Nat) (l0:List Int) (a1:Int) (r:Int) (w:World) (a8:Kd.C (Kd.int .i64) w A0 l0.length l0) (a9:l0.length≤c0) (h:Qo.f k l0 a1=some r) :
  Calls Try.prog 25 #[.slice A0 l0.length c0,.int .i64 a1] w fun e w'=>e = .returned (.int .i64 r)∧Drawn0 w w':=by
 have b0:=zzm a8;have b5:=zzm a9;clear a8 a9;have H:(Qo.l0 k l0 a1 0)=some r:=h;clear h;have H':=zzm H;clear H;go_enter Try.func25,Try.ntmps25;go_wp2;go_loopg [1,5] k (fun kq v1 v5 w'=>∃ (a4:Int) (a0:Int),v1 = .int .i64 a4∧v5 = .int .i64 a0∧Aside0 (Qo.l0 kq l0 a4 a0=some r)∧Aside0 (kq≤k)∧Drawn0 w w')
 case atStart=>exact ⟨(a1),(0),(by first|rfl|(simp;done)|(simp [*];done)),(by first|rfl|(simp;done)|(simp [*];done)),H',⟨Nat.le_refl _⟩,by repeat (first|exact Drawn0.refl _|apply Drawn0.step)⟩
 case round=>
  clear H';try clear c2
  try clear p2
  obtain ⟨a4,a0,rfl,rfl,HA,HK1,⟨m1,rfl⟩⟩:=hrel;cases gk with
  | zero=>exact absurd HA.out (by simp [Qo.l0])
  | succ k1=>
   have H:=HA.out;clear HA;simp only [Qo.l0] at H;by_cases c3:a0 < (l0.length:Int)
   ·
    rw [if_pos c3] at H;have b1:decide (a0 < (l0.length:Int))=true:=decide_eq_true c3;clear c3;by_cases c4 : 0≤a0
    ·
     rw [if_pos c4] at H;have b4:decide (0≤a0)=true:=decide_eq_true c4;clear c4;by_cases c5:(rd l0 a0)=a4
     ·
      rw [if_pos c5] at H;obtain ⟨b2,b3⟩:=zzQ c5;clear c5;have H':=zzm H;clear H;have a2 : 0≤(a0:Int):=zzt;have a3:a0 < (l0.length:Int):=zzt;obtain ⟨a7,a5,a6⟩:=Kd.at_int b0.out a0 a2 a3;cases a5;replace a2:=eq_true a2;replace a3:=eq_true a3;go_wp2;go_roundg k1
      case measure=>have:=HK1.out;omega
      case rel=>exact ⟨(wrap64 (a4+1)),(wrap64 (a0+1)),(by first|rfl|(simp;done)|(simp [*];done)),(by first|rfl|(simp;done)|(simp [*];done)),H',⟨by have:=HK1.out;omega⟩,by repeat (first|exact Drawn0.refl _|apply Drawn0.step)⟩
     ·
      rw [if_neg c5] at H;obtain ⟨b2,b3⟩:=zzY c5;obtain rfl:=Option.some.inj H;have a2 : 0≤(a0:Int):=zzt;have a3:a0 < (l0.length:Int):=zzt;obtain ⟨a7,a5,a6⟩:=Kd.at_int b0.out a0 a2 a3;cases a5;replace a2:=eq_true a2;replace a3:=eq_true a3;go_wp2;go_ret;exact ⟨by first|rfl|(simp;done)|(simp [*];done),by repeat (first|exact Drawn0.refl _|apply Drawn0.step)⟩
    ·
     rw [if_neg c4] at H;exact absurd H (by simp)
   ·
    rw [if_neg c3] at H;have b1:decide (a0 < (l0.length:Int))=false:=decide_eq_false c3;clear c3;obtain rfl:=Option.some.inj H;go_wp2;go_ret;exact ⟨by first|rfl|(simp;done)|(simp [*];done),by repeat (first|exact Drawn0.refl _|apply Drawn0.step)⟩

set_option linter.unusedVariables false
set_option linter.unusedSimpArgs false
def Qi.l0:Nat→List (S43)→Int→Int→Option (Int)
 | 0,_,_,_=>none
 | k+1,x0,x1,x5=>if x5 < (x0.length:Int) then (if 0≤x5 then (if ((Qb x0 x5).f0)=x1 then (if ((Qb x0 x5).f1)=(wrap64 (x1+1)) then (if (((Qb x0 x5).f2) != ((Int.tmod (wrap64 ((wrap64 (x1+1))+1)) 3)==0))=true then (some (-1)) else ((Qo.f k ((Qb x0 x5).f3) (wrap64 ((wrap64 ((wrap64 (x1+1))+1))+1))).bind fun t296=>(if t296 < 0 then (some (-1)) else (if (((Qb x0 x5).f4) != ((Int.tmod t296 3)==0))=true then (some (-1)) else ((Qo.f k ((Qb x0 x5).f5) (wrap64 (t296+1))).bind fun t299=>(if t299 < 0 then (some (-1)) else (Qi.l0 k x0 t299 (wrap64 (x5+1))))))))) else (some (-1))) else (some (-1))) else (none)) else (some x1)
def Qi.f (k:Nat) (l0:List (S43)) (a1:Int):Option (Int):=Qi.l0 k l0 a1 0
set_option maxHeartbeats 8000000 in
theorem Qi.calls (k:Nat) (A0:Option Addr) (c0:Nat) (l0:List (S43)) (a1:Int) (r:Int) (w:World) (r9:Kd.C k43 w A0 l0.length l0) (s0:l0.length≤c0) (h:Qi.f k l0 a1=some r) :
  Calls Try.prog 12 #[.slice A0 l0.length c0,.int .i64 a1] w fun e w'=>e = .returned (.int .i64 r)∧Drawn0 w w':=by
 have d0:=zzm r9;have t4:=zzm s0;clear r9 s0;have H:(Qi.l0 k l0 a1 0)=some r:=h;clear h;have H':=zzm H;clear H;go_enter Try.func12,Try.ntmps12;go_wp2;go_loopg [1,5] k (fun kq v1 v5 w'=>∃ (c8:Int) (a0:Int),v1 = .int .i64 c8∧v5 = .int .i64 a0∧Aside0 (Qi.l0 kq l0 c8 a0=some r)∧Aside0 (kq≤k)∧Drawn0 w w')
 case atStart=>exact ⟨(a1),(0),(by first|rfl|(simp;done)|(simp [*];done)),(by first|rfl|(simp;done)|(simp [*];done)),H',⟨Nat.le_refl _⟩,by repeat (first|exact Drawn0.refl _|apply Drawn0.step)⟩
 case round=>
  clear H';try clear c1
  try clear p2
  obtain ⟨c8,a0,rfl,rfl,HA,HK1,⟨m1,rfl⟩⟩:=hrel;cases gk with
  | zero=>exact absurd HA.out (by simp [Qi.l0])
  | succ k1=>
   have H:=HA.out;clear HA;simp only [Qi.l0] at H;by_cases c3:a0 < (l0.length:Int)
   ·
    rw [if_pos c3] at H;have s2:decide (a0 < (l0.length:Int))=true:=decide_eq_true c3;clear c3;by_cases c4 : 0≤a0
    ·
     rw [if_pos c4] at H;have t2:decide (0≤a0)=true:=decide_eq_true c4;clear c4;by_cases c5:((Qb l0 a0).f0)=c8
     ·
      rw [if_pos c5] at H;obtain ⟨s3,s4⟩:=zzQ c5;clear c5;by_cases c6:((Qb l0 a0).f1)=(wrap64 (c8+1))
      ·
       rw [if_pos c6] at H;obtain ⟨s5,s6⟩:=zzQ c6;clear c6;by_cases c7:(((Qb l0 a0).f2) != ((Int.tmod (wrap64 ((wrap64 (c8+1))+1)) 3)==0))=true
       ·
        rw [if_pos c7] at H;have s7:(((Qb l0 a0).f2) != ((Int.tmod (wrap64 ((wrap64 (c8+1))+1)) 3)==0))=true:=c7
        (try (have s8:decide (((Qb l0 a0).f2)=((Int.tmod (wrap64 ((wrap64 (c8+1))+1)) 3)==0))=false:=by simpa using c7))
        (try (have s9:(((Qb l0 a0).f2)==((Int.tmod (wrap64 ((wrap64 (c8+1))+1)) 3)==0))=false:=by simpa using c7))
        (try (have t3:¬ (((Qb l0 a0).f2)=((Int.tmod (wrap64 ((wrap64 (c8+1))+1)) 3)==0)):=by simpa using c7));clear c7;obtain rfl:=Option.some.inj H;have b3 : 0≤(a0:Int):=zzt;have b4:a0 < (l0.length:Int):=zzt;obtain ⟨a8,e2,e3,g6,g7,g1,g9,h0,h1,a2,h2,a3,a4,a5,a6,a7⟩:=Qs d0.out a0 b3 b4;cases g1;have h3:=zzm a5;have h4:=zzm a4;clear a5 a4;have h5:=zzm a7;have h6:=zzm a6;clear a7 a6;replace b3:=eq_true b3;replace b4:=eq_true b4;have b9 : 0≤(a0:Int):=zzt;have c2:a0 < (l0.length:Int):=zzt;obtain ⟨g0,k9,l2,l3,l4,h7,j2,j3,j4,d1,j5,d2,a9,b0,b1,b2⟩:=Qs d0.out a0 b9 c2;obtain rfl:a8=g0:=(by injection h7);have j6:=zzm b0;have j7:=zzm a9;clear b0 a9;have j8:=zzm b2;have j9:=zzm b1;clear b2 b1;replace b9:=eq_true b9;replace c2:=eq_true c2;have ea_:=Option.some.inj (a2.symm.trans d1);injection ea_ with ea_ en_ ec_;subst ea_;subst ec_;clear en_;have ea_:=Option.some.inj (a3.symm.trans d2);injection ea_ with ea_ en_ ec_;subst ea_;subst ec_;clear en_;have d7 : 0≤(a0:Int):=zzt;have d8:a0 < (l0.length:Int):=zzt;obtain ⟨g8,m8,m9,n0,n1,k7,l6,l7,l8,e0,l9,e1,b5,b6,b7,b8⟩:=Qs d0.out a0 d7 d8;obtain rfl:a8=g8:=(by injection k7);have m0:=zzm b6;have m2:=zzm b5;clear b6 b5;have m3:=zzm b8;have m4:=zzm b7;clear b8 b7;replace d7:=eq_true d7;replace d8:=eq_true d8;have ea_:=Option.some.inj (a2.symm.trans e0);injection ea_ with ea_ en_ ec_;subst ea_;subst ec_;clear en_;have ea_:=Option.some.inj (a3.symm.trans e1);injection ea_ with ea_ en_ ec_;subst ea_;subst ec_;clear en_;go_wp2;go_ret;exact ⟨by first|rfl|(simp;done)|(simp [*];done),by repeat (first|exact Drawn0.refl _|apply Drawn0.step)⟩
       ·
        rw [if_neg c7] at H;have s7:(((Qb l0 a0).f2) != ((Int.tmod (wrap64 ((wrap64 (c8+1))+1)) 3)==0))=false:=by simpa using c7
        (try (have s8:decide (((Qb l0 a0).f2)=((Int.tmod (wrap64 ((wrap64 (c8+1))+1)) 3)==0))=true:=by simpa using c7))
        (try (have s9:(((Qb l0 a0).f2)==((Int.tmod (wrap64 ((wrap64 (c8+1))+1)) 3)==0))=true:=by simpa using c7));clear c7;obtain ⟨d9,A8,H⟩:=zzG H;by_cases c9:d9 < 0
        ·
         rw [if_pos c9] at H;have t0:decide (d9 < 0)=true:=decide_eq_true c9;clear c9;obtain rfl:=Option.some.inj H;have b3 : 0≤(a0:Int):=zzt;have b4:a0 < (l0.length:Int):=zzt;obtain ⟨a8,e2,e3,g6,g7,g1,g9,h0,h1,a2,h2,a3,a4,a5,a6,a7⟩:=Qs d0.out a0 b3 b4;cases g1;have h3:=zzm a5;have h4:=zzm a4;clear a5 a4;have h5:=zzm a7;have h6:=zzm a6;clear a7 a6;replace b3:=eq_true b3;replace b4:=eq_true b4;have b9 : 0≤(a0:Int):=zzt;have c2:a0 < (l0.length:Int):=zzt;obtain ⟨g0,k9,l2,l3,l4,h7,j2,j3,j4,d1,j5,d2,a9,b0,b1,b2⟩:=Qs d0.out a0 b9 c2;obtain rfl:a8=g0:=(by injection h7);have j6:=zzm b0;have j7:=zzm a9;clear b0 a9;have j8:=zzm b2;have j9:=zzm b1;clear b2 b1;replace b9:=eq_true b9;replace c2:=eq_true c2;have ea_:=Option.some.inj (a2.symm.trans d1);injection ea_ with ea_ en_ ec_;subst ea_;subst ec_;clear en_;have ea_:=Option.some.inj (a3.symm.trans d2);injection ea_ with ea_ en_ ec_;subst ea_;subst ec_;clear en_;have d7 : 0≤(a0:Int):=zzt;have d8:a0 < (l0.length:Int):=zzt;obtain ⟨g8,m8,m9,n0,n1,k7,l6,l7,l8,e0,l9,e1,b5,b6,b7,b8⟩:=Qs d0.out a0 d7 d8;obtain rfl:a8=g8:=(by injection k7);have m0:=zzm b6;have m2:=zzm b5;clear b6 b5;have m3:=zzm b8;have m4:=zzm b7;clear b8 b7;replace d7:=eq_true d7;replace d8:=eq_true d8;have ea_:=Option.some.inj (a2.symm.trans e0);injection ea_ with ea_ en_ ec_;subst ea_;subst ec_;clear en_;have ea_:=Option.some.inj (a3.symm.trans e1);injection ea_ with ea_ en_ ec_;subst ea_;subst ec_;clear en_;have e4 : 0≤(a0:Int):=zzt;have e5:a0 < (l0.length:Int):=zzt;obtain ⟨k8,o4,o5,o6,o7,m5,n3,n4,n5,g2,n6,g3,d3,d4,d5,d6⟩:=Qs d0.out a0 e4 e5;obtain rfl:a8=k8:=(by injection m5);have g4:=zzm d4;have g5:=zzm d3;clear d4 d3;have n7:=zzm d6;have n8:=zzm d5;clear d6 d5;replace e4:=eq_true e4;replace e5:=eq_true e5;have ea_:=Option.some.inj (a2.symm.trans g2);injection ea_ with ea_ en_ ec_;subst ea_;subst ec_;clear en_;have ea_:=Option.some.inj (a3.symm.trans g3);injection ea_ with ea_ en_ ec_;subst ea_;subst ec_;clear en_;go_wp2_with (first|((with_reducible refine gate_callee (f:=25) rfl ?_);refine goesL_ (some 47) rfl rfl Try.func25 (by kernel_rfl) rfl #[.slice e2 ((Qb l0 a0).f3).length e3,.int .i64 (wrap64 ((wrap64 ((wrap64 (c8+1))+1))+1))] rfl zzM2 ?_;(with_reducible refine (Qo.calls k1 _ _ ((Qb l0 a0).f3) (wrap64 ((wrap64 ((wrap64 (c8+1))+1))+1)) d9 _ ?side1 ?side2 A8.out).mono ?_);(case side1=>repeat (first|exact g4.out|(with_reducible refine Kd.C_alloc ?_ _)|(with_reducible refine Kd.C_drewN ?_ _)|(with_reducible refine Kd.C_drew ?_)));(case side2=>exact g5.out);rintro e w' ⟨rfl,⟨nd,rfl⟩⟩;refine ⟨_,rfl,?_⟩));go_ret;exact ⟨by first|rfl|(simp;done)|(simp [*];done),by repeat (first|exact Drawn0.refl _|apply Drawn0.step)⟩
        ·
         rw [if_neg c9] at H;have t0:decide (d9 < 0)=false:=decide_eq_false c9;clear c9;by_cases l5:(((Qb l0 a0).f4) != ((Int.tmod d9 3)==0))=true
         ·
          rw [if_pos l5] at H;have r5:(((Qb l0 a0).f4) != ((Int.tmod d9 3)==0))=true:=l5
          (try (have r6:decide (((Qb l0 a0).f4)=((Int.tmod d9 3)==0))=false:=by simpa using l5))
          (try (have r7:(((Qb l0 a0).f4)==((Int.tmod d9 3)==0))=false:=by simpa using l5))
          (try (have t1:¬ (((Qb l0 a0).f4)=((Int.tmod d9 3)==0)):=by simpa using l5));clear l5;obtain rfl:=Option.some.inj H;have b3 : 0≤(a0:Int):=zzt;have b4:a0 < (l0.length:Int):=zzt;obtain ⟨a8,e2,e3,g6,g7,g1,g9,h0,h1,a2,h2,a3,a4,a5,a6,a7⟩:=Qs d0.out a0 b3 b4;cases g1;have h3:=zzm a5;have h4:=zzm a4;clear a5 a4;have h5:=zzm a7;have h6:=zzm a6;clear a7 a6;replace b3:=eq_true b3;replace b4:=eq_true b4;have b9 : 0≤(a0:Int):=zzt;have c2:a0 < (l0.length:Int):=zzt;obtain ⟨g0,k9,l2,l3,l4,h7,j2,j3,j4,d1,j5,d2,a9,b0,b1,b2⟩:=Qs d0.out a0 b9 c2;obtain rfl:a8=g0:=(by injection h7);have j6:=zzm b0;have j7:=zzm a9;clear b0 a9;have j8:=zzm b2;have j9:=zzm b1;clear b2 b1;replace b9:=eq_true b9;replace c2:=eq_true c2;have ea_:=Option.some.inj (a2.symm.trans d1);injection ea_ with ea_ en_ ec_;subst ea_;subst ec_;clear en_;have ea_:=Option.some.inj (a3.symm.trans d2);injection ea_ with ea_ en_ ec_;subst ea_;subst ec_;clear en_;have d7 : 0≤(a0:Int):=zzt;have d8:a0 < (l0.length:Int):=zzt;obtain ⟨g8,m8,m9,n0,n1,k7,l6,l7,l8,e0,l9,e1,b5,b6,b7,b8⟩:=Qs d0.out a0 d7 d8;obtain rfl:a8=g8:=(by injection k7);have m0:=zzm b6;have m2:=zzm b5;clear b6 b5;have m3:=zzm b8;have m4:=zzm b7;clear b8 b7;replace d7:=eq_true d7;replace d8:=eq_true d8;have ea_:=Option.some.inj (a2.symm.trans e0);injection ea_ with ea_ en_ ec_;subst ea_;subst ec_;clear en_;have ea_:=Option.some.inj (a3.symm.trans e1);injection ea_ with ea_ en_ ec_;subst ea_;subst ec_;clear en_;have e4 : 0≤(a0:Int):=zzt;have e5:a0 < (l0.length:Int):=zzt;obtain ⟨k8,o4,o5,o6,o7,m5,n3,n4,n5,g2,n6,g3,d3,d4,d5,d6⟩:=Qs d0.out a0 e4 e5;obtain rfl:a8=k8:=(by injection m5);have g4:=zzm d4;have g5:=zzm d3;clear d4 d3;have n7:=zzm d6;have n8:=zzm d5;clear d6 d5;replace e4:=eq_true e4;replace e5:=eq_true e5;have ea_:=Option.some.inj (a2.symm.trans g2);injection ea_ with ea_ en_ ec_;subst ea_;subst ec_;clear en_;have ea_:=Option.some.inj (a3.symm.trans g3);injection ea_ with ea_ en_ ec_;subst ea_;subst ec_;clear en_;go_wp2_with (first|((with_reducible refine gate_callee (f:=25) rfl ?_);refine goesL_ (some 47) rfl rfl Try.func25 (by kernel_rfl) rfl #[.slice e2 ((Qb l0 a0).f3).length e3,.int .i64 (wrap64 ((wrap64 ((wrap64 (c8+1))+1))+1))] rfl zzM2 ?_;(with_reducible refine (Qo.calls k1 _ _ ((Qb l0 a0).f3) (wrap64 ((wrap64 ((wrap64 (c8+1))+1))+1)) d9 _ ?side1 ?side2 A8.out).mono ?_);(case side1=>repeat (first|exact g4.out|(with_reducible refine Kd.C_alloc ?_ _)|(with_reducible refine Kd.C_drewN ?_ _)|(with_reducible refine Kd.C_drew ?_)));(case side2=>exact g5.out);rintro e w' ⟨rfl,⟨nd,rfl⟩⟩;refine ⟨_,rfl,?_⟩;have h8 : 0≤(a0:Int):=zzt;have h9:a0 < (l0.length:Int):=zzt;obtain ⟨n2,q0,q1,q2,q3,o8,o9,p0,p1,k0,p3,k2,e6,e7,e8,e9⟩:=Qs d0.out a0 h8 h9;obtain rfl:a8=n2:=(by injection o8);have p4:=zzm e7;have p5:=zzm e6;clear e7 e6;have p6:=zzm e9;have p7:=zzm e8;clear e9 e8;replace h8:=eq_true h8;replace h9:=eq_true h9;have ea_:=Option.some.inj (a2.symm.trans k0);injection ea_ with ea_ en_ ec_;subst ea_;subst ec_;clear en_;have ea_:=Option.some.inj (a3.symm.trans k2);injection ea_ with ea_ en_ ec_;subst ea_;subst ec_;clear en_));go_ret;exact ⟨by first|rfl|(simp;done)|(simp [*];done),by repeat (first|exact Drawn0.refl _|apply Drawn0.step)⟩
         ·
          rw [if_neg l5] at H;have r5:(((Qb l0 a0).f4) != ((Int.tmod d9 3)==0))=false:=by simpa using l5
          (try (have r6:decide (((Qb l0 a0).f4)=((Int.tmod d9 3)==0))=true:=by simpa using l5))
          (try (have r7:(((Qb l0 a0).f4)==((Int.tmod d9 3)==0))=true:=by simpa using l5));clear l5;obtain ⟨n9,s1,H⟩:=zzG H;by_cases p8:n9 < 0
          ·
           rw [if_pos p8] at H;have r8:decide (n9 < 0)=true:=decide_eq_true p8;clear p8;obtain rfl:=Option.some.inj H;have b3 : 0≤(a0:Int):=zzt;have b4:a0 < (l0.length:Int):=zzt;obtain ⟨a8,e2,e3,g6,g7,g1,g9,h0,h1,a2,h2,a3,a4,a5,a6,a7⟩:=Qs d0.out a0 b3 b4;cases g1;have h3:=zzm a5;have h4:=zzm a4;clear a5 a4;have h5:=zzm a7;have h6:=zzm a6;clear a7 a6;replace b3:=eq_true b3;replace b4:=eq_true b4;have b9 : 0≤(a0:Int):=zzt;have c2:a0 < (l0.length:Int):=zzt;obtain ⟨g0,k9,l2,l3,l4,h7,j2,j3,j4,d1,j5,d2,a9,b0,b1,b2⟩:=Qs d0.out a0 b9 c2;obtain rfl:a8=g0:=(by injection h7);have j6:=zzm b0;have j7:=zzm a9;clear b0 a9;have j8:=zzm b2;have j9:=zzm b1;clear b2 b1;replace b9:=eq_true b9;replace c2:=eq_true c2;have ea_:=Option.some.inj (a2.symm.trans d1);injection ea_ with ea_ en_ ec_;subst ea_;subst ec_;clear en_;have ea_:=Option.some.inj (a3.symm.trans d2);injection ea_ with ea_ en_ ec_;subst ea_;subst ec_;clear en_;have d7 : 0≤(a0:Int):=zzt;have d8:a0 < (l0.length:Int):=zzt;obtain ⟨g8,m8,m9,n0,n1,k7,l6,l7,l8,e0,l9,e1,b5,b6,b7,b8⟩:=Qs d0.out a0 d7 d8;obtain rfl:a8=g8:=(by injection k7);have m0:=zzm b6;have m2:=zzm b5;clear b6 b5;have m3:=zzm b8;have m4:=zzm b7;clear b8 b7;replace d7:=eq_true d7;replace d8:=eq_true d8;have ea_:=Option.some.inj (a2.symm.trans e0);injection ea_ with ea_ en_ ec_;subst ea_;subst ec_;clear en_;have ea_:=Option.some.inj (a3.symm.trans e1);injection ea_ with ea_ en_ ec_;subst ea_;subst ec_;clear en_;have e4 : 0≤(a0:Int):=zzt;have e5:a0 < (l0.length:Int):=zzt;obtain ⟨k8,o4,o5,o6,o7,m5,n3,n4,n5,g2,n6,g3,d3,d4,d5,d6⟩:=Qs d0.out a0 e4 e5;obtain rfl:a8=k8:=(by injection m5);have g4:=zzm d4;have g5:=zzm d3;clear d4 d3;have n7:=zzm d6;have n8:=zzm d5;clear d6 d5;replace e4:=eq_true e4;replace e5:=eq_true e5;have ea_:=Option.some.inj (a2.symm.trans g2);injection ea_ with ea_ en_ ec_;subst ea_;subst ec_;clear en_;have ea_:=Option.some.inj (a3.symm.trans g3);injection ea_ with ea_ en_ ec_;subst ea_;subst ec_;clear en_;go_wp2_with (first|((with_reducible refine gate_callee (f:=25) rfl ?_);refine goesL_ (some 47) rfl rfl Try.func25 (by kernel_rfl) rfl #[.slice e2 ((Qb l0 a0).f3).length e3,.int .i64 (wrap64 ((wrap64 ((wrap64 (c8+1))+1))+1))] rfl zzM2 ?_;(with_reducible refine (Qo.calls k1 _ _ ((Qb l0 a0).f3) (wrap64 ((wrap64 ((wrap64 (c8+1))+1))+1)) d9 _ ?side1 ?side2 A8.out).mono ?_);(case side1=>repeat (first|exact g4.out|(with_reducible refine Kd.C_alloc ?_ _)|(with_reducible refine Kd.C_drewN ?_ _)|(with_reducible refine Kd.C_drew ?_)));(case side2=>exact g5.out);rintro e w' ⟨rfl,⟨nd,rfl⟩⟩;refine ⟨_,rfl,?_⟩;have h8 : 0≤(a0:Int):=zzt;have h9:a0 < (l0.length:Int):=zzt;obtain ⟨n2,q0,q1,q2,q3,o8,o9,p0,p1,k0,p3,k2,e6,e7,e8,e9⟩:=Qs d0.out a0 h8 h9;obtain rfl:a8=n2:=(by injection o8);have p4:=zzm e7;have p5:=zzm e6;clear e7 e6;have p6:=zzm e9;have p7:=zzm e8;clear e9 e8;replace h8:=eq_true h8;replace h9:=eq_true h9;have ea_:=Option.some.inj (a2.symm.trans k0);injection ea_ with ea_ en_ ec_;subst ea_;subst ec_;clear en_;have ea_:=Option.some.inj (a3.symm.trans k2);injection ea_ with ea_ en_ ec_;subst ea_;subst ec_;clear en_;have m6 : 0≤(a0:Int):=zzt;have m7:a0 < (l0.length:Int):=zzt;obtain ⟨p9,r1,r2,r3,r4,q4,q5,q6,q7,o0,q8,o1,k3,k4,k5,k6⟩:=Qs d0.out a0 m6 m7;obtain rfl:a8=p9:=(by injection q4);have q9:=zzm k4;have r0:=zzm k3;clear k4 k3;have o2:=zzm k6;have o3:=zzm k5;clear k6 k5;replace m6:=eq_true m6;replace m7:=eq_true m7;have ea_:=Option.some.inj (a2.symm.trans o0);injection ea_ with ea_ en_ ec_;subst ea_;subst ec_;clear en_;have ea_:=Option.some.inj (a3.symm.trans o1);injection ea_ with ea_ en_ ec_;subst ea_;subst ec_;clear en_)|((with_reducible refine gate_callee (f:=25) rfl ?_);refine goesL_ (some 67) rfl rfl Try.func25 (by kernel_rfl) rfl #[.slice g6 ((Qb l0 a0).f5).length g7,.int .i64 (wrap64 (d9+1))] rfl zzM2 ?_;(with_reducible refine (Qo.calls k1 _ _ ((Qb l0 a0).f5) (wrap64 (d9+1)) n9 _ ?side1 ?side2 s1.out).mono ?_);(case side1=>repeat (first|exact o2.out|(with_reducible refine Kd.C_alloc ?_ _)|(with_reducible refine Kd.C_drewN ?_ _)|(with_reducible refine Kd.C_drew ?_)));(case side2=>exact o3.out);rintro e w' ⟨rfl,⟨nd,rfl⟩⟩;refine ⟨_,rfl,?_⟩));go_ret;exact ⟨by first|rfl|(simp;done)|(simp [*];done),by repeat (first|exact Drawn0.refl _|apply Drawn0.step)⟩
          ·
           rw [if_neg p8] at H;have r8:decide (n9 < 0)=false:=decide_eq_false p8;clear p8;have H':=zzm H;clear H;have b3 : 0≤(a0:Int):=zzt;have b4:a0 < (l0.length:Int):=zzt;obtain ⟨a8,e2,e3,g6,g7,g1,g9,h0,h1,a2,h2,a3,a4,a5,a6,a7⟩:=Qs d0.out a0 b3 b4;cases g1;have h3:=zzm a5;have h4:=zzm a4;clear a5 a4;have h5:=zzm a7;have h6:=zzm a6;clear a7 a6;replace b3:=eq_true b3;replace b4:=eq_true b4;have b9 : 0≤(a0:Int):=zzt;have c2:a0 < (l0.length:Int):=zzt;obtain ⟨g0,k9,l2,l3,l4,h7,j2,j3,j4,d1,j5,d2,a9,b0,b1,b2⟩:=Qs d0.out a0 b9 c2;obtain rfl:a8=g0:=(by injection h7);have j6:=zzm b0;have j7:=zzm a9;clear b0 a9;have j8:=zzm b2;have j9:=zzm b1;clear b2 b1;replace b9:=eq_true b9;replace c2:=eq_true c2;have ea_:=Option.some.inj (a2.symm.trans d1);injection ea_ with ea_ en_ ec_;subst ea_;subst ec_;clear en_;have ea_:=Option.some.inj (a3.symm.trans d2);injection ea_ with ea_ en_ ec_;subst ea_;subst ec_;clear en_;have d7 : 0≤(a0:Int):=zzt;have d8:a0 < (l0.length:Int):=zzt;obtain ⟨g8,m8,m9,n0,n1,k7,l6,l7,l8,e0,l9,e1,b5,b6,b7,b8⟩:=Qs d0.out a0 d7 d8;obtain rfl:a8=g8:=(by injection k7);have m0:=zzm b6;have m2:=zzm b5;clear b6 b5;have m3:=zzm b8;have m4:=zzm b7;clear b8 b7;replace d7:=eq_true d7;replace d8:=eq_true d8;have ea_:=Option.some.inj (a2.symm.trans e0);injection ea_ with ea_ en_ ec_;subst ea_;subst ec_;clear en_;have ea_:=Option.some.inj (a3.symm.trans e1);injection ea_ with ea_ en_ ec_;subst ea_;subst ec_;clear en_;have e4 : 0≤(a0:Int):=zzt;have e5:a0 < (l0.length:Int):=zzt;obtain ⟨k8,o4,o5,o6,o7,m5,n3,n4,n5,g2,n6,g3,d3,d4,d5,d6⟩:=Qs d0.out a0 e4 e5;obtain rfl:a8=k8:=(by injection m5);have g4:=zzm d4;have g5:=zzm d3;clear d4 d3;have n7:=zzm d6;have n8:=zzm d5;clear d6 d5;replace e4:=eq_true e4;replace e5:=eq_true e5;have ea_:=Option.some.inj (a2.symm.trans g2);injection ea_ with ea_ en_ ec_;subst ea_;subst ec_;clear en_;have ea_:=Option.some.inj (a3.symm.trans g3);injection ea_ with ea_ en_ ec_;subst ea_;subst ec_;clear en_;go_wp2_with (first|((with_reducible refine gate_callee (f:=25) rfl ?_);refine goesL_ (some 47) rfl rfl Try.func25 (by kernel_rfl) rfl #[.slice e2 ((Qb l0 a0).f3).length e3,.int .i64 (wrap64 ((wrap64 ((wrap64 (c8+1))+1))+1))] rfl zzM2 ?_;(with_reducible refine (Qo.calls k1 _ _ ((Qb l0 a0).f3) (wrap64 ((wrap64 ((wrap64 (c8+1))+1))+1)) d9 _ ?side1 ?side2 A8.out).mono ?_);(case side1=>repeat (first|exact g4.out|(with_reducible refine Kd.C_alloc ?_ _)|(with_reducible refine Kd.C_drewN ?_ _)|(with_reducible refine Kd.C_drew ?_)));(case side2=>exact g5.out);rintro e w' ⟨rfl,⟨nd,rfl⟩⟩;refine ⟨_,rfl,?_⟩;have h8 : 0≤(a0:Int):=zzt;have h9:a0 < (l0.length:Int):=zzt;obtain ⟨n2,q0,q1,q2,q3,o8,o9,p0,p1,k0,p3,k2,e6,e7,e8,e9⟩:=Qs d0.out a0 h8 h9;obtain rfl:a8=n2:=(by injection o8);have p4:=zzm e7;have p5:=zzm e6;clear e7 e6;have p6:=zzm e9;have p7:=zzm e8;clear e9 e8;replace h8:=eq_true h8;replace h9:=eq_true h9;have ea_:=Option.some.inj (a2.symm.trans k0);injection ea_ with ea_ en_ ec_;subst ea_;subst ec_;clear en_;have ea_:=Option.some.inj (a3.symm.trans k2);injection ea_ with ea_ en_ ec_;subst ea_;subst ec_;clear en_;have m6 : 0≤(a0:Int):=zzt;have m7:a0 < (l0.length:Int):=zzt;obtain ⟨p9,r1,r2,r3,r4,q4,q5,q6,q7,o0,q8,o1,k3,k4,k5,k6⟩:=Qs d0.out a0 m6 m7;obtain rfl:a8=p9:=(by injection q4);have q9:=zzm k4;have r0:=zzm k3;clear k4 k3;have o2:=zzm k6;have o3:=zzm k5;clear k6 k5;replace m6:=eq_true m6;replace m7:=eq_true m7;have ea_:=Option.some.inj (a2.symm.trans o0);injection ea_ with ea_ en_ ec_;subst ea_;subst ec_;clear en_;have ea_:=Option.some.inj (a3.symm.trans o1);injection ea_ with ea_ en_ ec_;subst ea_;subst ec_;clear en_)|((with_reducible refine gate_callee (f:=25) rfl ?_);refine goesL_ (some 67) rfl rfl Try.func25 (by kernel_rfl) rfl #[.slice g6 ((Qb l0 a0).f5).length g7,.int .i64 (wrap64 (d9+1))] rfl zzM2 ?_;(with_reducible refine (Qo.calls k1 _ _ ((Qb l0 a0).f5) (wrap64 (d9+1)) n9 _ ?side1 ?side2 s1.out).mono ?_);(case side1=>repeat (first|exact o2.out|(with_reducible refine Kd.C_alloc ?_ _)|(with_reducible refine Kd.C_drewN ?_ _)|(with_reducible refine Kd.C_drew ?_)));(case side2=>exact o3.out);rintro e w' ⟨rfl,⟨nd,rfl⟩⟩;refine ⟨_,rfl,?_⟩));go_roundg k1
           case measure=>have:=HK1.out;omega
           case rel=>exact ⟨(n9),(wrap64 (a0+1)),(by first|rfl|(simp;done)|(simp [*];done)),(by first|rfl|(simp;done)|(simp [*];done)),H',⟨by have:=HK1.out;omega⟩,by repeat (first|exact Drawn0.refl _|apply Drawn0.step)⟩
      ·
       rw [if_neg c6] at H;obtain ⟨s5,s6⟩:=zzY c6;obtain rfl:=Option.some.inj H;have b3 : 0≤(a0:Int):=zzt;have b4:a0 < (l0.length:Int):=zzt;obtain ⟨a8,e2,e3,g6,g7,g1,g9,h0,h1,a2,h2,a3,a4,a5,a6,a7⟩:=Qs d0.out a0 b3 b4;cases g1;have h3:=zzm a5;have h4:=zzm a4;clear a5 a4;have h5:=zzm a7;have h6:=zzm a6;clear a7 a6;replace b3:=eq_true b3;replace b4:=eq_true b4;have b9 : 0≤(a0:Int):=zzt;have c2:a0 < (l0.length:Int):=zzt;obtain ⟨g0,k9,l2,l3,l4,h7,j2,j3,j4,d1,j5,d2,a9,b0,b1,b2⟩:=Qs d0.out a0 b9 c2;obtain rfl:a8=g0:=(by injection h7);have j6:=zzm b0;have j7:=zzm a9;clear b0 a9;have j8:=zzm b2;have j9:=zzm b1;clear b2 b1;replace b9:=eq_true b9;replace c2:=eq_true c2;have ea_:=Option.some.inj (a2.symm.trans d1);injection ea_ with ea_ en_ ec_;subst ea_;subst ec_;clear en_;have ea_:=Option.some.inj (a3.symm.trans d2);injection ea_ with ea_ en_ ec_;subst ea_;subst ec_;clear en_;go_wp2;go_ret;exact ⟨by first|rfl|(simp;done)|(simp [*];done),by repeat (first|exact Drawn0.refl _|apply Drawn0.step)⟩
     ·
      rw [if_neg c5] at H;obtain ⟨s3,s4⟩:=zzY c5;obtain rfl:=Option.some.inj H;have b3 : 0≤(a0:Int):=zzt;have b4:a0 < (l0.length:Int):=zzt;obtain ⟨a8,e2,e3,g6,g7,g1,g9,h0,h1,a2,h2,a3,a4,a5,a6,a7⟩:=Qs d0.out a0 b3 b4;cases g1;have h3:=zzm a5;have h4:=zzm a4;clear a5 a4;have h5:=zzm a7;have h6:=zzm a6;clear a7 a6;replace b3:=eq_true b3;replace b4:=eq_true b4;go_wp2;go_ret;exact ⟨by first|rfl|(simp;done)|(simp [*];done),by repeat (first|exact Drawn0.refl _|apply Drawn0.step)⟩
    ·
     rw [if_neg c4] at H;exact absurd H (by simp)
   ·
    rw [if_neg c3] at H;have s2:decide (a0 < (l0.length:Int))=false:=decide_eq_false c3;clear c3;obtain rfl:=Option.some.inj H;go_wp2;go_ret;exact ⟨by first|rfl|(simp;done)|(simp [*];done),by repeat (first|exact Drawn0.refl _|apply Drawn0.step)⟩
end Go.Proofs.Ytppaknpjgkaciaa.T
namespace Go.Proofs.Ytppaknpjgkaciaa.Q
open Go.RowKit Go.Proofs.YtppaknpjgkaciaaW.PrintWords
def Opens {α:Type} (P:Program) (d:Kd α) (t:TypeId) (WF : α→Prop):Prop:=
 ∀ (H:Type) (enc:TypeId×Value→H) (w:World) (base:Nat) (spare:Nat→Bool) (held:Bool) (fuel:Nat) (cs:List Value) (x:DataW H×List MemPlace),DataW.trod enc P w base spare held fuel t cs=some x→∃ v : α,d.K w v cs∧WF v
theorem Opens.int {P:Program} {t:TypeId} {k:IntKind} (ht:P.underlying t=some (.int k)):Opens P (Kd.int k) t (fun n=>(Lit.int k n).wf=true):=by
 intro H enc w base spare held fuel cs x h
 obtain ⟨n,rfl,_,hw⟩:=DataW.trod_int ht h
 exact ⟨n,rfl,hw⟩
theorem Opens.bool {P:Program} {t:TypeId} (ht:P.underlying t=some .bool):Opens P Kd.bool t (fun _=>True):=by
 intro H enc w base spare held fuel cs x h
 obtain ⟨n,rfl,_⟩:=DataW.trod_bool ht h
 exact ⟨n,rfl,trivial⟩
theorem Opens.iso {α β:Type} {P:Program} {t:TypeId} {d:Kd α} {WF : α→Prop} {f : β→α} (h:Opens P d t WF) (g : α→β) (hg:∀ a,f (g a)=a):Opens P (Kd.iso d f) t (fun b=>WF (f b)):=by
 intro H enc w base spare held fuel cs x hx
 obtain ⟨v,hv,hw⟩:=h H enc w base spare held fuel cs x hx
 exact ⟨g v,by show d.K w (f (g v)) cs;rw [hg];exact hv,by show WF (f (g v));rw [hg];exact hw⟩
theorem list_of {α:Type} {Q:Nat→α→Prop} : ∀ (n:Nat),(∀ i,i < n→∃ v,Q i v)→∃ l:List α,l.length=n∧∀ j p,l[j]? = some p→Q j p
 | 0,_=>⟨[],rfl,fun j p h=>by simp at h⟩
 | n+1,h=>by
  obtain ⟨l,hl,hq⟩:=list_of n (fun i hi=>h i (by omega))
  obtain ⟨v,hv⟩:=h n (by omega)
  refine ⟨l ++ [v],by simp [hl],fun j p hj=>?_⟩
  rcases Nat.lt_or_ge j l.length with h1|h1
  ·rw [List.getElem?_append_left h1] at hj
   exact hq j p hj
  ·rw [List.getElem?_append_right h1] at hj
   have h2:j - l.length=0:=by
    have:=(List.getElem?_eq_some_iff.1 hj).1
    simp at this
    omega
   rw [h2] at hj
   simp at hj
   subst hj
   have:j=n:=by omega
   subst this
   exact hv
theorem cells_get {w:World} {base:Nat} {a:Addr} {n:Nat} {cs:List Value} (h:w.cells? base a n=some cs):cs.length=n∧∀ (i:Nat) (u:Value),cs[i]? = some u→w.cell? (a.add i)=some u:=by
 unfold World.cells? at h
 split at h
 ·have hl:cs.length=n:=by simpa using mapM_some_length h
  refine ⟨hl,fun i u hu=>?_⟩
  have hi:i < cs.length:=(List.getElem?_eq_some_iff.1 hu).1
  have:=mapM_some_get h i i (by rw [List.getElem?_range (by omega)])
  rw [this,hu]
 ·cases h
theorem add_add' (a:Addr) (x y:Nat):(a.add x).add y=a.add (x+y):=by
 by_cases hx:x=0 <;> by_cases hy:y=0 <;> simp [Addr.add,hx,hy,Nat.add_assoc]
theorem Opens.slice {α:Type} {P:Program} {t e:TypeId} {d:Kd α} {WF : α→Prop} (ht:P.underlying t=some (.slice e)) (h:Opens P d e WF) (hs:P.cellsOf e=d.sz):Opens P (Kd.slice e d) t (fun l=>l.length≤maxLen∧∀ v∈l,WF v):=by
 intro H enc w base spare held fuel cs x hx
 rcases Go.Deep.open_slice ht hx with ⟨rfl,_⟩|⟨a,len,cap,m,n,D,Pl,rfl,hb,hl,hm,hmm,_,hi⟩
 ·exact ⟨[],⟨none,0,rfl,Nat.le_refl _,rfl,by simp,fun h=>by simp at h⟩,by simp,fun v hv=>by simp at hv⟩
 ·have hlm:len≤m:=by rw [hmm];split <;> omega
  obtain ⟨l,hll,hq⟩:=list_of (Q:=fun i v=>∃ c,w.cells? base (a.add (i * P.cellsOf e)) (P.cellsOf e)=some c∧d.K w v c∧WF v) len (fun i hlt=>by
   obtain ⟨c,hc,hd⟩:=hi i (by omega)
   obtain ⟨v,hv,hw⟩:=h H enc w base spare held n c _ hd
   exact ⟨v,c,hc,hv,hw⟩)
  subst hll
  refine ⟨l,⟨some a,cap,rfl,hl,rfl,by unfold maxLen at hm;omega,fun _=>⟨a,rfl,fun j p hj=>?_⟩⟩,Nat.le_trans hl hm,fun v hv=>?_⟩
  ·obtain ⟨c,hc,hk,_⟩:=hq j p hj
   obtain ⟨h1,h2⟩:=cells_get hc
   refine ⟨c,by rw [h1,hs],hk,fun i u hu=>?_⟩
   rw [← hs,← add_add']
   exact h2 i u hu
  ·obtain ⟨j,hj,rfl⟩:=List.getElem_of_mem hv
   obtain ⟨_,_,_,hw⟩:=hq j _ (List.getElem?_eq_getElem hj)
   exact hw
def OpensFs {α:Type} (P:Program) (o:Nat) (fs:List Field) (d:Kd α) (WF : α→Prop):Prop:=
 ∀ (H:Type) (enc:TypeId×Value→H) (w:World) (base:Nat) (spare:Nat→Bool) (held:Bool) (fuel:Nat) (cs:List Value),(∀ f∈fs,∃ x:DataW H×List MemPlace,DataW.trod enc P w base spare held fuel f.type ((cs.drop f.offset).take (P.cellsOf f.type))=some x)→cs.length=o+d.sz→∃ v : α,d.K w v (cs.drop o)∧WF v
theorem OpensFs.one {α:Type} {P:Program} {o:Nat} {f:Field} {d:Kd α} {WF : α→Prop} (ho:f.offset=o) (hs:P.cellsOf f.type=d.sz) (h:Opens P d f.type WF):OpensFs P o [f] d WF:=by
 intro H enc w base spare held fuel cs hx hl
 obtain ⟨x,hx⟩:=hx f (by simp)
 rw [ho,hs,List.take_of_length_le (by rw [length_drop];omega)] at hx
 exact h H enc w base spare held fuel _ x hx
theorem OpensFs.cons {α β:Type} {P:Program} {o:Nat} {f:Field} {fs:List Field} {d:Kd α} {d' : Kd β} {WF : α→Prop} {WF' : β→Prop} (ho:f.offset=o) (hs:P.cellsOf f.type=d.sz) (h:Opens P d f.type WF) (h' : OpensFs P (o+d.sz) fs d' WF'):OpensFs P o (f::fs) (Kd.pair d d') (fun p=>WF p.1∧WF' p.2):=by
 intro H enc w base spare held fuel cs hx hl
 obtain ⟨x,hx0⟩:=hx f (by simp)
 rw [ho,hs] at hx0
 obtain ⟨v,hv,hw⟩:=h H enc w base spare held fuel _ x hx0
 have hl' : cs.length=o+d.sz+d'.sz:=by rw [hl];exact (Nat.add_assoc _ _ _).symm
 obtain ⟨v',hv',hw'⟩:=h' H enc w base spare held fuel cs (fun f' hf'=>hx f' (List.mem_cons_of_mem _ hf')) hl'
 refine ⟨(v,v'),⟨(cs.drop o).take d.sz,cs.drop (o+d.sz),?_,hv,hv'⟩,hw,hw'⟩
 rw [← List.drop_drop,List.take_append_drop]
theorem Opens.struct {α:Type} {P:Program} {t:TypeId} {fs:Array Field} {d:Kd α} {WF : α→Prop} (ht:P.underlying t=some (.struct fs)) (hs:P.cellsOf t=d.sz) (h:OpensFs P 0 fs.toList d WF):Opens P d t WF:=by
 intro H enc w base spare held fuel cs x hx
 obtain ⟨xs,n,_,_,hl,hxs,hf⟩:=DataW.trod_struct ht hx
 refine h H enc w base spare held n cs (fun f hfm=>?_) (by rw [hl,hs,Nat.zero_add])
 obtain ⟨i,hi,rfl⟩:=List.getElem_of_mem hfm
 have hi' : i < fs.size:=by simpa using hi
 have:=hf i fs[i] (Array.getElem?_eq_getElem hi')
 rw [List.getElem?_eq_getElem (by omega)] at this
 exact ⟨_,by simpa using this⟩
end Go.Proofs.Ytppaknpjgkaciaa.Q
namespace Go.Proofs.Ytppaknpjgkaciaa.T
open Go.RowKit Go.Proofs.YtppaknpjgkaciaaW.PrintWords
set_option linter.unusedVariables false
def WF66 (x:S66):Prop:=(Lit.int .i64 x.f0).wf=true∧(Lit.int .i64 x.f1).wf=true∧True∧(x.f3.length≤maxLen∧∀ v∈x.f3,(Lit.int .i64 v).wf=true)∧True∧(x.f5.length≤maxLen∧∀ v∈x.f5,(Lit.int .i64 v).wf=true)
theorem opens66:Q.Opens Try.prog k66 66 WF66:=
 Q.Opens.iso (Q.Opens.struct Try.underlying66 (by kernel_rfl) (Q.OpensFs.cons rfl (by kernel_rfl) (Q.Opens.int Try.underlying3) (Q.OpensFs.cons rfl (by kernel_rfl) (Q.Opens.int Try.underlying3) (Q.OpensFs.cons rfl (by kernel_rfl) (Q.Opens.bool Try.underlying4) (Q.OpensFs.cons rfl (by kernel_rfl) (Q.Opens.slice Try.underlying41 (Q.Opens.int Try.underlying3) (by kernel_rfl)) (Q.OpensFs.cons rfl (by kernel_rfl) (Q.Opens.bool Try.underlying4) (Q.OpensFs.one rfl (by kernel_rfl) (Q.Opens.slice Try.underlying41 (Q.Opens.int Try.underlying3) (by kernel_rfl))))))))) (fun p=>⟨p.1,p.2.1,p.2.2.1,p.2.2.2.1,p.2.2.2.2.1,p.2.2.2.2.2⟩) (fun _=>rfl)
def WF36 (x:S36):Prop:=True∧True∧(Lit.int .i64 x.f2).wf=true∧(Lit.int .i64 x.f3).wf=true∧(Lit.int .i64 x.f4).wf=true∧(x.f5.length≤maxLen∧∀ v∈x.f5,WF66 v)
theorem opens36:Q.Opens Try.prog k36 36 WF36:=
 Q.Opens.iso (Q.Opens.struct Try.underlying36 (by kernel_rfl) (Q.OpensFs.cons rfl (by kernel_rfl) (Q.Opens.bool Try.underlying4) (Q.OpensFs.cons rfl (by kernel_rfl) (Q.Opens.bool Try.underlying4) (Q.OpensFs.cons rfl (by kernel_rfl) (Q.Opens.int Try.underlying3) (Q.OpensFs.cons rfl (by kernel_rfl) (Q.Opens.int Try.underlying3) (Q.OpensFs.cons rfl (by kernel_rfl) (Q.Opens.int Try.underlying3) (Q.OpensFs.one rfl (by kernel_rfl) (Q.Opens.slice Try.underlying34 opens66 (by kernel_rfl))))))))) (fun p=>⟨p.1,p.2.1,p.2.2.1,p.2.2.2.1,p.2.2.2.2.1,p.2.2.2.2.2⟩) (fun _=>rfl)
end Go.Proofs.Ytppaknpjgkaciaa.T
namespace Go.Proofs.Ytppaknpjgkaciaa.Q
open Go.RowKit Go.Proofs.YtppaknpjgkaciaaW.PrintWords
set_option linter.unusedVariables false
set_option linter.unusedSimpArgs false
theorem ev_succ {α:Type} {g:Nat→Option α} {r : α} (h:Ev (fun k=>g (k+1)) r):Ev g r:=Ev.step (f:=fun k=>g (k+1)) (fun _=>rfl) h
theorem ev_of_all {α:Type} {g:Nat→Option α} {r : α} (h:∀ k,g k=some r):Ev g r:=⟨0,fun k _=>h k⟩
theorem ev_some {α:Type} (r : α):Ev (fun _=>some r) r:=ev_of_all fun _=>rfl
def Evs {α:Type} (g:Nat→Option α) (Q : α→Prop):Prop:=∃ r,Ev g r∧Q r
theorem Evs.of {α:Type} {g:Nat→Option α} {Q : α→Prop} {r : α} (h:Ev g r) (hq:Q r):Evs g Q:=⟨r,h,hq⟩
theorem Evs.done {α:Type} {Q : α→Prop} {r : α} (hq:Q r):Evs (fun _=>some r) Q:=⟨r,ev_some r,hq⟩
theorem Evs.mono {α:Type} {g:Nat→Option α} {Q Q' : α→Prop} (h:Evs g Q) (hq:∀ r,Q r→Q' r):Evs g Q':=by
 obtain ⟨r,h1,h2⟩:=h
 exact ⟨r,h1,hq r h2⟩
theorem Evs.succ {α:Type} {g:Nat→Option α} {Q : α→Prop} (h:Evs (fun k=>g (k+1)) Q):Evs g Q:=by
 obtain ⟨r,h1,h2⟩:=h
 exact ⟨r,ev_succ h1,h2⟩
theorem Evs.bind {α β:Type} {g:Nat→Option α} {f:Nat→α→Option β} {Q : α→Prop} {R : β→Prop} (h:Evs g Q) (k:∀ a,Q a→Evs (fun n=>f n a) R):Evs (fun n=>(g n).bind (f n)) R:=by
 obtain ⟨a,h1,h2⟩:=h
 obtain ⟨r,k1,k2⟩:=k a h2
 exact ⟨r,Ev.bind h1 k1,k2⟩
theorem bsome {α β:Type} (a : α) (f : α→Option β):(some a).bind f=f a:=Eq.trans (Option.bind_some a f) (Eq.refl _)
end Go.Proofs.Ytppaknpjgkaciaa.Q
namespace Go.Proofs.Ytppaknpjgkaciaa.Q
open Go.RowKit Go.Proofs.Ytppaknpjgkaciaa.T Go.Proofs.YtppaknpjgkaciaaW.PrintWords Go.Proofs.YtppaknpjgkaciaaW.PrintLast
set_option linter.unusedVariables false
set_option linter.unusedSimpArgs false
theorem wrap_id {x:Int} (h0 : -9223372036854775808≤x) (h1:x < 9223372036854775808):wrap64 x=x:=by unfold wrap64;omega
theorem Rv (a b c:Int):Qr.f a b c=some (decide (b≤a∧a≤c)):=by
 unfold Qr.f
 by_cases h:a ≥ b
 ·rw [if_pos h]
  have:(b≤a∧a≤c)↔a≤c:=⟨fun h=>h.2,fun h'=>⟨h,h'⟩⟩
  simp [this]
 ·rw [if_neg h]
  have:¬ (b≤a∧a≤c):=fun h'=>h h'.1
  simp [this]
theorem spec_l6In_eq (a b c:Int):Qv.f a b c=some (decide (b≤a∧a≤c)):=by
 unfold Qv.f
 by_cases h:a ≥ b
 ·rw [if_pos h]
  have:(b≤a∧a≤c)↔a≤c:=⟨fun h=>h.2,fun h'=>⟨h,h'⟩⟩
  simp [this]
 ·rw [if_neg h]
  have:¬ (b≤a∧a≤c):=fun h'=>h h'.1
  simp [this]
theorem rd_nat (l:List Int) (j:Nat) (h:j < l.length):rd l (j:Int)=l[j]:=by
 unfold rd
 rw [Int.toNat_natCast,List.getD_eq_getElem?_getD,List.getElem?_eq_getElem h]
 rfl
theorem drop_int {l:List Int} {i:Nat} (h:i < l.length):l.drop i=rd l i::l.drop (i+1):=by
 rw [List.drop_eq_getElem_cons h,rd_nat l i h]
def ab (l:List Int):Bool:=decide (∀ x∈l,0≤x∧x≤255)
theorem ab_cons (x:Int) (l:List Int):ab (x::l)=(decide (0≤x∧x≤255)&&ab l):=by
 rw [Bool.eq_iff_iff]
 simp [ab,List.forall_mem_cons]
theorem ab_nil:ab []=true:=by simp [ab]
theorem isByte_eq (a:Int):Rl.f a=some (decide (0≤a∧a≤255)):=by
 unfold Rl.f
 by_cases h:a ≥ 0
 ·rw [if_pos h]
  have:(0≤a∧a≤255)↔a≤255:=⟨fun h=>h.2,fun h'=>⟨h,h'⟩⟩
  simp [this]
 ·rw [if_neg h]
  have:¬ (0≤a∧a≤255):=fun h'=>h h'.1
  simp [this]
theorem baseValid_eq (a b:Int):Rd.f a b=some (decide ((0≤a∧a≤99999)∧(0≤b∧b≤99999))):=by
 unfold Rd.f
 rw [Rv,Rv]
 by_cases h : 0≤a∧a≤99999 <;> simp [h]
theorem idValid_eqB (a:Int):Rg.f a=some (decide (0≤a∧a≤254)):=by
 unfold Rg.f
 rw [Rv]
 rfl
theorem implAll_loop (l:List Int) (hl:l.length≤1000000000000000):∀ (d i:Nat),l.length - i=d→i≤l.length→Ev (fun k=>Qn.l0 k l (l.length:Int) (i:Int)) (ab (l.drop i)):=by
 intro d
 induction d with
 | zero=>
  intro i hd hi
  rw [show l.drop i = [] from List.drop_eq_nil_of_le (by omega),ab_nil]
  refine ev_succ ?_
  simp only [Qn.l0,if_neg (show ¬ (i:Int) < (l.length:Int) by omega)]
  exact ev_some _
 | succ d ih=>
  intro i hd hi
  have e1:wrap64 ((i:Int)+1)=((i+1:Nat):Int):=by rw [wrap_id (by omega) (by omega)];omega
  rw [drop_int (show i < l.length by omega),ab_cons]
  refine ev_succ ?_
  simp only [Qn.l0,if_pos (show (i:Int) < (l.length:Int) by omega),if_pos (show (0:Int)≤i by omega),isByte_eq,bsome,decide_eq_true_eq,e1]
  by_cases h : 0≤rd l (i:Int)∧rd l (i:Int)≤255
  ·simp only [if_pos h,decide_eq_true h,Bool.true_and]
   exact ih (i+1) (by omega) (by omega)
  ·simp only [if_neg h,decide_eq_false h,Bool.false_and]
   exact ev_some _
theorem implAll (l:List Int) (hl:l.length≤1000000000000000):Ev (fun k=>Qn.f k l) (ab l):=by
 unfold Qn.f
 have:=implAll_loop l hl l.length 0 (by omega) (by omega)
 simpa using this
theorem specAll_loop (l:List Int) (hl:l.length≤1000000000000000):∀ (d i:Nat),l.length - i=d→i≤l.length→Ev (fun k=>Q6.l0 k l (i:Int)) (ab (l.drop i)):=by
 intro d
 induction d with
 | zero=>
  intro i hd hi
  rw [show l.drop i = [] from List.drop_eq_nil_of_le (by omega),ab_nil]
  refine ev_succ ?_
  simp only [Q6.l0,if_neg (show ¬ (i:Int) < (l.length:Int) by omega)]
  exact ev_some _
 | succ d ih=>
  intro i hd hi
  have e1:wrap64 ((i:Int)+1)=((i+1:Nat):Int):=by rw [wrap_id (by omega) (by omega)];omega
  rw [drop_int (show i < l.length by omega),ab_cons]
  refine ev_succ ?_
  simp only [Q6.l0,if_pos (show (i:Int) < (l.length:Int) by omega),if_pos (show (0:Int)≤i by omega),spec_l6In_eq,bsome,decide_eq_true_eq,e1]
  by_cases h : 0≤rd l (i:Int)∧rd l (i:Int)≤255
  ·simp only [if_pos h,decide_eq_true h,Bool.true_and]
   exact ih (i+1) (by omega) (by omega)
  ·simp only [if_neg h,decide_eq_false h,Bool.false_and]
   exact ev_some _
theorem specAll (l:List Int) (hl:l.length≤1000000000000000):Ev (fun k=>Q6.f k l) (ab l):=by
 unfold Q6.f
 have:=specAll_loop l hl l.length 0 (by omega) (by omega)
 simpa using this
def pv (has:Bool) (l:List Int):Bool:=if has=true then decide (l.length≤12)&&ab l else decide (l.length=0)
theorem implPart (has:Bool) (l:List Int) (hl:l.length≤1000000000000000):Ev (fun k=>Q7.f k has l) (pv has l):=by
 unfold Q7.f pv
 cases has with
 | true=>
  simp only [if_true]
  by_cases h:(l.length:Int)≤12
  ·simp only [if_pos h,decide_eq_true (show l.length≤12 by omega),Bool.true_and]
   exact Ev.bind (implAll l hl) (ev_some _)
  ·simp only [if_neg h,decide_eq_false (show ¬ l.length≤12 by omega),Bool.false_and]
   exact ev_some _
 | false=>
  simp only [Bool.false_eq_true,if_false]
  rw [show ((l.length:Int)==0)=decide (l.length=0) by rw [Bool.eq_iff_iff];simp]
  exact ev_some _
theorem specPart (has:Bool) (l:List Int) (hl:l.length≤1000000000000000):Ev (fun k=>Rh.f k has l) (pv has l):=by
 unfold Rh.f pv
 cases has with
 | true=>
  simp only [if_true]
  refine Ev.bind (specAll l hl) ?_
  by_cases h:ab l=true
  ·simp only [if_pos h,h,Bool.and_true]
   rw [show decide ((l.length:Int)≤12)=decide (l.length≤12) by rw [decide_eq_decide];omega]
   exact ev_some _
  ·simp only [if_neg h,show ab l=false by simpa using h,Bool.and_false]
   exact ev_some _
 | false=>
  simp only [Bool.false_eq_true,if_false]
  by_cases h:l.length=0
  ·simp only [if_pos (show (l.length:Int)=0 by omega),decide_eq_true h]
   refine Ev.bind (specAll l hl) ?_
   have hn:l = []:=List.length_eq_zero_iff.1 h
   subst hn
   simp only [ab_nil,if_true]
   exact ev_some _
  ·simp only [if_neg (show ¬ (l.length:Int)=0 by omega),decide_eq_false h]
   exact ev_some _
abbrev Rc:=S43
abbrev rr (l:List Rc) (i:Int):Rc:=Qb l i
theorem rr_nat (l:List Rc) (j:Nat) (h:j < l.length):rr l (j:Int)=l[j]:=by
 unfold rr Qb
 rw [Int.toNat_natCast,List.getD_eq_getElem?_getD,List.getElem?_eq_getElem h]
 rfl
def smallR (r:Rc):Prop:=r.f3.length≤1000000000000000∧r.f5.length≤1000000000000000
def smallRs (l:List Rc):Prop:=l.length≤1000000000000000∧∀ r∈l,smallR r
theorem smallRs_at {l:List Rc} (h:smallRs l) (j:Nat) (hj:j < l.length):smallR (rr l (j:Int)):=by
 rw [rr_nat l j hj]
 exact h.2 _ (List.getElem_mem hj)
def rv (r:Rc):Bool:=decide ((0≤r.f0∧r.f0≤99999)∧(0≤r.f1∧r.f1≤99999))&&(pv r.f2 r.f3&&pv r.f4 r.f5)
theorem implRec (r:Rc) (h:smallR r):Ev (fun k=>Q8.f k r.f0 r.f1 r.f2 r.f3 r.f4 r.f5) (rv r):=by
 unfold Q8.f rv
 simp only [baseValid_eq,bsome,decide_eq_true_eq]
 by_cases h0:(0≤r.f0∧r.f0≤99999)∧(0≤r.f1∧r.f1≤99999)
 ·simp only [if_pos h0,decide_eq_true h0,Bool.true_and]
  refine Ev.bind (implPart _ _ h.1) ?_
  by_cases h1:pv r.f2 r.f3=true
  ·simp only [if_pos h1,h1,Bool.true_and]
   exact Ev.bind (implPart _ _ h.2) (ev_some _)
  ·simp only [if_neg h1,show pv r.f2 r.f3=false by simpa using h1,Bool.false_and]
   exact ev_some _
 ·simp only [if_neg h0,decide_eq_false h0,Bool.false_and]
  exact ev_some _
theorem specRec (r:Rc) (h:smallR r):Ev (fun k=>Q9.f k r.f0 r.f1 r.f2 r.f3 r.f4 r.f5) (rv r):=by
 unfold Q9.f rv
 simp only [spec_l6In_eq,bsome,decide_eq_true_eq]
 by_cases h0 : 0≤r.f0∧r.f0≤99999
 ·by_cases h1 : 0≤r.f1∧r.f1≤99999
  ·simp only [if_pos h0,if_pos h1,decide_eq_true (show (0≤r.f0∧r.f0≤99999)∧(0≤r.f1∧r.f1≤99999) from ⟨h0,h1⟩),Bool.true_and]
   refine Ev.bind (specPart _ _ h.1) ?_
   by_cases h2:pv r.f2 r.f3=true
   ·simp only [if_pos h2,h2,Bool.true_and]
    exact Ev.bind (specPart _ _ h.2) (ev_some _)
   ·simp only [if_neg h2,show pv r.f2 r.f3=false by simpa using h2,Bool.false_and]
    exact ev_some _
  ·simp only [if_pos h0,if_neg h1,decide_eq_false (show ¬ ((0≤r.f0∧r.f0≤99999)∧(0≤r.f1∧r.f1≤99999)) from fun h=>h1 h.2),Bool.false_and]
   exact ev_some _
 ·simp only [if_neg h0,decide_eq_false (show ¬ ((0≤r.f0∧r.f0≤99999)∧(0≤r.f1∧r.f1≤99999)) from fun h=>h0 h.1),Bool.false_and]
  exact ev_some _
def RF (l:List Rc) (i:Nat):Prop:=∀ j,i≤j→j < l.length→rv (rr l j)=true∧(0 < j→(rr l ((j:Int) - 1)).f0 < (rr l j).f0)
theorem RF_end {l:List Rc} {i:Nat} (h:l.length≤i):RF l i:=fun j h1 h2=>by omega
theorem RF_step {l:List Rc} {i:Nat} (h:i < l.length):RF l i↔(rv (rr l i)=true∧(0 < i→(rr l ((i:Int) - 1)).f0 < (rr l i).f0))∧RF l (i+1):=by
 constructor
 ·intro hv
  exact ⟨hv i (Nat.le_refl _) h,fun j h1 h2=>hv j (by omega) h2⟩
 ·rintro ⟨h1,h2⟩ j h3 h4
  by_cases e:j=i
  ·subst e;exact h1
  ·exact h2 j (by omega) h4
theorem implRecs_loop (l:List Rc) (hl:smallRs l) (a0 a1:Bool) (a2 a3 a4:Int):∀ (d i:Nat),l.length - i=d→i≤l.length→Evs (fun k=>Qc.l0 k l (l.length:Int) (i:Int) a0 a1 a2 a3 a4 l) (fun b=>b=true↔RF l i):=by
 intro d
 induction d with
 | zero=>
  intro i hd hi
  refine Evs.succ ?_
  simp only [Qc.l0,if_neg (show ¬ (i:Int) < (l.length:Int) by omega)]
  exact Evs.done (by simp;exact RF_end (by omega))
 | succ d ih=>
  intro i hd hi
  have hll:=hl.1
  have hn:=ih (i+1) (by omega) (by omega)
  have e1:wrap64 ((i:Int)+1)=((i+1:Nat):Int):=by rw [wrap_id (by omega) (by omega)];omega
  have e2:wrap64 ((i:Int) - 1)=(i:Int) - 1:=wrap_id (by omega) (by omega)
  rw [RF_step (show i < l.length by omega)]
  refine Evs.succ ?_
  simp only [Qc.l0,if_pos (show (i:Int) < (l.length:Int) by omega),if_pos (show (0:Int)≤i by omega),e1,e2]
  refine Evs.bind (Evs.of (implRec (rr l (i:Int)) (smallRs_at hl i (by omega))) rfl:Evs _ (fun x=>x=rv (rr l (i:Int)))) ?_
  rintro _ rfl
  by_cases h1:rv (rr l (i:Int))=true
  ·simp only [if_pos h1]
   by_cases h0:(i:Int) > 0
   ·simp only [if_pos h0,if_pos (show 0≤(i:Int) - 1 by omega),if_pos (show (i:Int) - 1 < (l.length:Int) by omega)]
    by_cases h2:(rr l ((i:Int) - 1)).f0 ≥ (rr l (i:Int)).f0
    ·simp only [if_pos h2]
     refine Evs.done ?_
     simp only [Bool.false_eq_true,false_iff]
     rintro ⟨⟨_,h3⟩,_⟩
     have:=h3 (by omega)
     omega
    ·simp only [if_neg h2]
     refine hn.mono fun b hb=>?_
     rw [hb]
     exact ⟨fun h=>⟨⟨h1,fun _=>by omega⟩,h⟩,fun h=>h.2⟩
   ·simp only [if_neg h0]
    refine hn.mono fun b hb=>?_
    rw [hb]
    exact ⟨fun h=>⟨⟨h1,fun h'=>absurd h' (by omega)⟩,h⟩,fun h=>h.2⟩
  ·simp only [if_neg h1]
   exact Evs.done (by simp only [Bool.false_eq_true,false_iff];exact fun h=>h1 h.1.1)
theorem specRecs_loop (l:List Rc) (hl:smallRs l):∀ (d i:Nat),l.length - i=d→i≤l.length→Evs (fun k=>Qf.l0 k l (i:Int)) (fun b=>b=true↔RF l i∧1≤l.length∧l.length≤6):=by
 intro d
 induction d with
 | zero=>
  intro i hd hi
  refine Evs.succ ?_
  simp only [Qf.l0,if_neg (show ¬ (i:Int) < (l.length:Int) by omega),spec_l6In_eq,bsome]
  exact Evs.done (by simp only [decide_eq_true_eq];exact ⟨fun h=>⟨RF_end (by omega),by omega,by omega⟩,fun h=>by have:=h.2;omega⟩)
 | succ d ih=>
  intro i hd hi
  have hll:=hl.1
  have hn:=ih (i+1) (by omega) (by omega)
  have e1:wrap64 ((i:Int)+1)=((i+1:Nat):Int):=by rw [wrap_id (by omega) (by omega)];omega
  have e2:wrap64 ((i:Int) - 1)=(i:Int) - 1:=wrap_id (by omega) (by omega)
  rw [RF_step (show i < l.length by omega)]
  refine Evs.succ ?_
  simp only [Qf.l0,if_pos (show (i:Int) < (l.length:Int) by omega),if_pos (show (0:Int)≤i by omega),e1,e2]
  refine Evs.bind (Evs.of (specRec (rr l (i:Int)) (smallRs_at hl i (by omega))) rfl:Evs _ (fun x=>x=rv (rr l (i:Int)))) ?_
  rintro _ rfl
  by_cases h1:rv (rr l (i:Int))=true
  ·simp only [if_pos h1]
   by_cases h0:(i:Int) > 0
   ·simp only [if_pos h0,if_pos (show 0≤(i:Int) - 1 by omega),if_pos (show (i:Int) - 1 < (l.length:Int) by omega)]
    by_cases h2:(rr l ((i:Int) - 1)).f0 ≥ (rr l (i:Int)).f0
    ·simp only [if_pos h2]
     refine Evs.done ?_
     simp only [Bool.false_eq_true,false_iff]
     rintro ⟨⟨⟨_,h3⟩,_⟩,_⟩
     have:=h3 (by omega)
     omega
    ·simp only [if_neg h2]
     refine hn.mono fun b hb=>?_
     rw [hb]
     exact ⟨fun h=>⟨⟨⟨h1,fun _=>by omega⟩,h.1⟩,h.2⟩,fun h=>⟨h.1.2,h.2⟩⟩
   ·simp only [if_neg h0]
    refine hn.mono fun b hb=>?_
    rw [hb]
    exact ⟨fun h=>⟨⟨⟨h1,fun h'=>absurd h' (by omega)⟩,h.1⟩,h.2⟩,fun h=>⟨h.1.2,h.2⟩⟩
  ·simp only [if_neg h1]
   exact Evs.done (by simp only [Bool.false_eq_true,false_iff];exact fun h=>h1 h.1.1.1)
def VB (a1:Bool) (a2 a3 a4:Int) (l:List Rc):Prop:=
 (if a2=255 then a3=0∧a4=0∧a1=false else (0≤a2∧a2≤254)∧(0≤a3∧a3≤99)∧(0≤a4∧a4≤9999))∧(1≤l.length∧l.length≤6)∧(a1=true→l.length=1)∧RF l 0
theorem implB_j0 (a0 a1:Bool) (a2 a3 a4:Int) (l:List Rc) (hl:smallRs l):Evs (fun k=>Qc.j0 k a0 a1 a2 a3 a4 l) (fun b=>b=true↔(1≤l.length∧l.length≤6)∧(a1=true→l.length=1)∧RF l 0):=by
 have hr:=implRecs_loop l hl a0 a1 a2 a3 a4 l.length 0 (by omega) (by omega)
 refine Evs.succ ?_
 simp only [Qc.j0,Rv,bsome,decide_eq_true_eq]
 by_cases h : 1≤(l.length:Int)∧(l.length:Int)≤6
 ·simp only [if_pos h]
  cases a1 with
  | true=>
   simp only [if_true]
   refine Evs.succ ?_
   by_cases h1:l.length=1
   ·simp only [Qc.j1,show ((l.length:Int) != 1)=false by rw [h1];rfl,Bool.false_eq_true,if_false]
    refine hr.mono fun b hb=>?_
    rw [hb]
    exact ⟨fun h2=>⟨by omega,fun _=>h1,h2⟩,fun h2=>h2.2.2⟩
   ·simp only [Qc.j1,show ((l.length:Int) != 1)=true by simp;omega,if_true]
    exact Evs.done (by simp only [Bool.false_eq_true,false_iff];exact fun h2=>h1 (h2.2.1 trivial))
  | false=>
   simp only [Bool.false_eq_true,if_false]
   refine Evs.succ ?_
   simp only [Qc.j1,Bool.false_eq_true,if_false]
   refine hr.mono fun b hb=>?_
   rw [hb]
   exact ⟨fun h2=>⟨by omega,(fun h3=>h3.elim),h2⟩,fun h2=>h2.2.2⟩
 ·simp only [if_neg h]
  refine Evs.succ ?_
  simp only [Qc.j1,if_true]
  exact Evs.done (by simp only [Bool.false_eq_true,false_iff];exact fun h2=>h ⟨by have:=h2.1.1;omega,by have:=h2.1.2;omega⟩)
theorem implB_evs (a0 a1:Bool) (a2 a3 a4:Int) (l:List Rc) (hl:smallRs l):Evs (fun k=>Qc.f k a0 a1 a2 a3 a4 l) (fun b=>b=true↔VB a1 a2 a3 a4 l):=by
 have hj:=implB_j0 a0 a1 a2 a3 a4 l hl
 unfold Qc.f VB
 by_cases h:a2=255
 ·simp only [if_pos h]
  by_cases h3:a3=0
  ·simp only [if_pos h3]
   by_cases h4:a4=0
   ·simp only [if_pos h4]
    cases a1 with
    | true=>
     simp only [if_true]
     exact Evs.done (by simp)
    | false=>
     simp only [Bool.false_eq_true,if_false]
     refine hj.mono fun b hb=>?_
     rw [hb]
     exact ⟨fun h2=>⟨⟨h3,h4,trivial⟩,h2.1,(fun h5=>h5.elim),h2.2.2⟩,fun h2=>⟨h2.2.1,(fun h5=>by cases h5),h2.2.2.2⟩⟩
   ·simp only [if_neg h4]
    exact Evs.done (by simp only [Bool.false_eq_true,false_iff];exact fun h2=>h4 h2.1.2.1)
  ·simp only [if_neg h3]
   exact Evs.done (by simp only [Bool.false_eq_true,false_iff];exact fun h2=>h3 h2.1.1)
 ·simp only [if_neg h,idValid_eqB,Rv,bsome,decide_eq_true_eq]
  by_cases h2 : 0≤a2∧a2≤254
  ·simp only [if_pos h2]
   by_cases h3 : 0≤a3∧a3≤99
   ·simp only [if_pos h3]
    by_cases h4 : 0≤a4∧a4≤9999
    ·simp only [if_pos h4]
     refine hj.mono fun b hb=>?_
     rw [hb]
     exact ⟨fun h5=>⟨⟨h2,h3,h4⟩,h5⟩,fun h5=>h5.2⟩
    ·simp only [if_neg h4]
     exact Evs.done (by simp only [Bool.false_eq_true,false_iff];exact fun h5=>h4 h5.1.2.2)
   ·simp only [if_neg h3]
    exact Evs.done (by simp only [Bool.false_eq_true,false_iff];exact fun h5=>h3 h5.1.2.1)
  ·simp only [if_neg h2]
   exact Evs.done (by simp only [Bool.false_eq_true,false_iff];exact fun h5=>h2 h5.1.1)
theorem specB_j0_true (a0 a1:Bool) (a2 a3 a4:Int) (l:List Rc):Evs (fun k=>Ql.j0 k true a0 a1 a2 a3 a4 l) (fun b=>b=false):=by
 refine Evs.succ ?_
 simp only [Ql.j0,if_true]
 exact Evs.done rfl
theorem specB_evs (a0 a1:Bool) (a2 a3 a4:Int) (l:List Rc) (hl:smallRs l):Evs (fun k=>Ql.f k a0 a1 a2 a3 a4 l) (fun b=>b=true↔VB a1 a2 a3 a4 l):=by
 have hr:=specRecs_loop l hl l.length 0 (by omega) (by omega)
 have no:∀ {P:Prop},¬ P→∀ b:Bool,b=false→(b=true↔P):=fun hP b hb=>by rw [hb];simp only [Bool.false_eq_true,false_iff];exact hP
 unfold Ql.f
 unfold Qf.f
 refine Evs.bind hr ?_
 intro t ht
 by_cases h:t=true
 ·obtain ⟨hRF,hl1⟩:=ht.1 h
  simp only [if_pos h,spec_l6In_eq,bsome,decide_eq_true_eq]
  by_cases h2 : 0≤a2∧a2≤255
  ·simp only [if_pos h2]
   by_cases h3 : 0≤a3∧a3≤99
   ·simp only [if_pos h3]
    by_cases h4 : 0≤a4∧a4≤9999
    ·simp only [decide_eq_true h4,Bool.not_true]
     refine Evs.succ ?_
     simp only [Ql.j0,Bool.false_eq_true,if_false]
     unfold VB
     by_cases h5:a2=255
     ·simp only [if_pos h5]
      by_cases h6:a3=0
      ·simp only [if_pos h6]
       by_cases h7:a4=0
       ·simp only [if_pos h7]
        refine Evs.done ?_
        cases a1
        ·simp;exact ⟨⟨h6,h7⟩,hl1,hRF⟩
        ·simp
       ·simp only [if_neg h7]
        exact Evs.done (no (fun h8=>h7 h8.1.2.1) _ rfl)
      ·simp only [if_neg h6]
       exact Evs.done (no (fun h8=>h6 h8.1.1) _ rfl)
     ·simp only [if_neg h5]
      cases a1 with
      | true=>
       simp only [if_true]
       refine Evs.done ?_
       simp only [beq_iff_eq]
       exact ⟨fun h8=>⟨⟨by omega,h3,h4⟩,hl1,fun _=>by omega,hRF⟩,fun h8=>by have:=h8.2.2.1 trivial;omega⟩
      | false=>
       simp only [Bool.false_eq_true,if_false]
       refine Evs.done ?_
       simp only [true_iff]
       exact ⟨⟨by omega,h3,h4⟩,hl1,(fun h8=>h8.elim),hRF⟩
    ·simp only [decide_eq_false h4,Bool.not_false]
     refine (specB_j0_true a0 a1 a2 a3 a4 l).mono (no ?_)
     unfold VB
     split
     ·rintro ⟨⟨_,h8,_⟩,_⟩
      exact h4 (by omega)
     ·exact fun h8=>h4 h8.1.2.2
   ·simp only [if_neg h3]
    refine (specB_j0_true a0 a1 a2 a3 a4 l).mono (no ?_)
    unfold VB
    split
    ·rintro ⟨⟨h8,_,_⟩,_⟩
     exact h3 (by omega)
    ·exact fun h8=>h3 h8.1.2.1
  ·simp only [if_neg h2]
   refine (specB_j0_true a0 a1 a2 a3 a4 l).mono (no ?_)
   unfold VB
   split
   ·rename_i h8
    exact fun _=>h2 (by omega)
   ·exact fun h8=>h2 (by have:=h8.1.1;omega)
 ·simp only [if_neg h]
  refine (specB_j0_true a0 a1 a2 a3 a4 l).mono (no ?_)
  exact fun h8=>h (ht.2 ⟨h8.2.2.2,h8.2.1⟩)
open Classical in
noncomputable def vb (a1:Bool) (a2 a3 a4:Int) (l:List Rc):Bool:=decide (VB a1 a2 a3 a4 l)
theorem vb_iff (a1:Bool) (a2 a3 a4:Int) (l:List Rc):vb a1 a2 a3 a4 l=true↔VB a1 a2 a3 a4 l:=by unfold vb;simp
theorem implB (a0 a1:Bool) (a2 a3 a4:Int) (l:List Rc) (hl:smallRs l):Ev (fun k=>Qc.f k a0 a1 a2 a3 a4 l) (vb a1 a2 a3 a4 l):=by
 obtain ⟨b,hb,h⟩:=implB_evs a0 a1 a2 a3 a4 l hl
 rw [show vb a1 a2 a3 a4 l=b by rw [Bool.eq_iff_iff,vb_iff,h]]
 exact hb
theorem specB (a0 a1:Bool) (a2 a3 a4:Int) (l:List Rc) (hl:smallRs l):Ev (fun k=>Ql.f k a0 a1 a2 a3 a4 l) (vb a1 a2 a3 a4 l):=by
 obtain ⟨b,hb,h⟩:=specB_evs a0 a1 a2 a3 a4 l hl
 rw [show vb a1 a2 a3 a4 l=b by rw [Bool.eq_iff_iff,vb_iff,h]]
 exact hb
abbrev Bt:=S39
abbrev rb (l:List Bt) (i:Int):Bt:=Qa l i
theorem rb_nat (l:List Bt) (j:Nat) (h:j < l.length):rb l (j:Int)=l[j]:=by
 unfold rb Qa
 rw [Int.toNat_natCast,List.getD_eq_getElem?_getD,List.getElem?_eq_getElem h]
 rfl
def smallBs (l:List Bt):Prop:=l.length≤2000000∧∀ b∈l,smallRs b.f5
theorem smallBs_at {l:List Bt} (h:smallBs l) (j:Nat) (hj:j < l.length):smallRs (rb l (j:Int)).f5:=by
 rw [rb_nat l j hj]
 exact h.2 _ (List.getElem_mem hj)
def fOff (b:Bt):Int:=(rr b.f5 0).f0
def lOff (b:Bt):Int:=(rr b.f5 ((b.f5.length:Int) - 1)).f0
def vB (b:Bt):Prop:=VB b.f1 b.f2 b.f3 b.f4 b.f5
theorem vB_pos {b:Bt} (h:vB b) : 1≤b.f5.length∧b.f5.length≤6:=h.2.1
theorem first_eq {b:Bt} (h:vB b):Ra.f b.f0 b.f1 b.f2 b.f3 b.f4 b.f5=some (fOff b):=by
 have:=vB_pos h
 unfold Ra.f
 rw [if_pos (show 0 < (b.f5.length:Int) by omega)]
 rfl
theorem last_eq {b:Bt} (h:vB b):Rf.f b.f0 b.f1 b.f2 b.f3 b.f4 b.f5=some (lOff b):=by
 have:=vB_pos h
 have e:wrap64 ((b.f5.length:Int) - 1)=(b.f5.length:Int) - 1:=wrap_id (by omega) (by omega)
 unfold Rf.f
 rw [e,if_pos (show 0≤(b.f5.length:Int) - 1 by omega),if_pos (show (b.f5.length:Int) - 1 < (b.f5.length:Int) by omega)]
 rfl
theorem lastS_eq {b:Bt} (h:vB b):Rn.f b.f0 b.f1 b.f2 b.f3 b.f4 b.f5=some (lOff b):=by
 have:=vB_pos h
 have e:wrap64 ((b.f5.length:Int) - 1)=(b.f5.length:Int) - 1:=wrap_id (by omega) (by omega)
 unfold Rn.f
 rw [e,if_pos (show 0≤(b.f5.length:Int) - 1 by omega),if_pos (show (b.f5.length:Int) - 1 < (b.f5.length:Int) by omega)]
 rfl
theorem RF_lt {l:List Rc} (h:RF l 0):∀ (d i:Nat),i+d+1 < l.length→(rr l (i:Int)).f0 < (rr l ((i+d+1:Nat):Int)).f0
 | 0,i,hi=>by
  have:=(h (i+1) (by omega) hi).2 (by omega)
  rw [show ((i+1:Nat):Int) - 1=(i:Int) by omega] at this
  exact this
 | d+1,i,hi=>by
  have h1:=RF_lt h d i (by omega)
  have:=(h (i+d+2) (by omega) (by omega)).2 (by omega)
  rw [show ((i+d+2:Nat):Int) - 1=((i+d+1:Nat):Int) by omega] at this
  exact Int.lt_trans h1 this
theorem fOff_le {b:Bt} (h:vB b):fOff b≤lOff b:=by
 have hp:=vB_pos h
 unfold fOff lOff
 by_cases h1:b.f5.length=1
 ·rw [h1]
  exact Int.le_refl _
 ·have:=RF_lt h.2.2.2 (b.f5.length - 2) 0 (by omega)
  rw [show ((0+(b.f5.length - 2)+1:Nat):Int)=(b.f5.length:Int) - 1 by omega] at this
  exact Int.le_of_lt this
def LF (l:List Bt) (i:Nat):Prop:=∀ j,i≤j→j < l.length→vB (rb l j)∧(0 < j→lOff (rb l ((j:Int) - 1)) < fOff (rb l j))
def VL (l:List Bt):Prop:=l.length≤8∧LF l 0
theorem LF_end {l:List Bt} {i:Nat} (h:l.length≤i):LF l i:=fun j h1 h2=>by omega
theorem LF_step {l:List Bt} {i:Nat} (h:i < l.length):LF l i↔(vB (rb l i)∧(0 < i→lOff (rb l ((i:Int) - 1)) < fOff (rb l i)))∧LF l (i+1):=by
 constructor
 ·intro hl
  exact ⟨hl i (Nat.le_refl _) h,fun j h1 h2=>hl j (by omega) h2⟩
 ·rintro ⟨h0,h1⟩ j hj1 hj2
  by_cases he:j=i
  ·subst he;exact h0
  ·exact h1 j (by omega) hj2
open Classical in
noncomputable def vl (l:List Bt):Bool:=decide (VL l)
theorem vl_iff (l:List Bt):vl l=true↔VL l:=by unfold vl;simp
theorem vl_of {b:Bool} {l:List Bt} (h:b=true↔VL l):b=vl l:=by
 rw [Bool.eq_iff_iff,h,vl_iff]
theorem vb_vB (b:Bt):vb b.f1 b.f2 b.f3 b.f4 b.f5=true↔vB b:=vb_iff _ _ _ _ _
theorem implLog_loop (l:List Bt) (hl:smallBs l):∀ (d i:Nat),l.length - i=d→i≤l.length→(∀ j,j < i→vB (rb l (j:Int)))→Evs (fun k=>Qj.l0 k l l (l.length:Int) (i:Int)) (fun b=>b=true↔LF l i):=by
 have hs:=hl.1
 intro d
 induction d with
 | zero=>
  intro i hd hi _
  refine Evs.succ ?_
  simp only [Qj.l0,if_neg (show ¬ (i:Int) < (l.length:Int) by omega)]
  exact Evs.done ⟨fun _=>LF_end (by omega),fun _=>rfl⟩
 | succ d ih=>
  intro i hd hi hv
  have hlt:i < l.length:=by omega
  have e1:wrap64 ((i:Int)+1)=((i+1:Nat):Int):=by rw [wrap_id (by omega) (by omega)];omega
  refine Evs.succ ?_
  simp only [Qj.l0,if_pos (show (i:Int) < (l.length:Int) by omega),if_pos (show (0:Int)≤(i:Int) by omega),e1]
  refine Evs.bind (Evs.of (implB (rb l i).f0 (rb l i).f1 (rb l i).f2 (rb l i).f3 (rb l i).f4 (rb l i).f5 (smallBs_at hl i hlt)) rfl) ?_
  rintro _ rfl
  by_cases hb:vB (rb l i)
  ·have hb2:=(vb_vB (rb l i)).2 hb
   simp only [if_pos hb2]
   have hv2:∀ j,j < i+1→vB (rb l (j:Int)):=fun j hj=>by
    by_cases he:j=i
    ·subst he;exact hb
    ·exact hv j (by omega)
   by_cases h0:i=0
   ·subst h0
    simp only [if_neg (show ¬ ((0:Nat):Int) > 0 by omega)]
    refine (ih 1 (by omega) (by omega) hv2).mono fun b hb3=>?_
    rw [hb3,LF_step hlt]
    exact ⟨fun h=>⟨⟨hb,fun h=>absurd h (by omega)⟩,h⟩,fun h=>h.2⟩
   ·have e2:wrap64 ((i:Int) - 1)=(i:Int) - 1:=wrap_id (by omega) (by omega)
    have hp:vB (rb l ((i:Int) - 1)):=by have:=hv (i - 1) (by omega);rwa [show ((i - 1:Nat):Int)=(i:Int) - 1 by omega] at this
    have f1:=last_eq hp
    have f2:=first_eq hb
    simp only [if_pos (show (i:Int) > 0 by omega),e2,if_pos (show 0≤(i:Int) - 1 by omega),if_pos (show (i:Int) - 1 < (l.length:Int) by omega)]
    rw [show (Qa l ((i:Int) - 1))=rb l ((i:Int) - 1) from rfl,show (Qa l (i:Int))=rb l (i:Int) from rfl,f1,f2]
    simp only [bsome]
    by_cases hc:lOff (rb l ((i:Int) - 1)) ≥ fOff (rb l i)
    ·simp only [if_pos hc]
     refine Evs.done ?_
     rw [LF_step hlt]
     simp only [Bool.false_eq_true,false_iff]
     intro h
     have:=h.1.2 (by omega)
     omega
    ·simp only [if_neg hc]
     refine (ih (i+1) (by omega) (by omega) hv2).mono fun b hb3=>?_
     rw [hb3,LF_step hlt]
     exact ⟨fun h=>⟨⟨hb,fun _=>by omega⟩,h⟩,fun h=>h.2⟩
  ·have hb2:¬ vb (rb l i).f1 (rb l i).f2 (rb l i).f3 (rb l i).f4 (rb l i).f5=true:=fun h=>hb ((vb_vB (rb l i)).1 h)
   simp only [if_neg hb2]
   refine Evs.done ?_
   rw [LF_step hlt]
   simp only [Bool.false_eq_true,false_iff]
   exact fun h=>hb h.1.1
theorem implLog (l:List Bt) (hl:smallBs l):Ev (fun k=>Qj.f k l) (vl l):=by
 have hs:=hl.1
 unfold Qj.f
 by_cases h:(l.length:Int) > 8
 ·simp only [if_pos h]
  have:vl l=false:=by rw [← Bool.not_eq_true,vl_iff];exact fun h2=>by have:=h2.1;omega
  rw [this]
  exact ev_some _
 ·simp only [if_neg h]
  obtain ⟨b,h1,h2⟩:=implLog_loop l hl l.length 0 (by omega) (by omega) (fun j hj=>by omega)
  have:b=vl l:=vl_of (h2.trans ⟨fun h3=>⟨by omega,h3⟩,fun h3=>h3.2⟩)
  rw [← this]
  exact h1
theorem specLog_loop (l:List Bt) (hl:smallBs l):∀ (d i:Nat),l.length - i=d→i≤l.length→(∀ j,j < i→vB (rb l (j:Int)))→Evs (fun k=>Qk.l0 k l (i:Int)) (fun b=>b=true↔LF l i∧l.length≤8):=by
 have hs:=hl.1
 intro d
 induction d with
 | zero=>
  intro i hd hi _
  refine Evs.succ ?_
  simp only [Qk.l0,if_neg (show ¬ (i:Int) < (l.length:Int) by omega)]
  refine Evs.done ?_
  rw [decide_eq_true_eq]
  exact ⟨fun h=>⟨LF_end (by omega),by omega⟩,fun h=>by omega⟩
 | succ d ih=>
  intro i hd hi hv
  have hlt:i < l.length:=by omega
  have e1:wrap64 ((i:Int)+1)=((i+1:Nat):Int):=by rw [wrap_id (by omega) (by omega)];omega
  refine Evs.succ ?_
  simp only [Qk.l0,if_pos (show (i:Int) < (l.length:Int) by omega),if_pos (show (0:Int)≤(i:Int) by omega),e1]
  refine Evs.bind (Evs.of (specB (rb l i).f0 (rb l i).f1 (rb l i).f2 (rb l i).f3 (rb l i).f4 (rb l i).f5 (smallBs_at hl i hlt)) rfl) ?_
  rintro _ rfl
  by_cases hb:vB (rb l i)
  ·have hb2:=(vb_vB (rb l i)).2 hb
   simp only [if_pos hb2]
   have hv2:∀ j,j < i+1→vB (rb l (j:Int)):=fun j hj=>by
    by_cases he:j=i
    ·subst he;exact hb
    ·exact hv j (by omega)
   by_cases h0:i=0
   ·subst h0
    simp only [if_neg (show ¬ ((0:Nat):Int) > 0 by omega)]
    refine (ih 1 (by omega) (by omega) hv2).mono fun b hb3=>?_
    rw [hb3,LF_step hlt]
    exact ⟨fun h=>⟨⟨⟨hb,fun h=>absurd h (by omega)⟩,h.1⟩,h.2⟩,fun h=>⟨h.1.2,h.2⟩⟩
   ·have e2:wrap64 ((i:Int) - 1)=(i:Int) - 1:=wrap_id (by omega) (by omega)
    have hp:vB (rb l ((i:Int) - 1)):=by have:=hv (i - 1) (by omega);rwa [show ((i - 1:Nat):Int)=(i:Int) - 1 by omega] at this
    have f1:=lastS_eq hp
    have hpos:=(vB_pos hb).1
    simp only [if_pos (show (i:Int) > 0 by omega),e2,if_pos (show 0≤(i:Int) - 1 by omega),if_pos (show (i:Int) - 1 < (l.length:Int) by omega)]
    rw [show (Qa l ((i:Int) - 1))=rb l ((i:Int) - 1) from rfl,show (Qa l (i:Int))=rb l (i:Int) from rfl,f1]
    simp only [bsome,if_pos (show 0 < ((rb l (i:Int)).f5.length:Int) by omega)]
    by_cases hc:lOff (rb l ((i:Int) - 1)) ≥ fOff (rb l i)
    ·simp only [if_pos (show lOff (rb l ((i:Int) - 1)) ≥ (Qb (rb l (i:Int)).f5 0).f0 from hc)]
     refine Evs.done ?_
     rw [LF_step hlt]
     simp only [Bool.false_eq_true,false_iff]
     intro h
     have:=h.1.1.2 (by omega)
     omega
    ·simp only [if_neg (show ¬ lOff (rb l ((i:Int) - 1)) ≥ (Qb (rb l (i:Int)).f5 0).f0 from hc)]
     refine (ih (i+1) (by omega) (by omega) hv2).mono fun b hb3=>?_
     rw [hb3,LF_step hlt]
     exact ⟨fun h=>⟨⟨⟨hb,fun _=>by omega⟩,h.1⟩,h.2⟩,fun h=>⟨h.1.2,h.2⟩⟩
  ·have hb2:¬ vb (rb l i).f1 (rb l i).f2 (rb l i).f3 (rb l i).f4 (rb l i).f5=true:=fun h=>hb ((vb_vB (rb l i)).1 h)
   simp only [if_neg hb2]
   refine Evs.done ?_
   rw [LF_step hlt]
   simp only [Bool.false_eq_true,false_iff]
   exact fun h=>hb h.1.1.1
theorem specLog (l:List Bt) (hl:smallBs l):Ev (fun k=>Qk.f k l) (vl l):=by
 unfold Qk.f
 obtain ⟨b,h1,h2⟩:=specLog_loop l hl l.length 0 (by omega) (by omega) (fun j hj=>by omega)
 have:b=vl l:=vl_of (h2.trans ⟨fun h3=>⟨h3.2,h3.1⟩,fun h3=>⟨h3.2,h3.1⟩⟩)
 rw [← this]
 exact h1
theorem VL_at {l:List Bt} (h:VL l) (j:Nat) (hj:j < l.length):vB (rb l (j:Int)):=(h.2 j (Nat.zero_le _) hj).1
theorem VL_lt {l:List Bt} (h:VL l):∀ (d i:Nat),i+d+1 < l.length→fOff (rb l (i:Int)) < fOff (rb l ((i+d+1:Nat):Int))
 | 0,i,hi=>by
  have h1:=(h.2 (i+1) (Nat.zero_le _) hi).2 (by omega)
  rw [show ((i+1:Nat):Int) - 1=(i:Int) by omega] at h1
  have:=fOff_le (VL_at h i (by omega))
  exact Int.lt_of_le_of_lt this h1
 | d+1,i,hi=>by
  have h0:=VL_lt h d i (by omega)
  have h1:=(h.2 (i+d+2) (Nat.zero_le _) (by omega)).2 (by omega)
  rw [show ((i+d+2:Nat):Int) - 1=((i+d+1:Nat):Int) by omega] at h1
  have:=fOff_le (VL_at h (i+d+1) (by omega))
  exact Int.lt_trans h0 (Int.lt_of_le_of_lt this h1)
theorem VL_lt' {l:List Bt} (h:VL l) {i j:Nat} (hij:i < j) (hj:j < l.length):fOff (rb l (i:Int)) < fOff (rb l (j:Int)):=by
 have:=VL_lt h (j - i - 1) i (by omega)
 rwa [show i+(j - i - 1)+1=j by omega] at this
abbrev Lr:=S66
abbrev Lb:=S36
def toR (x:Lr):Rc:=⟨x.f0,x.f1,x.f2,x.f3,x.f4,x.f5⟩
def toB (x:Lb):Bt:=⟨x.f0,x.f1,x.f2,x.f3,x.f4,x.f5.map toR⟩
theorem rdLr (l:List Lr) (j:Nat) (h:j < l.length):Qq l (j:Int)=l[j]:=by
 unfold Qq
 rw [Int.toNat_natCast,List.getD_eq_getElem?_getD,List.getElem?_eq_getElem h]
 rfl
theorem rdLb (l:List Lb) (j:Nat) (h:j < l.length):Qt l (j:Int)=l[j]:=by
 unfold Qt
 rw [Int.toNat_natCast,List.getD_eq_getElem?_getD,List.getElem?_eq_getElem h]
 rfl
def sz (a:Int) (P:Prop) (r:Int):Prop:=r = -1∨(0≤r∧r≤a∧P)
theorem szInts (l:List Int) (hl:l.length≤9223372036854775807) (a:Int) (h0 : 0≤a) (h1:a≤1048576):∃ r,Rb.f l a=some r∧sz a (l.length≤1048576) r:=by
 have e:wrap64 (a - (l.length:Int))=a - (l.length:Int):=wrap_id (by omega) (by omega)
 unfold Rb.f
 rw [e]
 by_cases h:a - (l.length:Int) < 0
 ·rw [if_pos h];exact ⟨_,rfl,Or.inl rfl⟩
 ·rw [if_neg h];exact ⟨_,rfl,Or.inr ⟨by omega,by omega,by omega⟩⟩
def okR (x:Lr):Prop:=x.f3.length≤1048576∧x.f5.length≤1048576
def bigR (x:Lr):Prop:=x.f3.length≤9223372036854775807∧x.f5.length≤9223372036854775807
theorem szRec (x:Lr) (hx:bigR x) (a:Int) (h0 : 0≤a) (h1:a≤1048576):∃ r,Ro.f x.f0 x.f1 x.f2 x.f3 x.f4 x.f5 a=some r∧sz a (okR x) r:=by
 obtain ⟨r1,e1,p1⟩:=szInts x.f3 hx.1 a h0 h1
 unfold Ro.f
 rw [e1]
 rw [bsome]
 rcases p1 with rfl|⟨q0,q1,q2⟩
 ·rw [if_pos (by omega)];exact ⟨_,rfl,Or.inl rfl⟩
 ·rw [if_neg (by omega)]
  obtain ⟨r2,e2,p2⟩:=szInts x.f5 hx.2 r1 q0 (by omega)
  rw [e2]
  rw [bsome]
  rcases p2 with rfl|⟨s0,s1,s2⟩
  ·rw [if_pos (by omega)];exact ⟨_,rfl,Or.inl rfl⟩
  ·rw [if_neg (by omega)];exact ⟨_,rfl,Or.inr ⟨s0,by omega,q2,s2⟩⟩
theorem szRecs_loop (l:List Lr) (hl:l.length≤1048576) (hx:∀ x∈l,bigR x):∀ (d i:Nat) (a:Int),l.length - i=d→i≤l.length→0≤a→a≤1048576→Evs (fun k=>Qw.l0 k l a (i:Int)) (sz a (∀ j,i≤j→(h:j < l.length)→okR l[j])):=by
 intro d
 induction d with
 | zero=>
  intro i a hd hi h0 h1
  refine Evs.succ ?_
  simp only [Qw.l0,if_neg (show ¬ (i:Int) < (l.length:Int) by omega)]
  exact Evs.done (Or.inr ⟨h0,Int.le_refl _,fun j hj h=>by omega⟩)
 | succ d ih=>
  intro i a hd hi h0 h1
  have hlt:i < l.length:=by omega
  have e1:wrap64 ((i:Int)+1)=((i+1:Nat):Int):=by rw [wrap_id (by omega) (by omega)];omega
  refine Evs.succ ?_
  obtain ⟨r,er,pr⟩:=szRec l[i] (hx _ (List.getElem_mem hlt)) a h0 h1
  simp only [Qw.l0,if_pos (show (i:Int) < (l.length:Int) by omega),if_pos (show (0:Int)≤(i:Int) by omega),rdLr l i hlt,er,bsome,e1]
  rcases pr with rfl|⟨q0,q1,q2⟩
  ·simp only [if_pos (show (-1:Int) < 0 by omega)]
   exact Evs.done (Or.inl rfl)
  ·simp only [if_neg (show ¬ r < 0 by omega)]
   refine (ih (i+1) r (by omega) (by omega) q0 (by omega)).mono fun r2 h2=>?_
   rcases h2 with h2|⟨s0,s1,s2⟩
   ·exact Or.inl h2
   ·refine Or.inr ⟨s0,by omega,fun j hj h=>?_⟩
    by_cases he:j=i
    ·subst he;exact q2
    ·exact s2 j (by omega) h
theorem szRecs (l:List Lr) (hl:l.length≤9223372036854775807) (hx:∀ x∈l,bigR x) (a:Int) (h0 : 0≤a) (h1:a≤1048576):Evs (fun k=>Qw.f k l a) (sz a (l.length≤1048576∧∀ x∈l,okR x)):=by
 have e:wrap64 (a - (l.length:Int))=a - (l.length:Int):=wrap_id (by omega) (by omega)
 unfold Qw.f
 simp only [e]
 by_cases h:a - (l.length:Int) < 0
 ·simp only [if_pos h];exact Evs.done (Or.inl rfl)
 ·simp only [if_neg h]
  refine (szRecs_loop l (by omega) hx l.length 0 _ rfl (by omega) (by omega) (by omega)).mono fun r hr=>?_
  rcases hr with hr|⟨s0,s1,s2⟩
  ·exact Or.inl hr
  ·refine Or.inr ⟨s0,by omega,by omega,fun x hx2=>?_⟩
   obtain ⟨j,hj,rfl⟩:=List.getElem_of_mem hx2
   exact s2 j (Nat.zero_le _) hj
def okB (x:Lb):Prop:=x.f5.length≤1048576∧∀ y∈x.f5,okR y
def bigB (x:Lb):Prop:=x.f5.length≤9223372036854775807∧∀ y∈x.f5,bigR y
theorem szBat (x:Lb) (hx:bigB x) (a:Int) (h0 : 0≤a) (h1:a≤1048576):Evs (fun k=>Rt.f k x.f0 x.f1 x.f2 x.f3 x.f4 x.f5 a) (sz a (okB x)):=by
 unfold Rt.f
 refine Evs.bind (szRecs x.f5 hx.1 hx.2 a h0 h1) ?_
 intro r hr
 rcases hr with rfl|⟨s0,s1,s2⟩
 ·simp only [if_pos (show (-1:Int) < 0 by omega)];exact Evs.done (Or.inl rfl)
 ·simp only [if_neg (show ¬ r < 0 by omega)];exact Evs.done (Or.inr ⟨s0,s1,s2⟩)
theorem szBats_loop (l:List Lb) (hl:l.length≤1048576) (hx:∀ x∈l,bigB x):∀ (d i:Nat) (a:Int),l.length - i=d→i≤l.length→0≤a→a≤1048576→Evs (fun k=>Qu.l0 k l a (i:Int)) (sz a (∀ j,i≤j→(h:j < l.length)→okB l[j])):=by
 intro d
 induction d with
 | zero=>
  intro i a hd hi h0 h1
  refine Evs.succ ?_
  simp only [Qu.l0,if_neg (show ¬ (i:Int) < (l.length:Int) by omega)]
  exact Evs.done (Or.inr ⟨h0,Int.le_refl _,fun j hj h=>by omega⟩)
 | succ d ih=>
  intro i a hd hi h0 h1
  have hlt:i < l.length:=by omega
  have e1:wrap64 ((i:Int)+1)=((i+1:Nat):Int):=by rw [wrap_id (by omega) (by omega)];omega
  refine Evs.succ ?_
  simp only [Qu.l0,if_pos (show (i:Int) < (l.length:Int) by omega),if_pos (show (0:Int)≤(i:Int) by omega),rdLb l i hlt,e1]
  refine Evs.bind (szBat l[i] (hx _ (List.getElem_mem hlt)) a h0 h1) ?_
  intro r pr
  rcases pr with rfl|⟨q0,q1,q2⟩
  ·simp only [if_pos (show (-1:Int) < 0 by omega)]
   exact Evs.done (Or.inl rfl)
  ·simp only [if_neg (show ¬ r < 0 by omega)]
   refine (ih (i+1) r (by omega) (by omega) q0 (by omega)).mono fun r2 h2=>?_
   rcases h2 with h2|⟨s0,s1,s2⟩
   ·exact Or.inl h2
   ·refine Or.inr ⟨s0,by omega,fun j hj h=>?_⟩
    by_cases he:j=i
    ·subst he;exact q2
    ·exact s2 j (by omega) h
theorem szBats (l:List Lb) (hl:l.length≤9223372036854775807) (hx:∀ x∈l,bigB x) (a:Int) (h0 : 0≤a) (h1:a≤1048576):Evs (fun k=>Qu.f k l a) (sz a (l.length≤1048576∧∀ x∈l,okB x)):=by
 have e:wrap64 (a - (l.length:Int))=a - (l.length:Int):=wrap_id (by omega) (by omega)
 unfold Qu.f
 simp only [e]
 by_cases h:a - (l.length:Int) < 0
 ·simp only [if_pos h];exact Evs.done (Or.inl rfl)
 ·simp only [if_neg h]
  refine (szBats_loop l (by omega) hx l.length 0 _ rfl (by omega) (by omega) (by omega)).mono fun r hr=>?_
  rcases hr with hr|⟨s0,s1,s2⟩
  ·exact Or.inl hr
  ·refine Or.inr ⟨s0,by omega,by omega,fun x hx2=>?_⟩
   obtain ⟨j,hj,rfl⟩:=List.getElem_of_mem hx2
   exact s2 j (Nat.zero_le _) hj
theorem set_mid {α:Type} (a:List α) (x y : α) (b:List α) (i:Nat) (h:i=a.length):(a++x::b).set i y=a++y::b:=by
 subst h
 simp
theorem fill_step {α:Type} (l:List α) (z : α) (i:Nat) (h:i < l.length):(l.take i++List.replicate (l.length - i) z).set i l[i]=l.take (i+1)++List.replicate (l.length - (i+1)) z:=by
 have e:l.length - i=(l.length - (i+1))+1:=by omega
 rw [e,List.replicate_succ,set_mid _ _ _ _ _ (by rw [length_take];omega)]
 have h2:l.take (i+1)=l.take i ++ [l[i]]:=by simp
 rw [h2,List.append_assoc]
 rfl
theorem fill_len {α:Type} (l:List α) (z : α) (i:Nat) (h:i≤l.length):(l.take i++List.replicate (l.length - i) z).length=l.length:=by
 rw [List.length_append,length_take,List.length_replicate]
 omega
theorem toInts (l:List Int) (hl:l.length≤1048576):Ev (fun k=>Qy.f k l) l:=by
 have loop:∀ (d i:Nat),l.length - i=d→i≤l.length→Ev (fun k=>Qy.l0 k l (l.take i++List.replicate (l.length - i) 0) (i:Int)) l:=by
  intro d
  induction d with
  | zero=>
   intro i hd hi
   refine ev_succ ?_
   simp only [Qy.l0,if_neg (show ¬ (i:Int) < (l.length:Int) by omega)]
   have:l.take i++List.replicate (l.length - i) 0=l:=by rw [List.take_of_length_le (by omega),hd];simp
   rw [this]
   exact ev_some _
  | succ d ih=>
   intro i hd hi
   have hlt:i < l.length:=by omega
   have e1:wrap64 ((i:Int)+1)=((i+1:Nat):Int):=by rw [wrap_id (by omega) (by omega)];omega
   refine ev_succ ?_
   simp only [Qy.l0,if_pos (show (i:Int) < (l.length:Int) by omega),if_pos (show (0:Int)≤(i:Int) by omega),fill_len l 0 i hi,e1,Int.toNat_natCast,rd_nat l i hlt,fill_step l 0 i hlt]
   exact ih (i+1) (by omega) (by omega)
 unfold Qy.f
 simp only [if_pos (show 0≤(l.length:Int) by omega),Int.toNat_natCast,if_pos (show l.length≤35184372088832 by omega)]
 exact loop l.length 0 rfl (by omega)
theorem toRec (x:Lr) (hx:okR x):Ev (fun k=>Ru.f k x.f0 x.f1 x.f2 x.f3 x.f4 x.f5) (x.f0,x.f1,x.f2,x.f3,x.f4,x.f5):=by
 unfold Ru.f
 refine Ev.bind (toInts x.f3 hx.1) ?_
 exact Ev.bind (toInts x.f5 hx.2) (ev_some _)
theorem toRecs (l:List Lr) (hl:l.length≤1048576) (hx:∀ x∈l,okR x):Ev (fun k=>Qp.f k l) (l.map toR):=by
 have hml:(l.map toR).length=l.length:=List.length_map ..
 have loop:∀ (d i:Nat),l.length - i=d→i≤l.length→Ev (fun k=>Qp.l0 k l ((l.map toR).take i++List.replicate ((l.map toR).length - i) z43) (i:Int)) (l.map toR):=by
  intro d
  induction d with
  | zero=>
   intro i hd hi
   refine ev_succ ?_
   simp only [Qp.l0,if_neg (show ¬ (i:Int) < (l.length:Int) by omega)]
   have:(l.map toR).take i++List.replicate ((l.map toR).length - i) z43=l.map toR:=by rw [List.take_of_length_le (by omega),hml,hd];simp
   rw [this]
   exact ev_some _
  | succ d ih=>
   intro i hd hi
   have hlt:i < l.length:=by omega
   have e1:wrap64 ((i:Int)+1)=((i+1:Nat):Int):=by rw [wrap_id (by omega) (by omega)];omega
   have hfs:=fill_step (l.map toR) z43 i (by omega)
   have hfl:=fill_len (l.map toR) z43 i (by omega)
   refine ev_succ ?_
   simp only [Qp.l0,if_pos (show (i:Int) < (l.length:Int) by omega),if_pos (show (0:Int)≤(i:Int) by omega),rdLr l i hlt,e1,hfl,Int.toNat_natCast]
   refine Ev.bind (toRec l[i] (hx _ (List.getElem_mem hlt))) ?_
   simp only [if_pos (show (i:Int) < ((l.map toR).length:Int) by omega)]
   have hg:(l.map toR)[i]=toR l[i]:=by simp
   rw [hg] at hfs
   rw [show (⟨l[i].f0,l[i].f1,l[i].f2,l[i].f3,l[i].f4,l[i].f5⟩:Rc)=toR l[i] from rfl,hfs]
   exact ih (i+1) (by omega) (by omega)
 unfold Qp.f
 simp only [if_pos (show 0≤(l.length:Int) by omega),Int.toNat_natCast,if_pos (show l.length≤3518437208883 by omega)]
 have:=loop l.length 0 rfl (by omega)
 rw [hml] at this
 exact this
theorem toBat (x:Lb) (hx:okB x):Ev (fun k=>Rw.f k x.f0 x.f1 x.f2 x.f3 x.f4 x.f5) (x.f0,x.f1,x.f2,x.f3,x.f4,x.f5.map toR):=by
 unfold Rw.f
 exact Ev.bind (toRecs x.f5 hx.1 hx.2) (ev_some _)
theorem toBats (l:List Lb) (hl:l.length≤1048576) (hx:∀ x∈l,okB x):Ev (fun k=>Qh.f k l) (l.map toB):=by
 have hml:(l.map toB).length=l.length:=List.length_map ..
 have loop:∀ (d i:Nat),l.length - i=d→i≤l.length→Ev (fun k=>Qh.l0 k l ((l.map toB).take i++List.replicate ((l.map toB).length - i) z39) (i:Int)) (l.map toB):=by
  intro d
  induction d with
  | zero=>
   intro i hd hi
   refine ev_succ ?_
   simp only [Qh.l0,if_neg (show ¬ (i:Int) < (l.length:Int) by omega)]
   have:(l.map toB).take i++List.replicate ((l.map toB).length - i) z39=l.map toB:=by rw [List.take_of_length_le (by omega),hml,hd];simp
   rw [this]
   exact ev_some _
  | succ d ih=>
   intro i hd hi
   have hlt:i < l.length:=by omega
   have e1:wrap64 ((i:Int)+1)=((i+1:Nat):Int):=by rw [wrap_id (by omega) (by omega)];omega
   have hfs:=fill_step (l.map toB) z39 i (by omega)
   have hfl:=fill_len (l.map toB) z39 i (by omega)
   refine ev_succ ?_
   simp only [Qh.l0,if_pos (show (i:Int) < (l.length:Int) by omega),if_pos (show (0:Int)≤(i:Int) by omega),rdLb l i hlt,e1,hfl,Int.toNat_natCast]
   refine Ev.bind (toBat l[i] (hx _ (List.getElem_mem hlt))) ?_
   simp only [if_pos (show (i:Int) < ((l.map toB).length:Int) by omega)]
   have hg:(l.map toB)[i]=toB l[i]:=by simp
   rw [hg] at hfs
   rw [show (⟨l[i].f0,l[i].f1,l[i].f2,l[i].f3,l[i].f4,l[i].f5.map toR⟩:Bt)=toB l[i] from rfl,hfs]
   exact ih (i+1) (by omega) (by omega)
 unfold Qh.f
 simp only [if_pos (show 0≤(l.length:Int) by omega),Int.toNat_natCast,if_pos (show l.length≤5026338869833 by omega)]
 have:=loop l.length 0 rfl (by omega)
 rw [hml] at this
 exact this
theorem eqInts_self (a:List Int) (hs:a.length≤1048576):Ev (fun k=>Qx.f k a a) true:=by
 have loop:∀ (d i:Nat),a.length - i=d→i≤a.length→Ev (fun k=>Qx.l0 k a a (i:Int)) true:=by
  intro d
  induction d with
  | zero=>
   intro i hd hi
   refine ev_succ ?_
   simp only [Qx.l0,if_neg (show ¬ (i:Int) < (a.length:Int) by omega)]
   exact ev_some _
  | succ d ih=>
   intro i hd hi
   have e1:wrap64 ((i:Int)+1)=((i+1:Nat):Int):=by rw [wrap_id (by omega) (by omega)];omega
   refine ev_succ ?_
   simp only [Qx.l0,if_pos (show (i:Int) < (a.length:Int) by omega),if_pos (show (0:Int)≤(i:Int) by omega),if_true,e1]
   exact ih (i+1) (by omega) (by omega)
 unfold Qx.f
 simp only [if_true]
 exact loop a.length 0 rfl (by omega)
def okRc (x:Rc):Prop:=x.f3.length≤1048576∧x.f5.length≤1048576
theorem eqRec_self (x:Rc) (hx:okRc x):Ev (fun k=>Rp.f k x.f0 x.f1 x.f2 x.f3 x.f4 x.f5 x.f0 x.f1 x.f2 x.f3 x.f4 x.f5) true:=by
 unfold Rp.f
 simp only [if_true,bne_self_eq_false,Bool.false_eq_true,if_false]
 refine Ev.bind (eqInts_self x.f3 hx.1) ?_
 simp only [if_true]
 refine Ev.bind (eqInts_self x.f5 hx.2) ?_
 simp only [if_true]
 exact ev_some _
theorem eqRecs_self (a:List Rc) (hs:a.length≤1048576) (hx:∀ x∈a,okRc x):Ev (fun k=>Qe.f k a a) true:=by
 have loop:∀ (d i:Nat),a.length - i=d→i≤a.length→Ev (fun k=>Qe.l0 k a a (i:Int)) true:=by
  intro d
  induction d with
  | zero=>
   intro i hd hi
   refine ev_succ ?_
   simp only [Qe.l0,if_neg (show ¬ (i:Int) < (a.length:Int) by omega)]
   exact ev_some _
  | succ d ih=>
   intro i hd hi
   have hlt:i < a.length:=by omega
   have e1:wrap64 ((i:Int)+1)=((i+1:Nat):Int):=by rw [wrap_id (by omega) (by omega)];omega
   refine ev_succ ?_
   simp only [Qe.l0,if_pos (show (i:Int) < (a.length:Int) by omega),if_pos (show (0:Int)≤(i:Int) by omega),e1]
   refine Ev.bind (eqRec_self (rr a (i:Int)) (by rw [rr_nat a i hlt];exact hx _ (List.getElem_mem hlt))) ?_
   simp only [if_true]
   exact ih (i+1) (by omega) (by omega)
 unfold Qe.f
 simp only [if_true]
 exact loop a.length 0 rfl (by omega)
def okBt (x:Bt):Prop:=x.f5.length≤1048576∧∀ y∈x.f5,okRc y
theorem eqBat_self (x:Bt) (hx:okBt x):Ev (fun k=>Rs.f k x.f0 x.f1 x.f2 x.f3 x.f4 x.f5 x.f0 x.f1 x.f2 x.f3 x.f4 x.f5) true:=by
 unfold Rs.f
 simp only [if_true,bne_self_eq_false,Bool.false_eq_true,if_false]
 refine Ev.bind (eqRecs_self x.f5 hx.1 hx.2) ?_
 simp only [if_true]
 exact ev_some _
theorem eqBats_self (a:List Bt) (hs:a.length≤1048576) (hx:∀ x∈a,okBt x):Ev (fun k=>Qm.f k a a) true:=by
 have loop:∀ (d i:Nat),a.length - i=d→i≤a.length→Ev (fun k=>Qm.l0 k a a (i:Int)) true:=by
  intro d
  induction d with
  | zero=>
   intro i hd hi
   refine ev_succ ?_
   simp only [Qm.l0,if_neg (show ¬ (i:Int) < (a.length:Int) by omega)]
   exact ev_some _
  | succ d ih=>
   intro i hd hi
   have hlt:i < a.length:=by omega
   have e1:wrap64 ((i:Int)+1)=((i+1:Nat):Int):=by rw [wrap_id (by omega) (by omega)];omega
   refine ev_succ ?_
   simp only [Qm.l0,if_pos (show (i:Int) < (a.length:Int) by omega),if_pos (show (0:Int)≤(i:Int) by omega),e1]
   refine Ev.bind (eqBat_self (rb a (i:Int)) (by rw [rb_nat a i hlt];exact hx _ (List.getElem_mem hlt))) ?_
   simp only [if_true]
   exact ih (i+1) (by omega) (by omega)
 unfold Qm.f
 simp only [if_true]
 exact loop a.length 0 rfl (by omega)
theorem okBt_of (x:Lb) (h:okB x):okBt (toB x):=by
 refine ⟨by show (x.f5.map toR).length≤1048576;rw [List.length_map];exact h.1,fun y hy=>?_⟩
 obtain ⟨z,hz,rfl⟩:=List.mem_map.1 hy
 exact h.2 z hz
theorem smallRs_of (x:Lb) (h:okB x):smallRs (toB x).f5:=by
 have h2:=okBt_of x h
 exact ⟨by have:=h2.1;omega,fun y hy=>⟨by have:=(h2.2 y hy).1;omega,by have:=(h2.2 y hy).2;omega⟩⟩
theorem maxLen_le:maxLen≤9223372036854775807:=by unfold maxLen;omega
theorem bigB_of {x:Lb} (h:WF36 x):bigB x:=by
 have hm:=maxLen_le
 unfold WF36 at h
 have h5:=h.2.2.2.2.2
 refine ⟨Nat.le_trans h5.1 hm,fun y hy=>?_⟩
 have h6:=h5.2 y hy
 unfold WF66 at h6
 exact ⟨Nat.le_trans h6.2.2.2.1.1 hm,Nat.le_trans h6.2.2.2.2.2.1 hm⟩
theorem Rc_ext {a b:Rc} (h0:a.f0=b.f0) (h1:a.f1=b.f1) (h2:a.f2=b.f2) (h3:a.f3=b.f3) (h4:a.f4=b.f4) (h5:a.f5=b.f5):a=b:=by
 cases a
 cases b
 simp_all
instance:DecidableEq Rc:=fun a b=>decidable_of_iff (a.f0=b.f0∧a.f1=b.f1∧a.f2=b.f2∧a.f3=b.f3∧a.f4=b.f4∧a.f5=b.f5) ⟨fun h=>Rc_ext h.1 h.2.1 h.2.2.1 h.2.2.2.1 h.2.2.2.2.1 h.2.2.2.2.2,fun h=>by rw [h];simp⟩
end Go.Proofs.Ytppaknpjgkaciaa.Q
