/- The law FnExactProducersPut holds (part 4 of 5; merged by pack2.py). -/
import Derived.Deep.Slices
import Derived.ChangeArms
import Derived.ProofKit
import Derived.Test.YtmophgccpnpgfaaFnExactProducersPutK2
set_option maxRecDepth 1000000
open List (setIfInBounds_toArray set_cons_zero set_cons_succ map_toArray map_cons map_nil length_drop length_take)
namespace Go.Proofs.Ytmophgccpnpgfaa.T
open Go.RowKit Go.Proofs.YtmophgccpnpgfaaW.PrintWords Go.Proofs.YtmophgccpnpgfaaW.PrintLast Go.Proofs.YtmophgccpnpgfaaW.PrintMore

set_option linter.unusedVariables false
set_option linter.unusedSimpArgs false
def Qk.l0:Nat→List (S75)→List (S75)→Int→Option (Bool)
 | 0,_,_,_=>none
 | k+1,x0,x1,x5=>if x5 < (x0.length:Int) then (if 0≤x5 then (if x5 < (x1.length:Int) then ((Rg.f k ((Qa x0 x5).f0) ((Qa x0 x5).f1) ((Qa x0 x5).f2) ((Qa x0 x5).f3) ((Qa x0 x5).f4) ((Qa x0 x5).f5) ((Qa x1 x5).f0) ((Qa x1 x5).f1) ((Qa x1 x5).f2) ((Qa x1 x5).f3) ((Qa x1 x5).f4) ((Qa x1 x5).f5)).bind fun t466=>(if t466=true then (Qk.l0 k x0 x1 (wrap64 (x5+1))) else (some false))) else (none)) else (none)) else (some true)
def Qk.f (k:Nat) (l0:List (S75)) (l1:List (S75)):Option (Bool):=if (l0.length:Int)=(l1.length:Int) then (Qk.l0 k l0 l1 0) else (some false)
def Qk.T6:Bool×List (List Nat×List Nat):=(true,[([],[]),([],[]),([0,1],[0,1]),([2],[2]),([],[]),([],[]),([4,5],[4,5]),([6],[6]),([3,7],[3,7]),([8],[8])])
def Qk.B6:List Nat:=[0,0,3,7,0,0,48,112,255,511]
theorem Qk.tab6:rtab .any (opsOf Try.f46 6)=Qk.T6:=by kernel_rfl
theorem Qk.bits6:waitsOk Qk.T6.2 Qk.B6=true:=by kernel_rfl
set_option maxHeartbeats 8000000 in
theorem Qk.calls (k:Nat) (A0:Option Addr) (c0:Nat) (l0:List (S75)) (A1:Option Addr) (c1:Nat) (l1:List (S75)) (r:Bool) (w:World) (j4:Kd.C k75 w A0 l0.length l0) (j5:l0.length≤c0) (j6:Kd.C k75 w A1 l1.length l1) (j7:l1.length≤c1) (h:Qk.f k l0 l1=some r) :
  Calls Try.prog 46 #[.slice A0 l0.length c0,.slice A1 l1.length c1] w fun e w'=>e = .returned (.bool r)∧Below w.heap.size w w':=by
 have hu75:=Try.underlying75;have j8:=zzm j4;have k5:=zzm j5;clear j4 j5;have j9:=zzm j6;have k6:=zzm j7;clear j6 j7;have HB:=zzm (Below.refl w.heap.size w);have H:(if (l0.length:Int)=(l1.length:Int) then (Qk.l0 k l0 l1 0) else (some false))=some r:=h;clear h;by_cases c3:(l0.length:Int)=(l1.length:Int)
 ·
  rw [if_pos c3] at H;obtain ⟨h8,h9⟩:=zzQ c3;have j3:(l0.length==l1.length)=true:=by first|simpa using c3|(simp at c3 ⊢;omega)
  clear c3;have H':=zzm H;clear H;go_enter Try.func46,Try.ntmps46;go_wp2;go_loopg [5] k (fun kq v5 w'=>∃ (a0:Int),v5 = .int .i64 a0∧Aside0 (Qk.l0 kq l0 l1 a0=some r)∧Aside0 (kq≤k)∧Aside0 (Below w.heap.size w w'))
  case atStart=>exact ⟨(0),(by first|rfl|(simp;done)|(simp [*];done)),H',⟨Nat.le_refl _⟩,⟨zzh1⟩⟩
  case round=>
   clear H';try clear c1
   try clear p2
   try clear c3
   try clear h8
   try clear h9
   try clear j3
   obtain ⟨a0,rfl,HA,HK1,HB⟩:=hrel;cases gk with
   | zero=>exact absurd HA.out (by simp [Qk.l0])
   | succ k1=>
    have H:=HA.out;clear HA;simp only [Qk.l0] at H;by_cases c4:a0 < (l0.length:Int)
    ·
     rw [if_pos c4] at H;have k0:decide (a0 < (l0.length:Int))=true:=decide_eq_true c4;clear c4;by_cases c5 : 0≤a0
     ·
      rw [if_pos c5] at H;have k3:decide (0≤a0)=true:=decide_eq_true c5;clear c5;by_cases c6:a0 < (l1.length:Int)
      ·
       rw [if_pos c6] at H;have k4:decide (a0 < (l1.length:Int))=true:=decide_eq_true c6;clear c6;obtain ⟨k2,A7,H⟩:=zzG H;by_cases c8:k2=true
       ·
        subst c8;replace H:=zzIt H;have H':=zzm H;clear H;try go_wp2
        have e8:=zzm (zzc HB.out);clear HB;have HB:=e8;clear e8;have g7 : 0≤(a0:Int):=zzt;have g8:a0 < (l0.length:Int):=zzt;obtain ⟨a1,e9,g0,g1,g2,h6,a4,a5,a6,a7,a8,a9,b7,b8,b9,c2⟩:=Rk j8.out a0 g7 g8;have c7:=a9;have c9:=a8;have d0:=a7;have d1:=a6;have d2:=a5;have d3:=a4;cases h6;replace a4:=zzx HB.out a4;replace a5:=zzx HB.out a5;replace a6:=zzx HB.out a6;replace a7:=zzx HB.out a7;replace a8:=zzx HB.out a8;replace a9:=zzx HB.out a9;have d4:=zzm b8;have h1:=zzm b7;clear b8 b7;have d5:=zzm c2;have h2:=zzm b9;clear c2 b9;replace g7:=eq_true g7;replace g8:=eq_true g8;have g9 : 0≤(a0:Int):=zzt;have h0:a0 < (l1.length:Int):=zzt;obtain ⟨a2,g3,g4,g5,g6,h7,b0,b1,b2,b3,b4,b5,d6,d7,d8,d9⟩:=Rk j9.out a0 g9 h0;have e0:=b5;have e1:=b4;have e2:=b3;have e3:=b2;have e4:=b1;have e5:=b0;cases h7;replace b0:=zzx HB.out b0;replace b1:=zzx HB.out b1;replace b2:=zzx HB.out b2;replace b3:=zzx HB.out b3;replace b4:=zzx HB.out b4;replace b5:=zzx HB.out b5;have e6:=zzm d7;have h3:=zzm d6;clear d7 d6;have e7:=zzm d9;have h4:=zzm d8;clear d9 d8;replace g9:=eq_true g9;replace h0:=eq_true h0;refine start_ (n:=10) (S:=fun w'=>w'.cell? (a1.add ((a0).toNat * 6))=some (.int .i64 ((Qa l0 a0).f0))∧w'.cell? ⟨(a1.add ((a0).toNat * 6)).block,(a1.add ((a0).toNat * 6)).off+1,none⟩=some (.int .i64 ((Qa l0 a0).f1))∧w'.cell? ⟨(a1.add ((a0).toNat * 6)).block,(a1.add ((a0).toNat * 6)).off+2,none⟩=some (.bool ((Qa l0 a0).f2))∧w'.cell? ⟨(a1.add ((a0).toNat * 6)).block,(a1.add ((a0).toNat * 6)).off+3,none⟩=some (.slice e9 ((Qa l0 a0).f3).length g0)∧w'.cell? ⟨(a1.add ((a0).toNat * 6)).block,(a1.add ((a0).toNat * 6)).off+4,none⟩=some (.bool ((Qa l0 a0).f4))∧w'.cell? ⟨(a1.add ((a0).toNat * 6)).block,(a1.add ((a0).toNat * 6)).off+5,none⟩=some (.slice g1 ((Qa l0 a0).f5).length g2)∧w'.cell? (a2.add ((a0).toNat * 6))=some (.int .i64 ((Qa l1 a0).f0))∧w'.cell? ⟨(a2.add ((a0).toNat * 6)).block,(a2.add ((a0).toNat * 6)).off+1,none⟩=some (.int .i64 ((Qa l1 a0).f1))∧w'.cell? ⟨(a2.add ((a0).toNat * 6)).block,(a2.add ((a0).toNat * 6)).off+2,none⟩=some (.bool ((Qa l1 a0).f2))∧w'.cell? ⟨(a2.add ((a0).toNat * 6)).block,(a2.add ((a0).toNat * 6)).off+3,none⟩=some (.slice g3 ((Qa l1 a0).f3).length g4)∧w'.cell? ⟨(a2.add ((a0).toNat * 6)).block,(a2.add ((a0).toNat * 6)).off+4,none⟩=some (.bool ((Qa l1 a0).f4))∧w'.cell? ⟨(a2.add ((a0).toNat * 6)).block,(a2.add ((a0).toNat * 6)).off+5,none⟩=some (.slice g5 ((Qa l1 a0).f5).length g6)) (ds:=[]) (zzB 10 0) (by kernel_rfl) rfl rfl ⟨(zzx HB.out d3),(zzx HB.out d2),(zzx HB.out d1),(zzx HB.out d0),(zzx HB.out c9),(zzx HB.out c7),(zzx HB.out e5),(zzx HB.out e4),(zzx HB.out e3),(zzx HB.out e2),(zzx HB.out e1),(zzx HB.out e0)⟩ (fun b6=>?_);refine with_tabW Qk.tab6 Qk.bits6 (fun a3 h5=>?_);generalize wr.drew=w9 at HB d4 d5 e6 e7 a4 a5 a6 a7 a8 a9 b0 b1 b2 b3 b4 b5 b6 ⊢;refine zzP 0 17 10 1 a3 ?_
        refine zzP 1 18 10 3 a3 ?_
        refine zzP 2 19 10 7 a3 ?_
        refine zzP 4 21 10 23 a3 ?_
        refine zzP 5 22 10 55 a3 ?_
        refine zzP 6 23 10 119 a3 ?_
        refine zzT 3 20 10 127 a3 h5 b6 ?_
        refine zzT 7 24 10 255 a3 h5 b6 ?_
        refine one_ (i:=8) (N:=some 25) (zzB 10 511) rfl rfl (one_of a3.out (by kernel_rfl)) (by decide) (fun K hK=>?_);refine goes_ Try.func58 (by kernel_rfl) rfl #[.agg #[.int .i64 ((Qa l0 a0).f0),.int .i64 ((Qa l0 a0).f1),.bool ((Qa l0 a0).f2),.slice e9 ((Qa l0 a0).f3).length g0,.bool ((Qa l0 a0).f4),.slice g1 ((Qa l0 a0).f5).length g2],.agg #[.int .i64 ((Qa l1 a0).f0),.int .i64 ((Qa l1 a0).f1),.bool ((Qa l1 a0).f2),.slice g3 ((Qa l1 a0).f3).length g4,.bool ((Qa l1 a0).f4),.slice g5 ((Qa l1 a0).f5).length g6]] (by rfl) rfl rfl zzM2 ?_;with_reducible refine (Rg.calls k1 ((Qa l0 a0).f0) ((Qa l0 a0).f1) ((Qa l0 a0).f2) _ _ ((Qa l0 a0).f3) ((Qa l0 a0).f4) _ _ ((Qa l0 a0).f5) ((Qa l1 a0).f0) ((Qa l1 a0).f1) ((Qa l1 a0).f2) _ _ ((Qa l1 a0).f3) ((Qa l1 a0).f4) _ _ ((Qa l1 a0).f5) true _ ?side1 ?side2 ?side3 ?side4 ?side5 ?side6 ?side7 ?side8 A7.out).mono ?_
        (case side1=>exact zzcb d4 HB)
        (case side2=>exact h1.out)
        (case side3=>exact zzcb d5 HB)
        (case side4=>exact h2.out)
        (case side5=>exact zzcb e6 HB)
        (case side6=>exact h3.out)
        (case side7=>exact zzcb e7 HB)
        (case side8=>exact h4.out);rintro e k7 ⟨rfl,hb⟩;refine ⟨_,rfl,?_⟩;have e8:=zzm (zzp zzh1 hb);clear HB;have HB:=e8;clear e8
        (try clear hb)
        (try clear hb2)
        (try clear hk)
        (try clear hi);refine hK.out _ _ ⟨(zzx HB.out d3),(zzx HB.out d2),(zzx HB.out d1),(zzx HB.out d0),(zzx HB.out c9),(zzx HB.out c7),(zzx HB.out e5),(zzx HB.out e4),(zzx HB.out e3),(zzx HB.out e2),(zzx HB.out e1),(zzx HB.out e0)⟩ (fun b6=>?_);clear hK K;refine zzO 25 ?_
        refine zzP 9 26 10 1023 a3 ?_
        refine done_ (done_of a3.out (by kernel_rfl)) ?_;try go_wp2
        go_roundg k1
        case measure=>have:=HK1.out;omega
        case rel=>exact ⟨(wrap64 (a0+1)),(by first|rfl|(simp;done)|(simp [*];done)),H',⟨by have:=HK1.out;omega⟩,⟨zzh1⟩⟩
       ·
        replace c8:=Bool.eq_false_iff.mpr c8;subst c8;replace H:=zzIf H;obtain rfl:=Option.some.inj H;try go_wp2
        have e8:=zzm (zzc HB.out);clear HB;have HB:=e8;clear e8;have g7 : 0≤(a0:Int):=zzt;have g8:a0 < (l0.length:Int):=zzt;obtain ⟨a1,e9,g0,g1,g2,h6,a4,a5,a6,a7,a8,a9,b7,b8,b9,c2⟩:=Rk j8.out a0 g7 g8;have c7:=a9;have c9:=a8;have d0:=a7;have d1:=a6;have d2:=a5;have d3:=a4;cases h6;replace a4:=zzx HB.out a4;replace a5:=zzx HB.out a5;replace a6:=zzx HB.out a6;replace a7:=zzx HB.out a7;replace a8:=zzx HB.out a8;replace a9:=zzx HB.out a9;have d4:=zzm b8;have h1:=zzm b7;clear b8 b7;have d5:=zzm c2;have h2:=zzm b9;clear c2 b9;replace g7:=eq_true g7;replace g8:=eq_true g8;have g9 : 0≤(a0:Int):=zzt;have h0:a0 < (l1.length:Int):=zzt;obtain ⟨a2,g3,g4,g5,g6,h7,b0,b1,b2,b3,b4,b5,d6,d7,d8,d9⟩:=Rk j9.out a0 g9 h0;have e0:=b5;have e1:=b4;have e2:=b3;have e3:=b2;have e4:=b1;have e5:=b0;cases h7;replace b0:=zzx HB.out b0;replace b1:=zzx HB.out b1;replace b2:=zzx HB.out b2;replace b3:=zzx HB.out b3;replace b4:=zzx HB.out b4;replace b5:=zzx HB.out b5;have e6:=zzm d7;have h3:=zzm d6;clear d7 d6;have e7:=zzm d9;have h4:=zzm d8;clear d9 d8;replace g9:=eq_true g9;replace h0:=eq_true h0;refine start_ (n:=10) (S:=fun w'=>w'.cell? (a1.add ((a0).toNat * 6))=some (.int .i64 ((Qa l0 a0).f0))∧w'.cell? ⟨(a1.add ((a0).toNat * 6)).block,(a1.add ((a0).toNat * 6)).off+1,none⟩=some (.int .i64 ((Qa l0 a0).f1))∧w'.cell? ⟨(a1.add ((a0).toNat * 6)).block,(a1.add ((a0).toNat * 6)).off+2,none⟩=some (.bool ((Qa l0 a0).f2))∧w'.cell? ⟨(a1.add ((a0).toNat * 6)).block,(a1.add ((a0).toNat * 6)).off+3,none⟩=some (.slice e9 ((Qa l0 a0).f3).length g0)∧w'.cell? ⟨(a1.add ((a0).toNat * 6)).block,(a1.add ((a0).toNat * 6)).off+4,none⟩=some (.bool ((Qa l0 a0).f4))∧w'.cell? ⟨(a1.add ((a0).toNat * 6)).block,(a1.add ((a0).toNat * 6)).off+5,none⟩=some (.slice g1 ((Qa l0 a0).f5).length g2)∧w'.cell? (a2.add ((a0).toNat * 6))=some (.int .i64 ((Qa l1 a0).f0))∧w'.cell? ⟨(a2.add ((a0).toNat * 6)).block,(a2.add ((a0).toNat * 6)).off+1,none⟩=some (.int .i64 ((Qa l1 a0).f1))∧w'.cell? ⟨(a2.add ((a0).toNat * 6)).block,(a2.add ((a0).toNat * 6)).off+2,none⟩=some (.bool ((Qa l1 a0).f2))∧w'.cell? ⟨(a2.add ((a0).toNat * 6)).block,(a2.add ((a0).toNat * 6)).off+3,none⟩=some (.slice g3 ((Qa l1 a0).f3).length g4)∧w'.cell? ⟨(a2.add ((a0).toNat * 6)).block,(a2.add ((a0).toNat * 6)).off+4,none⟩=some (.bool ((Qa l1 a0).f4))∧w'.cell? ⟨(a2.add ((a0).toNat * 6)).block,(a2.add ((a0).toNat * 6)).off+5,none⟩=some (.slice g5 ((Qa l1 a0).f5).length g6)) (ds:=[]) (zzB 10 0) (by kernel_rfl) rfl rfl ⟨(zzx HB.out d3),(zzx HB.out d2),(zzx HB.out d1),(zzx HB.out d0),(zzx HB.out c9),(zzx HB.out c7),(zzx HB.out e5),(zzx HB.out e4),(zzx HB.out e3),(zzx HB.out e2),(zzx HB.out e1),(zzx HB.out e0)⟩ (fun b6=>?_);refine with_tabW Qk.tab6 Qk.bits6 (fun a3 h5=>?_);generalize wr.drew=k8 at HB d4 d5 e6 e7 a4 a5 a6 a7 a8 a9 b0 b1 b2 b3 b4 b5 b6 ⊢;refine zzP 0 17 10 1 a3 ?_
        refine zzP 1 18 10 3 a3 ?_
        refine zzP 2 19 10 7 a3 ?_
        refine zzP 4 21 10 23 a3 ?_
        refine zzP 5 22 10 55 a3 ?_
        refine zzP 6 23 10 119 a3 ?_
        refine zzT 3 20 10 127 a3 h5 b6 ?_
        refine zzT 7 24 10 255 a3 h5 b6 ?_
        refine one_ (i:=8) (N:=some 25) (zzB 10 511) rfl rfl (one_of a3.out (by kernel_rfl)) (by decide) (fun K hK=>?_);refine goes_ Try.func58 (by kernel_rfl) rfl #[.agg #[.int .i64 ((Qa l0 a0).f0),.int .i64 ((Qa l0 a0).f1),.bool ((Qa l0 a0).f2),.slice e9 ((Qa l0 a0).f3).length g0,.bool ((Qa l0 a0).f4),.slice g1 ((Qa l0 a0).f5).length g2],.agg #[.int .i64 ((Qa l1 a0).f0),.int .i64 ((Qa l1 a0).f1),.bool ((Qa l1 a0).f2),.slice g3 ((Qa l1 a0).f3).length g4,.bool ((Qa l1 a0).f4),.slice g5 ((Qa l1 a0).f5).length g6]] (by rfl) rfl rfl zzM2 ?_;with_reducible refine (Rg.calls k1 ((Qa l0 a0).f0) ((Qa l0 a0).f1) ((Qa l0 a0).f2) _ _ ((Qa l0 a0).f3) ((Qa l0 a0).f4) _ _ ((Qa l0 a0).f5) ((Qa l1 a0).f0) ((Qa l1 a0).f1) ((Qa l1 a0).f2) _ _ ((Qa l1 a0).f3) ((Qa l1 a0).f4) _ _ ((Qa l1 a0).f5) false _ ?side1 ?side2 ?side3 ?side4 ?side5 ?side6 ?side7 ?side8 A7.out).mono ?_
        (case side1=>exact zzcb d4 HB)
        (case side2=>exact h1.out)
        (case side3=>exact zzcb d5 HB)
        (case side4=>exact h2.out)
        (case side5=>exact zzcb e6 HB)
        (case side6=>exact h3.out)
        (case side7=>exact zzcb e7 HB)
        (case side8=>exact h4.out);rintro e k9 ⟨rfl,hb⟩;refine ⟨_,rfl,?_⟩;have e8:=zzm (zzp zzh1 hb);clear HB;have HB:=e8;clear e8
        (try clear hb)
        (try clear hb2)
        (try clear hk)
        (try clear hi);refine hK.out _ _ ⟨(zzx HB.out d3),(zzx HB.out d2),(zzx HB.out d1),(zzx HB.out d0),(zzx HB.out c9),(zzx HB.out c7),(zzx HB.out e5),(zzx HB.out e4),(zzx HB.out e3),(zzx HB.out e2),(zzx HB.out e1),(zzx HB.out e0)⟩ (fun b6=>?_);clear hK K;refine zzO 25 ?_
        refine zzP 9 26 10 1023 a3 ?_
        refine done_ (done_of a3.out (by kernel_rfl)) ?_;try go_wp2
        go_ret;exact ⟨zzR,zzh1⟩
      ·
       rw [if_neg c6] at H;exact absurd H (by simp)
     ·
      rw [if_neg c5] at H;exact absurd H (by simp)
    ·
     rw [if_neg c4] at H;have k0:decide (a0 < (l0.length:Int))=false:=decide_eq_false c4;clear c4;obtain rfl:=Option.some.inj H;go_wp2;go_ret;exact ⟨zzR,zzh1⟩
 ·
  rw [if_neg c3] at H;obtain ⟨h8,h9⟩:=zzY c3;have j3:(l0.length==l1.length)=false:=by first|simpa using c3|(simp at c3 ⊢;omega)
  obtain rfl:=Option.some.inj H;go_enter Try.func46,Try.ntmps46;go_wp2;go_ret;exact ⟨zzR,zzh1⟩

set_option linter.unusedVariables false
set_option linter.unusedSimpArgs false
def Re.f (k:Nat) (a0_0:Bool) (a0_1:Bool) (a0_2:Int) (a0_3:Int) (a0_4:Int) (l0_5:List (S75)) (a1_0:Bool) (a1_1:Bool) (a1_2:Int) (a1_3:Int) (a1_4:Int) (l1_5:List (S75)):Option (Bool):=if (a0_0 != a1_0)=true then (some false) else (if (a0_1 != a1_1)=true then (some false) else (if a0_2=a1_2 then (if a0_3=a1_3 then (if a0_4=a1_4 then ((Qk.f k l0_5 l1_5).bind fun t469=>(if t469=true then (some true) else (some false))) else (some false)) else (some false)) else (some false)))
set_option maxHeartbeats 8000000 in
theorem Re.calls (k:Nat) (a3:Bool) (a4:Bool) (a9:Int) (b0:Int) (b1:Int) (b2:Option Addr) (b3:Nat) (a5:List (S75)) (b8:Bool) (b9:Bool) (c5:Int) (c6:Int) (c7:Int) (c8:Option Addr) (d0:Nat) (c0:List (S75)) (r:Bool) (w:World) (d9:Kd.C k75 w b2 a5.length a5) (e0:a5.length≤b3) (e1:Kd.C k75 w c8 c0.length c0) (e2:c0.length≤d0) (h:Re.f k a3 a4 a9 b0 b1 a5 b8 b9 c5 c6 c7 c0=some r) :
  Calls Try.prog 17 #[.agg #[.bool a3,.bool a4,.int .i64 a9,.int .i64 b0,.int .i64 b1,.slice b2 a5.length b3],.agg #[.bool b8,.bool b9,.int .i64 c5,.int .i64 c6,.int .i64 c7,.slice c8 c0.length d0]] w fun e w'=>e = .returned (.bool r)∧Below w.heap.size w w':=by
 have hu26:=Try.underlying26;have e3:=zzm d9;have e4:=zzm e0;clear d9 e0;have e5:=zzm e1;have e6:=zzm e2;clear e1 e2;have HB:=zzm (Below.refl w.heap.size w);have H:(if (a3 != b8)=true then (some false) else (if (a4 != b9)=true then (some false) else (if a9=c5 then (if b0=c6 then (if b1=c7 then ((Qk.f k a5 c0).bind fun d8=>(if d8=true then (some true) else (some false))) else (some false)) else (some false)) else (some false))))=some r:=h;clear h;by_cases c3:(a3 != b8)=true
 ·
  rw [if_pos c3] at H;have g5:(a3 != b8)=true:=c3
  (try (have g6:decide (a3=b8)=false:=by simpa using c3))
  (try (have g7:(a3==b8)=false:=by simpa using c3))
  (try (have C0:¬ (a3=b8):=by simpa using c3));clear c3;obtain rfl:=Option.some.inj H;go_enter Try.func17,Try.ntmps17;go_wp2_with (first|((with_reducible refine gate_dst (N:=2) rfl ?_);refine box_event ?hg (N:=2) ?hd (cs:=#[.bool a3,.bool a4,.int .i64 a9,.int .i64 b0,.int .i64 b1,.slice b2 a5.length b3]) (t:=26) ?hr ?_;(case hd=>rfl);(case hg=>rfl);(case hr=>first|(go_simp;done)|(go_simp;rfl));intro a0 hg w4 hbox hb;have a6:=zzm (zzp zzh1 hb);have a7:=zzm (hbox);have a8:=zzm ((by rw [hg];exact (zzo zzh1):w.heap.size≤a0));have b4:=zzm ((by rw [hg];exact (zzo zzh1):w.heap.size≤a0));clear HB;have HB:=a6;have a1:=a7;have d1:=a8;have d2:=b4;clear a6 a7 a8 b4 hb hbox hg)|((with_reducible refine gate_dst (N:=3) rfl ?_);refine box_event ?hg (N:=3) ?hd (cs:=#[.bool b8,.bool b9,.int .i64 c5,.int .i64 c6,.int .i64 c7,.slice c8 c0.length d0]) (t:=26) ?hr ?_;(case hd=>rfl);(case hg=>rfl);(case hr=>first|(go_simp;done)|(go_simp;rfl));intro a2 hg w5 hbox hb;have a6:=zzm (zzh (g:=a0) (o:=.cells #[.bool a3,.bool a4,.int .i64 a9,.int .i64 b0,.int .i64 b1,.slice b2 a5.length b3] 26 (0,0)) (zzE a1.out) hb);have a7:=zzm (zzp zzh2 hb);have a8:=zzm (hbox);have b4:=zzm ((by rw [hg];exact (zzo zzh2):w.heap.size≤a2));have c1:=zzm ((by rw [hg];exact (zzo zzh2):w.heap.size≤a2));have c2:=zzm ((by rw [hg];exact Nat.ne_of_lt (blk_lt (g:=a0) (o:=.cells #[.bool a3,.bool a4,.int .i64 a9,.int .i64 b0,.int .i64 b1,.slice b2 a5.length b3] 26 (0,0)) (zzE a1.out)):a0≠a2));have c4:=zzm ((by rw [hg];exact Nat.ne_of_gt (blk_lt (g:=a0) (o:=.cells #[.bool a3,.bool a4,.int .i64 a9,.int .i64 b0,.int .i64 b1,.slice b2 a5.length b3] 26 (0,0)) (zzE a1.out)):a2≠a0));clear a1 HB;have a1:=a6;have HB:=a7;have b7:=a8;have d3:=b4;have d4:=c1;have b5:=c2;have b6:=c4;clear a6 a7 a8 b4 c1 c2 c4 hb hbox hg;have C1:=b5.out;have C2:=b6.out;obtain ⟨y1,y2,y3,y4,y5,y6,y7,y8,y9,z0,z1,z2⟩:=zzc6 a1.out;obtain ⟨z3,z4,z5,z6,z7,z8,z9,A0,A1,A2,A3,A4⟩:=zzc6 b7.out));go_ret;exact ⟨zzR,zzh3⟩
 ·
  rw [if_neg c3] at H;have g5:(a3 != b8)=false:=by simpa using c3
  (try (have g6:decide (a3=b8)=true:=by simpa using c3))
  (try (have g7:(a3==b8)=true:=by simpa using c3));clear c3;by_cases c9:(a4 != b9)=true
  ·
   rw [if_pos c9] at H;have g8:(a4 != b9)=true:=c9
   (try (have g9:decide (a4=b9)=false:=by simpa using c9))
   (try (have h0:(a4==b9)=false:=by simpa using c9))
   (try (have C3:¬ (a4=b9):=by simpa using c9));clear c9;obtain rfl:=Option.some.inj H;go_enter Try.func17,Try.ntmps17;go_wp2_with (first|((with_reducible refine gate_dst (N:=2) rfl ?_);refine box_event ?hg (N:=2) ?hd (cs:=#[.bool a3,.bool a4,.int .i64 a9,.int .i64 b0,.int .i64 b1,.slice b2 a5.length b3]) (t:=26) ?hr ?_;(case hd=>rfl);(case hg=>rfl);(case hr=>first|(go_simp;done)|(go_simp;rfl));intro a0 hg C4 hbox hb;have a6:=zzm (zzp zzh1 hb);have a7:=zzm (hbox);have a8:=zzm ((by rw [hg];exact (zzo zzh1):w.heap.size≤a0));have b4:=zzm ((by rw [hg];exact (zzo zzh1):w.heap.size≤a0));clear HB;have HB:=a6;have a1:=a7;have d1:=a8;have d2:=b4;clear a6 a7 a8 b4 hb hbox hg)|((with_reducible refine gate_dst (N:=3) rfl ?_);refine box_event ?hg (N:=3) ?hd (cs:=#[.bool b8,.bool b9,.int .i64 c5,.int .i64 c6,.int .i64 c7,.slice c8 c0.length d0]) (t:=26) ?hr ?_;(case hd=>rfl);(case hg=>rfl);(case hr=>first|(go_simp;done)|(go_simp;rfl));intro a2 hg C5 hbox hb;have a6:=zzm (zzh (g:=a0) (o:=.cells #[.bool a3,.bool a4,.int .i64 a9,.int .i64 b0,.int .i64 b1,.slice b2 a5.length b3] 26 (0,0)) (zzE a1.out) hb);have a7:=zzm (zzp zzh2 hb);have a8:=zzm (hbox);have b4:=zzm ((by rw [hg];exact (zzo zzh2):w.heap.size≤a2));have c1:=zzm ((by rw [hg];exact (zzo zzh2):w.heap.size≤a2));have c2:=zzm ((by rw [hg];exact Nat.ne_of_lt (blk_lt (g:=a0) (o:=.cells #[.bool a3,.bool a4,.int .i64 a9,.int .i64 b0,.int .i64 b1,.slice b2 a5.length b3] 26 (0,0)) (zzE a1.out)):a0≠a2));have c4:=zzm ((by rw [hg];exact Nat.ne_of_gt (blk_lt (g:=a0) (o:=.cells #[.bool a3,.bool a4,.int .i64 a9,.int .i64 b0,.int .i64 b1,.slice b2 a5.length b3] 26 (0,0)) (zzE a1.out)):a2≠a0));clear a1 HB;have a1:=a6;have HB:=a7;have b7:=a8;have d3:=b4;have d4:=c1;have b5:=c2;have b6:=c4;clear a6 a7 a8 b4 c1 c2 c4 hb hbox hg;have A5:=b5.out;have A6:=b6.out;obtain ⟨h1,h2,h3,h4,h5,h6,h7,h8,h9,j3,j4,j5⟩:=zzc6 a1.out;obtain ⟨j6,j7,j8,j9,k0,k1,k2,k3,k4,k5,k6,k7⟩:=zzc6 b7.out));go_ret;exact ⟨zzR,zzh3⟩
  ·
   rw [if_neg c9] at H;have g8:(a4 != b9)=false:=by simpa using c9
   (try (have g9:decide (a4=b9)=true:=by simpa using c9))
   (try (have h0:(a4==b9)=true:=by simpa using c9));clear c9;by_cases d5:a9=c5
   ·
    rw [if_pos d5] at H;obtain ⟨e8,e9⟩:=zzQ d5;clear d5;by_cases d6:b0=c6
    ·
     rw [if_pos d6] at H;obtain ⟨g0,g1⟩:=zzQ d6;clear d6;by_cases d7:b1=c7
     ·
      rw [if_pos d7] at H;obtain ⟨g2,g3⟩:=zzQ d7;clear d7;obtain ⟨d8,g4,H⟩:=zzG H;by_cases e7:d8=true
      ·
       subst e7;replace H:=zzIt H;obtain rfl:=Option.some.inj H;go_enter Try.func17,Try.ntmps17;go_wp2_with (first|((with_reducible refine gate_dst (N:=2) rfl ?_);refine box_event ?hg (N:=2) ?hd (cs:=#[.bool a3,.bool a4,.int .i64 a9,.int .i64 b0,.int .i64 b1,.slice b2 a5.length b3]) (t:=26) ?hr ?_;(case hd=>rfl);(case hg=>rfl);(case hr=>first|(go_simp;done)|(go_simp;rfl));intro a0 hg C6 hbox hb;have a6:=zzm (zzp zzh1 hb);have a7:=zzm (hbox);have a8:=zzm ((by rw [hg];exact (zzo zzh1):w.heap.size≤a0));have b4:=zzm ((by rw [hg];exact (zzo zzh1):w.heap.size≤a0));clear HB;have HB:=a6;have a1:=a7;have d1:=a8;have d2:=b4;clear a6 a7 a8 b4 hb hbox hg)|((with_reducible refine gate_dst (N:=3) rfl ?_);refine box_event ?hg (N:=3) ?hd (cs:=#[.bool b8,.bool b9,.int .i64 c5,.int .i64 c6,.int .i64 c7,.slice c8 c0.length d0]) (t:=26) ?hr ?_;(case hd=>rfl);(case hg=>rfl);(case hr=>first|(go_simp;done)|(go_simp;rfl));intro a2 hg C7 hbox hb;have a6:=zzm (zzh (g:=a0) (o:=.cells #[.bool a3,.bool a4,.int .i64 a9,.int .i64 b0,.int .i64 b1,.slice b2 a5.length b3] 26 (0,0)) (zzE a1.out) hb);have a7:=zzm (zzp zzh2 hb);have a8:=zzm (hbox);have b4:=zzm ((by rw [hg];exact (zzo zzh2):w.heap.size≤a2));have c1:=zzm ((by rw [hg];exact (zzo zzh2):w.heap.size≤a2));have c2:=zzm ((by rw [hg];exact Nat.ne_of_lt (blk_lt (g:=a0) (o:=.cells #[.bool a3,.bool a4,.int .i64 a9,.int .i64 b0,.int .i64 b1,.slice b2 a5.length b3] 26 (0,0)) (zzE a1.out)):a0≠a2));have c4:=zzm ((by rw [hg];exact Nat.ne_of_gt (blk_lt (g:=a0) (o:=.cells #[.bool a3,.bool a4,.int .i64 a9,.int .i64 b0,.int .i64 b1,.slice b2 a5.length b3] 26 (0,0)) (zzE a1.out)):a2≠a0));clear a1 HB;have a1:=a6;have HB:=a7;have b7:=a8;have d3:=b4;have d4:=c1;have b5:=c2;have b6:=c4;clear a6 a7 a8 b4 c1 c2 c4 hb hbox hg;have A7:=b5.out;have A8:=b6.out;obtain ⟨k8,k9,l1,l2,l3,l4,l5,l6,l7,l8,l9,m0⟩:=zzc6 a1.out;obtain ⟨m1,m2,m3,m4,m5,m6,m7,m8,m9,n0,n1,n2⟩:=zzc6 b7.out)|((with_reducible refine gate_callee (f:=46) rfl ?_);refine goesL_ (some 34) rfl rfl Try.func46 (by kernel_rfl) rfl #[.slice b2 a5.length b3,.slice c8 c0.length d0] rfl zzM2 ?_;(with_reducible refine (Qk.calls k _ _ a5 _ _ c0 true _ ?side1 ?side2 ?side3 ?side4 g4.out).mono ?_);(case side1=>exact zzcb e3 HB);(case side2=>exact e4.out);(case side3=>exact zzcb e5 HB);(case side4=>exact e6.out);rintro e C8 ⟨rfl,hb⟩;refine ⟨_,rfl,?_⟩;have a6:=zzm (zzh (g:=a0) (o:=.cells #[.bool a3,.bool a4,.int .i64 a9,.int .i64 b0,.int .i64 b1,.slice b2 a5.length b3] 26 (0,0)) (zzE a1.out) hb);have a7:=zzm (zzh (g:=a2) (o:=.cells #[.bool b8,.bool b9,.int .i64 c5,.int .i64 c6,.int .i64 c7,.slice c8 c0.length d0] 26 (0,0)) (zzE b7.out) hb);have a8:=zzm (zzp zzh2 hb);clear a1 b7 HB;have a1:=a6;have b7:=a7;have HB:=a8;clear a6 a7 a8;(try clear hb);(try clear hb2);(try clear hk);(try clear hi)));go_ret;exact ⟨zzR,zzh3⟩
      ·
       replace e7:=Bool.eq_false_iff.mpr e7;subst e7;replace H:=zzIf H;obtain rfl:=Option.some.inj H;go_enter Try.func17,Try.ntmps17;go_wp2_with (first|((with_reducible refine gate_dst (N:=2) rfl ?_);refine box_event ?hg (N:=2) ?hd (cs:=#[.bool a3,.bool a4,.int .i64 a9,.int .i64 b0,.int .i64 b1,.slice b2 a5.length b3]) (t:=26) ?hr ?_;(case hd=>rfl);(case hg=>rfl);(case hr=>first|(go_simp;done)|(go_simp;rfl));intro a0 hg C9 hbox hb;have a6:=zzm (zzp zzh1 hb);have a7:=zzm (hbox);have a8:=zzm ((by rw [hg];exact (zzo zzh1):w.heap.size≤a0));have b4:=zzm ((by rw [hg];exact (zzo zzh1):w.heap.size≤a0));clear HB;have HB:=a6;have a1:=a7;have d1:=a8;have d2:=b4;clear a6 a7 a8 b4 hb hbox hg)|((with_reducible refine gate_dst (N:=3) rfl ?_);refine box_event ?hg (N:=3) ?hd (cs:=#[.bool b8,.bool b9,.int .i64 c5,.int .i64 c6,.int .i64 c7,.slice c8 c0.length d0]) (t:=26) ?hr ?_;(case hd=>rfl);(case hg=>rfl);(case hr=>first|(go_simp;done)|(go_simp;rfl));intro a2 hg D0 hbox hb;have a6:=zzm (zzh (g:=a0) (o:=.cells #[.bool a3,.bool a4,.int .i64 a9,.int .i64 b0,.int .i64 b1,.slice b2 a5.length b3] 26 (0,0)) (zzE a1.out) hb);have a7:=zzm (zzp zzh2 hb);have a8:=zzm (hbox);have b4:=zzm ((by rw [hg];exact (zzo zzh2):w.heap.size≤a2));have c1:=zzm ((by rw [hg];exact (zzo zzh2):w.heap.size≤a2));have c2:=zzm ((by rw [hg];exact Nat.ne_of_lt (blk_lt (g:=a0) (o:=.cells #[.bool a3,.bool a4,.int .i64 a9,.int .i64 b0,.int .i64 b1,.slice b2 a5.length b3] 26 (0,0)) (zzE a1.out)):a0≠a2));have c4:=zzm ((by rw [hg];exact Nat.ne_of_gt (blk_lt (g:=a0) (o:=.cells #[.bool a3,.bool a4,.int .i64 a9,.int .i64 b0,.int .i64 b1,.slice b2 a5.length b3] 26 (0,0)) (zzE a1.out)):a2≠a0));clear a1 HB;have a1:=a6;have HB:=a7;have b7:=a8;have d3:=b4;have d4:=c1;have b5:=c2;have b6:=c4;clear a6 a7 a8 b4 c1 c2 c4 hb hbox hg;have A9:=b5.out;have B0:=b6.out;obtain ⟨n3,n4,n5,n6,n7,n8,n9,o0,o1,o2,o3,o4⟩:=zzc6 a1.out;obtain ⟨o5,o6,o7,o8,o9,p0,p1,p2,p3,p4,p5,p6⟩:=zzc6 b7.out)|((with_reducible refine gate_callee (f:=46) rfl ?_);refine goesL_ (some 34) rfl rfl Try.func46 (by kernel_rfl) rfl #[.slice b2 a5.length b3,.slice c8 c0.length d0] rfl zzM2 ?_;(with_reducible refine (Qk.calls k _ _ a5 _ _ c0 false _ ?side1 ?side2 ?side3 ?side4 g4.out).mono ?_);(case side1=>exact zzcb e3 HB);(case side2=>exact e4.out);(case side3=>exact zzcb e5 HB);(case side4=>exact e6.out);rintro e D1 ⟨rfl,hb⟩;refine ⟨_,rfl,?_⟩;have a6:=zzm (zzh (g:=a0) (o:=.cells #[.bool a3,.bool a4,.int .i64 a9,.int .i64 b0,.int .i64 b1,.slice b2 a5.length b3] 26 (0,0)) (zzE a1.out) hb);have a7:=zzm (zzh (g:=a2) (o:=.cells #[.bool b8,.bool b9,.int .i64 c5,.int .i64 c6,.int .i64 c7,.slice c8 c0.length d0] 26 (0,0)) (zzE b7.out) hb);have a8:=zzm (zzp zzh2 hb);clear a1 b7 HB;have a1:=a6;have b7:=a7;have HB:=a8;clear a6 a7 a8;(try clear hb);(try clear hb2);(try clear hk);(try clear hi)));go_ret;exact ⟨zzR,zzh3⟩
     ·
      rw [if_neg d7] at H;obtain ⟨g2,g3⟩:=zzY d7;obtain rfl:=Option.some.inj H;go_enter Try.func17,Try.ntmps17;go_wp2_with (first|((with_reducible refine gate_dst (N:=2) rfl ?_);refine box_event ?hg (N:=2) ?hd (cs:=#[.bool a3,.bool a4,.int .i64 a9,.int .i64 b0,.int .i64 b1,.slice b2 a5.length b3]) (t:=26) ?hr ?_;(case hd=>rfl);(case hg=>rfl);(case hr=>first|(go_simp;done)|(go_simp;rfl));intro a0 hg D2 hbox hb;have a6:=zzm (zzp zzh1 hb);have a7:=zzm (hbox);have a8:=zzm ((by rw [hg];exact (zzo zzh1):w.heap.size≤a0));have b4:=zzm ((by rw [hg];exact (zzo zzh1):w.heap.size≤a0));clear HB;have HB:=a6;have a1:=a7;have d1:=a8;have d2:=b4;clear a6 a7 a8 b4 hb hbox hg)|((with_reducible refine gate_dst (N:=3) rfl ?_);refine box_event ?hg (N:=3) ?hd (cs:=#[.bool b8,.bool b9,.int .i64 c5,.int .i64 c6,.int .i64 c7,.slice c8 c0.length d0]) (t:=26) ?hr ?_;(case hd=>rfl);(case hg=>rfl);(case hr=>first|(go_simp;done)|(go_simp;rfl));intro a2 hg D3 hbox hb;have a6:=zzm (zzh (g:=a0) (o:=.cells #[.bool a3,.bool a4,.int .i64 a9,.int .i64 b0,.int .i64 b1,.slice b2 a5.length b3] 26 (0,0)) (zzE a1.out) hb);have a7:=zzm (zzp zzh2 hb);have a8:=zzm (hbox);have b4:=zzm ((by rw [hg];exact (zzo zzh2):w.heap.size≤a2));have c1:=zzm ((by rw [hg];exact (zzo zzh2):w.heap.size≤a2));have c2:=zzm ((by rw [hg];exact Nat.ne_of_lt (blk_lt (g:=a0) (o:=.cells #[.bool a3,.bool a4,.int .i64 a9,.int .i64 b0,.int .i64 b1,.slice b2 a5.length b3] 26 (0,0)) (zzE a1.out)):a0≠a2));have c4:=zzm ((by rw [hg];exact Nat.ne_of_gt (blk_lt (g:=a0) (o:=.cells #[.bool a3,.bool a4,.int .i64 a9,.int .i64 b0,.int .i64 b1,.slice b2 a5.length b3] 26 (0,0)) (zzE a1.out)):a2≠a0));clear a1 HB;have a1:=a6;have HB:=a7;have b7:=a8;have d3:=b4;have d4:=c1;have b5:=c2;have b6:=c4;clear a6 a7 a8 b4 c1 c2 c4 hb hbox hg;have B1:=b5.out;have B2:=b6.out;obtain ⟨p7,p8,p9,q0,q1,q2,q3,q4,q5,q6,q7,q8⟩:=zzc6 a1.out;obtain ⟨q9,r0,r1,r2,r3,r4,r5,r6,r7,r8,r9,s0⟩:=zzc6 b7.out));go_ret;exact ⟨zzR,zzh3⟩
    ·
     rw [if_neg d6] at H;obtain ⟨g0,g1⟩:=zzY d6;obtain rfl:=Option.some.inj H;go_enter Try.func17,Try.ntmps17;go_wp2_with (first|((with_reducible refine gate_dst (N:=2) rfl ?_);refine box_event ?hg (N:=2) ?hd (cs:=#[.bool a3,.bool a4,.int .i64 a9,.int .i64 b0,.int .i64 b1,.slice b2 a5.length b3]) (t:=26) ?hr ?_;(case hd=>rfl);(case hg=>rfl);(case hr=>first|(go_simp;done)|(go_simp;rfl));intro a0 hg D4 hbox hb;have a6:=zzm (zzp zzh1 hb);have a7:=zzm (hbox);have a8:=zzm ((by rw [hg];exact (zzo zzh1):w.heap.size≤a0));have b4:=zzm ((by rw [hg];exact (zzo zzh1):w.heap.size≤a0));clear HB;have HB:=a6;have a1:=a7;have d1:=a8;have d2:=b4;clear a6 a7 a8 b4 hb hbox hg)|((with_reducible refine gate_dst (N:=3) rfl ?_);refine box_event ?hg (N:=3) ?hd (cs:=#[.bool b8,.bool b9,.int .i64 c5,.int .i64 c6,.int .i64 c7,.slice c8 c0.length d0]) (t:=26) ?hr ?_;(case hd=>rfl);(case hg=>rfl);(case hr=>first|(go_simp;done)|(go_simp;rfl));intro a2 hg D5 hbox hb;have a6:=zzm (zzh (g:=a0) (o:=.cells #[.bool a3,.bool a4,.int .i64 a9,.int .i64 b0,.int .i64 b1,.slice b2 a5.length b3] 26 (0,0)) (zzE a1.out) hb);have a7:=zzm (zzp zzh2 hb);have a8:=zzm (hbox);have b4:=zzm ((by rw [hg];exact (zzo zzh2):w.heap.size≤a2));have c1:=zzm ((by rw [hg];exact (zzo zzh2):w.heap.size≤a2));have c2:=zzm ((by rw [hg];exact Nat.ne_of_lt (blk_lt (g:=a0) (o:=.cells #[.bool a3,.bool a4,.int .i64 a9,.int .i64 b0,.int .i64 b1,.slice b2 a5.length b3] 26 (0,0)) (zzE a1.out)):a0≠a2));have c4:=zzm ((by rw [hg];exact Nat.ne_of_gt (blk_lt (g:=a0) (o:=.cells #[.bool a3,.bool a4,.int .i64 a9,.int .i64 b0,.int .i64 b1,.slice b2 a5.length b3] 26 (0,0)) (zzE a1.out)):a2≠a0));clear a1 HB;have a1:=a6;have HB:=a7;have b7:=a8;have d3:=b4;have d4:=c1;have b5:=c2;have b6:=c4;clear a6 a7 a8 b4 c1 c2 c4 hb hbox hg;have B3:=b5.out;have B5:=b6.out;obtain ⟨s1,s2,s3,s4,s5,s6,s7,s8,s9,t0,t1,t2⟩:=zzc6 a1.out;obtain ⟨t3,t4,t5,t6,t7,t8,t9,v0,v1,v2,v3,v4⟩:=zzc6 b7.out));go_ret;exact ⟨zzR,zzh3⟩
   ·
    rw [if_neg d5] at H;obtain ⟨e8,e9⟩:=zzY d5;obtain rfl:=Option.some.inj H;go_enter Try.func17,Try.ntmps17;go_wp2_with (first|((with_reducible refine gate_dst (N:=2) rfl ?_);refine box_event ?hg (N:=2) ?hd (cs:=#[.bool a3,.bool a4,.int .i64 a9,.int .i64 b0,.int .i64 b1,.slice b2 a5.length b3]) (t:=26) ?hr ?_;(case hd=>rfl);(case hg=>rfl);(case hr=>first|(go_simp;done)|(go_simp;rfl));intro a0 hg D6 hbox hb;have a6:=zzm (zzp zzh1 hb);have a7:=zzm (hbox);have a8:=zzm ((by rw [hg];exact (zzo zzh1):w.heap.size≤a0));have b4:=zzm ((by rw [hg];exact (zzo zzh1):w.heap.size≤a0));clear HB;have HB:=a6;have a1:=a7;have d1:=a8;have d2:=b4;clear a6 a7 a8 b4 hb hbox hg)|((with_reducible refine gate_dst (N:=3) rfl ?_);refine box_event ?hg (N:=3) ?hd (cs:=#[.bool b8,.bool b9,.int .i64 c5,.int .i64 c6,.int .i64 c7,.slice c8 c0.length d0]) (t:=26) ?hr ?_;(case hd=>rfl);(case hg=>rfl);(case hr=>first|(go_simp;done)|(go_simp;rfl));intro a2 hg D7 hbox hb;have a6:=zzm (zzh (g:=a0) (o:=.cells #[.bool a3,.bool a4,.int .i64 a9,.int .i64 b0,.int .i64 b1,.slice b2 a5.length b3] 26 (0,0)) (zzE a1.out) hb);have a7:=zzm (zzp zzh2 hb);have a8:=zzm (hbox);have b4:=zzm ((by rw [hg];exact (zzo zzh2):w.heap.size≤a2));have c1:=zzm ((by rw [hg];exact (zzo zzh2):w.heap.size≤a2));have c2:=zzm ((by rw [hg];exact Nat.ne_of_lt (blk_lt (g:=a0) (o:=.cells #[.bool a3,.bool a4,.int .i64 a9,.int .i64 b0,.int .i64 b1,.slice b2 a5.length b3] 26 (0,0)) (zzE a1.out)):a0≠a2));have c4:=zzm ((by rw [hg];exact Nat.ne_of_gt (blk_lt (g:=a0) (o:=.cells #[.bool a3,.bool a4,.int .i64 a9,.int .i64 b0,.int .i64 b1,.slice b2 a5.length b3] 26 (0,0)) (zzE a1.out)):a2≠a0));clear a1 HB;have a1:=a6;have HB:=a7;have b7:=a8;have d3:=b4;have d4:=c1;have b5:=c2;have b6:=c4;clear a6 a7 a8 b4 c1 c2 c4 hb hbox hg;have B7:=b5.out;have B9:=b6.out;obtain ⟨v5,v6,v7,v8,v9,w0,w1,w2,w3,w6,w7,w8⟩:=zzc6 a1.out;obtain ⟨w9,x0,x1,x2,x3,x4,x5,x6,x7,x8,x9,y0⟩:=zzc6 b7.out));go_ret;exact ⟨zzR,zzh3⟩

set_option linter.unusedVariables false
set_option linter.unusedSimpArgs false
def Qg.l0:Nat→List (S67)→Int→Int→Option (Int×(List (S67)))
 | 0,_,_,_=>none
 | k+1,x0,x1,x5=>if x5 < (x0.length:Int) then (if 0≤x5 then ((some (x0.set (x5:Int).toNat (⟨x1,(Qb x0 x5).f1,(Qb x0 x5).f2⟩:S67):List (S67))).bind fun y470=>((some (y470.set (x5:Int).toNat (⟨(Qb y470 x5).f0,wrap64 (x1+1),(Qb y470 x5).f2⟩:S67):List (S67))).bind fun y471=>(Qg.l0 k (y471.set (x5:Int).toNat (⟨(Qb y471 x5).f0,(Qb y471 x5).f1,wrap64 ((wrap64 (x1+1))+1)⟩:S67)) (wrap64 ((wrap64 ((wrap64 (x1+1))+1))+1)) (wrap64 (x5+1))))) else (none)) else (some (x1,x0))
def Qg.f (k:Nat) (l0:List (S67)) (a1:Int):Option (Int×(List (S67))):=Qg.l0 k l0 a1 0
set_option maxHeartbeats 8000000 in
theorem Qg.calls (k:Nat) (P0_:Nat→Prop) (u9000_:Value) (l0:List (S67)) (a1:Int) (r1:Int) (r2:List (S67)) (w0 w:World) (hB:Below w0.heap.size w0 w) (ho0:Kd.R k67 67 w w0.heap.size P0_ u9000_ l0) (h:Qg.f k l0 a1=some (r1,r2)) :
  Calls Try.prog 18 #[u9000_,.int .i64 a1] w fun e w'=>e = .returned (.int .i64 r1)∧Kd.R k67 67 w' w0.heap.size (fun k_=>(P0_ k_∨w.heap.size≤k_)) u9000_ r2∧Below w0.heap.size w0 w'∧Kept w w' (fun k_=>P0_ k_):=by
 have c6:=zzm (show Kd.R k67 67 w w0.heap.size (fun k_=>(P0_ k_∨w.heap.size≤k_)) u9000_ l0 from Kd.R_mono ho0 (fun k_ hk=>(.inl hk)));have HK:=zzm (Kept.refl w (fun k_=>P0_ k_));have HW0:=zzm hB.size;have HB:=zzm hB;clear hB;have H:(Qg.l0 k l0 a1 0)=some (r1,r2):=h;clear h;have H':=zzm H;clear H;go_enter Try.func18,Try.ntmps18;go_wp2;go_loopg [1,5] k (fun kq v1 v5 w'=>∃ (a2:List (S67)) (a4:Int) (a0:Int),v1 = .int .i64 a4∧v5 = .int .i64 a0∧Aside0 (Qg.l0 kq a2 a4 a0=some (r1,r2))∧Aside0 (kq≤k)∧Aside0 (Kd.R k67 67 w' w0.heap.size (fun k_=>(P0_ k_∨w.heap.size≤k_)) u9000_ a2)∧Aside0 (Kept w w' (fun k_=>P0_ k_))∧Aside0 (Below w0.heap.size w0 w'))
 case atStart=>exact ⟨(l0),(a1),(0),(by first|rfl|(simp;done)|(simp [*];done)),(by first|rfl|(simp;done)|(simp [*];done)),H',⟨Nat.le_refl _⟩,⟨by (with_reducible repeat (first|apply Kd.R_alloc|apply Kd.R_drewN|apply Kd.R_drew));exact c6.out⟩,⟨by repeat (first|(with_reducible first|exact HK.out|apply Kept.alloc|apply Kept.drewN|apply Kept.drew)|exact HK.out)⟩,⟨zzh1⟩⟩
 case round=>
  clear H';try clear c1
  try clear p2
  obtain ⟨a2,a4,a0,rfl,rfl,HA,HK1,a3,HK,HB⟩:=hrel;cases gk with
  | zero=>exact absurd HA.out (by simp [Qg.l0])
  | succ k1=>
   have H:=HA.out;clear HA;simp only [Qg.l0] at H;by_cases c3:a0 < (a2.length:Int)
   ·
    rw [if_pos c3] at H;have c5:decide (a0 < (a2.length:Int))=true:=decide_eq_true c3;clear c3;by_cases c4 : 0≤a0
    ·
     rw [if_pos c4] at H;have d6:decide (0≤a0)=true:=decide_eq_true c4;clear c4;obtain ⟨y470,hy470⟩:∃ y_:List (S67),y_=(a2.set (a0:Int).toNat (⟨a4,(Qb a2 a0).f1,(Qb a2 a0).f2⟩:S67)):=⟨_,rfl⟩;replace H:((some (y470.set (a0:Int).toNat (⟨(Qb y470 a0).f0,wrap64 (a4+1),(Qb y470 a0).f2⟩:S67):List (S67))).bind fun y471=>(Qg.l0 k1 (y471.set (a0:Int).toNat (⟨(Qb y471 a0).f0,(Qb y471 a0).f1,wrap64 ((wrap64 (a4+1))+1)⟩:S67)) (wrap64 ((wrap64 ((wrap64 (a4+1))+1))+1)) (wrap64 (a0+1))))=some (r1,r2):=by first|(rw [hy470];with_reducible exact H)|(have H2_:=(Option.bind_some _ _).symm.trans H;rw [hy470];with_reducible exact H2_)|(have H2_:=(Option.bind_some _ _).symm.trans H;with_reducible exact H2_)|with_reducible exact H|(rw [hy470];exact H)|exact H
     have Ny470:=zzm hy470;clear hy470;obtain ⟨y471,hy471⟩:∃ y_:List (S67),y_=(y470.set (a0:Int).toNat (⟨(Qb y470 a0).f0,wrap64 (a4+1),(Qb y470 a0).f2⟩:S67)):=⟨_,rfl⟩;replace H:(Qg.l0 k1 (y471.set (a0:Int).toNat (⟨(Qb y471 a0).f0,(Qb y471 a0).f1,wrap64 ((wrap64 (a4+1))+1)⟩:S67)) (wrap64 ((wrap64 ((wrap64 (a4+1))+1))+1)) (wrap64 (a0+1)))=some (r1,r2):=by first|(rw [hy471];with_reducible exact H)|(have H2_:=(Option.bind_some _ _).symm.trans H;rw [hy471];with_reducible exact H2_)|(have H2_:=(Option.bind_some _ _).symm.trans H;with_reducible exact H2_)|with_reducible exact H|(rw [hy471];exact H)|exact H
     have Ny471:=zzm hy471;clear hy471;obtain ⟨y472,hy472⟩:∃ y_:List (S67),y_=(y471.set (a0:Int).toNat (⟨(Qb y471 a0).f0,(Qb y471 a0).f1,wrap64 ((wrap64 (a4+1))+1)⟩:S67)):=⟨_,rfl⟩;replace H:(Qg.l0 k1 y472 (wrap64 ((wrap64 ((wrap64 (a4+1))+1))+1)) (wrap64 (a0+1)))=some (r1,r2):=by first|(rw [hy472];with_reducible exact H)|(have H2_:=(Option.bind_some _ _).symm.trans H;rw [hy472];with_reducible exact H2_)|(have H2_:=(Option.bind_some _ _).symm.trans H;with_reducible exact H2_)|with_reducible exact H|(rw [hy472];exact H)|exact H
     have Ny472:=zzm hy472;clear hy472;have H':=zzm H;clear H;obtain ⟨e1,b0,eo8⟩:=Kd.R_slice a3.out;subst eo8;have p5 : 0≤(a0:Int):=zzt;have q5:(a0:Int) < ((a2.length:Int):Int):=zzt;obtain ⟨go5,e2,eo5,c2,gl5,cl5,HG5⟩:=Kd.R_form a3.out (by omega)
     (first|cases eo5|(injection eo5 with ea_ en_ ec_;(first|subst ea_|(injection ea_ with ea_;subst ea_));subst ec_;clear en_));have GB5:=zzm c2;have GG5:=zzm HG5;clear c2 gl5 HG5;have HMgo5:=zzm (show (P0_ go5∨w.heap.size≤go5) from (a3.out.1 _ rfl));obtain ⟨e3,hcl5,hM5,b1,hfr5⟩:=Kd.R_elem a3.out z67 (a0:Int) p5 q5;obtain rfl:=k67_openM hM5;have c7:wr.cell? ⟨go5,(a0:Int).toNat * 3,none⟩=some (.int .i64 ((Qb a2 a0).f0)):=b1 0 _ rfl;have c8:wr.cell? ⟨go5,(a0:Int).toNat * 3+1,none⟩=some (.int .i64 ((Qb a2 a0).f1)):=b1 1 _ rfl;have c9:wr.cell? ⟨go5,(a0:Int).toNat * 3+2,none⟩=some (.int .i64 ((Qb a2 a0).f2)):=b1 2 _ rfl;have hf5_0:wr.frozen? ⟨go5,(a0:Int).toNat * 3,none⟩=false:=hfr5 0;have hf5_1:wr.frozen? ⟨go5,(a0:Int).toNat * 3+1,none⟩=false:=hfr5 1;have hf5_2:wr.frozen? ⟨go5,(a0:Int).toNat * 3+2,none⟩=false:=hfr5 2;clear hcl5 b1 hfr5 hM5;replace p5:=eq_true p5;replace q5:=eq_true q5;have HX9:=zzm (show Kd.R k67 67 wr w0.heap.size (fun k_=>(P0_ k_∨w.heap.size≤k_)) (.slice (some ⟨go5,0,none⟩) a2.length b0) a2 from (by (with_reducible repeat (first|apply Kd.R_alloc|apply Kd.R_drewN|apply Kd.R_drew));exact a3.out));obtain ⟨e4,hcl9,hM9,b6,hfr9⟩:=Kd.R_elem HX9.out z67 (a0:Int) (zzt) (by have h_:(a0:Int) < ((a2.length:Int):Int):=zzt;first|exact h_|(have e_:=(Kd.R_reads' a3.out).1;omega)|simpa using h_);obtain rfl:=k67_openM hM9;have HP9:=Kd.R_seg HX9.out (a0:Int) (zzt) (by have h_:(a0:Int) < ((a2.length:Int):Int):=zzt;first|exact h_|(have e_:=(Kd.R_reads' a3.out).1;omega)|simpa using h_) (seg:=[.int .i64 a4]) (j:=0) hcl9 b6 (show 1≤3 from by decide) (x':=(⟨a4,(Qb a2 a0).f1,(Qb a2 a0).f2⟩:S67)) (k67_mkM _ _ _ (⟨a4,(Qb a2 a0).f1,(Qb a2 a0).f2⟩:S67)) (fun _ hk=>hk);have c0:=b6 0 _ rfl
     (try simp only [show (k67).sz=3 from rfl,Nat.mul_one,Nat.add_zero] at c0);have hf9_0:=hfr9 0
     (try simp only [show (k67).sz=3 from rfl,Nat.mul_one,Nat.add_zero] at hf9_0);clear hcl9 b6 hfr9 hM9;go_wp2_with (first|((with_reducible refine gate_store (t:=3) (p:=16) rfl ?_);refine store_event (t:=3) (p:=16) (v:=?vo_w10) (w1:=(wr.setCell ⟨go5,(a0:Int).toNat * 3,none⟩ (.int .i64 a4))) ?hg ?ho ?hn ?hr ?_;(case ho=>rfl);(case hg=>rfl);(case hn=>rfl);(case hr=>first|(go_simp;done)|(go_simp;rfl));intro a5 hw;have hg:wr.grownBy a5 (some go5):=(by rw [hw];exact HP9.2);have hp_:Kd.R k67 67 a5 w0.heap.size (fun k_=>(P0_ k_∨w.heap.size≤k_)) (.slice (some ⟨go5,0,none⟩) a2.length b0) y470:=(by rw [hw,Ny470.out];exact HP9.1);clear HP9;have a7:=zzm (hp_);have a8:=zzm ((by rw [hw];exact zzd (HB.out) GB5.out:Below w0.heap.size w0 a5));have a9:=zzm (Kept.of_grown (S:=(fun k_=>P0_ k_)) hg (by repeat (first|(with_reducible first|exact HK.out|apply Kept.alloc|apply Kept.drewN|apply Kept.drew)|exact HK.out)) (fun k_ e_=>(a3.out.1 k_ e_)));clear a3 HB HK;have a3:=a7;have HB:=a8;have HK:=a9;clear a7 a8 a9 hg hw hp_;have p6 : 0≤(a0:Int):=zzt;have q6:(a0:Int) < ((a2.length:Int):Int):=zzt;obtain ⟨e5,hcl6,hM6,b2,hfr6⟩:=Kd.R_elem a3.out z67 (a0:Int) p6 q6;obtain rfl:=k67_openM hM6;have d0:a5.cell? ⟨go5,(a0:Int).toNat * 3,none⟩=some (.int .i64 ((Qb y470 a0).f0)):=b2 0 _ rfl;have d1:a5.cell? ⟨go5,(a0:Int).toNat * 3+1,none⟩=some (.int .i64 ((Qb y470 a0).f1)):=b2 1 _ rfl;have d2:a5.cell? ⟨go5,(a0:Int).toNat * 3+2,none⟩=some (.int .i64 ((Qb y470 a0).f2)):=b2 2 _ rfl;have hf6_0:a5.frozen? ⟨go5,(a0:Int).toNat * 3,none⟩=false:=hfr6 0;have hf6_1:a5.frozen? ⟨go5,(a0:Int).toNat * 3+1,none⟩=false:=hfr6 1;have hf6_2:a5.frozen? ⟨go5,(a0:Int).toNat * 3+2,none⟩=false:=hfr6 2;clear hcl6 b2 hfr6 hM6;replace p6:=eq_true p6;replace q6:=eq_true q6;have HX11:=zzm (show Kd.R k67 67 a5 w0.heap.size (fun k_=>(P0_ k_∨w.heap.size≤k_)) (.slice (some ⟨go5,0,none⟩) a2.length b0) y470 from (by (with_reducible repeat (first|apply Kd.R_alloc|apply Kd.R_drewN|apply Kd.R_drew));exact a3.out));obtain ⟨d7,hcl11,hM11,b3,hfr11⟩:=Kd.R_elem HX11.out z67 (a0:Int) (zzt) (by have h_:(a0:Int) < ((a2.length:Int):Int):=zzt;first|exact h_|(have e_:=(Kd.R_reads' a3.out).1;omega)|simpa using h_);obtain rfl:=k67_openM hM11;have HP11:=Kd.R_seg HX11.out (a0:Int) (zzt) (by have h_:(a0:Int) < ((a2.length:Int):Int):=zzt;first|exact h_|(have e_:=(Kd.R_reads' a3.out).1;omega)|simpa using h_) (seg:=[.int .i64 (wrap64 (a4+1))]) (j:=1) hcl11 b3 (show 2≤3 from by decide) (x':=(⟨(Qb y470 a0).f0,wrap64 (a4+1),(Qb y470 a0).f2⟩:S67)) (k67_mkM _ _ _ (⟨(Qb y470 a0).f0,wrap64 (a4+1),(Qb y470 a0).f2⟩:S67)) (fun _ hk=>hk);have b7:=b3 1 _ rfl;(try simp only [show (k67).sz=3 from rfl,Nat.mul_one,Nat.add_zero] at b7);have hf11_1:=hfr11 1;(try simp only [show (k67).sz=3 from rfl,Nat.mul_one,Nat.add_zero] at hf11_1);clear hcl11 b3 hfr11 hM11)|((with_reducible refine gate_store (t:=3) (p:=23) rfl ?_);refine store_event (t:=3) (p:=23) (v:=?vo_w12) (w1:=(a5.setCell ⟨go5,(a0:Int).toNat * 3+1,none⟩ (.int .i64 (wrap64 (a4+1))))) ?hg ?ho ?hn ?hr ?_;(case ho=>rfl);(case hg=>rfl);(case hn=>rfl);(case hr=>first|(go_simp;done)|(go_simp;rfl));intro a6 hw;have hg:a5.grownBy a6 (some go5):=(by rw [hw];exact HP11.2);have hp_:Kd.R k67 67 a6 w0.heap.size (fun k_=>(P0_ k_∨w.heap.size≤k_)) (.slice (some ⟨go5,0,none⟩) a2.length b0) y471:=(by rw [hw,Ny471.out];exact HP11.1);clear HP11;have a7:=zzm (hp_);have a8:=zzm ((by rw [hw];exact zzd (HB.out) GB5.out:Below w0.heap.size w0 a6));have a9:=zzm (Kept.of_grown (S:=(fun k_=>P0_ k_)) hg (by repeat (first|(with_reducible first|exact HK.out|apply Kept.alloc|apply Kept.drewN|apply Kept.drew)|exact HK.out)) (fun k_ e_=>(a3.out.1 k_ e_)));clear a3 HB HK;have a3:=a7;have HB:=a8;have HK:=a9;clear a7 a8 a9 hg hw hp_;have p7 : 0≤(a0:Int):=zzt;have q7:(a0:Int) < ((a2.length:Int):Int):=zzt;obtain ⟨e6,hcl7,hM7,b4,hfr7⟩:=Kd.R_elem a3.out z67 (a0:Int) p7 q7;obtain rfl:=k67_openM hM7;have d3:a6.cell? ⟨go5,(a0:Int).toNat * 3,none⟩=some (.int .i64 ((Qb y471 a0).f0)):=b4 0 _ rfl;have d4:a6.cell? ⟨go5,(a0:Int).toNat * 3+1,none⟩=some (.int .i64 ((Qb y471 a0).f1)):=b4 1 _ rfl;have d5:a6.cell? ⟨go5,(a0:Int).toNat * 3+2,none⟩=some (.int .i64 ((Qb y471 a0).f2)):=b4 2 _ rfl;have hf7_0:a6.frozen? ⟨go5,(a0:Int).toNat * 3,none⟩=false:=hfr7 0;have hf7_1:a6.frozen? ⟨go5,(a0:Int).toNat * 3+1,none⟩=false:=hfr7 1;have hf7_2:a6.frozen? ⟨go5,(a0:Int).toNat * 3+2,none⟩=false:=hfr7 2;clear hcl7 b4 hfr7 hM7;replace p7:=eq_true p7;replace q7:=eq_true q7;have HX13:=zzm (show Kd.R k67 67 a6 w0.heap.size (fun k_=>(P0_ k_∨w.heap.size≤k_)) (.slice (some ⟨go5,0,none⟩) a2.length b0) y471 from (by (with_reducible repeat (first|apply Kd.R_alloc|apply Kd.R_drewN|apply Kd.R_drew));exact a3.out));obtain ⟨d8,hcl13,hM13,b5,hfr13⟩:=Kd.R_elem HX13.out z67 (a0:Int) (zzt) (by have h_:(a0:Int) < ((a2.length:Int):Int):=zzt;first|exact h_|(have e_:=(Kd.R_reads' a3.out).1;omega)|simpa using h_);obtain rfl:=k67_openM hM13;have HP13:=Kd.R_seg HX13.out (a0:Int) (zzt) (by have h_:(a0:Int) < ((a2.length:Int):Int):=zzt;first|exact h_|(have e_:=(Kd.R_reads' a3.out).1;omega)|simpa using h_) (seg:=[.int .i64 (wrap64 ((wrap64 (a4+1))+1))]) (j:=2) hcl13 b5 (show 3≤3 from by decide) (x':=(⟨(Qb y471 a0).f0,(Qb y471 a0).f1,wrap64 ((wrap64 (a4+1))+1)⟩:S67)) (k67_mkM _ _ _ (⟨(Qb y471 a0).f0,(Qb y471 a0).f1,wrap64 ((wrap64 (a4+1))+1)⟩:S67)) (fun _ hk=>hk);have b8:=b5 2 _ rfl;(try simp only [show (k67).sz=3 from rfl,Nat.mul_one,Nat.add_zero] at b8);have hf13_2:=hfr13 2;(try simp only [show (k67).sz=3 from rfl,Nat.mul_one,Nat.add_zero] at hf13_2);clear hcl13 b5 hfr13 hM13)|((with_reducible refine gate_store (t:=3) (p:=30) rfl ?_);refine store_event (t:=3) (p:=30) (v:=?vo_w14) (w1:=(a6.setCell ⟨go5,(a0:Int).toNat * 3+2,none⟩ (.int .i64 (wrap64 ((wrap64 (a4+1))+1))))) ?hg ?ho ?hn ?hr ?_;(case ho=>rfl);(case hg=>rfl);(case hn=>rfl);(case hr=>first|(go_simp;done)|(go_simp;rfl));intro b9 hw;have hg:a6.grownBy b9 (some go5):=(by rw [hw];exact HP13.2);have hp_:Kd.R k67 67 b9 w0.heap.size (fun k_=>(P0_ k_∨w.heap.size≤k_)) (.slice (some ⟨go5,0,none⟩) a2.length b0) y472:=(by rw [hw,Ny472.out];exact HP13.1);clear HP13;have a7:=zzm (hp_);have a8:=zzm ((by rw [hw];exact zzd (HB.out) GB5.out:Below w0.heap.size w0 b9));have a9:=zzm (Kept.of_grown (S:=(fun k_=>P0_ k_)) hg (by repeat (first|(with_reducible first|exact HK.out|apply Kept.alloc|apply Kept.drewN|apply Kept.drew)|exact HK.out)) (fun k_ e_=>(a3.out.1 k_ e_)));clear a3 HB HK;have a3:=a7;have HB:=a8;have HK:=a9;clear a7 a8 a9 hg hw hp_));go_roundg k1
     case measure=>have:=HK1.out;omega
     case rel=>exact ⟨(y472),(wrap64 ((wrap64 ((wrap64 (a4+1))+1))+1)),(wrap64 (a0+1)),(by first|rfl|(simp;done)|(simp [*];done)),(by first|rfl|(simp;done)|(simp [*];done)),H',⟨by have:=HK1.out;omega⟩,⟨by (with_reducible repeat (first|apply Kd.R_alloc|apply Kd.R_drewN|apply Kd.R_drew));exact a3.out⟩,⟨by repeat (first|(with_reducible first|exact HK.out|apply Kept.alloc|apply Kept.drewN|apply Kept.drew)|exact HK.out)⟩,⟨zzh1⟩⟩
    ·
     rw [if_neg c4] at H;exact absurd H (by simp)
   ·
    rw [if_neg c3] at H;have c5:decide (a0 < (a2.length:Int))=false:=decide_eq_false c3;clear c3;simp only [Option.some.injEq,Prod.mk.injEq] at H;obtain ⟨rfl,rfl⟩:=H;obtain ⟨d9,e0,eo15⟩:=Kd.R_slice a3.out;subst eo15;go_wp2;go_ret;exact ⟨zzR,by (with_reducible repeat (first|apply Kd.R_alloc|apply Kd.R_drewN|apply Kd.R_drew));exact a3.out,zzh1,by repeat (first|(with_reducible first|exact HK.out|apply Kept.alloc|apply Kept.drewN|apply Kept.drew)|exact HK.out)⟩

set_option linter.unusedVariables false
set_option linter.unusedSimpArgs false
section
inductive Sim:Value→Value→Prop
 | refl (u:Value):Sim u u
 | int (k:IntKind) (x y:Int):Sim (.int k x) (.int k y)
 | bool (x y:Bool):Sim (.bool x) (.bool y)
theorem Sim.trans {a b c:Value} (h:Sim a b) (k:Sim b c):Sim a c:=by
 cases h with
 | refl=>exact k
 | int kk x y=>
  cases k with
  | refl=>exact .int _ _ _
  | int _ _ z=>exact .int _ _ _
 | bool x y=>
  cases k with
  | refl=>exact .bool _ _
  | bool _ z=>exact .bool _ _
theorem Sim.of_int {k:IntKind} {x:Int} {u:Value} (h:Sim (.int k x) u):∃ y,u = .int k y:=by
 cases h with
 | refl=>exact ⟨x,rfl⟩
 | int _ _ y=>exact ⟨y,rfl⟩
theorem Sim.of_bool {x:Bool} {u:Value} (h:Sim (.bool x) u):∃ y,u = .bool y:=by
 cases h with
 | refl=>exact ⟨x,rfl⟩
 | bool _ y=>exact ⟨y,rfl⟩
theorem Sim.of_slice {A:Option Addr} {n c:Nat} {u:Value} (h:Sim (.slice A n c) u):u = .slice A n c:=by
 cases h with
 | refl=>rfl
structure Lk (P:Nat→Prop) (w w' : World):Prop where
 kept:Kept w w' P
 low:∀ B,(∀ k,P k→B≤k)→Below B w w'
 cell:∀ (g:Nat) (cs:Array Value) (t:Nat),w.heap[g]? = some (.cells cs t (0,0))→∃ cs' : Array Value,w'.heap[g]? = some (.cells cs' t (0,0))∧∀ (i:Nat) (u:Value),cs[i]? = some u→∃ u',cs'[i]? = some u'∧Sim u u'
theorem Lk.refl (P:Nat→Prop) (w:World):Lk P w w:=⟨Kept.refl _ _,fun _ _=>Below.refl _ _,fun g cs t h=>⟨cs,h,fun i u hu=>⟨u,hu,.refl u⟩⟩⟩
theorem Lk.trans {P:Nat→Prop} {x y z:World} (h:Lk P x y) (k:Lk P y z):Lk P x z:=by
 refine ⟨h.kept.then_ k.kept (fun _ h2=>.inl h2),fun B hB=>(h.low B hB).trans (k.low B hB),fun g cs t h0=>?_⟩;obtain ⟨c1,h1,q1⟩:=h.cell g cs t h0;obtain ⟨c2,h2,q2⟩:=k.cell g c1 t h1;refine ⟨c2,h2,fun i u hu=>?_⟩;obtain ⟨u1,e1,s1⟩:=q1 i u hu;obtain ⟨u2,e2,s2⟩:=q2 i u1 e1;exact ⟨u2,e2,s1.trans s2⟩
theorem Lk.set {P:Nat→Prop} {w:World} {g t i:Nat} {cs:Array Value} {u v:Value} (h:w.heap[g]? = some (.cells cs t (0,0))) (hu:cs[i]? = some u) (hs:Sim u v) (hp:P g):Lk P w (w.setCell ⟨g,i,none⟩ v):=by
 refine ⟨(Kept.refl w P).setCell (.inl hp) v,fun B hB=>(Below.refl B w).setCell (p:=⟨g,i,none⟩) (hB g hp) v,fun g' cs' t' h'=>?_⟩;by_cases e:g' = g
 ·subst e
  rw [h] at h';cases h';refine ⟨cs.setIfInBounds i v,zzi h i v rfl,fun j u2 hj=>?_⟩;by_cases ej:j=i
  ·subst ej
   rw [hu] at hj;cases hj;exact ⟨v,by rw [Array.getElem?_setIfInBounds_self_of_lt (Array.getElem?_eq_some_iff.1 hu).1],hs⟩
  ·exact ⟨u2,by rw [Array.getElem?_setIfInBounds_ne (Ne.symm ej)];exact hj,.refl _⟩
 ·exact ⟨cs',(Below.heap_setCell w ⟨g,i,none⟩ v g' e).trans h',fun j u2 hj=>⟨u2,hj,.refl _⟩⟩
def IntRow (P:Nat→Prop) (w:World) (A:Option Addr) (n:Nat):Prop:=0 < n→∃ (g:Nat) (cs:Array Value),A=some ⟨g,0,none⟩∧P g∧w.heap[g]? = some (.cells cs 3 (0,0))∧∀ i,i < n→∃ x,cs[i]? = some (.int .i64 x)
def RecRow (P:Nat→Prop) (w:World) (A:Option Addr) (n:Nat) (len:Nat→Nat×Nat):Prop:=0 < n→∃ (g:Nat) (cs:Array Value),A=some ⟨g,0,none⟩∧P g∧w.heap[g]? = some (.cells cs 75 (0,0))∧∀ i,i < n →
 ∃ x0 x1 b2 A3 c3 b4 A5 c5,(cs[i * 6+0]? = some (.int .i64 x0)∧cs[i * 6+1]? = some (.int .i64 x1)∧cs[i * 6+2]? = some (.bool b2)∧cs[i * 6+3]? = some (.slice A3 (len i).1 c3)∧cs[i * 6+4]? = some (.bool b4)∧cs[i * 6+5]? = some (.slice A5 (len i).2 c5))∧IntRow P w A3 (len i).1∧IntRow P w A5 (len i).2
theorem IntRow.lk {P:Nat→Prop} {w w' : World} {A:Option Addr} {n:Nat} (h:IntRow P w A n) (k:Lk P w w'):IntRow P w' A n:=by
 intro hn;obtain ⟨g,cs,rfl,hp,hh,hc⟩:=h hn;obtain ⟨cs',hh',hc'⟩:=k.cell g cs 3 hh;refine ⟨g,cs',rfl,hp,hh',fun i hi=>?_⟩;obtain ⟨x,hx⟩:=hc i hi;obtain ⟨u,hu,hs⟩:=hc' i _ hx;obtain ⟨y,rfl⟩:=hs.of_int;exact ⟨y,hu⟩
theorem RecRow.lk {P:Nat→Prop} {w w' : World} {A:Option Addr} {n:Nat} {len:Nat→Nat×Nat} (h:RecRow P w A n len) (k:Lk P w w'):RecRow P w' A n len:=by
 intro hn;obtain ⟨g,cs,rfl,hp,hh,hc⟩:=h hn;obtain ⟨cs',hh',hc'⟩:=k.cell g cs _ hh;refine ⟨g,cs',rfl,hp,hh',fun i hi=>?_⟩;obtain ⟨x0,x1,b2,A3,c3,b4,A5,c5,⟨h0,h1,h2,h3,h4,h5⟩,r3,r5⟩:=hc i hi;obtain ⟨_,q0,s0⟩:=hc' _ _ h0;obtain ⟨_,q1,s1⟩:=hc' _ _ h1;obtain ⟨_,q2,s2⟩:=hc' _ _ h2;obtain ⟨_,q3,s3⟩:=hc' _ _ h3;obtain ⟨_,q4,s4⟩:=hc' _ _ h4;obtain ⟨_,q5,s5⟩:=hc' _ _ h5;obtain ⟨y0,rfl⟩:=s0.of_int;obtain ⟨y1,rfl⟩:=s1.of_int;obtain ⟨y2,rfl⟩:=s2.of_bool;obtain rfl:=s3.of_slice;obtain ⟨y4,rfl⟩:=s4.of_bool;obtain rfl:=s5.of_slice;exact ⟨y0,y1,y2,A3,c3,y4,A5,c5,⟨q0,q1,q2,q3,q4,q5⟩,r3.lk k,r5.lk k⟩
theorem IntRow.mono {P Q:Nat→Prop} {w:World} {A:Option Addr} {n:Nat} (h:IntRow P w A n) (hq:∀ k,P k→Q k):IntRow Q w A n:=fun hn=>by
 obtain ⟨g,cs,e,hp,r⟩:=h hn
 exact ⟨g,cs,e,hq g hp,r⟩
theorem IntRow.heap {P:Nat→Prop} {w w' : World} {A:Option Addr} {n:Nat} (h:IntRow P w A n) (hm:∀ (g:Nat) (o:Obj),w.heap[g]? = some o→w'.heap[g]? = some o):IntRow P w' A n:=fun hn=>by
 obtain ⟨g,cs,e,hp,hh,r⟩:=h hn
 exact ⟨g,cs,e,hp,hm _ _ hh,r⟩
theorem RecRow.heap {P:Nat→Prop} {w w' : World} {A:Option Addr} {n:Nat} {len:Nat→Nat×Nat} (h:RecRow P w A n len) (hm:∀ (g:Nat) (o:Obj),w.heap[g]? = some o→w'.heap[g]? = some o):RecRow P w' A n len:=fun hn=>by
 obtain ⟨g,cs,e,hp,hh,r⟩:=h hn
 refine ⟨g,cs,e,hp,hm _ _ hh,fun i hi=>?_⟩
 obtain ⟨x0,x1,b2,A3,c3,b4,A5,c5,hc,r3,r5⟩:=r i hi
 exact ⟨x0,x1,b2,A3,c3,b4,A5,c5,hc,r3.heap hm,r5.heap hm⟩
theorem RecRow.below {P:Nat→Prop} {w w' : World} {A:Option Addr} {n:Nat} {len:Nat→Nat×Nat} (h:RecRow P w A n len) (hb:Below w.heap.size w w'):RecRow P w' A n len:=h.heap (fun g o ho=>(hb.block g (blk_lt ho)).trans ho)
theorem mk_cell {cur:Array Value} {n sz:Nat} {inner c:List Value} (h4:List.take (n * sz) cur.toList=inner) {i j:Nat} (hi:i < n) (hc:(inner.drop (i * sz)).take sz=c) (hl:c.length=sz) {u:Value} (hu:c[j]? = some u):cur[i * sz+j]? = some u:=by
 have hj:j < sz:=by rw [← hl];exact (List.getElem?_eq_some_iff.1 hu).1
 have hb:i * sz+j < n * sz:=by
  have:(i+1) * sz≤n * sz:=Nat.mul_le_mul_right _ hi;rw [Nat.add_mul] at this;omega
 rw [← hc,List.getElem?_take_of_lt hj,List.getElem?_drop,← h4,List.getElem?_take_of_lt hb,Array.getElem?_toList] at hu;exact hu
theorem intRow_of {w:World} {base:Nat} {ok:Nat→Prop} {v:Value} {xs:List Int} (h:Kd.R (Kd.int .i64) 3 w base ok v xs):∃ A c,v = .slice A xs.length c∧IntRow ok w A xs.length:=by
 obtain ⟨h0,inner,⟨_,ho⟩,hr⟩:=h;rcases ho with ⟨rfl,hn⟩|⟨g,cap,cur,rfl,_,hh,_,_,_,h4⟩
 ·exact ⟨none,0,by rw [hn],fun hp=>by omega⟩
 ·refine ⟨_,cap,rfl,fun _=>⟨g,cur,rfl,h0 g rfl,hh,fun i hi=>?_⟩⟩
  have hM:(inner.drop (i * 1)).take 1 = [.int .i64 xs[i]]:=hr.2 i xs[i] (List.getElem?_eq_getElem hi);have hc:cur[i * 1+0]? = some (.int .i64 xs[i]):=mk_cell (j:=0) h4 hi hM rfl rfl;rw [Nat.mul_one,Nat.add_zero] at hc;exact ⟨xs[i],hc⟩
theorem recRow_of {w:World} {base:Nat} {ok:Nat→Prop} {v:Value} {xs:List S75} (h:Kd.R k75 75 w base ok v xs):∃ A c,v = .slice A xs.length c∧RecRow ok w A xs.length (fun i=>((Qa xs (i:Int)).f3.length,(Qa xs (i:Int)).f5.length)):=by
 obtain ⟨h0,inner,⟨_,ho⟩,hr⟩:=h;rcases ho with ⟨rfl,hn⟩|⟨g,cap,cur,rfl,_,hh,_,_,_,h4⟩
 ·exact ⟨none,0,by rw [hn],fun hp=>by omega⟩
 ·refine ⟨_,cap,rfl,fun _=>⟨g,cur,rfl,h0 g rfl,hh,fun i hi=>?_⟩⟩
  have hrd:Qa xs (i:Int)=xs[i]:=by unfold Qa;rw [Int.toNat_natCast,List.getD_eq_getElem?_getD,List.getElem?_eq_getElem hi];rfl
  obtain ⟨c0,d0,e0,f0,c1,d1,e1,f1,c2,d2,e2,f2,c3,d3,e3,⟨v3,f3,h3⟩,c4,d4,e4,f4,v5,f5,h5⟩:=hr.2 i xs[i] (List.getElem?_eq_getElem hi);subst f0 e1 f1 e2 f2 e3 f3 e4 f4 f5;obtain ⟨A3,k3,e3,r3⟩:=intRow_of h3;obtain ⟨A5,k5,e5,r5⟩:=intRow_of h5;subst e3 e5;dsimp only;rw [hrd];exact ⟨_,_,_,A3,k3,_,A5,k5,⟨mk_cell (j:=0) h4 hi e0 rfl rfl,mk_cell (j:=1) h4 hi e0 rfl rfl,mk_cell (j:=2) h4 hi e0 rfl rfl,mk_cell (j:=3) h4 hi e0 rfl rfl,mk_cell (j:=4) h4 hi e0 rfl rfl,mk_cell (j:=5) h4 hi e0 rfl rfl⟩,r3.mono (fun _ hk=>hk.1),r5.mono (fun _ hk=>hk.1)⟩
set_option maxHeartbeats 4000000 in
theorem markInt_lk (P:Nat→Prop) (A:Option Addr) (n c:Nat) (a1:Int) (w:World) (h:IntRow P w A n) (h0 : 0≤a1) (h1:a1+n≤9000000000000000000) :
  Calls Try.prog 28 #[.slice A n c,.int .i64 a1] w fun e w'=>e = .returned (.int .i64 (a1+n))∧Lk P w w':=by
 have HR:=zzm h;have H0:=zzm h0;have H1:=zzm h1;clear h h0 h1;go_enter Try.func28,Try.ntmps28;go_wp2;go_loopw [1,5] (fun v1 v5 W=>∃ m:Nat,m≤n∧v1 = .int .i64 (a1+m)∧v5 = .int .i64 m∧Lk P w W) (fun _ v5 _=>n - (intOf v5).toNat)
 case atStart=>exact ⟨0,Nat.zero_le _,by simp,by go_num,Lk.refl _ _⟩
 case round=>
  obtain ⟨m,hm,rfl,rfl,hL⟩:=hrel;have HL:=zzm hL;clear hL;have h0:=H0.out;have h1:=H1.out;by_cases hlt:m < n
  ·obtain ⟨g,cs,rfl,hP,hh,hc⟩:=HR.out.lk HL.out (by omega)
   obtain ⟨y,hy⟩:=hc m hlt;have HP:=zzm hP;have HH:=zzm hh;have HY:=zzm hy;have q:=(zzk hh m).trans hy;have f:=zzl hh m;have e1:wrap64 (a1+(m:Int)+1)=a1+((m+1:Nat):Int):=by unfold wrap64;omega
   have e2:wrap64 ((m:Int)+1)=((m+1:Nat):Int):=by unfold wrap64;omega
   have hmi:((m:Nat):Int) < ((n:Nat):Int):=by omega
   clear hP hh hc hy;go_wp2;go_roundw
   case rel=>exact ⟨m+1,by omega,congrArg (Value.int .i64) (by omega),congrArg (Value.int .i64) (by omega),HL.out.trans (Lk.set HH.out HY.out (.int _ _ _) HP.out)⟩
   case measure=>simp [intOf] <;> omega
  ·obtain rfl:m=n:=by omega
   have hmi:¬ ((m:Nat):Int) < ((m:Nat):Int):=by omega
   go_wp2;go_ret;exact ⟨rfl,HL.out⟩
theorem Lk.at_ {P:Nat→Prop} {W W' : World} {g t i:Nat} {cs:Array Value} {u:Value} (h:Lk P W W') (hh:W.heap[g]? = some (.cells cs t (0,0))) (hu:cs[i]? = some u):∃ cs' u',W'.heap[g]? = some (.cells cs' t (0,0))∧cs'[i]? = some u'∧Sim u u'∧W'.cell? ⟨g,i,none⟩=some u'∧W'.frozen? ⟨g,i,none⟩=false:=by
 obtain ⟨cs',hh',hc⟩:=h.cell g cs t hh;obtain ⟨u',hu',hs⟩:=hc i u hu;exact ⟨cs',u',hh',hu',hs,(zzk hh' i).trans hu',zzl hh' i⟩
theorem meas_lt {n m:Nat} {v:Value} (hv:v = .int .i64 ((m+1:Nat):Int)) (h:m < n):n - (intOf v).toNat < n - (intOf (.int .i64 (m:Int))).toNat:=by
 subst hv;simp [intOf];omega
def cntR (len:Nat→Nat×Nat):Nat→Nat
 | 0=>0
 | m+1=>cntR len m+(4+(len m).1+(len m).2)
theorem cntR_le (len:Nat→Nat×Nat):∀ {m n:Nat},m≤n→cntR len m≤cntR len n
 | m,0,h=>by rw [show m=0 by omega];exact Nat.le_refl _
 | m,n+1,h=>by
  by_cases e:m=n+1
  ·rw [e];exact Nat.le_refl _
  ·have h1:=cntR_le len (show m≤n by omega)
   have h2:cntR len (n+1)=cntR len n+(4+(len n).1+(len n).2):=rfl
   omega
theorem le_cntR (len:Nat→Nat×Nat):∀ m,m≤cntR len m
 | 0=>Nat.le_refl _
 | m+1=>by
  have h1:=le_cntR len m
  have h2:cntR len (m+1)=cntR len m+(4+(len m).1+(len m).2):=rfl
  omega
set_option maxHeartbeats 8000000 in
theorem markRec_lk (P:Nat→Prop) (A:Option Addr) (n c:Nat) (len:Nat→Nat×Nat) (a1:Int) (w:World) (h:RecRow P w A n len) (h0 : 0≤a1) (h1:a1+cntR len n≤9000000000000000000) :
    Calls Try.prog 47 #[.slice A n c,.int .i64 a1] w fun e w'=>e = .returned (.int .i64 (a1+cntR len n))∧Lk P w w':=by
  have HR:=zzm h;have H0:=zzm h0;have H1:=zzm h1;clear h h0 h1;have hu:=Try.underlying75;go_enter Try.func47,Try.ntmps47;go_wp2;go_loopw [1,5] (fun v1 v5 W=>∃ m:Nat,m≤n∧v1 = .int .i64 (a1+cntR len m)∧v5 = .int .i64 m∧Lk P w W) (fun _ v5 _=>n - (intOf v5).toNat)
  case atStart=>exact ⟨0,Nat.zero_le _,by simp [cntR],by go_num,Lk.refl _ _⟩
  case round=>
    obtain ⟨m,hm,rfl,rfl,hL⟩:=hrel;have HL:=zzm hL;clear hL;have h0:=H0.out;have h1:=H1.out;by_cases hlt:m < n
    · have hcl:=cntR_le len (show m+1≤n from hlt)
      have hcs:cntR len (m+1)=cntR len m+(4+(len m).1+(len m).2):=rfl;have hmc:=le_cntR len m;have e5:wrap64 ((m:Int)+1)=((m+1:Nat):Int):=by unfold wrap64;omega
      obtain ⟨kk,hkk⟩:∃ kk:Int,kk=a1+(cntR len m:Int):=⟨_,rfl⟩;rw [← hkk];have k0 : 0≤kk:=by omega
      have k1:kk+4+((len m).1:Int)+((len m).2:Int)≤9000000000000000000:=by omega
      have hend:((kk+1+1+1+((len m).1:Int))+1+((len m).2:Int))=a1+(cntR len (m+1):Int):=by omega
      have HE:=zzm hend;have b1 : 0≤kk+1+1+1:=by omega
      have b2:kk+1+1+1+((len m).1:Int)≤9000000000000000000:=by omega
      have b3 : 0≤kk+1+1+1+((len m).1:Int)+1:=by omega
      have b4:kk+1+1+1+((len m).1:Int)+1+((len m).2:Int)≤9000000000000000000:=by omega
      have B1:=zzm b1;have B2:=zzm b2;have B3:=zzm b3;have B4:=zzm b4;have e1:wrap64 (kk+1)=kk+1:=by unfold wrap64;omega
      have e2:wrap64 (kk+1+1)=kk+1+1:=by unfold wrap64;omega
      have e3:wrap64 (kk+1+1+1)=kk+1+1+1:=by unfold wrap64;omega
      have e4:wrap64 (kk+1+1+1+((len m).1:Int)+1)=kk+1+1+1+((len m).1:Int)+1:=by unfold wrap64;omega
      clear hkk hcl hcs h0 h1 hend hmc b1 b2 b3 b4;obtain ⟨g,cs,rfl,hP,hh,hc⟩:=HR.out.lk HL.out (Nat.lt_of_le_of_lt (Nat.zero_le m) hlt);obtain ⟨x0,x1,y2,A3,c3,y4',A5,c5,⟨q0,q1,q2,q3,q4,q5⟩,r3,r5⟩:=hc m hlt;rw [Nat.add_zero] at q0;have HP:=zzm hP;have HH:=zzm hh;have p0:=(zzk hh (m * 6)).trans q0;have z0:=zzl hh (m * 6);have p1:=(zzk hh (m * 6+1)).trans q1;have z1:=zzl hh (m * 6+1);have p2:=(zzk hh (m * 6+2)).trans q2;have z2:=zzl hh (m * 6+2);have p3:=(zzk hh (m * 6+3)).trans q3;have l1:Lk P wr (wr.setCell ⟨g,m * 6,none⟩ (.int .i64 kk)):=Lk.set hh q0 (.int _ _ _) hP;obtain ⟨cs1,u1,hh1,q1',s1,_,_⟩:=l1.at_ hh q1;have l2:=l1.trans (Lk.set hh1 q1' (v:=.int .i64 (kk+1)) (by obtain ⟨y,rfl⟩:=s1.of_int;exact .int _ _ _) hP);obtain ⟨cs2,u2,hh2,q2',s2,_,_⟩:=l2.at_ hh q2;have L3:=zzm (l2.trans (Lk.set hh2 q2' (v:=.bool ((kk+1+1) % 3==0)) (by obtain ⟨y,rfl⟩:=s2.of_bool;exact .bool _ _) hP));have hmi:((m:Nat):Int) < ((n:Nat):Int):=by omega
      have R3:=zzm r3;have R5:=zzm r5;clear hP hh r3 r5 hc l1 l2 hh1 hh2 q1' q2' s1 s2;go_wp2_with (first
        | (go_at_call 28;have hq:=markInt_lk P A3 (len m).1 c3 (kk+1+1+1) _ (R3.out.lk L3.out) B1.out B2.out;with_reducible refine hq.mono ?_;clear hq;rintro e W4 ⟨rfl,hL4⟩
           have l4:=L3.out.trans hL4;obtain ⟨cs4,v4,hh4,q4',s4,p4,z4⟩:=l4.at_ HH.out q4;obtain ⟨y4,rfl⟩:=s4.of_bool;obtain ⟨cs5,v5',hh5,q5',s5,p5,z5⟩:=l4.at_ HH.out q5;obtain rfl:=s5.of_slice;have L5:=zzm (l4.trans (Lk.set hh4 q4' (v:=.bool ((kk+1+1+1+((len m).1:Int)) % 3==0)) (.bool _ _) HP.out));clear hL4 l4 hh4 q4' s4 hh5 q5' s5)
        | (go_at_call 28;have hq:=markInt_lk P A5 (len m).2 c5 (kk+1+1+1+((len m).1:Int)+1) _ (R5.out.lk L5.out) B3.out B4.out;with_reducible refine hq.mono ?_;clear hq;rintro e W6 ⟨rfl,hL6⟩
           have L6:=zzm (L5.out.trans hL6);clear hL6))
      go_roundw
      case rel=>exact ⟨m+1,hlt,congrArg (Value.int .i64) HE.out,by first|exact congrArg (Value.int .i64) e5|exact congrArg (Value.int .i64) (by omega),HL.out.trans L6.out⟩
      case measure=>exact meas_lt (by first|exact congrArg (Value.int .i64) e5|rfl) hlt
    · obtain rfl:m=n:=by omega
      have hmi:¬ ((m:Nat):Int) < ((m:Nat):Int):=by omega
      go_wp2;go_ret;exact ⟨rfl,HL.out⟩
def tyS (ts:List Nat) (w:World) (k:Nat):Prop:=∃ q cells,q∈ts∧w.heap[k]? = some (.cells cells q (0,0))
theorem R_keptT {α:Type} {d:Kd α} {e:Nat} {W W2:World} {base:Nat} {ok P0:Nat→Prop} {v:Value} {xs:List α} {ts:List Nat} (h:d.R e W base ok v xs) (hk:Kept W W2 (fun k=>P0 k∧tyS ts W k)) (ht:∀ q,q∈e::d.E→q ∉ ts):d.R e W2 base (fun k=>ok k∧True) v xs:=by
 refine Kd.R_mono (Kd.R_kept (Kd.R_bound h) hk ?_) (fun _ hk=>⟨hk.1,trivial⟩);rintro k ⟨_,_,_,q,hq,cells,hc⟩ ⟨_,q',cells',hq',hc'⟩;rw [hc] at hc';injection hc' with hc';injection hc' with _ hc';subst hc';exact ht q hq hq'
theorem blk_keptT {W W2:World} {g t:Nat} {cs:Array Value} {ts:List Nat} {P0:Nat→Prop} (h:W.heap[g]? = some (.cells cs t (0,0))) (hk:Kept W W2 (fun k=>P0 k∧tyS ts W k)) (ht:t ∉ ts):W2.heap[g]? = some (.cells cs t (0,0)):=by
 refine blk_kept h hk ?_;rintro ⟨_,q,cells,hq,hc⟩;rw [h] at hc;injection hc with hc;injection hc with _ hc;subst hc;exact ht hq
end
section
def okMark (l:List S75) (a1:Int):Bool:=decide (0≤a1∧a1+(cntR (fun i=>((Qa l (i:Int)).f3.length,(Qa l (i:Int)).f5.length)) l.length:Int)≤9000000000000000000)
def Q9.f (_ _:Bool) (_ _ _:Int) (l0_5:List S75) (a1:Int):Option Int:=if okMark l0_5 a1=true then some (a1+(cntR (fun i=>((Qa l0_5 (i:Int)).f3.length,(Qa l0_5 (i:Int)).f5.length)) l0_5.length:Int)) else none
set_option maxHeartbeats 4000000 in
theorem Q9.calls (a2 a3:Bool) (a4 a5 a6:Int) (P0_:Nat→Prop) (u:Value) (a0:List S75) (a1 r1:Int) (w0 w:World) (hB:Below w0.heap.size w0 w) (ho:Kd.S k75 75 w w0.heap.size P0_ u a0) (h:Q9.f a2 a3 a4 a5 a6 a0 a1=some r1) :
    Calls Try.prog 19 #[.agg #[.bool a2,.bool a3,.int .i64 a4,.int .i64 a5,.int .i64 a6,u],.int .i64 a1] w fun e w'=>e = .returned (.int .i64 r1)∧Below w0.heap.size w0 w'∧Kept w w' (fun k=>P0_ k∧tyS [75,3] w k):=by
  have hok:okMark a0 a1=true∧r1=a1+(cntR (fun i=>((Qa a0 (i:Int)).f3.length,(Qa a0 (i:Int)).f5.length)) a0.length:Int):=by
    unfold Q9.f at h;by_cases h5:okMark a0 a1=true
    · rw [if_pos h5] at h;exact ⟨h5,(Option.some.inj h).symm⟩
    · rw [if_neg h5] at h;cases h
  obtain ⟨hok,hr⟩:=hok;unfold okMark at hok;rw [decide_eq_true_eq] at hok;have hR:=Kd.R_bound (Kd.S_R ho);obtain ⟨A,c,hv,hrow⟩:=recRow_of hR;subst hv;have HRow:=zzm hrow;have HOk:=zzm hok;have HR_:=zzm hr;have HB0:=zzm hB;have HRR:=zzm hR;clear hrow hok hr hB h hR ho;have hu:=Try.underlying26;go_enter Try.func19,Try.ntmps19;go_wp2_with (first
    | (go_at_call 47;refine (markRec_lk _ A a0.length c _ a1 _ (HRow.out.below ?hb) HOk.out.1 HOk.out.2).mono ?_;(case hb=>repeat (first|exact Below.refl _ _|apply zza|apply zzb|apply zzc));rintro e w' ⟨rfl,hL⟩
       have hx:∃ W,Below w.heap.size w W∧Lk _ W w':=⟨_,by repeat (first|exact Below.refl _ _|apply zza|apply zzb|apply zzc),hL⟩;have HX:=zzm hx;clear hL hx))
  go_ret;obtain ⟨W,hb1,hL⟩:=HX.out;refine ⟨by rw [HR_.out];rfl,(HB0.out.trans (hb1.mono HB0.out.size)).trans (hL.low w0.heap.size (fun k hk=>hk.2.1)),((Kept.of_below hb1 _).then_ hL.kept (fun k h=>.inl h)).mono (fun k hk=>?_)⟩;obtain ⟨hp0,_,_,q,hq,cells,hc⟩:=hk;exact ⟨hp0,q,cells,(show ∀ q,q∈75::k75.E→q ∈ [75,3] by decide) q hq,hc⟩
end

set_option linter.unusedVariables false
set_option linter.unusedSimpArgs false
def Qh.l0:Nat→List (S67)→Int→Int→Option (Int)
 | 0,_,_,_=>none
 | k+1,x0,x1,x5=>if x5 < (x0.length:Int) then (if 0≤x5 then (if ((Qb x0 x5).f0)=x1 then (if ((Qb x0 x5).f1)=(wrap64 (x1+1)) then (if ((Qb x0 x5).f2)=(wrap64 ((wrap64 (x1+1))+1)) then (Qh.l0 k x0 (wrap64 ((wrap64 ((wrap64 (x1+1))+1))+1)) (wrap64 (x5+1))) else (some (-1))) else (some (-1))) else (some (-1))) else (none)) else (some x1)
def Qh.f (k:Nat) (l0:List (S67)) (a1:Int):Option (Int):=Qh.l0 k l0 a1 0
set_option maxHeartbeats 8000000 in
theorem Qh.calls (k:Nat) (A0:Option Addr) (c0:Nat) (l0:List (S67)) (a1:Int) (r:Int) (w:World) (d2:Kd.C k67 w A0 l0.length l0) (d3:l0.length≤c0) (h:Qh.f k l0 a1=some r) :
  Calls Try.prog 20 #[.slice A0 l0.length c0,.int .i64 a1] w fun e w'=>e = .returned (.int .i64 r)∧Drawn0 w w':=by
 have b1:=zzm d2;have e2:=zzm d3;clear d2 d3;have H:(Qh.l0 k l0 a1 0)=some r:=h;clear h;have H':=zzm H;clear H;go_enter Try.func20,Try.ntmps20;go_wp2;go_loopg [1,5] k (fun kq v1 v5 w'=>∃ (a7:Int) (a0:Int),v1 = .int .i64 a7∧v5 = .int .i64 a0∧Aside0 (Qh.l0 kq l0 a7 a0=some r)∧Aside0 (kq≤k)∧Drawn0 w w')
 case atStart=>exact ⟨(a1),(0),(by first|rfl|(simp;done)|(simp [*];done)),(by first|rfl|(simp;done)|(simp [*];done)),H',⟨Nat.le_refl _⟩,by repeat (first|exact Drawn0.refl _|apply Drawn0.step)⟩
 case round=>
  clear H';try clear c2
  try clear p2
  obtain ⟨a7,a0,rfl,rfl,HA,HK1,⟨m1,rfl⟩⟩:=hrel;cases gk with
  | zero=>exact absurd HA.out (by simp [Qh.l0])
  | succ k1=>
   have H:=HA.out;clear HA;simp only [Qh.l0] at H;by_cases c3:a0 < (l0.length:Int)
   ·
    rw [if_pos c3] at H;have d4:decide (a0 < (l0.length:Int))=true:=decide_eq_true c3;clear c3;by_cases c4 : 0≤a0
    ·
     rw [if_pos c4] at H;have e1:decide (0≤a0)=true:=decide_eq_true c4;clear c4;by_cases c5:((Qb l0 a0).f0)=a7
     ·
      rw [if_pos c5] at H;obtain ⟨d5,d6⟩:=zzQ c5;clear c5;by_cases c6:((Qb l0 a0).f1)=(wrap64 (a7+1))
      ·
       rw [if_pos c6] at H;obtain ⟨d7,d8⟩:=zzQ c6;clear c6;by_cases c7:((Qb l0 a0).f2)=(wrap64 ((wrap64 (a7+1))+1))
       ·
        rw [if_pos c7] at H;obtain ⟨d9,e0⟩:=zzQ c7;clear c7;have H':=zzm H;clear H;have a2 : 0≤(a0:Int):=zzt;have a3:a0 < (l0.length:Int):=zzt;obtain ⟨a6,a8,b3,b4,b5⟩:=Q2 b1.out a0 a2 a3;cases a8;replace a2:=eq_true a2;replace a3:=eq_true a3;have a4 : 0≤(a0:Int):=zzt;have a5:a0 < (l0.length:Int):=zzt;obtain ⟨b2,b6,b7,b8,b9⟩:=Q2 b1.out a0 a4 a5;obtain rfl:a6=b2:=(by injection b6);replace a4:=eq_true a4;replace a5:=eq_true a5;have a9 : 0≤(a0:Int):=zzt;have b0:a0 < (l0.length:Int):=zzt;obtain ⟨c1,c8,c9,d0,d1⟩:=Q2 b1.out a0 a9 b0;obtain rfl:a6=c1:=(by injection c8);replace a9:=eq_true a9;replace b0:=eq_true b0;go_wp2;go_roundg k1
        case measure=>have:=HK1.out;omega
        case rel=>exact ⟨(wrap64 ((wrap64 ((wrap64 (a7+1))+1))+1)),(wrap64 (a0+1)),(by first|rfl|(simp;done)|(simp [*];done)),(by first|rfl|(simp;done)|(simp [*];done)),H',⟨by have:=HK1.out;omega⟩,by repeat (first|exact Drawn0.refl _|apply Drawn0.step)⟩
       ·
        rw [if_neg c7] at H;obtain ⟨d9,e0⟩:=zzY c7;obtain rfl:=Option.some.inj H;have a2 : 0≤(a0:Int):=zzt;have a3:a0 < (l0.length:Int):=zzt;obtain ⟨a6,a8,b3,b4,b5⟩:=Q2 b1.out a0 a2 a3;cases a8;replace a2:=eq_true a2;replace a3:=eq_true a3;have a4 : 0≤(a0:Int):=zzt;have a5:a0 < (l0.length:Int):=zzt;obtain ⟨b2,b6,b7,b8,b9⟩:=Q2 b1.out a0 a4 a5;obtain rfl:a6=b2:=(by injection b6);replace a4:=eq_true a4;replace a5:=eq_true a5;have a9 : 0≤(a0:Int):=zzt;have b0:a0 < (l0.length:Int):=zzt;obtain ⟨c1,c8,c9,d0,d1⟩:=Q2 b1.out a0 a9 b0;obtain rfl:a6=c1:=(by injection c8);replace a9:=eq_true a9;replace b0:=eq_true b0;go_wp2;go_ret;exact ⟨by first|rfl|(simp;done)|(simp [*];done),by repeat (first|exact Drawn0.refl _|apply Drawn0.step)⟩
      ·
       rw [if_neg c6] at H;obtain ⟨d7,d8⟩:=zzY c6;obtain rfl:=Option.some.inj H;have a2 : 0≤(a0:Int):=zzt;have a3:a0 < (l0.length:Int):=zzt;obtain ⟨a6,a8,b3,b4,b5⟩:=Q2 b1.out a0 a2 a3;cases a8;replace a2:=eq_true a2;replace a3:=eq_true a3;have a4 : 0≤(a0:Int):=zzt;have a5:a0 < (l0.length:Int):=zzt;obtain ⟨b2,b6,b7,b8,b9⟩:=Q2 b1.out a0 a4 a5;obtain rfl:a6=b2:=(by injection b6);replace a4:=eq_true a4;replace a5:=eq_true a5;go_wp2;go_ret;exact ⟨by first|rfl|(simp;done)|(simp [*];done),by repeat (first|exact Drawn0.refl _|apply Drawn0.step)⟩
     ·
      rw [if_neg c5] at H;obtain ⟨d5,d6⟩:=zzY c5;obtain rfl:=Option.some.inj H;have a2 : 0≤(a0:Int):=zzt;have a3:a0 < (l0.length:Int):=zzt;obtain ⟨a6,a8,b3,b4,b5⟩:=Q2 b1.out a0 a2 a3;cases a8;replace a2:=eq_true a2;replace a3:=eq_true a3;go_wp2;go_ret;exact ⟨by first|rfl|(simp;done)|(simp [*];done),by repeat (first|exact Drawn0.refl _|apply Drawn0.step)⟩
    ·
     rw [if_neg c4] at H;exact absurd H (by simp)
   ·
    rw [if_neg c3] at H;have d4:decide (a0 < (l0.length:Int))=false:=decide_eq_false c3;clear c3;obtain rfl:=Option.some.inj H;go_wp2;go_ret;exact ⟨by first|rfl|(simp;done)|(simp [*];done),by repeat (first|exact Drawn0.refl _|apply Drawn0.step)⟩

set_option linter.unusedVariables false
set_option linter.unusedSimpArgs false
mutual
def laws_FnExactProducersPut.j0:Nat→List (S79)→List (S67)→Int→List (S67)→List (S67)→Int→Bool→Bool→Bool→Int→Int→Int→List (S94)→Bool→Bool→Int→Int→Int→List (S75)→Option (Bool)
 | 0,_,_,_,_,_,_,_,_,_,_,_,_,_,_,_,_,_,_,_=>none
 | k+1,x0,x6,x7,x8,x10,x11,x53,x478000,x478001,x478002,x478003,x478004,x478005,x507000,x507001,x507002,x507003,x507004,x507005=>if x53=true then (some false) else ((Qe.f k x0).bind fun t512=>((Qd.f k x8 t512).bind fun t515=>(if t515=true then ((Qy.f k x478000 x478001 x478002 x478003 x478004 x478005).bind fun bt516=>((Re.f k x507000 x507001 x507002 x507003 x507004 x507005 bt516.1 bt516.2.1 bt516.2.2.1 bt516.2.2.2.1 bt516.2.2.2.2.1 bt516.2.2.2.2.2).bind fun t524=>(if t524=true then ((Qg.f k x8 1).bind fun bt525=>((Q9.f x507000 x507001 x507002 x507003 x507004 x507005 bt525.1).bind fun t527=>(if t527 < 0 then (laws_FnExactProducersPut.j1 k x0 x6 x7 x10 true x478000 x478001 x478002 x478003 x478004 x478005) else ((Qd.f k x10 x6).bind fun t528=>(if t528=true then (laws_FnExactProducersPut.j1 k x0 x6 x7 x10 (x11 != x7) x478000 x478001 x478002 x478003 x478004 x478005) else (laws_FnExactProducersPut.j1 k x0 x6 x7 x10 true x478000 x478001 x478002 x478003 x478004 x478005)))))) else (some false)))) else (some false))))
def laws_FnExactProducersPut.j1:Nat→List (S79)→List (S67)→Int→List (S67)→Bool→Bool→Bool→Int→Int→Int→List (S94)→Option (Bool)
 | 0,_,_,_,_,_,_,_,_,_,_,_=>none
 | k+1,x0,x6,x7,x10,x82,x478000,x478001,x478002,x478003,x478004,x478005=>if x82=true then (some false) else ((Qg.f k x10 1).bind fun bt529=>((Qh.f k bt529.2 1).bind fun t531=>(if t531 < 0 then (some false) else (if t531=bt529.1 then ((Qe.f k x0).bind fun t532=>((Qy.f k x478000 x478001 x478002 x478003 x478004 x478005).bind fun bt535=>((Qr.f k t532 bt535.1 bt535.2.1 bt535.2.2.1 bt535.2.2.2.1 bt535.2.2.2.2.1 bt535.2.2.2.2.2).bind fun bt543=>((Qd.f k bt543.1 x6).bind fun t547=>(if t547=true then (laws_FnExactProducersPut.j2 k bt529.2 bt529.1 (bt543.2 != x7)) else (laws_FnExactProducersPut.j2 k bt529.2 bt529.1 true)))))) else (some false)))))
def laws_FnExactProducersPut.j2:Nat→List (S67)→Int→Bool→Option (Bool)
 | 0,_,_,_=>none
 | k+1,x10,x13,x110=>if x110=true then (some false) else ((Qh.f k x10 1).bind fun t548=>(if t548 < 0 then (some false) else (if t548=x13 then (some true) else (some false))))
end
def laws_FnExactProducersPut.f (k:Nat) (l0:List (S79)) (a1_0:Bool) (a1_1:Bool) (a1_2:Int) (a1_3:Int) (a1_4:Int) (l1_5:List (S94)):Option (Bool):=(Q3.f l0 1048576).bind fun t478=>(if t478 < 0 then (some true) else ((Rf.f k a1_0 a1_1 a1_2 a1_3 a1_4 l1_5 t478).bind fun t479=>(if t479 < 0 then (some true) else ((Qe.f k l0).bind fun t480=>((Qy.f k a1_0 a1_1 a1_2 a1_3 a1_4 l1_5).bind fun bt483=>((Q7.f k t480 bt483.1 bt483.2.1 bt483.2.2.1 bt483.2.2.2.1 bt483.2.2.2.2.1 bt483.2.2.2.2.2).bind fun bt491=>((Qe.f k l0).bind fun t495=>((Qy.f k a1_0 a1_1 a1_2 a1_3 a1_4 l1_5).bind fun bt498=>((Qr.f k t495 bt498.1 bt498.2.1 bt498.2.2.1 bt498.2.2.2.1 bt498.2.2.2.2.1 bt498.2.2.2.2.2).bind fun bt507=>((Qd.f k bt507.1 bt491.1).bind fun t511=>(if t511=true then (laws_FnExactProducersPut.j0 k l0 bt491.1 bt491.2 t495 bt507.1 bt507.2 (bt507.2 != bt491.2) a1_0 a1_1 a1_2 a1_3 a1_4 l1_5 bt498.1 bt498.2.1 bt498.2.2.1 bt498.2.2.2.1 bt498.2.2.2.2.1 bt498.2.2.2.2.2) else (laws_FnExactProducersPut.j0 k l0 bt491.1 bt491.2 t495 bt507.1 bt507.2 true a1_0 a1_1 a1_2 a1_3 a1_4 l1_5 bt498.1 bt498.2.1 bt498.2.2.1 bt498.2.2.2.1 bt498.2.2.2.2.1 bt498.2.2.2.2.2))))))))))))
def laws_FnExactProducersPut.T8:Bool×List (List Nat×List Nat):=(true,[([],[]),([0],[0]),([],[]),([2,1],[2]),([1,3,3],[1,3]),([4],[4]),([5],[5]),([5],[5]),([6,4,0,1,2,3,4,5,6],[6]),([7,8,0,1,2,3,4,5,6,7,8],[7])])
def laws_FnExactProducersPut.B8:List Nat:=[0,1,0,7,15,31,63,63,127,511]
theorem laws_FnExactProducersPut.tab8:rtab .any (opsOf Try.f4 8)=laws_FnExactProducersPut.T8:=by kernel_rfl
theorem laws_FnExactProducersPut.bits8:waitsOk laws_FnExactProducersPut.T8.2 laws_FnExactProducersPut.B8=true:=by kernel_rfl
def laws_FnExactProducersPut.T31:Bool×List (List Nat×List Nat):=(true,[([],[]),([0],[0]),([],[]),([2,1],[2]),([1,3,3],[1,3]),([4],[4]),([5],[5]),([5],[5]),([6,4,0,1,2,3,4,5,6],[6]),([7,8,0,1,2,3,4,5,6,7,8],[7])])
def laws_FnExactProducersPut.B31:List Nat:=[0,1,0,7,15,31,63,63,127,511]
theorem laws_FnExactProducersPut.tab31:rtab .any (opsOf Try.f4 31)=laws_FnExactProducersPut.T31:=by kernel_rfl
theorem laws_FnExactProducersPut.bits31:waitsOk laws_FnExactProducersPut.T31.2 laws_FnExactProducersPut.B31=true:=by kernel_rfl
set_option maxHeartbeats 8000000 in
theorem laws_FnExactProducersPut.calls (k:Nat) (A0:Option Addr) (c0:Nat) (l0:List (S79)) (b2:Bool) (b3:Bool) (b4:Int) (b5:Int) (b6:Int) (d3:Option Addr) (d4:Nat) (a9:List (S94)) (r:Bool) (w:World) (E5:Kd.C k79 w A0 l0.length l0) (E6:l0.length≤c0) (z7:Kd.C k94 w d3 a9.length a9) (z8:a9.length≤d4) (h:laws_FnExactProducersPut.f k l0 b2 b3 b4 b5 b6 a9=some r) :
  Calls Try.prog 4 #[.slice A0 l0.length c0,.agg #[.bool b2,.bool b3,.int .i64 b4,.int .i64 b5,.int .i64 b6,.slice d3 a9.length d4]] w fun e w'=>e = .returned (.bool r)∧Below w.heap.size w w':=by
 have hu38:=Try.underlying38;have hu26:=Try.underlying26;have m1:=zzm E5;have m2:=zzm E6;clear E5 E6;have k1:=zzm z7;have k2:=zzm z8;clear z7 z8;have HB:=zzm (Below.refl w.heap.size w);have H:((Q3.f l0 1048576).bind fun j3=>(if j3 < 0 then (some true) else ((Rf.f k b2 b3 b4 b5 b6 a9 j3).bind fun l2=>(if l2 < 0 then (some true) else ((Qe.f k l0).bind fun l3=>((Qy.f k b2 b3 b4 b5 b6 a9).bind fun k8=>((Q7.f k l3 k8.1 k8.2.1 k8.2.2.1 k8.2.2.2.1 k8.2.2.2.2.1 k8.2.2.2.2.2).bind fun h5=>((Qe.f k l0).bind fun e3=>((Qy.f k b2 b3 b4 b5 b6 a9).bind fun b7=>((Qr.f k e3 b7.1 b7.2.1 b7.2.2.1 b7.2.2.2.1 b7.2.2.2.2.1 b7.2.2.2.2.2).bind fun e9=>((Qd.f k e9.1 h5.1).bind fun j6=>(if j6=true then (laws_FnExactProducersPut.j0 k l0 h5.1 h5.2 e3 e9.1 e9.2 (e9.2 != h5.2) b2 b3 b4 b5 b6 a9 b7.1 b7.2.1 b7.2.2.1 b7.2.2.2.1 b7.2.2.2.2.1 b7.2.2.2.2.2) else (laws_FnExactProducersPut.j0 k l0 h5.1 h5.2 e3 e9.1 e9.2 true b2 b3 b4 b5 b6 a9 b7.1 b7.2.1 b7.2.2.1 b7.2.2.2.1 b7.2.2.2.2.1 b7.2.2.2.2.2)))))))))))))=some r:=h;clear h;obtain ⟨j3,A3,H⟩:=zzG H;by_cases c4:j3 < 0
 ·
  rw [if_pos c4] at H;have x2:decide (j3 < 0)=true:=decide_eq_true c4;clear c4;obtain rfl:=Option.some.inj H;go_enter Try.func4,Try.ntmps4;go_wp2_with (first|((with_reducible refine gate_dst (N:=3) rfl ?_);refine box_event ?hg (N:=3) ?hd (cs:=#[.bool b2,.bool b3,.int .i64 b4,.int .i64 b5,.int .i64 b6,.slice d3 a9.length d4]) (t:=38) ?hr ?_;(case hd=>rfl);(case hg=>rfl);(case hr=>first|(go_simp;done)|(go_simp;rfl));intro a8 hg w5 hbox hb;have a6:=zzm (zzp zzh1 hb);have a7:=zzm (hbox);have b0:=zzm ((by rw [hg];exact (zzo zzh1):w.heap.size≤a8));have b1:=zzm ((by rw [hg];exact (zzo zzh1):w.heap.size≤a8));clear HB;have HB:=a6;have a0:=a7;have z9:=b0;have k3:=b1;clear a6 a7 b0 b1 hb hbox hg)|((with_reducible refine gate_callee (f:=12) rfl ?_);refine goesL_ (some 19) rfl rfl Try.func12 (by kernel_rfl) rfl #[.slice A0 l0.length c0,.int .i64 1048576] rfl zzM2 ?_;(with_reducible refine (Q3.calls _ _ l0 1048576 j3 _ ?side1 ?side2 A3.out).mono ?_);(case side1=>exact zzcb m1 HB);(case side2=>exact m2.out);rintro e w' ⟨rfl,⟨nd,rfl⟩⟩;refine ⟨_,rfl,?_⟩));go_ret;exact ⟨zzR,zzh3⟩
 ·
  rw [if_neg c4] at H;have x2:decide (j3 < 0)=false:=decide_eq_false c4;clear c4;obtain ⟨l2,A6,H⟩:=zzG H;by_cases c7:l2 < 0
  ·
   rw [if_pos c7] at H;have x3:decide (l2 < 0)=true:=decide_eq_true c7;clear c7;obtain rfl:=Option.some.inj H;go_enter Try.func4,Try.ntmps4;go_wp2_with (first|((with_reducible refine gate_dst (N:=3) rfl ?_);refine box_event ?hg (N:=3) ?hd (cs:=#[.bool b2,.bool b3,.int .i64 b4,.int .i64 b5,.int .i64 b6,.slice d3 a9.length d4]) (t:=38) ?hr ?_;(case hd=>rfl);(case hg=>rfl);(case hr=>first|(go_simp;done)|(go_simp;rfl));intro a8 hg w8 hbox hb;have a6:=zzm (zzp zzh1 hb);have a7:=zzm (hbox);have b0:=zzm ((by rw [hg];exact (zzo zzh1):w.heap.size≤a8));have b1:=zzm ((by rw [hg];exact (zzo zzh1):w.heap.size≤a8));clear HB;have HB:=a6;have a0:=a7;have z9:=b0;have k3:=b1;clear a6 a7 b0 b1 hb hbox hg)|((with_reducible refine gate_callee (f:=12) rfl ?_);refine goesL_ (some 19) rfl rfl Try.func12 (by kernel_rfl) rfl #[.slice A0 l0.length c0,.int .i64 1048576] rfl zzM2 ?_;(with_reducible refine (Q3.calls _ _ l0 1048576 j3 _ ?side1 ?side2 A3.out).mono ?_);(case side1=>exact zzcb m1 HB);(case side2=>exact m2.out);rintro e w' ⟨rfl,⟨nd,rfl⟩⟩;refine ⟨_,rfl,?_⟩;obtain ⟨r4,r5,r6,r7,r8,r9,t0,t1,t2,t3,t4,t5⟩:=zzc6 a0.out)|((with_reducible refine gate_callee (f:=13) rfl ?_);refine goesL_ (some 24) rfl rfl Try.func13 (by kernel_rfl) rfl #[.agg #[.bool b2,.bool b3,.int .i64 b4,.int .i64 b5,.int .i64 b6,.slice d3 a9.length d4],.int .i64 j3] rfl zzM2 ?_;(with_reducible refine (Rf.calls k b2 b3 b4 b5 b6 _ _ a9 j3 l2 _ ?side1 ?side2 A6.out).mono ?_);(case side1=>repeat (first|exact (Kd.C_below k1.out zzh2)|(with_reducible refine Kd.C_alloc ?_ _)|(with_reducible refine Kd.C_drewN ?_ _)|(with_reducible refine Kd.C_drew ?_)));(case side2=>exact k2.out);rintro e N2 ⟨rfl,hb⟩;refine ⟨_,rfl,?_⟩;have a6:=zzm (zzh (g:=a8) (o:=.cells #[.bool b2,.bool b3,.int .i64 b4,.int .i64 b5,.int .i64 b6,.slice d3 a9.length d4] 38 (0,0)) (zzE a0.out) hb);have a7:=zzm (zzp zzh2 hb);clear a0 HB;have a0:=a6;have HB:=a7;clear a6 a7;(try clear hb);(try clear hb2);(try clear hk);(try clear hi)));go_ret;exact ⟨zzR,zzh3⟩
  ·
   rw [if_neg c7] at H;have x3:decide (l2 < 0)=false:=decide_eq_false c7;clear c7;obtain ⟨l3,I4,H⟩:=zzG H;replace H:=zzH H;obtain ⟨⟨x4,x5,x6,x7,x8,t6⟩,A7,H⟩:=H;replace H:((Q7.f k l3 x4 x5 x6 x7 x8 t6).bind fun h5=>((Qe.f k l0).bind fun e3=>((Qy.f k b2 b3 b4 b5 b6 a9).bind fun b7=>((Qr.f k e3 b7.1 b7.2.1 b7.2.2.1 b7.2.2.2.1 b7.2.2.2.2.1 b7.2.2.2.2.2).bind fun e9=>((Qd.f k e9.1 h5.1).bind fun j6=>(if j6=true then (laws_FnExactProducersPut.j0 k l0 h5.1 h5.2 e3 e9.1 e9.2 (e9.2 != h5.2) b2 b3 b4 b5 b6 a9 b7.1 b7.2.1 b7.2.2.1 b7.2.2.2.1 b7.2.2.2.2.1 b7.2.2.2.2.2) else (laws_FnExactProducersPut.j0 k l0 h5.1 h5.2 e3 e9.1 e9.2 true b2 b3 b4 b5 b6 a9 b7.1 b7.2.1 b7.2.2.1 b7.2.2.2.1 b7.2.2.2.2.1 b7.2.2.2.2.2)))))))=some r:=H;have I5:=zzm A7;clear A7;replace H:=zzH H;obtain ⟨⟨e5,g5⟩,A8,H⟩:=H;replace H:((Qe.f k l0).bind fun e3=>((Qy.f k b2 b3 b4 b5 b6 a9).bind fun b7=>((Qr.f k e3 b7.1 b7.2.1 b7.2.2.1 b7.2.2.2.1 b7.2.2.2.2.1 b7.2.2.2.2.2).bind fun e9=>((Qd.f k e9.1 e5).bind fun j6=>(if j6=true then (laws_FnExactProducersPut.j0 k l0 e5 g5 e3 e9.1 e9.2 (e9.2 != g5) b2 b3 b4 b5 b6 a9 b7.1 b7.2.1 b7.2.2.1 b7.2.2.2.1 b7.2.2.2.2.1 b7.2.2.2.2.2) else (laws_FnExactProducersPut.j0 k l0 e5 g5 e3 e9.1 e9.2 true b2 b3 b4 b5 b6 a9 b7.1 b7.2.1 b7.2.2.1 b7.2.2.2.1 b7.2.2.2.2.1 b7.2.2.2.2.2))))))=some r:=H;have I6:=zzm A8;clear A8;obtain ⟨e3,I7,H⟩:=zzG H;replace H:=zzH H;obtain ⟨⟨d5,d7,d8,d9,e0,d6⟩,A9,H⟩:=H;replace H:((Qr.f k e3 d5 d7 d8 d9 e0 d6).bind fun e9=>((Qd.f k e9.1 e5).bind fun j6=>(if j6=true then (laws_FnExactProducersPut.j0 k l0 e5 g5 e3 e9.1 e9.2 (e9.2 != g5) b2 b3 b4 b5 b6 a9 d5 d7 d8 d9 e0 d6) else (laws_FnExactProducersPut.j0 k l0 e5 g5 e3 e9.1 e9.2 true b2 b3 b4 b5 b6 a9 d5 d7 d8 d9 e0 d6))))=some r:=H;have I8:=zzm A9;clear A9;replace H:=zzH H;obtain ⟨⟨e1,k4⟩,B0,H⟩:=H;replace H:((Qd.f k e1 e5).bind fun j6=>(if j6=true then (laws_FnExactProducersPut.j0 k l0 e5 g5 e3 e1 k4 (k4 != g5) b2 b3 b4 b5 b6 a9 d5 d7 d8 d9 e0 d6) else (laws_FnExactProducersPut.j0 k l0 e5 g5 e3 e1 k4 true b2 b3 b4 b5 b6 a9 d5 d7 d8 d9 e0 d6)))=some r:=H;have I9:=zzm B0;clear B0;have z0:=zzm H;clear H;go_enter Try.func4,Try.ntmps4;try go_wp2_with (first|((with_reducible refine gate_dst (N:=3) rfl ?_);refine box_event ?hg (N:=3) ?hd (cs:=#[.bool b2,.bool b3,.int .i64 b4,.int .i64 b5,.int .i64 b6,.slice d3 a9.length d4]) (t:=38) ?hr ?_;(case hd=>rfl);(case hg=>rfl);(case hr=>first|(go_simp;done)|(go_simp;rfl));intro a8 hg y7 hbox hb;have a6:=zzm (zzp zzh1 hb);have a7:=zzm (hbox);have b0:=zzm ((by rw [hg];exact (zzo zzh1):w.heap.size≤a8));have b1:=zzm ((by rw [hg];exact (zzo zzh1):w.heap.size≤a8));clear HB;have HB:=a6;have a0:=a7;have z9:=b0;have k3:=b1;clear a6 a7 b0 b1 hb hbox hg)|((with_reducible refine gate_callee (f:=12) rfl ?_);refine goesL_ (some 19) rfl rfl Try.func12 (by kernel_rfl) rfl #[.slice A0 l0.length c0,.int .i64 1048576] rfl zzM2 ?_;(with_reducible refine (Q3.calls _ _ l0 1048576 j3 _ ?side1 ?side2 A3.out).mono ?_);(case side1=>exact zzcb m1 HB);(case side2=>exact m2.out);rintro e w' ⟨rfl,⟨nd,rfl⟩⟩;refine ⟨_,rfl,?_⟩;(try (rw [drewN_self y7];generalize hq_:World.drewN y7 _=y7;have a6:Aside0 (y7.heap[a8]? = some (.cells #[.bool b2,.bool b3,.int .i64 b4,.int .i64 b5,.int .i64 b6,.slice d3 a9.length d4] 38 (0,0))):=⟨by rw [← hq_];exact (zzE a0.out)⟩;have a7:Aside0 (Below w.heap.size w y7):=⟨by rw [← hq_];exact zzh2⟩;clear a0 HB hq_;have a0:=a6;have HB:=a7;clear a6 a7));obtain ⟨m8,m9,n0,n1,n2,n3,n4,n5,n6,n7,n8,n9⟩:=zzc6 a0.out)|((with_reducible refine gate_callee (f:=13) rfl ?_);refine goesL_ (some 24) rfl rfl Try.func13 (by kernel_rfl) rfl #[.agg #[.bool b2,.bool b3,.int .i64 b4,.int .i64 b5,.int .i64 b6,.slice d3 a9.length d4],.int .i64 j3] rfl zzM2 ?_;(with_reducible refine (Rf.calls k b2 b3 b4 b5 b6 _ _ a9 j3 l2 _ ?side1 ?side2 A6.out).mono ?_);(case side1=>exact zzcb k1 HB);(case side2=>exact k2.out);rintro e J0 ⟨rfl,hb⟩;refine ⟨_,rfl,?_⟩;have a6:=zzm (zzh (g:=a8) (o:=.cells #[.bool b2,.bool b3,.int .i64 b4,.int .i64 b5,.int .i64 b6,.slice d3 a9.length d4] 38 (0,0)) (zzE a0.out) hb);have a7:=zzm (zzp zzh2 hb);clear a0 HB;have a0:=a6;have HB:=a7;clear a6 a7;(try clear hb);(try clear hb2);(try clear hk);(try clear hi)))
   have a6:=zzm (zzg a0.out);have a7:=zzm (zzc HB.out);clear a0 HB;have a0:=a6;have HB:=a7;clear a6 a7;refine start_ (n:=10) (S:=fun w'=>w'.cell? ⟨a8,0,none⟩=some (.bool b2)∧w'.cell? ⟨a8,1,none⟩=some (.bool b3)∧w'.cell? ⟨a8,2,none⟩=some (.int .i64 b4)∧w'.cell? ⟨a8,3,none⟩=some (.int .i64 b5)∧w'.cell? ⟨a8,4,none⟩=some (.int .i64 b6)∧w'.cell? ⟨a8,5,none⟩=some (.slice d3 a9.length d4)) (ds:=[]) (zzB 10 0) (by kernel_rfl) rfl rfl ⟨(zzk a0.out 0).trans rfl,(zzk a0.out 1).trans rfl,(zzk a0.out 2).trans rfl,(zzk a0.out 3).trans rfl,(zzk a0.out 4).trans rfl,(zzk a0.out 5).trans rfl⟩ (fun g3=>?_);refine with_tabW laws_FnExactProducersPut.tab8 laws_FnExactProducersPut.bits8 (fun h3 B1=>?_);generalize J0.drew=N3 at a0 HB g3 ⊢;refine zzP 0 28 10 1 h3 ?_
   refine zzT 2 30 10 5 h3 B1 g3 ?_
   refine one_ (i:=1) (N:=some 29) (zzB 10 7) rfl rfl (one_of h3.out (by kernel_rfl)) (by decide) (fun K hK=>?_);refine goes_ Try.func14 (by kernel_rfl) rfl #[.slice A0 l0.length c0] (by rfl) rfl rfl zzM2 ?_;with_reducible refine (Qe.calls k _ _ l0 l3 _ ?side1 ?side2 I4.out).mono ?_
   (case side1=>exact zzcb m1 HB)
   (case side2=>exact m2.out);rintro e N4 ⟨K9,rfl,ho0,hb⟩;refine ⟨_,rfl,?_⟩;have a6:=zzm (Kd.R_lower ho0 (zzo zzh2));have a7:=zzm (zzh (g:=a8) (o:=.cells #[.bool b2,.bool b3,.int .i64 b4,.int .i64 b5,.int .i64 b6,.slice d3 a9.length d4] 38 (0,0)) (zzE a0.out) hb);have b0:=zzm (zzp zzh2 hb);clear a0 HB;have e4:=a6;have a0:=a7;have HB:=b0;clear a6 a7 b0
   (try clear hb)
   (try clear hb2)
   (try clear hk)
   (try clear hi)
   (try clear ho0);refine hK.out _ _ ⟨(zzk a0.out 0).trans rfl,(zzk a0.out 1).trans rfl,(zzk a0.out 2).trans rfl,(zzk a0.out 3).trans rfl,(zzk a0.out 4).trans rfl,(zzk a0.out 5).trans rfl⟩ (fun g3=>?_);clear hK K;refine zzO 29 ?_
   refine one_ (i:=3) (N:=some 31) (zzB 10 15) rfl rfl (one_of h3.out (by kernel_rfl)) (by decide) (fun K hK=>?_);refine goes_ Try.func15 (by kernel_rfl) rfl #[.agg #[.bool b2,.bool b3,.int .i64 b4,.int .i64 b5,.int .i64 b6,.slice d3 a9.length d4]] (by rfl) rfl rfl zzM2 ?_;with_reducible refine (Qy.calls k b2 b3 b4 b5 b6 _ _ a9 x4 x5 x6 x7 x8 t6 _ ?side1 ?side2 I5.out).mono ?_
   (case side1=>exact zzcb k1 HB)
   (case side2=>exact k2.out);rintro e N5 ⟨L0,rfl,ho0,hb⟩;refine ⟨_,rfl,?_⟩;have a6:=zzm (Kd.R_below (by (with_reducible repeat (first|apply Kd.R_alloc|apply Kd.R_drewN|apply Kd.R_drew));exact e4.out) hb);have a7:=zzm (Kd.S_lower ho0 (zzo zzh2));have b0:=zzm (zzh (g:=a8) (o:=.cells #[.bool b2,.bool b3,.int .i64 b4,.int .i64 b5,.int .i64 b6,.slice d3 a9.length d4] 38 (0,0)) (zzE a0.out) hb);have b1:=zzm (zzp zzh2 hb);clear e4 a0 HB;have e4:=a6;have g0:=a7;have a0:=b0;have HB:=b1;clear a6 a7 b0 b1
   (try clear hb)
   (try clear hb2)
   (try clear hk)
   (try clear hi)
   (try clear ho0);obtain ⟨B2,B3,eo24⟩:=Kd.R_slice e4.out
   (first|subst eo24|(injection eo24 with f1_ f2_ f3_;have f4_:=f1_.symm;have f5_:=f3_.symm;clear f1_ f2_ f3_;subst f4_;subst f5_));obtain ⟨B5,B7,eo25⟩:=Kd.S_slice g0.out
   (first|subst eo25|(injection eo25 with f1_ f2_ f3_;have f4_:=f1_.symm;have f5_:=f3_.symm;clear f1_ f2_ f3_;subst f4_;subst f5_));refine hK.out _ _ ⟨(zzk a0.out 0).trans rfl,(zzk a0.out 1).trans rfl,(zzk a0.out 2).trans rfl,(zzk a0.out 3).trans rfl,(zzk a0.out 4).trans rfl,(zzk a0.out 5).trans rfl⟩ (fun g3=>?_);clear hK K;refine zzO 31 ?_
   refine one_ (i:=4) (N:=some 32) (zzB 10 31) rfl rfl (one_of h3.out (by kernel_rfl)) (by decide) (fun K hK=>?_);refine goes_ Try.func8 (by kernel_rfl) rfl #[.slice B2 l3.length B3,.agg #[.bool x4,.bool x5,.int .i64 x6,.int .i64 x7,.int .i64 x8,.slice B5 t6.length B7]] (by rfl) rfl rfl zzM2 ?_;with_reducible refine (Q7.calls k _ _ l3 x4 x5 x6 x7 x8 _ _ t6 e5 g5 _ ?side1 ?side2 ?side3 ?side4 I6.out).mono ?_
   (case side1=>repeat (first|exact (Kd.R_reads' e4.out).2.2|(with_reducible refine Kd.C_alloc ?_ _)|(with_reducible refine Kd.C_drewN ?_ _)|(with_reducible refine Kd.C_drew ?_)))
   (case side2=>exact (Kd.R_reads' e4.out).2.1)
   (case side3=>repeat (first|exact (Kd.S_reads' g0.out).2.2|(with_reducible refine Kd.C_alloc ?_ _)|(with_reducible refine Kd.C_drewN ?_ _)|(with_reducible refine Kd.C_drew ?_)))
   (case side4=>exact (Kd.S_reads' g0.out).2.1);rintro e N6 ⟨j4,rfl,ho0,hb⟩;refine ⟨_,rfl,?_⟩;have a6:=zzm (Kd.R_elder' (by (with_reducible repeat (first|apply Kd.R_alloc|apply Kd.R_drewN|apply Kd.R_drew));exact e4.out) (Kd.R_base ho0) hb);have a7:=zzm (Kd.S_below (zzS g0.out) hb);have b0:=zzm (Kd.R_lower (Kd.R_new' ho0 (Kd.R_lt (by (with_reducible repeat (first|apply Kd.R_alloc|apply Kd.R_drewN|apply Kd.R_drew));exact e4.out))) (zzo zzh2));have b1:=zzm (zzh (g:=a8) (o:=.cells #[.bool b2,.bool b3,.int .i64 b4,.int .i64 b5,.int .i64 b6,.slice d3 a9.length d4] 38 (0,0)) (zzE a0.out) hb);have d0:=zzm (zzp zzh2 hb);clear e4 g0 a0 HB;have e4:=a6;have g0:=a7;have e7:=b0;have a0:=b1;have HB:=d0;clear a6 a7 b0 b1 d0
   (try clear hb)
   (try clear hb2)
   (try clear hk)
   (try clear hi)
   (try clear ho0);refine hK.out _ _ ⟨(zzk a0.out 0).trans rfl,(zzk a0.out 1).trans rfl,(zzk a0.out 2).trans rfl,(zzk a0.out 3).trans rfl,(zzk a0.out 4).trans rfl,(zzk a0.out 5).trans rfl⟩ (fun g3=>?_);clear hK K;refine zzO 32 ?_
   refine zzP 5 27 10 63 h3 ?_
   refine zzP 6 33 10 127 h3 ?_
   refine zzP 7 34 10 255 h3 ?_
   refine zzP 8 6 10 511 h3 ?_
   refine zzP 9 7 10 1023 h3 ?_
   refine done_ (done_of h3.out (by kernel_rfl)) ?_;go_upto_region 12 with (first|((with_reducible refine gate_callee (f:=14) rfl ?_);refine goesL_ (some 36) rfl rfl Try.func14 (by kernel_rfl) rfl #[.slice A0 l0.length c0] rfl zzM2 ?_;(with_reducible refine (Qe.calls k _ _ l0 e3 _ ?side1 ?side2 I7.out).mono ?_);(case side1=>exact zzcb m1 HB);(case side2=>exact m2.out);rintro e N7 ⟨L1,rfl,ho0,hb⟩;refine ⟨_,rfl,?_⟩;have a6:=zzm (Kd.R_elder' (by (with_reducible repeat (first|apply Kd.R_alloc|apply Kd.R_drewN|apply Kd.R_drew));exact e4.out) (Kd.R_base ho0) hb);have a7:=zzm (Kd.S_below (zzS g0.out) hb);have b0:=zzm (Kd.R_elder' (by (with_reducible repeat (first|apply Kd.R_alloc|apply Kd.R_drewN|apply Kd.R_drew));exact e7.out) (Kd.R_base ho0) hb);have b1:=zzm (Kd.R_lower (Kd.R_new' (Kd.R_new' ho0 (Kd.R_lt (by (with_reducible repeat (first|apply Kd.R_alloc|apply Kd.R_drewN|apply Kd.R_drew));exact e4.out))) (Kd.R_lt (by (with_reducible repeat (first|apply Kd.R_alloc|apply Kd.R_drewN|apply Kd.R_drew));exact e7.out))) (zzo zzh2));have d0:=zzm (zzh (g:=a8) (o:=.cells #[.bool b2,.bool b3,.int .i64 b4,.int .i64 b5,.int .i64 b6,.slice d3 a9.length d4] 38 (0,0)) (zzE a0.out) hb);have d1:=zzm (zzp zzh2 hb);clear e4 g0 e7 a0 HB;have e4:=a6;have g0:=a7;have e7:=b0;have g4:=b1;have a0:=d0;have HB:=d1;clear a6 a7 b0 b1 d0 d1;(try clear hb);(try clear hb2);(try clear hk);(try clear hi);(try clear ho0);obtain ⟨o0,o1,o2,o3,o4,o5,o6,o7,o8,o9,p0,p1⟩:=zzc6 a0.out)|((with_reducible refine gate_callee (f:=15) rfl ?_);refine goesL_ (some 38) rfl rfl Try.func15 (by kernel_rfl) rfl #[.agg #[.bool b2,.bool b3,.int .i64 b4,.int .i64 b5,.int .i64 b6,.slice d3 a9.length d4]] rfl zzM2 ?_;(with_reducible refine (Qy.calls k b2 b3 b4 b5 b6 _ _ a9 d5 d7 d8 d9 e0 d6 _ ?side1 ?side2 I8.out).mono ?_);(case side1=>exact zzcb k1 HB);(case side2=>exact k2.out);rintro e N8 ⟨L2,rfl,ho0,hb⟩;refine ⟨_,rfl,?_⟩;have a6:=zzm (Kd.R_below (by (with_reducible repeat (first|apply Kd.R_alloc|apply Kd.R_drewN|apply Kd.R_drew));exact e4.out) hb);have a7:=zzm (Kd.S_elder' (zzS g0.out) (Kd.S_base ho0) hb);have b0:=zzm (Kd.R_below (by (with_reducible repeat (first|apply Kd.R_alloc|apply Kd.R_drewN|apply Kd.R_drew));exact e7.out) hb);have b1:=zzm (Kd.R_below (by (with_reducible repeat (first|apply Kd.R_alloc|apply Kd.R_drewN|apply Kd.R_drew));exact g4.out) hb);have d0:=zzm (Kd.S_lower (Kd.S_new' ho0 (Kd.S_lt (zzS g0.out))) (zzo zzh2));have d1:=zzm (zzh (g:=a8) (o:=.cells #[.bool b2,.bool b3,.int .i64 b4,.int .i64 b5,.int .i64 b6,.slice d3 a9.length d4] 38 (0,0)) (zzE a0.out) hb);have d2:=zzm (zzp zzh2 hb);clear e4 g0 e7 g4 a0 HB;have e4:=a6;have g0:=a7;have e7:=b0;have g4:=b1;have g8:=d0;have a0:=d1;have HB:=d2;clear a6 a7 b0 b1 d0 d1 d2;(try clear hb);(try clear hb2);(try clear hk);(try clear hi);(try clear ho0))|((with_reducible refine gate_dst (N:=9) rfl ?_);refine box_event ?hg (N:=9) ?hd (cs:=#[.bool false,.bool false,.int .i64 0,.int .i64 0,.int .i64 0,.slice none 0 0]) (t:=26) ?hr ?_;(case hd=>rfl);(case hg=>rfl);(case hr=>first|(go_simp;done)|(go_simp;rfl));intro a4 hg N9 hbox hb;have a6:=zzm (Kd.R_below (by (with_reducible repeat (first|apply Kd.R_alloc|apply Kd.R_drewN|apply Kd.R_drew));exact e4.out) hb);have a7:=zzm (Kd.S_below (zzS g0.out) hb);have b0:=zzm (Kd.R_below (by (with_reducible repeat (first|apply Kd.R_alloc|apply Kd.R_drewN|apply Kd.R_drew));exact e7.out) hb);have b1:=zzm (Kd.R_below (by (with_reducible repeat (first|apply Kd.R_alloc|apply Kd.R_drewN|apply Kd.R_drew));exact g4.out) hb);have d0:=zzm (Kd.S_below (zzS g8.out) hb);have d1:=zzm (zzh (g:=a8) (o:=.cells #[.bool b2,.bool b3,.int .i64 b4,.int .i64 b5,.int .i64 b6,.slice d3 a9.length d4] 38 (0,0)) (zzE a0.out) hb);have d2:=zzm (zzp zzh2 hb);have e2:=zzm (hbox);have h0:=zzm ((by rw [hg];exact (zzo zzh2):w.heap.size≤a4));have E7:=zzm ((by rw [hg];exact (zzo zzh2):w.heap.size≤a4));have B9:=zzm ((by rw [hg];exact Nat.ne_of_lt (blk_lt (g:=a8) (o:=.cells #[.bool b2,.bool b3,.int .i64 b4,.int .i64 b5,.int .i64 b6,.slice d3 a9.length d4] 38 (0,0)) (zzE a0.out)):a8≠a4));have C0:=zzm ((by rw [hg];exact Nat.ne_of_gt (blk_lt (g:=a8) (o:=.cells #[.bool b2,.bool b3,.int .i64 b4,.int .i64 b5,.int .i64 b6,.slice d3 a9.length d4] 38 (0,0)) (zzE a0.out)):a4≠a8));clear e4 g0 e7 g4 g8 a0 HB;have e4:=a6;have g0:=a7;have e7:=b0;have g4:=b1;have g8:=d0;have a0:=d1;have HB:=d2;have a2:=e2;have K4:=h0;have A1:=E7;have h1:=B9;have r1:=C0;clear a6 a7 b0 b1 d0 d1 d2 e2 h0 E7 B9 C0 hb hbox hg;have K5:=r1.out;have K6:=h1.out;obtain ⟨p3,p4,p5,p6,p7,p8,p9,q0,q1,q2,q3,q4⟩:=zzc6 a2.out;obtain ⟨e8,e6,eo33⟩:=Kd.S_slice g8.out;subst eo33;obtain ⟨h6,h4,eo34⟩:=Kd.R_slice g4.out;subst eo34)|((with_reducible refine gate_callee (f:=7) rfl ?_);refine goesL_ (some 42) rfl rfl Try.func7 (by kernel_rfl) rfl #[.slice h6 e3.length h4,.agg #[.bool d5,.bool d7,.int .i64 d8,.int .i64 d9,.int .i64 e0,.slice e8 d6.length e6]] rfl zzM2 ?_;(with_reducible refine (Qr.calls k _ _ e3 d5 d7 d8 d9 e0 _ _ d6 e1 k4 _ ?side1 ?side2 ?side3 ?side4 I9.out).mono ?_);(case side1=>refine (Kd.R_reads' (e:=67) (base:=w.heap.size) (ok:=fun k_=>((True∧some k_≠(.slice B2 l3.length B3:Value).ownBlock)∧some k_≠(j4:Value).ownBlock)) (n:=e3.length) (c:=h4) ?_).2.2;exact (by (with_reducible repeat (first|apply Kd.R_alloc|apply Kd.R_drewN|apply Kd.R_drew));exact (Kd.R_mono (Kd.R_far (p:=⟨a4,5,none⟩) (Kd.R_far (p:=⟨a4,4,none⟩) (Kd.R_far (p:=⟨a4,3,none⟩) (Kd.R_far (p:=⟨a4,2,none⟩) (Kd.R_far (p:=⟨a4,1,none⟩) (Kd.R_far (p:=⟨a4,0,none⟩) (Kd.R_types g4.out a2.out (by decide)) (fun _ hk=>hk.2) (.bool d5)) (fun _ hk=>hk.2) (.bool d7)) (fun _ hk=>hk.2) (.int .i64 d8)) (fun _ hk=>hk.2) (.int .i64 d9)) (fun _ hk=>hk.2) (.int .i64 e0)) (fun _ hk=>hk.2) (.slice e8 d6.length e6)) (fun _ h_=>h_.1))));(case side2=>exact (Kd.R_reads' g4.out).2.1);(case side3=>refine (Kd.S_reads' (e:=75) (base:=w.heap.size) (ok:=fun k_=>(True∧some k_≠(.slice B5 t6.length B7:Value).ownBlock)) (n:=d6.length) (c:=e6) ?_).2.2;exact (zzS ((Kd.S_mono (Kd.S_far (p:=⟨a4,5,none⟩) (Kd.S_far (p:=⟨a4,4,none⟩) (Kd.S_far (p:=⟨a4,3,none⟩) (Kd.S_far (p:=⟨a4,2,none⟩) (Kd.S_far (p:=⟨a4,1,none⟩) (Kd.S_far (p:=⟨a4,0,none⟩) (Kd.S_types g8.out a2.out (by decide)) (fun _ hk=>hk.2) (.bool d5)) (fun _ hk=>hk.2) (.bool d7)) (fun _ hk=>hk.2) (.int .i64 d8)) (fun _ hk=>hk.2) (.int .i64 d9)) (fun _ hk=>hk.2) (.int .i64 e0)) (fun _ hk=>hk.2) (.slice e8 d6.length e6)) (fun _ h_=>h_.1)))));(case side4=>exact (Kd.S_reads' g8.out).2.1);rintro e O0 ⟨j9,rfl,ho0,hb⟩;refine ⟨_,rfl,?_⟩;have a6:=zzm (Kd.R_elder' (by (with_reducible repeat (first|apply Kd.R_alloc|apply Kd.R_drewN|apply Kd.R_drew));exact (Kd.R_mono (Kd.R_far (p:=⟨a4,5,none⟩) (Kd.R_far (p:=⟨a4,4,none⟩) (Kd.R_far (p:=⟨a4,3,none⟩) (Kd.R_far (p:=⟨a4,2,none⟩) (Kd.R_far (p:=⟨a4,1,none⟩) (Kd.R_far (p:=⟨a4,0,none⟩) (Kd.R_types e4.out a2.out (by decide)) (fun _ hk=>hk.2) (.bool d5)) (fun _ hk=>hk.2) (.bool d7)) (fun _ hk=>hk.2) (.int .i64 d8)) (fun _ hk=>hk.2) (.int .i64 d9)) (fun _ hk=>hk.2) (.int .i64 e0)) (fun _ hk=>hk.2) (.slice e8 d6.length e6)) (fun _ h_=>h_.1))) (Kd.R_base ho0) hb);have a7:=zzm (Kd.S_below (zzS ((Kd.S_mono (Kd.S_far (p:=⟨a4,5,none⟩) (Kd.S_far (p:=⟨a4,4,none⟩) (Kd.S_far (p:=⟨a4,3,none⟩) (Kd.S_far (p:=⟨a4,2,none⟩) (Kd.S_far (p:=⟨a4,1,none⟩) (Kd.S_far (p:=⟨a4,0,none⟩) (Kd.S_types g0.out a2.out (by decide)) (fun _ hk=>hk.2) (.bool d5)) (fun _ hk=>hk.2) (.bool d7)) (fun _ hk=>hk.2) (.int .i64 d8)) (fun _ hk=>hk.2) (.int .i64 d9)) (fun _ hk=>hk.2) (.int .i64 e0)) (fun _ hk=>hk.2) (.slice e8 d6.length e6)) (fun _ h_=>h_.1)))) hb);have b0:=zzm (Kd.R_elder' (by (with_reducible repeat (first|apply Kd.R_alloc|apply Kd.R_drewN|apply Kd.R_drew));exact (Kd.R_mono (Kd.R_far (p:=⟨a4,5,none⟩) (Kd.R_far (p:=⟨a4,4,none⟩) (Kd.R_far (p:=⟨a4,3,none⟩) (Kd.R_far (p:=⟨a4,2,none⟩) (Kd.R_far (p:=⟨a4,1,none⟩) (Kd.R_far (p:=⟨a4,0,none⟩) (Kd.R_types e7.out a2.out (by decide)) (fun _ hk=>hk.2) (.bool d5)) (fun _ hk=>hk.2) (.bool d7)) (fun _ hk=>hk.2) (.int .i64 d8)) (fun _ hk=>hk.2) (.int .i64 d9)) (fun _ hk=>hk.2) (.int .i64 e0)) (fun _ hk=>hk.2) (.slice e8 d6.length e6)) (fun _ h_=>h_.1))) (Kd.R_base ho0) hb);have b1:=zzm (Kd.R_elder' (by (with_reducible repeat (first|apply Kd.R_alloc|apply Kd.R_drewN|apply Kd.R_drew));exact (Kd.R_mono (Kd.R_far (p:=⟨a4,5,none⟩) (Kd.R_far (p:=⟨a4,4,none⟩) (Kd.R_far (p:=⟨a4,3,none⟩) (Kd.R_far (p:=⟨a4,2,none⟩) (Kd.R_far (p:=⟨a4,1,none⟩) (Kd.R_far (p:=⟨a4,0,none⟩) (Kd.R_types g4.out a2.out (by decide)) (fun _ hk=>hk.2) (.bool d5)) (fun _ hk=>hk.2) (.bool d7)) (fun _ hk=>hk.2) (.int .i64 d8)) (fun _ hk=>hk.2) (.int .i64 d9)) (fun _ hk=>hk.2) (.int .i64 e0)) (fun _ hk=>hk.2) (.slice e8 d6.length e6)) (fun _ h_=>h_.1))) (Kd.R_base ho0) hb);have d0:=zzm (Kd.S_below (zzS ((Kd.S_mono (Kd.S_far (p:=⟨a4,5,none⟩) (Kd.S_far (p:=⟨a4,4,none⟩) (Kd.S_far (p:=⟨a4,3,none⟩) (Kd.S_far (p:=⟨a4,2,none⟩) (Kd.S_far (p:=⟨a4,1,none⟩) (Kd.S_far (p:=⟨a4,0,none⟩) (Kd.S_types g8.out a2.out (by decide)) (fun _ hk=>hk.2) (.bool d5)) (fun _ hk=>hk.2) (.bool d7)) (fun _ hk=>hk.2) (.int .i64 d8)) (fun _ hk=>hk.2) (.int .i64 d9)) (fun _ hk=>hk.2) (.int .i64 e0)) (fun _ hk=>hk.2) (.slice e8 d6.length e6)) (fun _ h_=>h_.1)))) hb);have d1:=zzm (Kd.R_lower (Kd.R_new' (Kd.R_new' (Kd.R_new' ho0 (Kd.R_lt (by (with_reducible repeat (first|apply Kd.R_alloc|apply Kd.R_drewN|apply Kd.R_drew));exact (Kd.R_mono (Kd.R_far (p:=⟨a4,5,none⟩) (Kd.R_far (p:=⟨a4,4,none⟩) (Kd.R_far (p:=⟨a4,3,none⟩) (Kd.R_far (p:=⟨a4,2,none⟩) (Kd.R_far (p:=⟨a4,1,none⟩) (Kd.R_far (p:=⟨a4,0,none⟩) (Kd.R_types e4.out a2.out (by decide)) (fun _ hk=>hk.2) (.bool d5)) (fun _ hk=>hk.2) (.bool d7)) (fun _ hk=>hk.2) (.int .i64 d8)) (fun _ hk=>hk.2) (.int .i64 d9)) (fun _ hk=>hk.2) (.int .i64 e0)) (fun _ hk=>hk.2) (.slice e8 d6.length e6)) (fun _ h_=>h_.1))))) (Kd.R_lt (by (with_reducible repeat (first|apply Kd.R_alloc|apply Kd.R_drewN|apply Kd.R_drew));exact (Kd.R_mono (Kd.R_far (p:=⟨a4,5,none⟩) (Kd.R_far (p:=⟨a4,4,none⟩) (Kd.R_far (p:=⟨a4,3,none⟩) (Kd.R_far (p:=⟨a4,2,none⟩) (Kd.R_far (p:=⟨a4,1,none⟩) (Kd.R_far (p:=⟨a4,0,none⟩) (Kd.R_types e7.out a2.out (by decide)) (fun _ hk=>hk.2) (.bool d5)) (fun _ hk=>hk.2) (.bool d7)) (fun _ hk=>hk.2) (.int .i64 d8)) (fun _ hk=>hk.2) (.int .i64 d9)) (fun _ hk=>hk.2) (.int .i64 e0)) (fun _ hk=>hk.2) (.slice e8 d6.length e6)) (fun _ h_=>h_.1))))) (Kd.R_lt (by (with_reducible repeat (first|apply Kd.R_alloc|apply Kd.R_drewN|apply Kd.R_drew));exact (Kd.R_mono (Kd.R_far (p:=⟨a4,5,none⟩) (Kd.R_far (p:=⟨a4,4,none⟩) (Kd.R_far (p:=⟨a4,3,none⟩) (Kd.R_far (p:=⟨a4,2,none⟩) (Kd.R_far (p:=⟨a4,1,none⟩) (Kd.R_far (p:=⟨a4,0,none⟩) (Kd.R_types g4.out a2.out (by decide)) (fun _ hk=>hk.2) (.bool d5)) (fun _ hk=>hk.2) (.bool d7)) (fun _ hk=>hk.2) (.int .i64 d8)) (fun _ hk=>hk.2) (.int .i64 d9)) (fun _ hk=>hk.2) (.int .i64 e0)) (fun _ hk=>hk.2) (.slice e8 d6.length e6)) (fun _ h_=>h_.1))))) (zzo zzh2));have d2:=zzm (zzh (g:=a8) (o:=.cells #[.bool b2,.bool b3,.int .i64 b4,.int .i64 b5,.int .i64 b6,.slice d3 a9.length d4] 38 (0,0)) (by (with_reducible repeat (first|apply zzf|apply zzg|apply zze));refine zzj ?_ h1.out _;(with_reducible repeat (first|apply zzf|apply zzg|apply zze));refine zzj ?_ h1.out _;(with_reducible repeat (first|apply zzf|apply zzg|apply zze));refine zzj ?_ h1.out _;(with_reducible repeat (first|apply zzf|apply zzg|apply zze));refine zzj ?_ h1.out _;(with_reducible repeat (first|apply zzf|apply zzg|apply zze));refine zzj ?_ h1.out _;(with_reducible repeat (first|apply zzf|apply zzg|apply zze));refine zzj ?_ h1.out _;(with_reducible repeat (first|apply zzf|apply zzg|apply zze));exact a0.out) hb);have e2:=zzm (zzh (g:=a4) (o:=.cells #[.bool d5,.bool d7,.int .i64 d8,.int .i64 d9,.int .i64 e0,.slice e8 d6.length e6] 26 (0,0)) (by (with_reducible repeat (first|apply zzf|apply zzg|apply zze));refine zzi (cs:=#[.bool d5,.bool d7,.int .i64 d8,.int .i64 d9,.int .i64 e0,.slice none 0 0]) ?_ 5 _ rfl;refine zzi (cs:=#[.bool d5,.bool d7,.int .i64 d8,.int .i64 d9,.int .i64 0,.slice none 0 0]) ?_ 4 _ rfl;refine zzi (cs:=#[.bool d5,.bool d7,.int .i64 d8,.int .i64 0,.int .i64 0,.slice none 0 0]) ?_ 3 _ rfl;refine zzi (cs:=#[.bool d5,.bool d7,.int .i64 0,.int .i64 0,.int .i64 0,.slice none 0 0]) ?_ 2 _ rfl;refine zzi (cs:=#[.bool d5,.bool false,.int .i64 0,.int .i64 0,.int .i64 0,.slice none 0 0]) ?_ 1 _ rfl;refine zzi (cs:=#[.bool false,.bool false,.int .i64 0,.int .i64 0,.int .i64 0,.slice none 0 0]) ?_ 0 _ rfl;(with_reducible repeat (first|apply zzf|apply zzg|apply zze));exact a2.out) hb);have h0:=zzm (zzp zzh2 hb);clear e4 g0 e7 g4 g8 a0 a2 HB;have e4:=a6;have g0:=a7;have e7:=b0;have g4:=b1;have g8:=d0;have h2:=d1;have a0:=d2;have a2:=e2;have HB:=h0;clear a6 a7 b0 b1 d0 d1 d2 e2 h0;(try clear hb);(try clear hb2);(try clear hk);(try clear hi);(try clear ho0)))
   (try simp only [Act.put,zzq,zzr,zzs]);go_cut [53] (fun J1 wc=>∃ (kq:Nat) (m3:Bool),J1 = .bool m3∧Aside0 (laws_FnExactProducersPut.j0 kq l0 e5 g5 e3 e1 k4 m3 b2 b3 b4 b5 b6 a9 d5 d7 d8 d9 e0 d6=some r)∧Aside0 (kq≤k)∧Aside0 (Kd.R k67 67 wc w.heap.size (fun k_=>some k_≠((.slice h6 e3.length h4):Value).ownBlock∧some k_≠(j9:Value).ownBlock) j4 e5)∧Aside0 (Kd.R k67 67 wc w.heap.size (fun k_=>some k_≠(j4:Value).ownBlock∧some k_≠(j9:Value).ownBlock) (.slice h6 e3.length h4) e3)∧Aside0 (Kd.R k67 67 wc w.heap.size (fun k_=>some k_≠(j4:Value).ownBlock∧some k_≠((.slice h6 e3.length h4):Value).ownBlock) j9 e1)∧Aside0 (Kd.S k75 75 wc w.heap.size (fun _=>True) (.slice e8 d6.length e6) d6)∧Aside0 (wc.heap[a8]? = some (.cells #[.bool b2,.bool b3,.int .i64 b4,.int .i64 b5,.int .i64 b6,(.slice d3 a9.length d4)] 38 (0,0)))∧Aside0 (wc.heap[a4]? = some (.cells #[.bool d5,.bool d7,.int .i64 d8,.int .i64 d9,.int .i64 e0,(.slice e8 d6.length e6)] 26 (0,0)))∧Aside0 (Below w.heap.size w wc))
   case first=>
    have H:=z0.out;clear z0;obtain ⟨j6,E8,H⟩:=zzG H;by_cases t7:j6=true
    ·
     subst t7;replace H:=zzIt H;have H':=zzm H;clear H;obtain ⟨F9,G0,eo38⟩:=Kd.R_slice h2.out;subst eo38;obtain ⟨G1,G2,eo39⟩:=Kd.R_slice e7.out;subst eo39;go_wp2_with (first|((with_reducible refine gate_callee (f:=16) rfl ?_);refine goesL_ (some 47) rfl rfl Try.func16 (by kernel_rfl) rfl #[.slice F9 e1.length G0,.slice G1 e5.length G2] rfl zzM2 ?_;(with_reducible refine (Qd.calls k _ _ e1 _ _ e5 true _ ?side1 ?side2 ?side3 ?side4 E8.out).mono ?_);(case side1=>repeat (first|exact (Kd.R_reads' h2.out).2.2|(with_reducible refine Kd.C_alloc ?_ _)|(with_reducible refine Kd.C_drewN ?_ _)|(with_reducible refine Kd.C_drew ?_)));(case side2=>exact (Kd.R_reads' h2.out).2.1);(case side3=>repeat (first|exact (Kd.R_reads' e7.out).2.2|(with_reducible refine Kd.C_alloc ?_ _)|(with_reducible refine Kd.C_drewN ?_ _)|(with_reducible refine Kd.C_drew ?_)));(case side4=>exact (Kd.R_reads' e7.out).2.1);rintro e O1 ⟨rfl,hb⟩;refine ⟨_,rfl,?_⟩;have a6:=zzm (Kd.R_below (by (with_reducible repeat (first|apply Kd.R_alloc|apply Kd.R_drewN|apply Kd.R_drew));exact e4.out) hb);have a7:=zzm (Kd.S_below (zzS g0.out) hb);have b0:=zzm (Kd.R_below (by (with_reducible repeat (first|apply Kd.R_alloc|apply Kd.R_drewN|apply Kd.R_drew));exact e7.out) hb);have b1:=zzm (Kd.R_below (by (with_reducible repeat (first|apply Kd.R_alloc|apply Kd.R_drewN|apply Kd.R_drew));exact g4.out) hb);have d0:=zzm (Kd.S_below (zzS g8.out) hb);have d1:=zzm (Kd.R_below (by (with_reducible repeat (first|apply Kd.R_alloc|apply Kd.R_drewN|apply Kd.R_drew));exact h2.out) hb);have d2:=zzm (zzh (g:=a8) (o:=.cells #[.bool b2,.bool b3,.int .i64 b4,.int .i64 b5,.int .i64 b6,.slice d3 a9.length d4] 38 (0,0)) (zzE a0.out) hb);have e2:=zzm (zzh (g:=a4) (o:=.cells #[.bool d5,.bool d7,.int .i64 d8,.int .i64 d9,.int .i64 e0,.slice e8 d6.length e6] 26 (0,0)) (zzE a2.out) hb);have h0:=zzm (zzp zzh2 hb);clear e4 g0 e7 g4 g8 h2 a0 a2 HB;have e4:=a6;have g0:=a7;have e7:=b0;have g4:=b1;have g8:=d0;have h2:=d1;have a0:=d2;have a2:=e2;have HB:=h0;clear a6 a7 b0 b1 d0 d1 d2 e2 h0;(try clear hb);(try clear hb2);(try clear hk);(try clear hi)));go_meet
     case rel=>exact ⟨_,((k4 != g5)),(by first|rfl|(simp;done)|(simp [*];done)),H',⟨by first|omega|exact Nat.le_refl _⟩,⟨by (with_reducible repeat (first|apply Kd.R_alloc|apply Kd.R_drewN|apply Kd.R_drew));exact Kd.R_mono e7.out (fun _ hk=>⟨hk.1.2,hk.2⟩)⟩,⟨by (with_reducible repeat (first|apply Kd.R_alloc|apply Kd.R_drewN|apply Kd.R_drew));exact Kd.R_mono g4.out (fun _ hk=>⟨hk.1.2,hk.2⟩)⟩,⟨by (with_reducible repeat (first|apply Kd.R_alloc|apply Kd.R_drewN|apply Kd.R_drew));exact Kd.R_mono h2.out (fun _ hk=>⟨hk.1.2,hk.2⟩)⟩,⟨by (with_reducible repeat (first|apply Kd.S_alloc|apply Kd.S_drewN|apply Kd.S_drew));exact Kd.S_mono g8.out (fun _ hk=>trivial)⟩,⟨zzE a0.out⟩,⟨zzE a2.out⟩,⟨zzh3⟩⟩
    ·
     replace t7:=Bool.eq_false_iff.mpr t7;subst t7;replace H:=zzIf H;have H':=zzm H;clear H;obtain ⟨G3,G4,eo41⟩:=Kd.R_slice h2.out;subst eo41;obtain ⟨G5,G6,eo42⟩:=Kd.R_slice e7.out;subst eo42;go_wp2_with (first|((with_reducible refine gate_callee (f:=16) rfl ?_);refine goesL_ (some 47) rfl rfl Try.func16 (by kernel_rfl) rfl #[.slice G3 e1.length G4,.slice G5 e5.length G6] rfl zzM2 ?_;(with_reducible refine (Qd.calls k _ _ e1 _ _ e5 false _ ?side1 ?side2 ?side3 ?side4 E8.out).mono ?_);(case side1=>repeat (first|exact (Kd.R_reads' h2.out).2.2|(with_reducible refine Kd.C_alloc ?_ _)|(with_reducible refine Kd.C_drewN ?_ _)|(with_reducible refine Kd.C_drew ?_)));(case side2=>exact (Kd.R_reads' h2.out).2.1);(case side3=>repeat (first|exact (Kd.R_reads' e7.out).2.2|(with_reducible refine Kd.C_alloc ?_ _)|(with_reducible refine Kd.C_drewN ?_ _)|(with_reducible refine Kd.C_drew ?_)));(case side4=>exact (Kd.R_reads' e7.out).2.1);rintro e O2 ⟨rfl,hb⟩;refine ⟨_,rfl,?_⟩;have a6:=zzm (Kd.R_below (by (with_reducible repeat (first|apply Kd.R_alloc|apply Kd.R_drewN|apply Kd.R_drew));exact e4.out) hb);have a7:=zzm (Kd.S_below (zzS g0.out) hb);have b0:=zzm (Kd.R_below (by (with_reducible repeat (first|apply Kd.R_alloc|apply Kd.R_drewN|apply Kd.R_drew));exact e7.out) hb);have b1:=zzm (Kd.R_below (by (with_reducible repeat (first|apply Kd.R_alloc|apply Kd.R_drewN|apply Kd.R_drew));exact g4.out) hb);have d0:=zzm (Kd.S_below (zzS g8.out) hb);have d1:=zzm (Kd.R_below (by (with_reducible repeat (first|apply Kd.R_alloc|apply Kd.R_drewN|apply Kd.R_drew));exact h2.out) hb);have d2:=zzm (zzh (g:=a8) (o:=.cells #[.bool b2,.bool b3,.int .i64 b4,.int .i64 b5,.int .i64 b6,.slice d3 a9.length d4] 38 (0,0)) (zzE a0.out) hb);have e2:=zzm (zzh (g:=a4) (o:=.cells #[.bool d5,.bool d7,.int .i64 d8,.int .i64 d9,.int .i64 e0,.slice e8 d6.length e6] 26 (0,0)) (zzE a2.out) hb);have h0:=zzm (zzp zzh2 hb);clear e4 g0 e7 g4 g8 h2 a0 a2 HB;have e4:=a6;have g0:=a7;have e7:=b0;have g4:=b1;have g8:=d0;have h2:=d1;have a0:=d2;have a2:=e2;have HB:=h0;clear a6 a7 b0 b1 d0 d1 d2 e2 h0;(try clear hb);(try clear hb2);(try clear hk);(try clear hi)));go_meet
     case rel=>exact ⟨_,(true),(by first|rfl|(simp;done)|(simp [*];done)),H',⟨by first|omega|exact Nat.le_refl _⟩,⟨by (with_reducible repeat (first|apply Kd.R_alloc|apply Kd.R_drewN|apply Kd.R_drew));exact Kd.R_mono e7.out (fun _ hk=>⟨hk.1.2,hk.2⟩)⟩,⟨by (with_reducible repeat (first|apply Kd.R_alloc|apply Kd.R_drewN|apply Kd.R_drew));exact Kd.R_mono g4.out (fun _ hk=>⟨hk.1.2,hk.2⟩)⟩,⟨by (with_reducible repeat (first|apply Kd.R_alloc|apply Kd.R_drewN|apply Kd.R_drew));exact Kd.R_mono h2.out (fun _ hk=>⟨hk.1.2,hk.2⟩)⟩,⟨by (with_reducible repeat (first|apply Kd.S_alloc|apply Kd.S_drewN|apply Kd.S_drew));exact Kd.S_mono g8.out (fun _ hk=>trivial)⟩,⟨zzE a0.out⟩,⟨zzE a2.out⟩,⟨zzh3⟩⟩
   case rest=>
    clear z0;try clear c1
    try clear p2
    try clear c3
    try clear c4
    try clear x2
    try clear c7
    try clear x3
    try clear c8
    try clear E9
    try clear F0
    try clear F1
    try clear F2
    try clear F3
    try clear F4
    try clear t7
    try clear m8
    try clear m9
    try clear n0
    try clear n1
    try clear n2
    try clear n3
    try clear o0
    try clear o1
    try clear o2
    try clear o3
    try clear o4
    try clear o5
    try clear p3
    try clear p4
    try clear p5
    try clear p6
    try clear p7
    try clear p8
    try clear r4
    try clear r5
    try clear r6
    try clear r7
    try clear r8
    try clear r9
    try clear n4
    try clear n5
    try clear n6
    try clear n7
    try clear n8
    try clear n9
    try clear o6
    try clear o7
    try clear o8
    try clear o9
    try clear p0
    try clear p1
    try clear p9
    try clear q0
    try clear q1
    try clear q2
    try clear q3
    try clear q4
    try clear t0
    try clear t1
    try clear t2
    try clear t3
    try clear t4
    try clear t5
    obtain ⟨kq,m3,rfl,HA,HJ16,a5,b9,a1,a3,a0,a2,HB⟩:=hcut;cases kq with
    | zero=>exact absurd HA.out (by simp [laws_FnExactProducersPut.j0])
    | succ g7=>
     have H:=HA.out;clear HA;simp only [laws_FnExactProducersPut.j0] at H;by_cases v3:m3=true
     ·
      subst v3;replace H:=zzIt H;obtain rfl:=Option.some.inj H;go_wp2;go_ret;exact ⟨zzR,zzh3⟩
     ·
      replace v3:=Bool.eq_false_iff.mpr v3;subst v3;replace H:=zzIf H;obtain ⟨h9,C1,H⟩:=zzG H;obtain ⟨G7,C2,H⟩:=zzG H;by_cases v4:G7=true
      ·
       subst v4;replace H:=zzIt H;replace H:=zzH H;obtain ⟨⟨l4,l5,l6,l7,l8,k6⟩,C3,H⟩:=H;replace H:((Re.f g7 d5 d7 d8 d9 e0 d6 l4 l5 l6 l7 l8 k6).bind fun z1=>(if z1=true then ((Qg.f g7 e3 1).bind fun D8=>((Q9.f d5 d7 d8 d9 e0 d6 D8.1).bind fun k7=>(if k7 < 0 then (laws_FnExactProducersPut.j1 g7 l0 e5 g5 e1 true b2 b3 b4 b5 b6 a9) else ((Qd.f g7 e1 e5).bind fun t8=>(if t8=true then (laws_FnExactProducersPut.j1 g7 l0 e5 g5 e1 (k4 != g5) b2 b3 b4 b5 b6 a9) else (laws_FnExactProducersPut.j1 g7 l0 e5 g5 e1 true b2 b3 b4 b5 b6 a9)))))) else (some false)))=some r:=H;have F5:=zzm C3;clear C3;obtain ⟨z1,F6,H⟩:=zzG H;by_cases v5:z1=true
       ·
        subst v5;replace H:=zzIt H;replace H:=zzH H;obtain ⟨⟨x9,G8⟩,C4,H⟩:=H;replace H:((Q9.f d5 d7 d8 d9 e0 d6 x9).bind fun k7=>(if k7 < 0 then (laws_FnExactProducersPut.j1 g7 l0 e5 g5 e1 true b2 b3 b4 b5 b6 a9) else ((Qd.f g7 e1 e5).bind fun t8=>(if t8=true then (laws_FnExactProducersPut.j1 g7 l0 e5 g5 e1 (k4 != g5) b2 b3 b4 b5 b6 a9) else (laws_FnExactProducersPut.j1 g7 l0 e5 g5 e1 true b2 b3 b4 b5 b6 a9)))))=some r:=H;have J2:=zzm C4;clear C4;obtain ⟨k7,J3,H⟩:=zzG H;have z2:=zzm H;clear H;try go_wp2_with (first|((with_reducible refine gate_callee (f:=14) rfl ?_);refine goesL_ (some 56) rfl rfl Try.func14 (by kernel_rfl) rfl #[.slice A0 l0.length c0] rfl zzM2 ?_;(with_reducible refine (Qe.calls g7 _ _ l0 h9 _ ?side1 ?side2 C1.out).mono ?_);(case side1=>exact zzcb m1 HB);(case side2=>exact m2.out);rintro e O3 ⟨C5,rfl,ho0,hb⟩;refine ⟨_,rfl,?_⟩;have a6:=zzm (Kd.R_elder' (by (with_reducible repeat (first|apply Kd.R_alloc|apply Kd.R_drewN|apply Kd.R_drew));exact a5.out) (Kd.R_base ho0) hb);have a7:=zzm (Kd.R_elder' (by (with_reducible repeat (first|apply Kd.R_alloc|apply Kd.R_drewN|apply Kd.R_drew));exact b9.out) (Kd.R_base ho0) hb);have b0:=zzm (Kd.R_elder' (by (with_reducible repeat (first|apply Kd.R_alloc|apply Kd.R_drewN|apply Kd.R_drew));exact a1.out) (Kd.R_base ho0) hb);have b1:=zzm (Kd.S_below (zzS a3.out) hb);have d0:=zzm (Kd.R_lower (Kd.R_new' (Kd.R_new' (Kd.R_new' ho0 (Kd.R_lt (by (with_reducible repeat (first|apply Kd.R_alloc|apply Kd.R_drewN|apply Kd.R_drew));exact a5.out))) (Kd.R_lt (by (with_reducible repeat (first|apply Kd.R_alloc|apply Kd.R_drewN|apply Kd.R_drew));exact b9.out))) (Kd.R_lt (by (with_reducible repeat (first|apply Kd.R_alloc|apply Kd.R_drewN|apply Kd.R_drew));exact a1.out))) (zzo zzh2));have d1:=zzm (zzh (g:=a8) (o:=.cells #[.bool b2,.bool b3,.int .i64 b4,.int .i64 b5,.int .i64 b6,.slice d3 a9.length d4] 38 (0,0)) (zzE a0.out) hb);have d2:=zzm (zzh (g:=a4) (o:=.cells #[.bool d5,.bool d7,.int .i64 d8,.int .i64 d9,.int .i64 e0,.slice e8 d6.length e6] 26 (0,0)) (zzE a2.out) hb);have e2:=zzm (zzp zzh2 hb);clear a5 b9 a1 a3 a0 a2 HB;have a5:=a6;have b9:=a7;have a1:=b0;have a3:=b1;have b8:=d0;have a0:=d1;have a2:=d2;have HB:=e2;clear a6 a7 b0 b1 d0 d1 d2 e2;(try clear hb);(try clear hb2);(try clear hk);(try clear hi);(try clear ho0);obtain ⟨q5,q6,eo55⟩:=Kd.R_slice b8.out;subst eo55)|((with_reducible refine gate_callee (f:=16) rfl ?_);refine goesL_ (some 57) rfl rfl Try.func16 (by kernel_rfl) rfl #[.slice h6 e3.length h4,.slice q5 h9.length q6] rfl zzM2 ?_;(with_reducible refine (Qd.calls g7 _ _ e3 _ _ h9 true _ ?side1 ?side2 ?side3 ?side4 C2.out).mono ?_);(case side1=>repeat (first|exact (Kd.R_reads' b9.out).2.2|(with_reducible refine Kd.C_alloc ?_ _)|(with_reducible refine Kd.C_drewN ?_ _)|(with_reducible refine Kd.C_drew ?_)));(case side2=>exact (Kd.R_reads' b9.out).2.1);(case side3=>repeat (first|exact (Kd.R_reads' b8.out).2.2|(with_reducible refine Kd.C_alloc ?_ _)|(with_reducible refine Kd.C_drewN ?_ _)|(with_reducible refine Kd.C_drew ?_)));(case side4=>exact (Kd.R_reads' b8.out).2.1);rintro e J4 ⟨rfl,hb⟩;refine ⟨_,rfl,?_⟩;have a6:=zzm (Kd.R_below (by (with_reducible repeat (first|apply Kd.R_alloc|apply Kd.R_drewN|apply Kd.R_drew));exact a5.out) hb);have a7:=zzm (Kd.R_below (by (with_reducible repeat (first|apply Kd.R_alloc|apply Kd.R_drewN|apply Kd.R_drew));exact b9.out) hb);have b0:=zzm (Kd.R_below (by (with_reducible repeat (first|apply Kd.R_alloc|apply Kd.R_drewN|apply Kd.R_drew));exact a1.out) hb);have b1:=zzm (Kd.S_below (zzS a3.out) hb);have d0:=zzm (Kd.R_below (by (with_reducible repeat (first|apply Kd.R_alloc|apply Kd.R_drewN|apply Kd.R_drew));exact b8.out) hb);have d1:=zzm (zzh (g:=a8) (o:=.cells #[.bool b2,.bool b3,.int .i64 b4,.int .i64 b5,.int .i64 b6,.slice d3 a9.length d4] 38 (0,0)) (zzE a0.out) hb);have d2:=zzm (zzh (g:=a4) (o:=.cells #[.bool d5,.bool d7,.int .i64 d8,.int .i64 d9,.int .i64 e0,.slice e8 d6.length e6] 26 (0,0)) (zzE a2.out) hb);have e2:=zzm (zzp zzh2 hb);clear a5 b9 a1 a3 b8 a0 a2 HB;have a5:=a6;have b9:=a7;have a1:=b0;have a3:=b1;have b8:=d0;have a0:=d1;have a2:=d2;have HB:=e2;clear a6 a7 b0 b1 d0 d1 d2 e2;(try clear hb);(try clear hb2);(try clear hk);(try clear hi)))
        have a6:=zzm (Kd.R_drew a5.out);have a7:=zzm (Kd.R_drew b9.out);have b0:=zzm (Kd.R_drew a1.out);have b1:=zzm (Kd.S_drew a3.out);have d0:=zzm (Kd.R_drew b8.out);have d1:=zzm (zzg a0.out);have d2:=zzm (zzg a2.out);have e2:=zzm (zzc HB.out);clear a5 b9 a1 a3 b8 a0 a2 HB;have a5:=a6;have b9:=a7;have a1:=b0;have a3:=b1;have b8:=d0;have a0:=d1;have a2:=d2;have HB:=e2;clear a6 a7 b0 b1 d0 d1 d2 e2;refine start_ (n:=5) (S:=fun w'=>w'.cell? ⟨a4,0,none⟩=some (.bool d5)∧w'.cell? ⟨a4,1,none⟩=some (.bool d7)∧w'.cell? ⟨a4,2,none⟩=some (.int .i64 d8)∧w'.cell? ⟨a4,3,none⟩=some (.int .i64 d9)∧w'.cell? ⟨a4,4,none⟩=some (.int .i64 e0)∧w'.cell? ⟨a4,5,none⟩=some (.slice e8 d6.length e6)∧w'.cell? ⟨a8,0,none⟩=some (.bool b2)∧w'.cell? ⟨a8,1,none⟩=some (.bool b3)∧w'.cell? ⟨a8,2,none⟩=some (.int .i64 b4)∧w'.cell? ⟨a8,3,none⟩=some (.int .i64 b5)∧w'.cell? ⟨a8,4,none⟩=some (.int .i64 b6)∧w'.cell? ⟨a8,5,none⟩=some (.slice d3 a9.length d4)) (ds:=[]) (zzB 5 0) (by kernel_rfl) rfl rfl ⟨(zzk a2.out 0).trans rfl,(zzk a2.out 1).trans rfl,(zzk a2.out 2).trans rfl,(zzk a2.out 3).trans rfl,(zzk a2.out 4).trans rfl,(zzk a2.out 5).trans rfl,(zzk a0.out 0).trans rfl,(zzk a0.out 1).trans rfl,(zzk a0.out 2).trans rfl,(zzk a0.out 3).trans rfl,(zzk a0.out 4).trans rfl,(zzk a0.out 5).trans rfl⟩ (fun g3=>?_);generalize J4.drew=O4 at a5 b9 a1 a3 b8 a0 a2 HB g3 ⊢;refine take_ (i:=0) (N:=some 59) (v:=?_) (a':=?_) (zzB 5 1) rfl rfl (by kernel_rfl) (fun _ _ _ h=>h) (Or.inl ⟨by rfl,?_⟩) g3 ?_ ?_;rotate_left
        ·
         rintro w' ⟨s0,s1,s2,s3,s4,s5,s6,s7,s8,s9,C6,C7⟩;go_simp;with_reducible rfl
        rotate_left
        ·
         simp only [zzJ];rfl
        refine take_ (i:=1) (N:=some 60) (v:=?_) (a':=?_) (zzB 5 3) rfl rfl (by kernel_rfl) (fun _ _ _ h=>h) (Or.inl ⟨by rfl,?_⟩) g3 ?_ ?_;rotate_left
        ·
         rintro w' ⟨s0,s1,s2,s3,s4,s5,s6,s7,s8,s9,C6,C7⟩;go_simp;with_reducible rfl
        rotate_left
        ·
         simp only [zzJ];rfl
        refine one_ (i:=2) (N:=some 61) (zzB 5 7) rfl rfl (by kernel_rfl) (by decide) (fun K hK=>?_);refine goes_ Try.func15 (by kernel_rfl) rfl #[.agg #[.bool b2,.bool b3,.int .i64 b4,.int .i64 b5,.int .i64 b6,.slice d3 a9.length d4]] (by rfl) rfl rfl zzM2 ?_;with_reducible refine (Qy.calls g7 b2 b3 b4 b5 b6 _ _ a9 l4 l5 l6 l7 l8 k6 _ ?side1 ?side2 F5.out).mono ?_
        (case side1=>exact zzcb k1 HB)
        (case side2=>exact k2.out);rintro e O5 ⟨G9,rfl,ho0,hb⟩;refine ⟨_,rfl,?_⟩;have a6:=zzm (Kd.R_below (by (with_reducible repeat (first|apply Kd.R_alloc|apply Kd.R_drewN|apply Kd.R_drew));exact a5.out) hb);have a7:=zzm (Kd.R_below (by (with_reducible repeat (first|apply Kd.R_alloc|apply Kd.R_drewN|apply Kd.R_drew));exact b9.out) hb);have b0:=zzm (Kd.R_below (by (with_reducible repeat (first|apply Kd.R_alloc|apply Kd.R_drewN|apply Kd.R_drew));exact a1.out) hb);have b1:=zzm (Kd.S_elder' (zzS a3.out) (Kd.S_base ho0) hb);have d0:=zzm (Kd.R_below (by (with_reducible repeat (first|apply Kd.R_alloc|apply Kd.R_drewN|apply Kd.R_drew));exact b8.out) hb);have d1:=zzm (Kd.S_lower (Kd.S_new' ho0 (Kd.S_lt (zzS a3.out))) (zzo zzh2));have d2:=zzm (zzh (g:=a8) (o:=.cells #[.bool b2,.bool b3,.int .i64 b4,.int .i64 b5,.int .i64 b6,.slice d3 a9.length d4] 38 (0,0)) (zzE a0.out) hb);have e2:=zzm (zzh (g:=a4) (o:=.cells #[.bool d5,.bool d7,.int .i64 d8,.int .i64 d9,.int .i64 e0,.slice e8 d6.length e6] 26 (0,0)) (zzE a2.out) hb);have h0:=zzm (zzp zzh2 hb);clear a5 b9 a1 a3 b8 a0 a2 HB;have a5:=a6;have b9:=a7;have a1:=b0;have a3:=b1;have b8:=d0;have g2:=d1;have a0:=d2;have a2:=e2;have HB:=h0;clear a6 a7 b0 b1 d0 d1 d2 e2 h0
        (try clear hb)
        (try clear hb2)
        (try clear hk)
        (try clear hi)
        (try clear ho0);obtain ⟨C8,C9,eo59⟩:=Kd.S_slice g2.out
        (first|subst eo59|(injection eo59 with f1_ f2_ f3_;have f4_:=f1_.symm;have f5_:=f3_.symm;clear f1_ f2_ f3_;subst f4_;subst f5_));refine hK.out _ _ ⟨(zzk a2.out 0).trans rfl,(zzk a2.out 1).trans rfl,(zzk a2.out 2).trans rfl,(zzk a2.out 3).trans rfl,(zzk a2.out 4).trans rfl,(zzk a2.out 5).trans rfl,(zzk a0.out 0).trans rfl,(zzk a0.out 1).trans rfl,(zzk a0.out 2).trans rfl,(zzk a0.out 3).trans rfl,(zzk a0.out 4).trans rfl,(zzk a0.out 5).trans rfl⟩ (fun g3=>?_);clear hK K;refine zzO 61 ?_
        refine one_ (i:=3) (N:=some 62) (zzB 5 15) rfl rfl (by kernel_rfl) (by decide) (fun K hK=>?_);refine goes_ Try.func17 (by kernel_rfl) rfl #[.agg #[.bool d5,.bool d7,.int .i64 d8,.int .i64 d9,.int .i64 e0,.slice e8 d6.length e6],.agg #[.bool l4,.bool l5,.int .i64 l6,.int .i64 l7,.int .i64 l8,.slice C8 k6.length C9]] (by rfl) rfl rfl zzM2 ?_;with_reducible refine (Re.calls g7 d5 d7 d8 d9 e0 _ _ d6 l4 l5 l6 l7 l8 _ _ k6 true _ ?side1 ?side2 ?side3 ?side4 F6.out).mono ?_
        (case side1=>repeat (first|exact (Kd.S_reads' a3.out).2.2|(with_reducible refine Kd.C_alloc ?_ _)|(with_reducible refine Kd.C_drewN ?_ _)|(with_reducible refine Kd.C_drew ?_)))
        (case side2=>exact (Kd.S_reads' a3.out).2.1)
        (case side3=>repeat (first|exact (Kd.S_reads' g2.out).2.2|(with_reducible refine Kd.C_alloc ?_ _)|(with_reducible refine Kd.C_drewN ?_ _)|(with_reducible refine Kd.C_drew ?_)))
        (case side4=>exact (Kd.S_reads' g2.out).2.1);rintro e O6 ⟨rfl,hb⟩;refine ⟨_,rfl,?_⟩;have a6:=zzm (Kd.R_below (by (with_reducible repeat (first|apply Kd.R_alloc|apply Kd.R_drewN|apply Kd.R_drew));exact a5.out) hb);have a7:=zzm (Kd.R_below (by (with_reducible repeat (first|apply Kd.R_alloc|apply Kd.R_drewN|apply Kd.R_drew));exact b9.out) hb);have b0:=zzm (Kd.R_below (by (with_reducible repeat (first|apply Kd.R_alloc|apply Kd.R_drewN|apply Kd.R_drew));exact a1.out) hb);have b1:=zzm (Kd.S_below (zzS a3.out) hb);have d0:=zzm (Kd.R_below (by (with_reducible repeat (first|apply Kd.R_alloc|apply Kd.R_drewN|apply Kd.R_drew));exact b8.out) hb);have d1:=zzm (Kd.S_below (zzS g2.out) hb);have d2:=zzm (zzh (g:=a8) (o:=.cells #[.bool b2,.bool b3,.int .i64 b4,.int .i64 b5,.int .i64 b6,.slice d3 a9.length d4] 38 (0,0)) (zzE a0.out) hb);have e2:=zzm (zzh (g:=a4) (o:=.cells #[.bool d5,.bool d7,.int .i64 d8,.int .i64 d9,.int .i64 e0,.slice e8 d6.length e6] 26 (0,0)) (zzE a2.out) hb);have h0:=zzm (zzp zzh2 hb);clear a5 b9 a1 a3 b8 g2 a0 a2 HB;have a5:=a6;have b9:=a7;have a1:=b0;have a3:=b1;have b8:=d0;have g2:=d1;have a0:=d2;have a2:=e2;have HB:=h0;clear a6 a7 b0 b1 d0 d1 d2 e2 h0
        (try clear hb)
        (try clear hb2)
        (try clear hk)
        (try clear hi);refine hK.out _ _ ⟨(zzk a2.out 0).trans rfl,(zzk a2.out 1).trans rfl,(zzk a2.out 2).trans rfl,(zzk a2.out 3).trans rfl,(zzk a2.out 4).trans rfl,(zzk a2.out 5).trans rfl,(zzk a0.out 0).trans rfl,(zzk a0.out 1).trans rfl,(zzk a0.out 2).trans rfl,(zzk a0.out 3).trans rfl,(zzk a0.out 4).trans rfl,(zzk a0.out 5).trans rfl⟩ (fun g3=>?_);clear hK K;refine zzO 62 ?_
        refine pure_ (i:=4) (N:=some 63) (v:=?_) (a':=?_) (zzB 5 31) rfl rfl (by kernel_rfl) (fun _ _ _ h=>h) (Or.inl ⟨by rfl,?_⟩) ?_ ?_;rotate_left
        ·
         intro w';go_simp;with_reducible rfl
        rotate_left
        ·
         simp only [zzJ];rfl
        refine done_ (by kernel_rfl) ?_;go_upto_region 21 with (first|((with_reducible refine gate_callee (f:=18) rfl ?_);refine goesL_ (some 66) rfl rfl Try.func18 (by kernel_rfl) rfl #[.slice h6 e3.length h4,.int .i64 1] rfl zzM2 ?_;(with_reducible refine (Qg.calls g7 (fun k_=>some k_=(.slice h6 e3.length h4:Value).ownBlock) (.slice h6 e3.length h4) e3 1 x9 G8 w _ ?side1 ?side2 J2.out).mono ?_);(case side1=>repeat (first|(with_reducible first|exact HB.out|apply zza|apply zzb|apply zzc|refine zzd ?_ k3.out|refine zzd ?_ A1.out)|exact HB.out));(case side2=>exact Kd.R_tight rfl b9.out);rintro e O7 ⟨rfl,hy0,hb,hkp⟩;refine ⟨_,rfl,?_⟩;have a6:=zzm (Kd.R_mono (ok':=fun k_=>some k_≠(.slice h6 e3.length h4:Value).ownBlock∧some k_≠(j9:Value).ownBlock∧some k_≠(.slice q5 h9.length q6:Value).ownBlock) (Kd.R_keptB (a5.out) hkp (fun k_ hk_ hs_=>(hk_.1.1) hs_)) (fun k_ hk_=>⟨hk_.1.1.1,hk_.1.1.2,hk_.1.2⟩));have a7:=zzm (Kd.R_reok rfl hy0 (fun k_ e_=>b9.out.1 k_ e_));have b0:=zzm (Kd.R_mono (ok':=fun k_=>some k_≠(j4:Value).ownBlock∧some k_≠(.slice h6 e3.length h4:Value).ownBlock∧some k_≠(.slice q5 h9.length q6:Value).ownBlock) (Kd.R_keptB (a1.out) hkp (fun k_ hk_ hs_=>(hk_.1.2) hs_)) (fun k_ hk_=>⟨hk_.1.1.1,hk_.1.1.2,hk_.1.2⟩));have b1:=zzm (Kd.S_mono (ok':=fun k_=>some k_≠(.slice C8 k6.length C9:Value).ownBlock) (Kd.S_keptB ((Kd.S_apart' a3.out (Kd.R_typed b9.out) (by decide))) hkp (fun k_ hk_ hs_=>(hk_.2) hs_)) (fun k_ hk_=>hk_.1.1.2));have d0:=zzm (blk_kept (zzE a0.out) hkp (fun hs_=>(fun e_=>(Kd.R_ne b9.out a0.out (by decide)) e_) hs_));have d1:=zzm (blk_kept (zzE a2.out) hkp (fun hs_=>(fun e_=>(Kd.R_ne b9.out a2.out (by decide)) e_) hs_));have d2:=zzm (Kd.R_mono (ok':=fun k_=>some k_≠(j4:Value).ownBlock∧some k_≠(.slice h6 e3.length h4:Value).ownBlock∧some k_≠(j9:Value).ownBlock) (Kd.R_keptB (b8.out) hkp (fun k_ hk_ hs_=>(hk_.1.2) hs_)) (fun k_ hk_=>⟨hk_.1.1.1.2,hk_.1.1.2,hk_.1.2⟩));have e2:=zzm (Kd.S_mono (ok':=fun k_=>some k_≠(.slice e8 d6.length e6:Value).ownBlock) (Kd.S_keptB ((Kd.S_apart' g2.out (Kd.R_typed b9.out) (by decide))) hkp (fun k_ hk_ hs_=>(hk_.2) hs_)) (fun k_ hk_=>hk_.1.1.2));have h0:=zzm (hb);clear a5 b9 a1 a3 a0 a2 b8 g2 HB;have a5:=a6;have b9:=a7;have a1:=b0;have a3:=b1;have a0:=d0;have a2:=d1;have b8:=d2;have g2:=e2;have HB:=h0;clear a6 a7 b0 b1 d0 d1 d2 e2 h0;(try clear hb);(try clear hkp);(try clear hy0);have K7:=r1.out;have K8:=h1.out;obtain ⟨v6,v7,v8,v9,w0,w1,w2,w3,w4,w6,w7,w9⟩:=zzc6 a2.out)|((with_reducible refine gate_callee (f:=19) rfl ?_);refine goesL_ (some 69) rfl rfl Try.func19 (by kernel_rfl) rfl #[.agg #[.bool d5,.bool d7,.int .i64 d8,.int .i64 d9,.int .i64 e0,.slice e8 d6.length e6],.int .i64 x9] rfl zzM2 ?_;(with_reducible refine (Q9.calls d5 d7 d8 d9 e0 _ (.slice e8 d6.length e6) d6 x9 k7 w _ ?side1 (a3.out) J3.out).mono ?_);(case side1=>repeat (first|(with_reducible first|exact HB.out|apply zza|apply zzb|apply zzc|refine zzd ?_ k3.out|refine zzd ?_ A1.out)|exact HB.out));rintro e J5 ⟨rfl,hb,hkp⟩;refine ⟨_,rfl,?_⟩;have a6:=zzm (Kd.R_mono (ok':=fun k_=>some k_≠(.slice h6 e3.length h4:Value).ownBlock∧some k_≠(j9:Value).ownBlock∧some k_≠(.slice q5 h9.length q6:Value).ownBlock) (R_keptT ((Kd.R_apart' a5.out (Kd.S_typed a3.out) (by decide))) hkp (by decide)) (fun k_ hk_=>⟨hk_.1.1.1,hk_.1.1.2.1,hk_.1.1.2.2⟩));have a7:=zzm (Kd.R_mono (ok':=fun k_=>some k_≠(j4:Value).ownBlock∧some k_≠(j9:Value).ownBlock∧some k_≠(.slice q5 h9.length q6:Value).ownBlock) (R_keptT ((Kd.R_apart' b9.out (Kd.S_typed a3.out) (by decide))) hkp (by decide)) (fun k_ hk_=>⟨hk_.1.1.1.1,hk_.1.1.1.2,hk_.1.1.2⟩));have b0:=zzm (Kd.R_mono (ok':=fun k_=>some k_≠(j4:Value).ownBlock∧some k_≠(.slice h6 e3.length h4:Value).ownBlock∧some k_≠(.slice q5 h9.length q6:Value).ownBlock) (R_keptT ((Kd.R_apart' a1.out (Kd.S_typed a3.out) (by decide))) hkp (by decide)) (fun k_ hk_=>⟨hk_.1.1.1,hk_.1.1.2.1,hk_.1.1.2.2⟩));have b1:=zzm (blk_keptT (zzE a0.out) hkp (by decide));have d0:=zzm (blk_keptT (zzE a2.out) hkp (by decide));have d1:=zzm (Kd.R_mono (ok':=fun k_=>some k_≠(j4:Value).ownBlock∧some k_≠(.slice h6 e3.length h4:Value).ownBlock∧some k_≠(j9:Value).ownBlock) (R_keptT ((Kd.R_apart' b8.out (Kd.S_typed a3.out) (by decide))) hkp (by decide)) (fun k_ hk_=>⟨hk_.1.1.1,hk_.1.1.2.1,hk_.1.1.2.2⟩));have d2:=zzm (Kd.S_nil k75 75 J5 w.heap.size (fun _=>True));have e2:=zzm (hb);clear a5 b9 a1 a0 a2 b8 g2 HB a3;have a5:=a6;have b9:=a7;have a1:=b0;have a0:=b1;have a2:=d0;have b8:=d1;have g2:=d2;have HB:=e2;clear a6 a7 b0 b1 d0 d1 d2 e2;(try clear hb);(try clear hkp)))
        (try simp only [Act.put,zzq,zzr,zzs]);go_cut [82] (fun J6 wc=>∃ (kq:Nat) (m4:Bool),J6 = .bool m4∧Aside0 (laws_FnExactProducersPut.j1 kq l0 e5 g5 e1 m4 b2 b3 b4 b5 b6 a9=some r)∧Aside0 (kq≤g7)∧Aside0 (Kd.R k67 67 wc w.heap.size (fun k_=>some k_≠(j9:Value).ownBlock) j4 e5)∧Aside0 (Kd.R k67 67 wc w.heap.size (fun k_=>some k_≠(j4:Value).ownBlock) j9 e1)∧Aside0 (wc.heap[a8]? = some (.cells #[.bool b2,.bool b3,.int .i64 b4,.int .i64 b5,.int .i64 b6,(.slice d3 a9.length d4)] 38 (0,0)))∧Aside0 (Below w.heap.size w wc))
        case first=>
         have H:=z2.out;clear z2;by_cases r2:k7 < 0
         ·
          rw [if_pos r2] at H;have k5:decide (k7 < 0)=true:=decide_eq_true r2;clear r2
          (first|rw [k5]|(simp only [i64_w,i32_w];rw [k5])|skip);have H':=zzm H;clear H;go_wp2;go_meet
          case rel=>exact ⟨_,(true),(by first|rfl|(simp;done)|(simp [*];done)),H',⟨by have:=HJ16.out;first|omega|exact Nat.le_refl _⟩,⟨by (with_reducible repeat (first|apply Kd.R_alloc|apply Kd.R_drewN|apply Kd.R_drew));exact Kd.R_mono a5.out (fun _ hk=>hk.2.1)⟩,⟨by (with_reducible repeat (first|apply Kd.R_alloc|apply Kd.R_drewN|apply Kd.R_drew));exact Kd.R_mono a1.out (fun _ hk=>hk.1)⟩,⟨zzE a0.out⟩,⟨zzh3⟩⟩
         ·
          rw [if_neg r2] at H;have k5:decide (k7 < 0)=false:=decide_eq_false r2;clear r2
          (first|rw [k5]|(simp only [i64_w,i32_w];rw [k5])|skip);obtain ⟨t8,F7,H⟩:=zzG H;by_cases x0:t8=true
          ·
           subst x0;replace H:=zzIt H;have H':=zzm H;clear H;obtain ⟨L3,L4,eo68⟩:=Kd.R_slice a1.out;subst eo68;obtain ⟨L5,L6,eo69⟩:=Kd.R_slice a5.out;subst eo69;go_wp2_with (first|(go_at_call 16;(with_reducible refine (Qd.calls g7 _ _ e1 _ _ e5 true _ ?side1 ?side2 ?side3 ?side4 F7.out).mono ?_);(case side1=>repeat (first|exact (Kd.R_reads' a1.out).2.2|(with_reducible refine Kd.C_alloc ?_ _)|(with_reducible refine Kd.C_drewN ?_ _)|(with_reducible refine Kd.C_drew ?_)));(case side2=>exact (Kd.R_reads' a1.out).2.1);(case side3=>repeat (first|exact (Kd.R_reads' a5.out).2.2|(with_reducible refine Kd.C_alloc ?_ _)|(with_reducible refine Kd.C_drewN ?_ _)|(with_reducible refine Kd.C_drew ?_)));(case side4=>exact (Kd.R_reads' a5.out).2.1);rintro e O8 ⟨rfl,hb⟩;have a6:=zzm (Kd.R_below (by (with_reducible repeat (first|apply Kd.R_alloc|apply Kd.R_drewN|apply Kd.R_drew));exact a5.out) hb);have a7:=zzm (Kd.R_below (by (with_reducible repeat (first|apply Kd.R_alloc|apply Kd.R_drewN|apply Kd.R_drew));exact b9.out) hb);have b0:=zzm (Kd.R_below (by (with_reducible repeat (first|apply Kd.R_alloc|apply Kd.R_drewN|apply Kd.R_drew));exact a1.out) hb);have b1:=zzm (Kd.R_below (by (with_reducible repeat (first|apply Kd.R_alloc|apply Kd.R_drewN|apply Kd.R_drew));exact b8.out) hb);have d0:=zzm (Kd.S_below (zzS g2.out) hb);have d1:=zzm (zzh (g:=a8) (o:=.cells #[.bool b2,.bool b3,.int .i64 b4,.int .i64 b5,.int .i64 b6,.slice d3 a9.length d4] 38 (0,0)) (zzE a0.out) hb);have d2:=zzm (zzh (g:=a4) (o:=.cells #[.bool d5,.bool d7,.int .i64 d8,.int .i64 d9,.int .i64 e0,.slice e8 d6.length e6] 26 (0,0)) (zzE a2.out) hb);have e2:=zzm (zzp zzh2 hb);clear a5 b9 a1 b8 g2 a0 a2 HB;have a5:=a6;have b9:=a7;have a1:=b0;have b8:=b1;have g2:=d0;have a0:=d1;have a2:=d2;have HB:=e2;clear a6 a7 b0 b1 d0 d1 d2 e2;(try clear hb);(try clear hb2);(try clear hk);(try clear hi)));go_meet
           case rel=>exact ⟨_,((k4 != g5)),(by first|rfl|(simp;done)|(simp [*];done)),H',⟨by have:=HJ16.out;first|omega|exact Nat.le_refl _⟩,⟨by (with_reducible repeat (first|apply Kd.R_alloc|apply Kd.R_drewN|apply Kd.R_drew));exact Kd.R_mono a5.out (fun _ hk=>hk.2.1)⟩,⟨by (with_reducible repeat (first|apply Kd.R_alloc|apply Kd.R_drewN|apply Kd.R_drew));exact Kd.R_mono a1.out (fun _ hk=>hk.1)⟩,⟨zzE a0.out⟩,⟨zzh3⟩⟩
          ·
           replace x0:=Bool.eq_false_iff.mpr x0;subst x0;replace H:=zzIf H;have H':=zzm H;clear H;obtain ⟨L7,L8,eo71⟩:=Kd.R_slice a1.out;subst eo71;obtain ⟨L9,M0,eo72⟩:=Kd.R_slice a5.out;subst eo72;go_wp2_with (first|(go_at_call 16;(with_reducible refine (Qd.calls g7 _ _ e1 _ _ e5 false _ ?side1 ?side2 ?side3 ?side4 F7.out).mono ?_);(case side1=>repeat (first|exact (Kd.R_reads' a1.out).2.2|(with_reducible refine Kd.C_alloc ?_ _)|(with_reducible refine Kd.C_drewN ?_ _)|(with_reducible refine Kd.C_drew ?_)));(case side2=>exact (Kd.R_reads' a1.out).2.1);(case side3=>repeat (first|exact (Kd.R_reads' a5.out).2.2|(with_reducible refine Kd.C_alloc ?_ _)|(with_reducible refine Kd.C_drewN ?_ _)|(with_reducible refine Kd.C_drew ?_)));(case side4=>exact (Kd.R_reads' a5.out).2.1);rintro e O9 ⟨rfl,hb⟩;have a6:=zzm (Kd.R_below (by (with_reducible repeat (first|apply Kd.R_alloc|apply Kd.R_drewN|apply Kd.R_drew));exact a5.out) hb);have a7:=zzm (Kd.R_below (by (with_reducible repeat (first|apply Kd.R_alloc|apply Kd.R_drewN|apply Kd.R_drew));exact b9.out) hb);have b0:=zzm (Kd.R_below (by (with_reducible repeat (first|apply Kd.R_alloc|apply Kd.R_drewN|apply Kd.R_drew));exact a1.out) hb);have b1:=zzm (Kd.R_below (by (with_reducible repeat (first|apply Kd.R_alloc|apply Kd.R_drewN|apply Kd.R_drew));exact b8.out) hb);have d0:=zzm (Kd.S_below (zzS g2.out) hb);have d1:=zzm (zzh (g:=a8) (o:=.cells #[.bool b2,.bool b3,.int .i64 b4,.int .i64 b5,.int .i64 b6,.slice d3 a9.length d4] 38 (0,0)) (zzE a0.out) hb);have d2:=zzm (zzh (g:=a4) (o:=.cells #[.bool d5,.bool d7,.int .i64 d8,.int .i64 d9,.int .i64 e0,.slice e8 d6.length e6] 26 (0,0)) (zzE a2.out) hb);have e2:=zzm (zzp zzh2 hb);clear a5 b9 a1 b8 g2 a0 a2 HB;have a5:=a6;have b9:=a7;have a1:=b0;have b8:=b1;have g2:=d0;have a0:=d1;have a2:=d2;have HB:=e2;clear a6 a7 b0 b1 d0 d1 d2 e2;(try clear hb);(try clear hb2);(try clear hk);(try clear hi)));go_meet
           case rel=>exact ⟨_,(true),(by first|rfl|(simp;done)|(simp [*];done)),H',⟨by have:=HJ16.out;first|omega|exact Nat.le_refl _⟩,⟨by (with_reducible repeat (first|apply Kd.R_alloc|apply Kd.R_drewN|apply Kd.R_drew));exact Kd.R_mono a5.out (fun _ hk=>hk.2.1)⟩,⟨by (with_reducible repeat (first|apply Kd.R_alloc|apply Kd.R_drewN|apply Kd.R_drew));exact Kd.R_mono a1.out (fun _ hk=>hk.1)⟩,⟨zzE a0.out⟩,⟨zzh3⟩⟩
        case rest=>
         clear z2;try clear c1
         try clear p2
         try clear c3
         try clear c4
         try clear x2
         try clear c5
         try clear c6
         try clear c7
         try clear x3
         try clear c8
         try clear E9
         try clear F0
         try clear F1
         try clear F2
         try clear F3
         try clear J7
         try clear J8
         try clear J9
         try clear F4
         try clear t7
         try clear v3
         try clear v4
         try clear v5
         try clear K0
         try clear r2
         try clear k5
         try clear x0
         try clear m8
         try clear m9
         try clear n0
         try clear n1
         try clear n2
         try clear n3
         try clear o0
         try clear o1
         try clear o2
         try clear o3
         try clear o4
         try clear o5
         try clear p3
         try clear p4
         try clear p5
         try clear p6
         try clear p7
         try clear p8
         try clear v6
         try clear v7
         try clear v8
         try clear v9
         try clear w0
         try clear w1
         try clear r4
         try clear r5
         try clear r6
         try clear r7
         try clear r8
         try clear r9
         try clear n4
         try clear n5
         try clear n6
         try clear n7
         try clear n8
         try clear n9
         try clear o6
         try clear o7
         try clear o8
         try clear o9
         try clear p0
         try clear p1
         try clear p9
         try clear q0
         try clear q1
         try clear q2
         try clear q3
         try clear q4
         try clear w2
         try clear w3
         try clear w4
         try clear w6
         try clear w7
         try clear w9
         try clear t0
         try clear t1
         try clear t2
         try clear t3
         try clear t4
         try clear t5
         try clear p2
         obtain ⟨kq,m4,rfl,HA,HJ52,a5,a1,a0,HB⟩:=hcut;cases kq with
         | zero=>exact absurd HA.out (by simp [laws_FnExactProducersPut.j1])
         | succ g6=>
          have H:=HA.out;clear HA;simp only [laws_FnExactProducersPut.j1] at H;by_cases y8:m4=true
          ·
           subst y8;replace H:=zzIt H;obtain rfl:=Option.some.inj H;go_wp2;go_ret;exact ⟨zzR,zzh3⟩
          ·
           replace y8:=Bool.eq_false_iff.mpr y8;subst y8;replace H:=zzIf H;replace H:=zzH H;obtain ⟨⟨j5,g1⟩,D0,H⟩:=H;replace H:((Qh.f g6 g1 1).bind fun k0=>(if k0 < 0 then (some false) else (if k0=j5 then ((Qe.f g6 l0).bind fun q7=>((Qy.f g6 b2 b3 b4 b5 b6 a9).bind fun k9=>((Qr.f g6 q7 k9.1 k9.2.1 k9.2.2.1 k9.2.2.2.1 k9.2.2.2.2.1 k9.2.2.2.2.2).bind fun m5=>((Qd.f g6 m5.1 e5).bind fun l9=>(if l9=true then (laws_FnExactProducersPut.j2 g6 g1 j5 (m5.2 != g5)) else (laws_FnExactProducersPut.j2 g6 g1 j5 true)))))) else (some false))))=some r:=H;have D1:=zzm D0;clear D0;obtain ⟨k0,D2,H⟩:=zzG H;by_cases t9:k0 < 0
           ·
            rw [if_pos t9] at H;have A2:decide (k0 < 0)=true:=decide_eq_true t9;clear t9;obtain rfl:=Option.some.inj H;obtain ⟨v0,v1,eo78⟩:=Kd.R_slice a1.out;subst eo78;go_wp2_with (first|((with_reducible refine gate_callee (f:=18) rfl ?_);refine goesL_ (some 85) rfl rfl Try.func18 (by kernel_rfl) rfl #[.slice v0 e1.length v1,.int .i64 1] rfl zzM2 ?_;(with_reducible refine (Qg.calls g6 (fun k_=>some k_=(.slice v0 e1.length v1:Value).ownBlock) (.slice v0 e1.length v1) e1 1 j5 g1 w _ ?side1 ?side2 D1.out).mono ?_);(case side1=>repeat (first|(with_reducible first|exact HB.out|apply zza|apply zzb|apply zzc|refine zzd ?_ k3.out)|exact HB.out));(case side2=>exact Kd.R_tight rfl a1.out);rintro e P0 ⟨rfl,hy0,hb,hkp⟩;refine ⟨_,rfl,?_⟩;have a6:=zzm (Kd.R_mono (ok':=fun k_=>some k_≠(.slice v0 e1.length v1:Value).ownBlock) (Kd.R_keptB (a5.out) hkp (fun k_ hk_ hs_=>(hk_) hs_)) (fun k_ hk_=>hk_.1));have a7:=zzm (Kd.R_reok rfl hy0 (fun k_ e_=>a1.out.1 k_ e_));have b0:=zzm (blk_kept (zzE a0.out) hkp (fun hs_=>(fun e_=>(Kd.R_ne a1.out a0.out (by decide)) e_) hs_));have b1:=zzm (hb);clear a5 a1 a0 HB;have a5:=a6;have a1:=a7;have a0:=b0;have HB:=b1;clear a6 a7 b0 b1;(try clear hb);(try clear hkp);(try clear hy0))|((with_reducible refine gate_callee (f:=20) rfl ?_);refine goesL_ (some 88) rfl rfl Try.func20 (by kernel_rfl) rfl #[.slice v0 g1.length v1,.int .i64 1] rfl (by (try simp only [map_toArray,map_cons,map_nil]);first|done|(rw [show g1.length=e1.length from (Kd.R_reads' a1.out).1.symm] <;> rfl)|rfl|(simp only [length_drop,length_take];rfl)) ?_;(with_reducible refine (Qh.calls g6 _ _ g1 1 k0 _ ?side1 ?side2 D2.out).mono ?_);(case side1=>repeat (first|exact (Kd.R_reads' a1.out).2.2|(with_reducible refine Kd.C_alloc ?_ _)|(with_reducible refine Kd.C_drewN ?_ _)|(with_reducible refine Kd.C_drew ?_)));(case side2=>rw [show g1.length=e1.length from (Kd.R_reads' a1.out).1.symm];exact (Kd.R_reads' a1.out).2.1);rintro e w' ⟨rfl,⟨nd,rfl⟩⟩;refine ⟨_,rfl,?_⟩));go_ret;exact ⟨zzR,zzh3⟩
           ·
            rw [if_neg t9] at H;have A2:decide (k0 < 0)=false:=decide_eq_false t9;clear t9;by_cases x1:k0=j5
            ·
             rw [if_pos x1] at H;obtain ⟨A4,A5⟩:=zzQ x1;clear x1;obtain ⟨q7,K1,H⟩:=zzG H;replace H:=zzH H;obtain ⟨⟨y0,y1,y2,y3,y4,y5⟩,D3,H⟩:=H;replace H:((Qr.f g6 q7 y0 y1 y2 y3 y4 y5).bind fun m5=>((Qd.f g6 m5.1 e5).bind fun l9=>(if l9=true then (laws_FnExactProducersPut.j2 g6 g1 j5 (m5.2 != g5)) else (laws_FnExactProducersPut.j2 g6 g1 j5 true))))=some r:=H;have K2:=zzm D3;clear D3;replace H:=zzH H;obtain ⟨⟨q8,z3⟩,D4,H⟩:=H;replace H:((Qd.f g6 q8 e5).bind fun l9=>(if l9=true then (laws_FnExactProducersPut.j2 g6 g1 j5 (z3 != g5)) else (laws_FnExactProducersPut.j2 g6 g1 j5 true)))=some r:=H;have K3:=zzm D4;clear D4;have z4:=zzm H;clear H;obtain ⟨j7,j8,eo85⟩:=Kd.R_slice a1.out;subst eo85;try go_wp2_with (first|((with_reducible refine gate_callee (f:=18) rfl ?_);refine goesL_ (some 85) rfl rfl Try.func18 (by kernel_rfl) rfl #[.slice j7 e1.length j8,.int .i64 1] rfl zzM2 ?_;(with_reducible refine (Qg.calls g6 (fun k_=>some k_=(.slice j7 e1.length j8:Value).ownBlock) (.slice j7 e1.length j8) e1 1 j5 g1 w _ ?side1 ?side2 D1.out).mono ?_);(case side1=>repeat (first|(with_reducible first|exact HB.out|apply zza|apply zzb|apply zzc|refine zzd ?_ k3.out)|exact HB.out));(case side2=>exact Kd.R_tight rfl a1.out);rintro e r3 ⟨rfl,hy0,hb,hkp⟩;refine ⟨_,rfl,?_⟩;have a6:=zzm (Kd.R_mono (ok':=fun k_=>some k_≠(.slice j7 e1.length j8:Value).ownBlock) (Kd.R_keptB (a5.out) hkp (fun k_ hk_ hs_=>(hk_) hs_)) (fun k_ hk_=>hk_.1));have a7:=zzm (Kd.R_reok rfl hy0 (fun k_ e_=>a1.out.1 k_ e_));have b0:=zzm (blk_kept (zzE a0.out) hkp (fun hs_=>(fun e_=>(Kd.R_ne a1.out a0.out (by decide)) e_) hs_));have b1:=zzm (hb);clear a5 a1 a0 HB;have a5:=a6;have a1:=a7;have a0:=b0;have HB:=b1;clear a6 a7 b0 b1;(try clear hb);(try clear hkp);(try clear hy0))|((with_reducible refine gate_callee (f:=20) rfl ?_);refine goesL_ (some 88) rfl rfl Try.func20 (by kernel_rfl) rfl #[.slice j7 g1.length j8,.int .i64 1] rfl (by (try simp only [map_toArray,map_cons,map_nil]);first|done|(rw [show g1.length=e1.length from (Kd.R_reads' a1.out).1.symm] <;> rfl)|rfl|(simp only [length_drop,length_take];rfl)) ?_;(with_reducible refine (Qh.calls g6 _ _ g1 1 k0 _ ?side1 ?side2 D2.out).mono ?_);(case side1=>repeat (first|exact (Kd.R_reads' a1.out).2.2|(with_reducible refine Kd.C_alloc ?_ _)|(with_reducible refine Kd.C_drewN ?_ _)|(with_reducible refine Kd.C_drew ?_)));(case side2=>rw [show g1.length=e1.length from (Kd.R_reads' a1.out).1.symm];exact (Kd.R_reads' a1.out).2.1);rintro e w' ⟨rfl,⟨nd,rfl⟩⟩;refine ⟨_,rfl,?_⟩))
             (try (rw [drewN_self r3];generalize hq_:World.drewN r3 _=r3;have a6:Aside0 (Kd.R k67 67 r3 w.heap.size (fun k_=>some k_≠(j4:Value).ownBlock) (.slice j7 e1.length j8) g1):=⟨by rw [← hq_];exact (by (with_reducible repeat (first|apply Kd.R_alloc|apply Kd.R_drewN|apply Kd.R_drew));exact a1.out)⟩;have a7:Aside0 (Kd.R k67 67 r3 w.heap.size (fun k_=>some k_≠(.slice j7 e1.length j8:Value).ownBlock) j4 e5):=⟨by rw [← hq_];exact (by (with_reducible repeat (first|apply Kd.R_alloc|apply Kd.R_drewN|apply Kd.R_drew));exact a5.out)⟩;have b0:Aside0 (r3.heap[a8]? = some (.cells #[.bool b2,.bool b3,.int .i64 b4,.int .i64 b5,.int .i64 b6,.slice d3 a9.length d4] 38 (0,0))):=⟨by rw [← hq_];exact (zzE a0.out)⟩;have b1:Aside0 (Below w.heap.size w r3):=⟨by rw [← hq_];exact zzh2⟩;clear a1 a5 a0 HB hq_;have a1:=a6;have a5:=a7;have a0:=b0;have HB:=b1;clear a6 a7 b0 b1));have a6:=zzm (Kd.R_drew a5.out);have a7:=zzm (Kd.R_drew a1.out);have b0:=zzm (zzg a0.out);have b1:=zzm (zzc HB.out);clear a5 a1 a0 HB;have a5:=a6;have a1:=a7;have a0:=b0;have HB:=b1;clear a6 a7 b0 b1;refine start_ (n:=10) (S:=fun w'=>w'.cell? ⟨a8,0,none⟩=some (.bool b2)∧w'.cell? ⟨a8,1,none⟩=some (.bool b3)∧w'.cell? ⟨a8,2,none⟩=some (.int .i64 b4)∧w'.cell? ⟨a8,3,none⟩=some (.int .i64 b5)∧w'.cell? ⟨a8,4,none⟩=some (.int .i64 b6)∧w'.cell? ⟨a8,5,none⟩=some (.slice d3 a9.length d4)) (ds:=[]) (zzB 10 0) (by kernel_rfl) rfl rfl ⟨(zzk a0.out 0).trans rfl,(zzk a0.out 1).trans rfl,(zzk a0.out 2).trans rfl,(zzk a0.out 3).trans rfl,(zzk a0.out 4).trans rfl,(zzk a0.out 5).trans rfl⟩ (fun g3=>?_);refine with_tabW laws_FnExactProducersPut.tab31 laws_FnExactProducersPut.bits31 (fun h3 B1=>?_);generalize r3.drew=P1 at a5 a1 a0 HB g3 ⊢;refine zzP 0 95 10 1 h3 ?_
             refine zzT 2 97 10 5 h3 B1 g3 ?_
             refine one_ (i:=1) (N:=some 96) (zzB 10 7) rfl rfl (one_of h3.out (by kernel_rfl)) (by decide) (fun K hK=>?_);refine goes_ Try.func14 (by kernel_rfl) rfl #[.slice A0 l0.length c0] (by rfl) rfl rfl zzM2 ?_;with_reducible refine (Qe.calls g6 _ _ l0 q7 _ ?side1 ?side2 K1.out).mono ?_
             (case side1=>exact zzcb m1 HB)
             (case side2=>exact m2.out);rintro e P2 ⟨M1,rfl,ho0,hb⟩;refine ⟨_,rfl,?_⟩;have a6:=zzm (Kd.R_elder' (by (with_reducible repeat (first|apply Kd.R_alloc|apply Kd.R_drewN|apply Kd.R_drew));exact a5.out) (Kd.R_base ho0) hb);have a7:=zzm (Kd.R_elder' (by (with_reducible repeat (first|apply Kd.R_alloc|apply Kd.R_drewN|apply Kd.R_drew));exact a1.out) (Kd.R_base ho0) hb);have b0:=zzm (Kd.R_lower (Kd.R_new' (Kd.R_new' ho0 (Kd.R_lt (by (with_reducible repeat (first|apply Kd.R_alloc|apply Kd.R_drewN|apply Kd.R_drew));exact a5.out))) (Kd.R_lt (by (with_reducible repeat (first|apply Kd.R_alloc|apply Kd.R_drewN|apply Kd.R_drew));exact a1.out))) (zzo zzh2));have b1:=zzm (zzh (g:=a8) (o:=.cells #[.bool b2,.bool b3,.int .i64 b4,.int .i64 b5,.int .i64 b6,.slice d3 a9.length d4] 38 (0,0)) (zzE a0.out) hb);have d0:=zzm (zzp zzh2 hb);clear a5 a1 a0 HB;have a5:=a6;have a1:=a7;have g9:=b0;have a0:=b1;have HB:=d0;clear a6 a7 b0 b1 d0
             (try clear hb)
             (try clear hb2)
             (try clear hk)
             (try clear hi)
             (try clear ho0);refine hK.out _ _ ⟨(zzk a0.out 0).trans rfl,(zzk a0.out 1).trans rfl,(zzk a0.out 2).trans rfl,(zzk a0.out 3).trans rfl,(zzk a0.out 4).trans rfl,(zzk a0.out 5).trans rfl⟩ (fun g3=>?_);clear hK K;refine zzO 96 ?_
             refine one_ (i:=3) (N:=some 98) (zzB 10 15) rfl rfl (one_of h3.out (by kernel_rfl)) (by decide) (fun K hK=>?_);refine goes_ Try.func15 (by kernel_rfl) rfl #[.agg #[.bool b2,.bool b3,.int .i64 b4,.int .i64 b5,.int .i64 b6,.slice d3 a9.length d4]] (by rfl) rfl rfl zzM2 ?_;with_reducible refine (Qy.calls g6 b2 b3 b4 b5 b6 _ _ a9 y0 y1 y2 y3 y4 y5 _ ?side1 ?side2 K2.out).mono ?_
             (case side1=>exact zzcb k1 HB)
             (case side2=>exact k2.out);rintro e P3 ⟨M2,rfl,ho0,hb⟩;refine ⟨_,rfl,?_⟩;have a6:=zzm (Kd.R_below (by (with_reducible repeat (first|apply Kd.R_alloc|apply Kd.R_drewN|apply Kd.R_drew));exact a5.out) hb);have a7:=zzm (Kd.R_below (by (with_reducible repeat (first|apply Kd.R_alloc|apply Kd.R_drewN|apply Kd.R_drew));exact a1.out) hb);have b0:=zzm (Kd.R_below (by (with_reducible repeat (first|apply Kd.R_alloc|apply Kd.R_drewN|apply Kd.R_drew));exact g9.out) hb);have b1:=zzm (Kd.S_lower ho0 (zzo zzh2));have d0:=zzm (zzh (g:=a8) (o:=.cells #[.bool b2,.bool b3,.int .i64 b4,.int .i64 b5,.int .i64 b6,.slice d3 a9.length d4] 38 (0,0)) (zzE a0.out) hb);have d1:=zzm (zzp zzh2 hb);clear a5 a1 g9 a0 HB;have a5:=a6;have a1:=a7;have g9:=b0;have h7:=b1;have a0:=d0;have HB:=d1;clear a6 a7 b0 b1 d0 d1
             (try clear hb)
             (try clear hb2)
             (try clear hk)
             (try clear hi)
             (try clear ho0);obtain ⟨H0,H1,eo90⟩:=Kd.R_slice g9.out
             (first|subst eo90|(injection eo90 with f1_ f2_ f3_;have f4_:=f1_.symm;have f5_:=f3_.symm;clear f1_ f2_ f3_;subst f4_;subst f5_));obtain ⟨H2,H3,eo91⟩:=Kd.S_slice h7.out
             (first|subst eo91|(injection eo91 with f1_ f2_ f3_;have f4_:=f1_.symm;have f5_:=f3_.symm;clear f1_ f2_ f3_;subst f4_;subst f5_));refine hK.out _ _ ⟨(zzk a0.out 0).trans rfl,(zzk a0.out 1).trans rfl,(zzk a0.out 2).trans rfl,(zzk a0.out 3).trans rfl,(zzk a0.out 4).trans rfl,(zzk a0.out 5).trans rfl⟩ (fun g3=>?_);clear hK K;refine zzO 98 ?_
             refine one_ (i:=4) (N:=some 99) (zzB 10 31) rfl rfl (one_of h3.out (by kernel_rfl)) (by decide) (fun K hK=>?_);refine goes_ Try.func7 (by kernel_rfl) rfl #[.slice H0 q7.length H1,.agg #[.bool y0,.bool y1,.int .i64 y2,.int .i64 y3,.int .i64 y4,.slice H2 y5.length H3]] (by rfl) rfl rfl zzM2 ?_;with_reducible refine (Qr.calls g6 _ _ q7 y0 y1 y2 y3 y4 _ _ y5 q8 z3 _ ?side1 ?side2 ?side3 ?side4 K3.out).mono ?_
             (case side1=>repeat (first|exact (Kd.R_reads' g9.out).2.2|(with_reducible refine Kd.C_alloc ?_ _)|(with_reducible refine Kd.C_drewN ?_ _)|(with_reducible refine Kd.C_drew ?_)))
             (case side2=>exact (Kd.R_reads' g9.out).2.1)
             (case side3=>repeat (first|exact (Kd.S_reads' h7.out).2.2|(with_reducible refine Kd.C_alloc ?_ _)|(with_reducible refine Kd.C_drewN ?_ _)|(with_reducible refine Kd.C_drew ?_)))
             (case side4=>exact (Kd.S_reads' h7.out).2.1);rintro e P4 ⟨M3,rfl,ho0,hb⟩;refine ⟨_,rfl,?_⟩;have a6:=zzm (Kd.R_elder' (by (with_reducible repeat (first|apply Kd.R_alloc|apply Kd.R_drewN|apply Kd.R_drew));exact a5.out) (Kd.R_base ho0) hb);have a7:=zzm (Kd.R_elder' (by (with_reducible repeat (first|apply Kd.R_alloc|apply Kd.R_drewN|apply Kd.R_drew));exact a1.out) (Kd.R_base ho0) hb);have b0:=zzm (Kd.R_elder' (by (with_reducible repeat (first|apply Kd.R_alloc|apply Kd.R_drewN|apply Kd.R_drew));exact g9.out) (Kd.R_base ho0) hb);have b1:=zzm (Kd.S_below (zzS h7.out) hb);have d0:=zzm (Kd.R_lower (Kd.R_new' (Kd.R_new' (Kd.R_new' ho0 (Kd.R_lt (by (with_reducible repeat (first|apply Kd.R_alloc|apply Kd.R_drewN|apply Kd.R_drew));exact a5.out))) (Kd.R_lt (by (with_reducible repeat (first|apply Kd.R_alloc|apply Kd.R_drewN|apply Kd.R_drew));exact a1.out))) (Kd.R_lt (by (with_reducible repeat (first|apply Kd.R_alloc|apply Kd.R_drewN|apply Kd.R_drew));exact g9.out))) (zzo zzh2));have d1:=zzm (zzh (g:=a8) (o:=.cells #[.bool b2,.bool b3,.int .i64 b4,.int .i64 b5,.int .i64 b6,.slice d3 a9.length d4] 38 (0,0)) (zzE a0.out) hb);have d2:=zzm (zzp zzh2 hb);clear a5 a1 g9 h7 a0 HB;have a5:=a6;have a1:=a7;have g9:=b0;have h7:=b1;have h8:=d0;have a0:=d1;have HB:=d2;clear a6 a7 b0 b1 d0 d1 d2
             (try clear hb)
             (try clear hb2)
             (try clear hk)
             (try clear hi)
             (try clear ho0);refine hK.out _ _ ⟨(zzk a0.out 0).trans rfl,(zzk a0.out 1).trans rfl,(zzk a0.out 2).trans rfl,(zzk a0.out 3).trans rfl,(zzk a0.out 4).trans rfl,(zzk a0.out 5).trans rfl⟩ (fun g3=>?_);clear hK K;refine zzO 99 ?_
             refine zzP 5 94 10 63 h3 ?_
             refine zzP 6 100 10 127 h3 ?_
             refine zzP 7 101 10 255 h3 ?_
             refine zzP 8 15 10 511 h3 ?_
             refine zzP 9 16 10 1023 h3 ?_
             refine done_ (done_of h3.out (by kernel_rfl)) ?_;go_upto_region 32 with (fail);go_cut [110] (fun H4 wc=>∃ (kq:Nat) (l1:Bool),H4 = .bool l1∧Aside0 (laws_FnExactProducersPut.j2 kq g1 j5 l1=some r)∧Aside0 (kq≤g6)∧Aside0 (Kd.R k67 67 wc w.heap.size (fun _=>True) (.slice j7 e1.length j8) g1)∧Aside0 (wc.heap[a8]? = some (.cells #[.bool b2,.bool b3,.int .i64 b4,.int .i64 b5,.int .i64 b6,(.slice d3 a9.length d4)] 38 (0,0)))∧Aside0 (Below w.heap.size w wc))
             case first=>
              have H:=z4.out;clear z4;obtain ⟨l9,F8,H⟩:=zzG H;by_cases y9:l9=true
              ·
               subst y9;replace H:=zzIt H;have H':=zzm H;clear H;obtain ⟨H5,H6,eo95⟩:=Kd.R_slice h8.out;subst eo95;obtain ⟨H7,H8,eo96⟩:=Kd.R_slice a5.out;subst eo96;go_wp2_with (first|((with_reducible refine gate_callee (f:=16) rfl ?_);refine goesL_ (some 104) rfl rfl Try.func16 (by kernel_rfl) rfl #[.slice H5 q8.length H6,.slice H7 e5.length H8] rfl zzM2 ?_;(with_reducible refine (Qd.calls g6 _ _ q8 _ _ e5 true _ ?side1 ?side2 ?side3 ?side4 F8.out).mono ?_);(case side1=>repeat (first|exact (Kd.R_reads' h8.out).2.2|(with_reducible refine Kd.C_alloc ?_ _)|(with_reducible refine Kd.C_drewN ?_ _)|(with_reducible refine Kd.C_drew ?_)));(case side2=>exact (Kd.R_reads' h8.out).2.1);(case side3=>repeat (first|exact (Kd.R_reads' a5.out).2.2|(with_reducible refine Kd.C_alloc ?_ _)|(with_reducible refine Kd.C_drewN ?_ _)|(with_reducible refine Kd.C_drew ?_)));(case side4=>exact (Kd.R_reads' a5.out).2.1);rintro e P5 ⟨rfl,hb⟩;refine ⟨_,rfl,?_⟩;have a6:=zzm (Kd.R_below (by (with_reducible repeat (first|apply Kd.R_alloc|apply Kd.R_drewN|apply Kd.R_drew));exact a5.out) hb);have a7:=zzm (Kd.R_below (by (with_reducible repeat (first|apply Kd.R_alloc|apply Kd.R_drewN|apply Kd.R_drew));exact a1.out) hb);have b0:=zzm (Kd.R_below (by (with_reducible repeat (first|apply Kd.R_alloc|apply Kd.R_drewN|apply Kd.R_drew));exact g9.out) hb);have b1:=zzm (Kd.S_below (zzS h7.out) hb);have d0:=zzm (Kd.R_below (by (with_reducible repeat (first|apply Kd.R_alloc|apply Kd.R_drewN|apply Kd.R_drew));exact h8.out) hb);have d1:=zzm (zzh (g:=a8) (o:=.cells #[.bool b2,.bool b3,.int .i64 b4,.int .i64 b5,.int .i64 b6,.slice d3 a9.length d4] 38 (0,0)) (zzE a0.out) hb);have d2:=zzm (zzp zzh2 hb);clear a5 a1 g9 h7 h8 a0 HB;have a5:=a6;have a1:=a7;have g9:=b0;have h7:=b1;have h8:=d0;have a0:=d1;have HB:=d2;clear a6 a7 b0 b1 d0 d1 d2;(try clear hb);(try clear hb2);(try clear hk);(try clear hi)));go_meet
               case rel=>exact ⟨_,((z3 != g5)),(by first|rfl|(simp;done)|(simp [*];done)),H',⟨by have:=HJ16.out;have:=HJ52.out;first|omega|exact Nat.le_refl _⟩,⟨by (with_reducible repeat (first|apply Kd.R_alloc|apply Kd.R_drewN|apply Kd.R_drew));exact Kd.R_mono a1.out (fun _ hk=>trivial)⟩,⟨zzE a0.out⟩,⟨zzh3⟩⟩
              ·
               replace y9:=Bool.eq_false_iff.mpr y9;subst y9;replace H:=zzIf H;have H':=zzm H;clear H;obtain ⟨H9,I0,eo98⟩:=Kd.R_slice h8.out;subst eo98;obtain ⟨I1,I2,eo99⟩:=Kd.R_slice a5.out;subst eo99;go_wp2_with (first|((with_reducible refine gate_callee (f:=16) rfl ?_);refine goesL_ (some 104) rfl rfl Try.func16 (by kernel_rfl) rfl #[.slice H9 q8.length I0,.slice I1 e5.length I2] rfl zzM2 ?_;(with_reducible refine (Qd.calls g6 _ _ q8 _ _ e5 false _ ?side1 ?side2 ?side3 ?side4 F8.out).mono ?_);(case side1=>repeat (first|exact (Kd.R_reads' h8.out).2.2|(with_reducible refine Kd.C_alloc ?_ _)|(with_reducible refine Kd.C_drewN ?_ _)|(with_reducible refine Kd.C_drew ?_)));(case side2=>exact (Kd.R_reads' h8.out).2.1);(case side3=>repeat (first|exact (Kd.R_reads' a5.out).2.2|(with_reducible refine Kd.C_alloc ?_ _)|(with_reducible refine Kd.C_drewN ?_ _)|(with_reducible refine Kd.C_drew ?_)));(case side4=>exact (Kd.R_reads' a5.out).2.1);rintro e M4 ⟨rfl,hb⟩;refine ⟨_,rfl,?_⟩;have a6:=zzm (Kd.R_below (by (with_reducible repeat (first|apply Kd.R_alloc|apply Kd.R_drewN|apply Kd.R_drew));exact a5.out) hb);have a7:=zzm (Kd.R_below (by (with_reducible repeat (first|apply Kd.R_alloc|apply Kd.R_drewN|apply Kd.R_drew));exact a1.out) hb);have b0:=zzm (Kd.R_below (by (with_reducible repeat (first|apply Kd.R_alloc|apply Kd.R_drewN|apply Kd.R_drew));exact g9.out) hb);have b1:=zzm (Kd.S_below (zzS h7.out) hb);have d0:=zzm (Kd.R_below (by (with_reducible repeat (first|apply Kd.R_alloc|apply Kd.R_drewN|apply Kd.R_drew));exact h8.out) hb);have d1:=zzm (zzh (g:=a8) (o:=.cells #[.bool b2,.bool b3,.int .i64 b4,.int .i64 b5,.int .i64 b6,.slice d3 a9.length d4] 38 (0,0)) (zzE a0.out) hb);have d2:=zzm (zzp zzh2 hb);clear a5 a1 g9 h7 h8 a0 HB;have a5:=a6;have a1:=a7;have g9:=b0;have h7:=b1;have h8:=d0;have a0:=d1;have HB:=d2;clear a6 a7 b0 b1 d0 d1 d2;(try clear hb);(try clear hb2);(try clear hk);(try clear hi)));go_meet
               case rel=>exact ⟨_,(true),(by first|rfl|(simp;done)|(simp [*];done)),H',⟨by have:=HJ16.out;have:=HJ52.out;first|omega|exact Nat.le_refl _⟩,⟨by (with_reducible repeat (first|apply Kd.R_alloc|apply Kd.R_drewN|apply Kd.R_drew));exact Kd.R_mono a1.out (fun _ hk=>trivial)⟩,⟨zzE a0.out⟩,⟨zzh3⟩⟩
             case rest=>
              clear z4;try clear c1
              try clear c2
              try clear p2
              try clear c3
              try clear c4
              try clear x2
              try clear c5
              try clear c6
              try clear c7
              try clear x3
              try clear c8
              try clear c9
              try clear E9
              try clear F0
              try clear F1
              try clear F2
              try clear F3
              try clear J7
              try clear J8
              try clear J9
              try clear P6
              try clear F4
              try clear t7
              try clear v3
              try clear v4
              try clear v5
              try clear K0
              try clear r2
              try clear k5
              try clear x0
              try clear y8
              try clear t9
              try clear A2
              try clear x1
              try clear A4
              try clear A5
              try clear y9
              try clear m8
              try clear m9
              try clear n0
              try clear n1
              try clear n2
              try clear n3
              try clear o0
              try clear o1
              try clear o2
              try clear o3
              try clear o4
              try clear o5
              try clear p3
              try clear p4
              try clear p5
              try clear p6
              try clear p7
              try clear p8
              try clear v6
              try clear v7
              try clear v8
              try clear v9
              try clear w0
              try clear w1
              try clear r4
              try clear r5
              try clear r6
              try clear r7
              try clear r8
              try clear r9
              try clear n4
              try clear n5
              try clear n6
              try clear n7
              try clear n8
              try clear n9
              try clear o6
              try clear o7
              try clear o8
              try clear o9
              try clear p0
              try clear p1
              try clear p9
              try clear q0
              try clear q1
              try clear q2
              try clear q3
              try clear q4
              try clear w2
              try clear w3
              try clear w4
              try clear w6
              try clear w7
              try clear w9
              try clear t0
              try clear t1
              try clear t2
              try clear t3
              try clear t4
              try clear t5
              try clear p2
              obtain ⟨kq,l1,rfl,HA,HJ83,a1,a0,HB⟩:=hcut;have q9:=(Kd.R_reads' a1.out).1;rw [q9] at a1
              (try simp only [q9])
              (try simp only [q9] at a0);cases kq with
              | zero=>exact absurd HA.out (by simp [laws_FnExactProducersPut.j2])
              | succ z5=>
               have H:=HA.out;clear HA;simp only [laws_FnExactProducersPut.j2] at H;by_cases y6:l1=true
               ·
                subst y6;replace H:=zzIt H;obtain rfl:=Option.some.inj H;go_wp2;go_ret;exact ⟨zzR,zzh3⟩
               ·
                replace y6:=Bool.eq_false_iff.mpr y6;subst y6;replace H:=zzIf H;obtain ⟨m0,z6,H⟩:=zzG H;by_cases r0:m0 < 0
                ·
                 rw [if_pos r0] at H;have D5:decide (m0 < 0)=true:=decide_eq_true r0;clear r0;obtain rfl:=Option.some.inj H;go_wp2_with (first|((with_reducible refine gate_callee (f:=20) rfl ?_);refine goesL_ (some 113) rfl rfl Try.func20 (by kernel_rfl) rfl #[.slice j7 g1.length j8,.int .i64 1] rfl zzM2 ?_;(with_reducible refine (Qh.calls z5 _ _ g1 1 m0 _ ?side1 ?side2 z6.out).mono ?_);(case side1=>repeat (first|exact (Kd.R_reads' a1.out).2.2|(with_reducible refine Kd.C_alloc ?_ _)|(with_reducible refine Kd.C_drewN ?_ _)|(with_reducible refine Kd.C_drew ?_)));(case side2=>exact (Kd.R_reads' a1.out).2.1);rintro e w' ⟨rfl,⟨nd,rfl⟩⟩;refine ⟨_,rfl,?_⟩));go_ret;exact ⟨zzR,zzh3⟩
                ·
                 rw [if_neg r0] at H;have D5:decide (m0 < 0)=false:=decide_eq_false r0;clear r0;by_cases v2:m0=j5
                 ·
                  rw [if_pos v2] at H;obtain ⟨D6,D7⟩:=zzQ v2;clear v2;obtain rfl:=Option.some.inj H;go_wp2_with (first|((with_reducible refine gate_callee (f:=20) rfl ?_);refine goesL_ (some 113) rfl rfl Try.func20 (by kernel_rfl) rfl #[.slice j7 g1.length j8,.int .i64 1] rfl zzM2 ?_;(with_reducible refine (Qh.calls z5 _ _ g1 1 m0 _ ?side1 ?side2 z6.out).mono ?_);(case side1=>repeat (first|exact (Kd.R_reads' a1.out).2.2|(with_reducible refine Kd.C_alloc ?_ _)|(with_reducible refine Kd.C_drewN ?_ _)|(with_reducible refine Kd.C_drew ?_)));(case side2=>exact (Kd.R_reads' a1.out).2.1);rintro e w' ⟨rfl,⟨nd,rfl⟩⟩;refine ⟨_,rfl,?_⟩));go_ret;exact ⟨zzR,zzh3⟩
                 ·
                  rw [if_neg v2] at H;obtain ⟨D6,D7⟩:=zzY v2;obtain rfl:=Option.some.inj H;go_wp2_with (first|((with_reducible refine gate_callee (f:=20) rfl ?_);refine goesL_ (some 113) rfl rfl Try.func20 (by kernel_rfl) rfl #[.slice j7 g1.length j8,.int .i64 1] rfl zzM2 ?_;(with_reducible refine (Qh.calls z5 _ _ g1 1 m0 _ ?side1 ?side2 z6.out).mono ?_);(case side1=>repeat (first|exact (Kd.R_reads' a1.out).2.2|(with_reducible refine Kd.C_alloc ?_ _)|(with_reducible refine Kd.C_drewN ?_ _)|(with_reducible refine Kd.C_drew ?_)));(case side2=>exact (Kd.R_reads' a1.out).2.1);rintro e w' ⟨rfl,⟨nd,rfl⟩⟩;refine ⟨_,rfl,?_⟩));go_ret;exact ⟨zzR,zzh3⟩
            ·
             rw [if_neg x1] at H;obtain ⟨A4,A5⟩:=zzY x1;obtain rfl:=Option.some.inj H;obtain ⟨m6,m7,eo105⟩:=Kd.R_slice a1.out;subst eo105;go_wp2_with (first|((with_reducible refine gate_callee (f:=18) rfl ?_);refine goesL_ (some 85) rfl rfl Try.func18 (by kernel_rfl) rfl #[.slice m6 e1.length m7,.int .i64 1] rfl zzM2 ?_;(with_reducible refine (Qg.calls g6 (fun k_=>some k_=(.slice m6 e1.length m7:Value).ownBlock) (.slice m6 e1.length m7) e1 1 j5 g1 w _ ?side1 ?side2 D1.out).mono ?_);(case side1=>repeat (first|(with_reducible first|exact HB.out|apply zza|apply zzb|apply zzc|refine zzd ?_ k3.out)|exact HB.out));(case side2=>exact Kd.R_tight rfl a1.out);rintro e M5 ⟨rfl,hy0,hb,hkp⟩;refine ⟨_,rfl,?_⟩;have a6:=zzm (Kd.R_mono (ok':=fun k_=>some k_≠(.slice m6 e1.length m7:Value).ownBlock) (Kd.R_keptB (a5.out) hkp (fun k_ hk_ hs_=>(hk_) hs_)) (fun k_ hk_=>hk_.1));have a7:=zzm (Kd.R_reok rfl hy0 (fun k_ e_=>a1.out.1 k_ e_));have b0:=zzm (blk_kept (zzE a0.out) hkp (fun hs_=>(fun e_=>(Kd.R_ne a1.out a0.out (by decide)) e_) hs_));have b1:=zzm (hb);clear a5 a1 a0 HB;have a5:=a6;have a1:=a7;have a0:=b0;have HB:=b1;clear a6 a7 b0 b1;(try clear hb);(try clear hkp);(try clear hy0))|((with_reducible refine gate_callee (f:=20) rfl ?_);refine goesL_ (some 88) rfl rfl Try.func20 (by kernel_rfl) rfl #[.slice m6 g1.length m7,.int .i64 1] rfl (by (try simp only [map_toArray,map_cons,map_nil]);first|done|(rw [show g1.length=e1.length from (Kd.R_reads' a1.out).1.symm] <;> rfl)|rfl|(simp only [length_drop,length_take];rfl)) ?_;(with_reducible refine (Qh.calls g6 _ _ g1 1 k0 _ ?side1 ?side2 D2.out).mono ?_);(case side1=>repeat (first|exact (Kd.R_reads' a1.out).2.2|(with_reducible refine Kd.C_alloc ?_ _)|(with_reducible refine Kd.C_drewN ?_ _)|(with_reducible refine Kd.C_drew ?_)));(case side2=>rw [show g1.length=e1.length from (Kd.R_reads' a1.out).1.symm];exact (Kd.R_reads' a1.out).2.1);rintro e w' ⟨rfl,⟨nd,rfl⟩⟩;refine ⟨_,rfl,?_⟩));go_ret;exact ⟨zzR,zzh3⟩
       ·
        replace v5:=Bool.eq_false_iff.mpr v5;subst v5;replace H:=zzIf H;obtain rfl:=Option.some.inj H;try go_wp2_with (first|((with_reducible refine gate_callee (f:=14) rfl ?_);refine goesL_ (some 56) rfl rfl Try.func14 (by kernel_rfl) rfl #[.slice A0 l0.length c0] rfl zzM2 ?_;(with_reducible refine (Qe.calls g7 _ _ l0 h9 _ ?side1 ?side2 C1.out).mono ?_);(case side1=>exact zzcb m1 HB);(case side2=>exact m2.out);rintro e M6 ⟨C5,rfl,ho0,hb⟩;refine ⟨_,rfl,?_⟩;have a6:=zzm (Kd.R_elder' (by (with_reducible repeat (first|apply Kd.R_alloc|apply Kd.R_drewN|apply Kd.R_drew));exact a5.out) (Kd.R_base ho0) hb);have a7:=zzm (Kd.R_elder' (by (with_reducible repeat (first|apply Kd.R_alloc|apply Kd.R_drewN|apply Kd.R_drew));exact b9.out) (Kd.R_base ho0) hb);have b0:=zzm (Kd.R_elder' (by (with_reducible repeat (first|apply Kd.R_alloc|apply Kd.R_drewN|apply Kd.R_drew));exact a1.out) (Kd.R_base ho0) hb);have b1:=zzm (Kd.S_below (zzS a3.out) hb);have d0:=zzm (Kd.R_lower (Kd.R_new' (Kd.R_new' (Kd.R_new' ho0 (Kd.R_lt (by (with_reducible repeat (first|apply Kd.R_alloc|apply Kd.R_drewN|apply Kd.R_drew));exact a5.out))) (Kd.R_lt (by (with_reducible repeat (first|apply Kd.R_alloc|apply Kd.R_drewN|apply Kd.R_drew));exact b9.out))) (Kd.R_lt (by (with_reducible repeat (first|apply Kd.R_alloc|apply Kd.R_drewN|apply Kd.R_drew));exact a1.out))) (zzo zzh2));have d1:=zzm (zzh (g:=a8) (o:=.cells #[.bool b2,.bool b3,.int .i64 b4,.int .i64 b5,.int .i64 b6,.slice d3 a9.length d4] 38 (0,0)) (zzE a0.out) hb);have d2:=zzm (zzh (g:=a4) (o:=.cells #[.bool d5,.bool d7,.int .i64 d8,.int .i64 d9,.int .i64 e0,.slice e8 d6.length e6] 26 (0,0)) (zzE a2.out) hb);have e2:=zzm (zzp zzh2 hb);clear a5 b9 a1 a3 a0 a2 HB;have a5:=a6;have b9:=a7;have a1:=b0;have a3:=b1;have b8:=d0;have a0:=d1;have a2:=d2;have HB:=e2;clear a6 a7 b0 b1 d0 d1 d2 e2;(try clear hb);(try clear hb2);(try clear hk);(try clear hi);(try clear ho0);obtain ⟨D9,E0,eo108⟩:=Kd.R_slice b8.out;subst eo108)|((with_reducible refine gate_callee (f:=16) rfl ?_);refine goesL_ (some 57) rfl rfl Try.func16 (by kernel_rfl) rfl #[.slice h6 e3.length h4,.slice D9 h9.length E0] rfl zzM2 ?_;(with_reducible refine (Qd.calls g7 _ _ e3 _ _ h9 true _ ?side1 ?side2 ?side3 ?side4 C2.out).mono ?_);(case side1=>repeat (first|exact (Kd.R_reads' b9.out).2.2|(with_reducible refine Kd.C_alloc ?_ _)|(with_reducible refine Kd.C_drewN ?_ _)|(with_reducible refine Kd.C_drew ?_)));(case side2=>exact (Kd.R_reads' b9.out).2.1);(case side3=>repeat (first|exact (Kd.R_reads' b8.out).2.2|(with_reducible refine Kd.C_alloc ?_ _)|(with_reducible refine Kd.C_drewN ?_ _)|(with_reducible refine Kd.C_drew ?_)));(case side4=>exact (Kd.R_reads' b8.out).2.1);rintro e I3 ⟨rfl,hb⟩;refine ⟨_,rfl,?_⟩;have a6:=zzm (Kd.R_below (by (with_reducible repeat (first|apply Kd.R_alloc|apply Kd.R_drewN|apply Kd.R_drew));exact a5.out) hb);have a7:=zzm (Kd.R_below (by (with_reducible repeat (first|apply Kd.R_alloc|apply Kd.R_drewN|apply Kd.R_drew));exact b9.out) hb);have b0:=zzm (Kd.R_below (by (with_reducible repeat (first|apply Kd.R_alloc|apply Kd.R_drewN|apply Kd.R_drew));exact a1.out) hb);have b1:=zzm (Kd.S_below (zzS a3.out) hb);have d0:=zzm (Kd.R_below (by (with_reducible repeat (first|apply Kd.R_alloc|apply Kd.R_drewN|apply Kd.R_drew));exact b8.out) hb);have d1:=zzm (zzh (g:=a8) (o:=.cells #[.bool b2,.bool b3,.int .i64 b4,.int .i64 b5,.int .i64 b6,.slice d3 a9.length d4] 38 (0,0)) (zzE a0.out) hb);have d2:=zzm (zzh (g:=a4) (o:=.cells #[.bool d5,.bool d7,.int .i64 d8,.int .i64 d9,.int .i64 e0,.slice e8 d6.length e6] 26 (0,0)) (zzE a2.out) hb);have e2:=zzm (zzp zzh2 hb);clear a5 b9 a1 a3 b8 a0 a2 HB;have a5:=a6;have b9:=a7;have a1:=b0;have a3:=b1;have b8:=d0;have a0:=d1;have a2:=d2;have HB:=e2;clear a6 a7 b0 b1 d0 d1 d2 e2;(try clear hb);(try clear hb2);(try clear hk);(try clear hi)))
        have a6:=zzm (Kd.R_drew a5.out);have a7:=zzm (Kd.R_drew b9.out);have b0:=zzm (Kd.R_drew a1.out);have b1:=zzm (Kd.S_drew a3.out);have d0:=zzm (Kd.R_drew b8.out);have d1:=zzm (zzg a0.out);have d2:=zzm (zzg a2.out);have e2:=zzm (zzc HB.out);clear a5 b9 a1 a3 b8 a0 a2 HB;have a5:=a6;have b9:=a7;have a1:=b0;have a3:=b1;have b8:=d0;have a0:=d1;have a2:=d2;have HB:=e2;clear a6 a7 b0 b1 d0 d1 d2 e2;refine start_ (n:=5) (S:=fun w'=>w'.cell? ⟨a4,0,none⟩=some (.bool d5)∧w'.cell? ⟨a4,1,none⟩=some (.bool d7)∧w'.cell? ⟨a4,2,none⟩=some (.int .i64 d8)∧w'.cell? ⟨a4,3,none⟩=some (.int .i64 d9)∧w'.cell? ⟨a4,4,none⟩=some (.int .i64 e0)∧w'.cell? ⟨a4,5,none⟩=some (.slice e8 d6.length e6)∧w'.cell? ⟨a8,0,none⟩=some (.bool b2)∧w'.cell? ⟨a8,1,none⟩=some (.bool b3)∧w'.cell? ⟨a8,2,none⟩=some (.int .i64 b4)∧w'.cell? ⟨a8,3,none⟩=some (.int .i64 b5)∧w'.cell? ⟨a8,4,none⟩=some (.int .i64 b6)∧w'.cell? ⟨a8,5,none⟩=some (.slice d3 a9.length d4)) (ds:=[]) (zzB 5 0) (by kernel_rfl) rfl rfl ⟨(zzk a2.out 0).trans rfl,(zzk a2.out 1).trans rfl,(zzk a2.out 2).trans rfl,(zzk a2.out 3).trans rfl,(zzk a2.out 4).trans rfl,(zzk a2.out 5).trans rfl,(zzk a0.out 0).trans rfl,(zzk a0.out 1).trans rfl,(zzk a0.out 2).trans rfl,(zzk a0.out 3).trans rfl,(zzk a0.out 4).trans rfl,(zzk a0.out 5).trans rfl⟩ (fun g3=>?_);generalize I3.drew=M7 at a5 b9 a1 a3 b8 a0 a2 HB g3 ⊢;refine take_ (i:=0) (N:=some 59) (v:=?_) (a':=?_) (zzB 5 1) rfl rfl (by kernel_rfl) (fun _ _ _ h=>h) (Or.inl ⟨by rfl,?_⟩) g3 ?_ ?_;rotate_left
        ·
         rintro w' ⟨s0,s1,s2,s3,s4,s5,s6,s7,s8,s9,C6,C7⟩;go_simp;with_reducible rfl
        rotate_left
        ·
         simp only [zzJ];rfl
        refine take_ (i:=1) (N:=some 60) (v:=?_) (a':=?_) (zzB 5 3) rfl rfl (by kernel_rfl) (fun _ _ _ h=>h) (Or.inl ⟨by rfl,?_⟩) g3 ?_ ?_;rotate_left
        ·
         rintro w' ⟨s0,s1,s2,s3,s4,s5,s6,s7,s8,s9,C6,C7⟩;go_simp;with_reducible rfl
        rotate_left
        ·
         simp only [zzJ];rfl
        refine one_ (i:=2) (N:=some 61) (zzB 5 7) rfl rfl (by kernel_rfl) (by decide) (fun K hK=>?_);refine goes_ Try.func15 (by kernel_rfl) rfl #[.agg #[.bool b2,.bool b3,.int .i64 b4,.int .i64 b5,.int .i64 b6,.slice d3 a9.length d4]] (by rfl) rfl rfl zzM2 ?_;with_reducible refine (Qy.calls g7 b2 b3 b4 b5 b6 _ _ a9 l4 l5 l6 l7 l8 k6 _ ?side1 ?side2 F5.out).mono ?_
        (case side1=>exact zzcb k1 HB)
        (case side2=>exact k2.out);rintro e M8 ⟨G9,rfl,ho0,hb⟩;refine ⟨_,rfl,?_⟩;have a6:=zzm (Kd.R_below (by (with_reducible repeat (first|apply Kd.R_alloc|apply Kd.R_drewN|apply Kd.R_drew));exact a5.out) hb);have a7:=zzm (Kd.R_below (by (with_reducible repeat (first|apply Kd.R_alloc|apply Kd.R_drewN|apply Kd.R_drew));exact b9.out) hb);have b0:=zzm (Kd.R_below (by (with_reducible repeat (first|apply Kd.R_alloc|apply Kd.R_drewN|apply Kd.R_drew));exact a1.out) hb);have b1:=zzm (Kd.S_elder' (zzS a3.out) (Kd.S_base ho0) hb);have d0:=zzm (Kd.R_below (by (with_reducible repeat (first|apply Kd.R_alloc|apply Kd.R_drewN|apply Kd.R_drew));exact b8.out) hb);have d1:=zzm (Kd.S_lower (Kd.S_new' ho0 (Kd.S_lt (zzS a3.out))) (zzo zzh2));have d2:=zzm (zzh (g:=a8) (o:=.cells #[.bool b2,.bool b3,.int .i64 b4,.int .i64 b5,.int .i64 b6,.slice d3 a9.length d4] 38 (0,0)) (zzE a0.out) hb);have e2:=zzm (zzh (g:=a4) (o:=.cells #[.bool d5,.bool d7,.int .i64 d8,.int .i64 d9,.int .i64 e0,.slice e8 d6.length e6] 26 (0,0)) (zzE a2.out) hb);have h0:=zzm (zzp zzh2 hb);clear a5 b9 a1 a3 b8 a0 a2 HB;have a5:=a6;have b9:=a7;have a1:=b0;have a3:=b1;have b8:=d0;have g2:=d1;have a0:=d2;have a2:=e2;have HB:=h0;clear a6 a7 b0 b1 d0 d1 d2 e2 h0
        (try clear hb)
        (try clear hb2)
        (try clear hk)
        (try clear hi)
        (try clear ho0);obtain ⟨E1,E2,eo112⟩:=Kd.S_slice g2.out
        (first|subst eo112|(injection eo112 with f1_ f2_ f3_;have f4_:=f1_.symm;have f5_:=f3_.symm;clear f1_ f2_ f3_;subst f4_;subst f5_));refine hK.out _ _ ⟨(zzk a2.out 0).trans rfl,(zzk a2.out 1).trans rfl,(zzk a2.out 2).trans rfl,(zzk a2.out 3).trans rfl,(zzk a2.out 4).trans rfl,(zzk a2.out 5).trans rfl,(zzk a0.out 0).trans rfl,(zzk a0.out 1).trans rfl,(zzk a0.out 2).trans rfl,(zzk a0.out 3).trans rfl,(zzk a0.out 4).trans rfl,(zzk a0.out 5).trans rfl⟩ (fun g3=>?_);clear hK K;refine zzO 61 ?_
        refine one_ (i:=3) (N:=some 62) (zzB 5 15) rfl rfl (by kernel_rfl) (by decide) (fun K hK=>?_);refine goes_ Try.func17 (by kernel_rfl) rfl #[.agg #[.bool d5,.bool d7,.int .i64 d8,.int .i64 d9,.int .i64 e0,.slice e8 d6.length e6],.agg #[.bool l4,.bool l5,.int .i64 l6,.int .i64 l7,.int .i64 l8,.slice E1 k6.length E2]] (by rfl) rfl rfl zzM2 ?_;with_reducible refine (Re.calls g7 d5 d7 d8 d9 e0 _ _ d6 l4 l5 l6 l7 l8 _ _ k6 false _ ?side1 ?side2 ?side3 ?side4 F6.out).mono ?_
        (case side1=>repeat (first|exact (Kd.S_reads' a3.out).2.2|(with_reducible refine Kd.C_alloc ?_ _)|(with_reducible refine Kd.C_drewN ?_ _)|(with_reducible refine Kd.C_drew ?_)))
        (case side2=>exact (Kd.S_reads' a3.out).2.1)
        (case side3=>repeat (first|exact (Kd.S_reads' g2.out).2.2|(with_reducible refine Kd.C_alloc ?_ _)|(with_reducible refine Kd.C_drewN ?_ _)|(with_reducible refine Kd.C_drew ?_)))
        (case side4=>exact (Kd.S_reads' g2.out).2.1);rintro e M9 ⟨rfl,hb⟩;refine ⟨_,rfl,?_⟩;have a6:=zzm (Kd.R_below (by (with_reducible repeat (first|apply Kd.R_alloc|apply Kd.R_drewN|apply Kd.R_drew));exact a5.out) hb);have a7:=zzm (Kd.R_below (by (with_reducible repeat (first|apply Kd.R_alloc|apply Kd.R_drewN|apply Kd.R_drew));exact b9.out) hb);have b0:=zzm (Kd.R_below (by (with_reducible repeat (first|apply Kd.R_alloc|apply Kd.R_drewN|apply Kd.R_drew));exact a1.out) hb);have b1:=zzm (Kd.S_below (zzS a3.out) hb);have d0:=zzm (Kd.R_below (by (with_reducible repeat (first|apply Kd.R_alloc|apply Kd.R_drewN|apply Kd.R_drew));exact b8.out) hb);have d1:=zzm (Kd.S_below (zzS g2.out) hb);have d2:=zzm (zzh (g:=a8) (o:=.cells #[.bool b2,.bool b3,.int .i64 b4,.int .i64 b5,.int .i64 b6,.slice d3 a9.length d4] 38 (0,0)) (zzE a0.out) hb);have e2:=zzm (zzh (g:=a4) (o:=.cells #[.bool d5,.bool d7,.int .i64 d8,.int .i64 d9,.int .i64 e0,.slice e8 d6.length e6] 26 (0,0)) (zzE a2.out) hb);have h0:=zzm (zzp zzh2 hb);clear a5 b9 a1 a3 b8 g2 a0 a2 HB;have a5:=a6;have b9:=a7;have a1:=b0;have a3:=b1;have b8:=d0;have g2:=d1;have a0:=d2;have a2:=e2;have HB:=h0;clear a6 a7 b0 b1 d0 d1 d2 e2 h0
        (try clear hb)
        (try clear hb2)
        (try clear hk)
        (try clear hi);refine hK.out _ _ ⟨(zzk a2.out 0).trans rfl,(zzk a2.out 1).trans rfl,(zzk a2.out 2).trans rfl,(zzk a2.out 3).trans rfl,(zzk a2.out 4).trans rfl,(zzk a2.out 5).trans rfl,(zzk a0.out 0).trans rfl,(zzk a0.out 1).trans rfl,(zzk a0.out 2).trans rfl,(zzk a0.out 3).trans rfl,(zzk a0.out 4).trans rfl,(zzk a0.out 5).trans rfl⟩ (fun g3=>?_);clear hK K;refine zzO 62 ?_
        refine pure_ (i:=4) (N:=some 63) (v:=?_) (a':=?_) (zzB 5 31) rfl rfl (by kernel_rfl) (fun _ _ _ h=>h) (Or.inl ⟨by rfl,?_⟩) ?_ ?_;rotate_left
        ·
         intro w';go_simp;with_reducible rfl
        rotate_left
        ·
         simp only [zzJ];rfl
        refine done_ (by kernel_rfl) ?_;try go_wp2
        go_ret;exact ⟨zzR,zzh3⟩
      ·
       replace v4:=Bool.eq_false_iff.mpr v4;subst v4;replace H:=zzIf H;obtain rfl:=Option.some.inj H;go_wp2_with (first|((with_reducible refine gate_callee (f:=14) rfl ?_);refine goesL_ (some 56) rfl rfl Try.func14 (by kernel_rfl) rfl #[.slice A0 l0.length c0] rfl zzM2 ?_;(with_reducible refine (Qe.calls g7 _ _ l0 h9 _ ?side1 ?side2 C1.out).mono ?_);(case side1=>exact zzcb m1 HB);(case side2=>exact m2.out);rintro e N0 ⟨C5,rfl,ho0,hb⟩;refine ⟨_,rfl,?_⟩;have a6:=zzm (Kd.R_elder' (by (with_reducible repeat (first|apply Kd.R_alloc|apply Kd.R_drewN|apply Kd.R_drew));exact a5.out) (Kd.R_base ho0) hb);have a7:=zzm (Kd.R_elder' (by (with_reducible repeat (first|apply Kd.R_alloc|apply Kd.R_drewN|apply Kd.R_drew));exact b9.out) (Kd.R_base ho0) hb);have b0:=zzm (Kd.R_elder' (by (with_reducible repeat (first|apply Kd.R_alloc|apply Kd.R_drewN|apply Kd.R_drew));exact a1.out) (Kd.R_base ho0) hb);have b1:=zzm (Kd.S_below (zzS a3.out) hb);have d0:=zzm (Kd.R_lower (Kd.R_new' (Kd.R_new' (Kd.R_new' ho0 (Kd.R_lt (by (with_reducible repeat (first|apply Kd.R_alloc|apply Kd.R_drewN|apply Kd.R_drew));exact a5.out))) (Kd.R_lt (by (with_reducible repeat (first|apply Kd.R_alloc|apply Kd.R_drewN|apply Kd.R_drew));exact b9.out))) (Kd.R_lt (by (with_reducible repeat (first|apply Kd.R_alloc|apply Kd.R_drewN|apply Kd.R_drew));exact a1.out))) (zzo zzh2));have d1:=zzm (zzh (g:=a8) (o:=.cells #[.bool b2,.bool b3,.int .i64 b4,.int .i64 b5,.int .i64 b6,.slice d3 a9.length d4] 38 (0,0)) (zzE a0.out) hb);have d2:=zzm (zzh (g:=a4) (o:=.cells #[.bool d5,.bool d7,.int .i64 d8,.int .i64 d9,.int .i64 e0,.slice e8 d6.length e6] 26 (0,0)) (zzE a2.out) hb);have e2:=zzm (zzp zzh2 hb);clear a5 b9 a1 a3 a0 a2 HB;have a5:=a6;have b9:=a7;have a1:=b0;have a3:=b1;have b8:=d0;have a0:=d1;have a2:=d2;have HB:=e2;clear a6 a7 b0 b1 d0 d1 d2 e2;(try clear hb);(try clear hb2);(try clear hk);(try clear hi);(try clear ho0);obtain ⟨E3,E4,eo115⟩:=Kd.R_slice b8.out;subst eo115)|((with_reducible refine gate_callee (f:=16) rfl ?_);refine goesL_ (some 57) rfl rfl Try.func16 (by kernel_rfl) rfl #[.slice h6 e3.length h4,.slice E3 h9.length E4] rfl zzM2 ?_;(with_reducible refine (Qd.calls g7 _ _ e3 _ _ h9 false _ ?side1 ?side2 ?side3 ?side4 C2.out).mono ?_);(case side1=>repeat (first|exact (Kd.R_reads' b9.out).2.2|(with_reducible refine Kd.C_alloc ?_ _)|(with_reducible refine Kd.C_drewN ?_ _)|(with_reducible refine Kd.C_drew ?_)));(case side2=>exact (Kd.R_reads' b9.out).2.1);(case side3=>repeat (first|exact (Kd.R_reads' b8.out).2.2|(with_reducible refine Kd.C_alloc ?_ _)|(with_reducible refine Kd.C_drewN ?_ _)|(with_reducible refine Kd.C_drew ?_)));(case side4=>exact (Kd.R_reads' b8.out).2.1);rintro e N1 ⟨rfl,hb⟩;refine ⟨_,rfl,?_⟩;have a6:=zzm (Kd.R_below (by (with_reducible repeat (first|apply Kd.R_alloc|apply Kd.R_drewN|apply Kd.R_drew));exact a5.out) hb);have a7:=zzm (Kd.R_below (by (with_reducible repeat (first|apply Kd.R_alloc|apply Kd.R_drewN|apply Kd.R_drew));exact b9.out) hb);have b0:=zzm (Kd.R_below (by (with_reducible repeat (first|apply Kd.R_alloc|apply Kd.R_drewN|apply Kd.R_drew));exact a1.out) hb);have b1:=zzm (Kd.S_below (zzS a3.out) hb);have d0:=zzm (Kd.R_below (by (with_reducible repeat (first|apply Kd.R_alloc|apply Kd.R_drewN|apply Kd.R_drew));exact b8.out) hb);have d1:=zzm (zzh (g:=a8) (o:=.cells #[.bool b2,.bool b3,.int .i64 b4,.int .i64 b5,.int .i64 b6,.slice d3 a9.length d4] 38 (0,0)) (zzE a0.out) hb);have d2:=zzm (zzh (g:=a4) (o:=.cells #[.bool d5,.bool d7,.int .i64 d8,.int .i64 d9,.int .i64 e0,.slice e8 d6.length e6] 26 (0,0)) (zzE a2.out) hb);have e2:=zzm (zzp zzh2 hb);clear a5 b9 a1 a3 b8 a0 a2 HB;have a5:=a6;have b9:=a7;have a1:=b0;have a3:=b1;have b8:=d0;have a0:=d1;have a2:=d2;have HB:=e2;clear a6 a7 b0 b1 d0 d1 d2 e2;(try clear hb);(try clear hb2);(try clear hk);(try clear hi)));go_ret;exact ⟨zzR,zzh3⟩
end Go.Proofs.Ytmophgccpnpgfaa.T
namespace Go.Proofs.Ytmophgccpnpgfaa.Q
open Go.RowKit Go.Proofs.YtmophgccpnpgfaaW.PrintWords
def Opens {α:Type} (P:Program) (d:Kd α) (t:TypeId) (WF : α→Prop):Prop:=
 ∀ (H:Type) (enc:TypeId×Value→H) (w:World) (base:Nat) (spare:Nat→Bool) (held:Bool) (fuel:Nat) (cs:List Value) (x:DataW H×List MemPlace),DataW.trod enc P w base spare held fuel t cs=some x→∃ v : α,d.K w v cs∧WF v
theorem Opens.int {P:Program} {t:TypeId} {k:IntKind} (ht:P.underlying t=some (.int k)):Opens P (Kd.int k) t (fun n=>(Lit.int k n).wf=true):=by
 intro H enc w base spare held fuel cs x h
 obtain ⟨n,rfl,_,hw⟩:=DataW.trod_int ht h
 exact ⟨n,rfl,hw⟩
theorem Opens.bool {P:Program} {t:TypeId} (ht:P.underlying t=some .bool):Opens P Kd.bool t (fun _=>True):=by
 intro H enc w base spare held fuel cs x h
 obtain ⟨n,rfl,_⟩:=DataW.trod_bool ht h
 exact ⟨n,rfl,trivial⟩
theorem Opens.iso {α β:Type} {P:Program} {t:TypeId} {d:Kd α} {WF : α→Prop} {f : β→α} (h:Opens P d t WF) (g : α→β) (hg:∀ a,f (g a)=a):Opens P (Kd.iso d f) t (fun b=>WF (f b)):=by
 intro H enc w base spare held fuel cs x hx
 obtain ⟨v,hv,hw⟩:=h H enc w base spare held fuel cs x hx
 exact ⟨g v,by show d.K w (f (g v)) cs;rw [hg];exact hv,by show WF (f (g v));rw [hg];exact hw⟩
theorem list_of {α:Type} {Q:Nat→α→Prop} : ∀ (n:Nat),(∀ i,i < n→∃ v,Q i v)→∃ l:List α,l.length=n∧∀ j p,l[j]? = some p→Q j p
 | 0,_=>⟨[],rfl,fun j p h=>by simp at h⟩
 | n+1,h=>by
  obtain ⟨l,hl,hq⟩:=list_of n (fun i hi=>h i (by omega))
  obtain ⟨v,hv⟩:=h n (by omega)
  refine ⟨l ++ [v],by simp [hl],fun j p hj=>?_⟩
  rcases Nat.lt_or_ge j l.length with h1|h1
  ·rw [List.getElem?_append_left h1] at hj
   exact hq j p hj
  ·rw [List.getElem?_append_right h1] at hj
   have h2:j - l.length=0:=by
    have:=(List.getElem?_eq_some_iff.1 hj).1
    simp at this
    omega
   rw [h2] at hj
   simp at hj
   subst hj
   have:j=n:=by omega
   subst this
   exact hv
theorem cells_get {w:World} {base:Nat} {a:Addr} {n:Nat} {cs:List Value} (h:w.cells? base a n=some cs):cs.length=n∧∀ (i:Nat) (u:Value),cs[i]? = some u→w.cell? (a.add i)=some u:=by
 unfold World.cells? at h
 split at h
 ·have hl:cs.length=n:=by simpa using mapM_some_length h
  refine ⟨hl,fun i u hu=>?_⟩
  have hi:i < cs.length:=(List.getElem?_eq_some_iff.1 hu).1
  have:=mapM_some_get h i i (by rw [List.getElem?_range (by omega)])
  rw [this,hu]
 ·cases h
theorem add_add' (a:Addr) (x y:Nat):(a.add x).add y=a.add (x+y):=by
 by_cases hx:x=0 <;> by_cases hy:y=0 <;> simp [Addr.add,hx,hy,Nat.add_assoc]
theorem Opens.slice {α:Type} {P:Program} {t e:TypeId} {d:Kd α} {WF : α→Prop} (ht:P.underlying t=some (.slice e)) (h:Opens P d e WF) (hs:P.cellsOf e=d.sz):Opens P (Kd.slice e d) t (fun l=>l.length≤maxLen∧∀ v∈l,WF v):=by
 intro H enc w base spare held fuel cs x hx
 rcases Go.Deep.open_slice ht hx with ⟨rfl,_⟩|⟨a,len,cap,m,n,D,Pl,rfl,hb,hl,hm,hmm,_,hi⟩
 ·exact ⟨[],⟨none,0,rfl,Nat.le_refl _,rfl,by simp,fun h=>by simp at h⟩,by simp,fun v hv=>by simp at hv⟩
 ·have hlm:len≤m:=by rw [hmm];split <;> omega
  obtain ⟨l,hll,hq⟩:=list_of (Q:=fun i v=>∃ c,w.cells? base (a.add (i * P.cellsOf e)) (P.cellsOf e)=some c∧d.K w v c∧WF v) len (fun i hlt=>by
   obtain ⟨c,hc,hd⟩:=hi i (by omega)
   obtain ⟨v,hv,hw⟩:=h H enc w base spare held n c _ hd
   exact ⟨v,c,hc,hv,hw⟩)
  subst hll
  refine ⟨l,⟨some a,cap,rfl,hl,rfl,by unfold maxLen at hm;omega,fun _=>⟨a,rfl,fun j p hj=>?_⟩⟩,Nat.le_trans hl hm,fun v hv=>?_⟩
  ·obtain ⟨c,hc,hk,_⟩:=hq j p hj
   obtain ⟨h1,h2⟩:=cells_get hc
   refine ⟨c,by rw [h1,hs],hk,fun i u hu=>?_⟩
   rw [← hs,← add_add']
   exact h2 i u hu
  ·obtain ⟨j,hj,rfl⟩:=List.getElem_of_mem hv
   obtain ⟨_,_,_,hw⟩:=hq j _ (List.getElem?_eq_getElem hj)
   exact hw
def OpensFs {α:Type} (P:Program) (o:Nat) (fs:List Field) (d:Kd α) (WF : α→Prop):Prop:=
 ∀ (H:Type) (enc:TypeId×Value→H) (w:World) (base:Nat) (spare:Nat→Bool) (held:Bool) (fuel:Nat) (cs:List Value),(∀ f∈fs,∃ x:DataW H×List MemPlace,DataW.trod enc P w base spare held fuel f.type ((cs.drop f.offset).take (P.cellsOf f.type))=some x)→cs.length=o+d.sz→∃ v : α,d.K w v (cs.drop o)∧WF v
theorem OpensFs.one {α:Type} {P:Program} {o:Nat} {f:Field} {d:Kd α} {WF : α→Prop} (ho:f.offset=o) (hs:P.cellsOf f.type=d.sz) (h:Opens P d f.type WF):OpensFs P o [f] d WF:=by
 intro H enc w base spare held fuel cs hx hl
 obtain ⟨x,hx⟩:=hx f (by simp)
 rw [ho,hs,List.take_of_length_le (by rw [length_drop];omega)] at hx
 exact h H enc w base spare held fuel _ x hx
theorem OpensFs.cons {α β:Type} {P:Program} {o:Nat} {f:Field} {fs:List Field} {d:Kd α} {d' : Kd β} {WF : α→Prop} {WF' : β→Prop} (ho:f.offset=o) (hs:P.cellsOf f.type=d.sz) (h:Opens P d f.type WF) (h' : OpensFs P (o+d.sz) fs d' WF'):OpensFs P o (f::fs) (Kd.pair d d') (fun p=>WF p.1∧WF' p.2):=by
 intro H enc w base spare held fuel cs hx hl
 obtain ⟨x,hx0⟩:=hx f (by simp)
 rw [ho,hs] at hx0
 obtain ⟨v,hv,hw⟩:=h H enc w base spare held fuel _ x hx0
 have hl' : cs.length=o+d.sz+d'.sz:=by rw [hl];exact (Nat.add_assoc _ _ _).symm
 obtain ⟨v',hv',hw'⟩:=h' H enc w base spare held fuel cs (fun f' hf'=>hx f' (List.mem_cons_of_mem _ hf')) hl'
 refine ⟨(v,v'),⟨(cs.drop o).take d.sz,cs.drop (o+d.sz),?_,hv,hv'⟩,hw,hw'⟩
 rw [← List.drop_drop,List.take_append_drop]
theorem Opens.struct {α:Type} {P:Program} {t:TypeId} {fs:Array Field} {d:Kd α} {WF : α→Prop} (ht:P.underlying t=some (.struct fs)) (hs:P.cellsOf t=d.sz) (h:OpensFs P 0 fs.toList d WF):Opens P d t WF:=by
 intro H enc w base spare held fuel cs x hx
 obtain ⟨xs,n,_,_,hl,hxs,hf⟩:=DataW.trod_struct ht hx
 refine h H enc w base spare held n cs (fun f hfm=>?_) (by rw [hl,hs,Nat.zero_add])
 obtain ⟨i,hi,rfl⟩:=List.getElem_of_mem hfm
 have hi' : i < fs.size:=by simpa using hi
 have:=hf i fs[i] (Array.getElem?_eq_getElem hi')
 rw [List.getElem?_eq_getElem (by omega)] at this
 exact ⟨_,by simpa using this⟩
end Go.Proofs.Ytmophgccpnpgfaa.Q
namespace Go.Proofs.Ytmophgccpnpgfaa.T
open Go.RowKit Go.Proofs.YtmophgccpnpgfaaW.PrintWords
set_option linter.unusedVariables false
def WF79 (x:S79):Prop:=(Lit.int .i64 x.f0).wf=true∧(Lit.int .i64 x.f1).wf=true∧(Lit.int .i64 x.f2).wf=true
theorem opens79:Q.Opens Try.prog k79 79 WF79:=
 Q.Opens.iso (Q.Opens.struct Try.underlying79 (by kernel_rfl) (Q.OpensFs.cons rfl (by kernel_rfl) (Q.Opens.int Try.underlying3) (Q.OpensFs.cons rfl (by kernel_rfl) (Q.Opens.int Try.underlying3) (Q.OpensFs.one rfl (by kernel_rfl) (Q.Opens.int Try.underlying3))))) (fun p=>⟨p.1,p.2.1,p.2.2⟩) (fun _=>rfl)
def WF94 (x:S94):Prop:=(Lit.int .i64 x.f0).wf=true∧(Lit.int .i64 x.f1).wf=true∧True∧(x.f3.length≤maxLen∧∀ v∈x.f3,(Lit.int .i64 v).wf=true)∧True∧(x.f5.length≤maxLen∧∀ v∈x.f5,(Lit.int .i64 v).wf=true)
theorem opens94:Q.Opens Try.prog k94 94 WF94:=
 Q.Opens.iso (Q.Opens.struct Try.underlying94 (by kernel_rfl) (Q.OpensFs.cons rfl (by kernel_rfl) (Q.Opens.int Try.underlying3) (Q.OpensFs.cons rfl (by kernel_rfl) (Q.Opens.int Try.underlying3) (Q.OpensFs.cons rfl (by kernel_rfl) (Q.Opens.bool Try.underlying4) (Q.OpensFs.cons rfl (by kernel_rfl) (Q.Opens.slice Try.underlying49 (Q.Opens.int Try.underlying3) (by kernel_rfl)) (Q.OpensFs.cons rfl (by kernel_rfl) (Q.Opens.bool Try.underlying4) (Q.OpensFs.one rfl (by kernel_rfl) (Q.Opens.slice Try.underlying49 (Q.Opens.int Try.underlying3) (by kernel_rfl))))))))) (fun p=>⟨p.1,p.2.1,p.2.2.1,p.2.2.2.1,p.2.2.2.2.1,p.2.2.2.2.2⟩) (fun _=>rfl)
def WF38 (x:S38):Prop:=True∧True∧(Lit.int .i64 x.f2).wf=true∧(Lit.int .i64 x.f3).wf=true∧(Lit.int .i64 x.f4).wf=true∧(x.f5.length≤maxLen∧∀ v∈x.f5,WF94 v)
theorem opens38:Q.Opens Try.prog k38 38 WF38:=
 Q.Opens.iso (Q.Opens.struct Try.underlying38 (by kernel_rfl) (Q.OpensFs.cons rfl (by kernel_rfl) (Q.Opens.bool Try.underlying4) (Q.OpensFs.cons rfl (by kernel_rfl) (Q.Opens.bool Try.underlying4) (Q.OpensFs.cons rfl (by kernel_rfl) (Q.Opens.int Try.underlying3) (Q.OpensFs.cons rfl (by kernel_rfl) (Q.Opens.int Try.underlying3) (Q.OpensFs.cons rfl (by kernel_rfl) (Q.Opens.int Try.underlying3) (Q.OpensFs.one rfl (by kernel_rfl) (Q.Opens.slice Try.underlying36 opens94 (by kernel_rfl))))))))) (fun p=>⟨p.1,p.2.1,p.2.2.1,p.2.2.2.1,p.2.2.2.2.1,p.2.2.2.2.2⟩) (fun _=>rfl)
end Go.Proofs.Ytmophgccpnpgfaa.T
namespace Go.Proofs.Ytmophgccpnpgfaa.Q
open Go.RowKit Go.Proofs.YtmophgccpnpgfaaW.PrintWords
set_option linter.unusedVariables false
set_option linter.unusedSimpArgs false
theorem ev_succ {α:Type} {g:Nat→Option α} {r : α} (h:Ev (fun k=>g (k+1)) r):Ev g r:=Ev.step (f:=fun k=>g (k+1)) (fun _=>rfl) h
theorem ev_of_all {α:Type} {g:Nat→Option α} {r : α} (h:∀ k,g k=some r):Ev g r:=⟨0,fun k _=>h k⟩
theorem ev_some {α:Type} (r : α):Ev (fun _=>some r) r:=ev_of_all fun _=>rfl
def Evs {α:Type} (g:Nat→Option α) (Q : α→Prop):Prop:=∃ r,Ev g r∧Q r
theorem Evs.of {α:Type} {g:Nat→Option α} {Q : α→Prop} {r : α} (h:Ev g r) (hq:Q r):Evs g Q:=⟨r,h,hq⟩
theorem Evs.done {α:Type} {Q : α→Prop} {r : α} (hq:Q r):Evs (fun _=>some r) Q:=⟨r,ev_some r,hq⟩
theorem Evs.mono {α:Type} {g:Nat→Option α} {Q Q' : α→Prop} (h:Evs g Q) (hq:∀ r,Q r→Q' r):Evs g Q':=by
 obtain ⟨r,h1,h2⟩:=h
 exact ⟨r,h1,hq r h2⟩
theorem Evs.succ {α:Type} {g:Nat→Option α} {Q : α→Prop} (h:Evs (fun k=>g (k+1)) Q):Evs g Q:=by
 obtain ⟨r,h1,h2⟩:=h
 exact ⟨r,ev_succ h1,h2⟩
theorem Evs.bind {α β:Type} {g:Nat→Option α} {f:Nat→α→Option β} {Q : α→Prop} {R : β→Prop} (h:Evs g Q) (k:∀ a,Q a→Evs (fun n=>f n a) R):Evs (fun n=>(g n).bind (f n)) R:=by
 obtain ⟨a,h1,h2⟩:=h
 obtain ⟨r,k1,k2⟩:=k a h2
 exact ⟨r,Ev.bind h1 k1,k2⟩
theorem bsome {α β:Type} (a : α) (f : α→Option β):(some a).bind f=f a:=Eq.trans (Option.bind_some a f) (Eq.refl _)
end Go.Proofs.Ytmophgccpnpgfaa.Q
namespace Go.Proofs.Ytmophgccpnpgfaa.Q
open Go.RowKit Go.Proofs.Ytmophgccpnpgfaa.T Go.Proofs.YtmophgccpnpgfaaW.PrintWords Go.Proofs.YtmophgccpnpgfaaW.PrintLast
set_option linter.unusedVariables false
set_option linter.unusedSimpArgs false
theorem wrap_id {x:Int} (h0 : -9223372036854775808≤x) (h1:x < 9223372036854775808):wrap64 x=x:=by unfold wrap64;omega
theorem Rl (a b c:Int):Qm.f a b c=some (decide (b≤a∧a≤c)):=by
 unfold Qm.f
 by_cases h:a ≥ b
 ·rw [if_pos h]
  have:(b≤a∧a≤c)↔a≤c:=⟨fun h=>h.2,fun h'=>⟨h,h'⟩⟩
  simp [this]
 ·rw [if_neg h]
  have:¬ (b≤a∧a≤c):=fun h'=>h h'.1
  simp [this]
theorem spec_l6In_eq (a b c:Int):Ql.f a b c=some (decide (b≤a∧a≤c)):=by
 unfold Ql.f
 by_cases h:a ≥ b
 ·rw [if_pos h]
  have:(b≤a∧a≤c)↔a≤c:=⟨fun h=>h.2,fun h'=>⟨h,h'⟩⟩
  simp [this]
 ·rw [if_neg h]
  have:¬ (b≤a∧a≤c):=fun h'=>h h'.1
  simp [this]
end Go.Proofs.Ytmophgccpnpgfaa.Q
namespace Go.Proofs.Ytmophgccpnpgfaa.Q
set_option linter.unusedVariables false
set_option linter.unusedSimpArgs false
theorem pairwise_of_next {α:Type} {R : α→α→Prop} (tr:∀ a b c,R a b→R b c→R a c) {l:List α} (h:∀ j (h:j+1 < l.length),R (l[j]'(by omega)) l[j+1]):l.Pairwise R:=by
 rw [List.pairwise_iff_getElem]
 intro i j hi hj hij
 obtain ⟨d,rfl⟩:∃ d,j=i+1+d:=⟨j - i - 1,by omega⟩
 clear hij
 induction d with
 | zero=>exact h i (by omega)
 | succ d ih=>exact tr _ _ _ (ih (by omega)) (h (i+1+d) (by omega))
theorem next_of_pairwise {α:Type} {R : α→α→Prop} {l:List α} (h:l.Pairwise R) (j:Nat) (hj:j+1 < l.length):R (l[j]'(by omega)) l[j+1]:=
 List.pairwise_iff_getElem.1 h j (j+1) (by omega) hj (by omega)
end Go.Proofs.Ytmophgccpnpgfaa.Q
namespace Go.Proofs.Ytmophgccpnpgfaa.Q
open Go.RowKit Go.Proofs.Ytmophgccpnpgfaa.T Go.Proofs.YtmophgccpnpgfaaW.PrintWords Go.Proofs.YtmophgccpnpgfaaW.PrintLast
set_option linter.unusedVariables false
set_option linter.unusedSimpArgs false
abbrev Pr:=S67
abbrev rp (l:List Pr) (i:Int):Pr:=Qb l i
theorem rp_nat (l:List Pr) (j:Nat) (h:j < l.length):rp l (j:Int)=l[j]:=by
 unfold rp Qb
 rw [Int.toNat_natCast,List.getD_eq_getElem?_getD,List.getElem?_eq_getElem h]
 rfl
theorem Pr_ext {a b:Pr} (h0:a.f0=b.f0) (h1:a.f1=b.f1) (h2:a.f2=b.f2):a=b:=by
 cases a
 cases b
 simp at h0 h1 h2
 rw [h0,h1,h2]
instance:DecidableEq Pr:=fun a b=>decidable_of_iff (a.f0=b.f0∧a.f1=b.f1∧a.f2=b.f2) ⟨fun h=>Pr_ext h.1 h.2.1 h.2.2,fun h=>by rw [h];exact ⟨rfl,rfl,rfl⟩⟩
theorem drop_atP {l:List Pr} {i:Nat} (h:i < l.length):l.drop i=rp l i::l.drop (i+1):=by
 rw [List.drop_eq_getElem_cons h,rp_nat l i h]
def okP (t:Pr):Prop:=(0≤t.f0∧t.f0≤254)∧(0≤t.f1∧t.f1≤99)∧(0≤t.f2∧t.f2≤99999)
def ltP (a b:Pr):Prop:=a.f0 < b.f0
def PF (l:List Pr) (i:Nat):Prop:=∀ j,i≤j→j < l.length→okP (rp l j)∧(0 < j→ltP (rp l ((j:Int) - 1)) (rp l j))
def VP (l:List Pr):Prop:=l.length≤20∧PF l 0
open Classical in
noncomputable def vp (l:List Pr):Bool:=decide (VP l)
theorem vp_iff (l:List Pr):vp l=true↔VP l:=by unfold vp;simp
theorem prodsAll_vp (l:List Pr):prodsAll l=vp l:=by
 rw [Bool.eq_iff_iff,vp_iff]
 unfold prodsAll VP PF
 rw [Bool.and_eq_true,decide_eq_true_eq,decide_eq_true_eq]
 refine ⟨fun h=>⟨h.1,fun j _ hj=>?_⟩,fun h=>⟨h.1,fun j hj=>?_⟩⟩
 ·have:=h.2 j hj
  unfold prodAt at this
  rw [decide_eq_true_eq] at this
  exact this
 ·unfold prodAt
  rw [decide_eq_true_eq]
  exact h.2 j (Nat.zero_le _) hj
theorem implPValid (l:List Pr) (hl:l.length≤1000000000000):Ev (fun k=>Qo.f k l) (vp l):=by
 unfold Qo.f
 rw [prodsAll_vp]
 exact ev_some _
theorem specPValid (l:List Pr) (hl:l.length≤1000000000000):Ev (fun k=>Qi.f k l) (vp l):=by
 unfold Qi.f
 rw [prodsAll_vp]
 exact ev_some _
theorem ltP_trans {a b c:Pr} (h:ltP a b) (h' : ltP b c):ltP a c:=Int.lt_trans h h'
theorem VP_iff (l:List Pr):VP l↔l.length≤20∧(∀ t∈l,okP t)∧l.Pairwise ltP:=by
 constructor
 ·rintro ⟨h8,hv⟩
  refine ⟨h8,?_,pairwise_of_next (R:=ltP) (fun _ _ _=>ltP_trans) ?_⟩
  ·intro t ht
   obtain ⟨j,hj,rfl⟩:=List.getElem_of_mem ht
   have:=(hv j (Nat.zero_le _) hj).1
   rwa [rp_nat l j hj] at this
  ·intro j hj
   have:=(hv (j+1) (Nat.zero_le _) hj).2 (by omega)
   rw [rp_nat l (j+1) hj] at this
   rw [show ((j+1:Nat):Int) - 1=(j:Int) by omega,rp_nat l j (by omega)] at this
   exact this
 ·rintro ⟨h8,hok,hp⟩
  refine ⟨h8,fun j _ hj=>⟨?_,fun h0=>?_⟩⟩
  ·rw [rp_nat l j hj]
   exact hok _ (List.getElem_mem hj)
  ·obtain ⟨i,rfl⟩:∃ i,j=i+1:=⟨j - 1,by omega⟩
   rw [rp_nat l (i+1) hj,show ((i+1:Nat):Int) - 1=(i:Int) by omega,rp_nat l i (by omega)]
   exact next_of_pairwise hp i hj
abbrev Lp:=S79
def toP (x:Lp):Pr:=⟨x.f0,x.f1,x.f2⟩
theorem rdLp (l:List Lp) (j:Nat) (h:j < l.length):Ro l (j:Int)=l[j]:=by
 unfold Ro
 rw [Int.toNat_natCast,List.getD_eq_getElem?_getD,List.getElem?_eq_getElem h]
 rfl
theorem szProds (l:List Lp) (h:l.length≤maxLen):(l.length≤1048576∧Q3.f l 1048576=some (1048576 - (l.length:Int)))∨(1048576 < l.length∧Q3.f l 1048576=some (-1)):=by
 unfold maxLen at h
 have e:wrap64 (1048576 - (l.length:Int))=1048576 - (l.length:Int):=wrap_id (by omega) (by omega)
 unfold Q3.f
 rw [e]
 by_cases hc : 1048576 - (l.length:Int) < 0
 ·rw [if_pos hc];exact .inr ⟨by omega,rfl⟩
 ·rw [if_neg hc];exact .inl ⟨by omega,rfl⟩
theorem set_mid {α:Type} (a:List α) (x y : α) (b:List α) (i:Nat) (h:i=a.length):(a++x::b).set i y=a++y::b:=by
 subst h
 simp
theorem toProds_loop (l:List Lp) (hl:l.length≤1048576):∀ (d i:Nat),l.length - i=d→i≤l.length→Ev (fun k=>Qe.l0 k l ((l.map toP).take i++List.replicate (l.length - i) z67) (i:Int)) (l.map toP):=by
 intro d
 induction d with
 | zero=>
  intro i hd hi
  refine ev_succ ?_
  simp only [Qe.l0,if_neg (show ¬ (i:Int) < (l.length:Int) by omega)]
  rw [show l.length - i=0 by omega,List.replicate_zero,List.append_nil,List.take_of_length_le (by simp;omega)]
  exact ev_some _
 | succ d ih=>
  intro i hd hi
  have hlt:(i:Int) < (l.length:Int):=by omega
  have e1:wrap64 ((i:Int)+1)=((i+1:Nat):Int):=by rw [wrap_id (by omega) (by omega)];omega
  obtain ⟨m,hm⟩:∃ m,l.length - i=m+1:=⟨l.length - i - 1,by omega⟩
  have hlen:((l.map toP).take i).length=i:=by simp;omega
  have hset:((l.map toP).take i++List.replicate (l.length - i) z67).set i (toP l[i])=(l.map toP).take (i+1)++List.replicate (l.length - (i+1)) z67:=by
   rw [hm,List.replicate_succ,set_mid _ _ _ _ _ hlen.symm,show l.length - (i+1)=m by omega,List.take_succ_eq_append_getElem (by simp;omega),List.append_assoc]
   simp
  refine ev_succ ?_
  simp only [Qe.l0,if_pos hlt,if_pos (show (0:Int)≤i by omega),Ri.f,bsome,if_pos (show (i:Int) < ((((l.map toP).take i++List.replicate (l.length - i) z67).length:Nat):Int) by simp;omega),e1,Int.toNat_natCast,rdLp l i (by omega)]
  have:=ih (i+1) (by omega) (by omega)
  rw [← hset] at this
  exact this
theorem toProds (l:List Lp) (hl:l.length≤1048576):Ev (fun k=>Qe.f k l) (l.map toP):=by
 unfold Qe.f
 simp only [if_pos (show 0≤(l.length:Int) by omega),Int.toNat_natCast,if_pos (show l.length≤11728124029610 by omega)]
 have:=toProds_loop l hl l.length 0 (by omega) (by omega)
 simpa using this
theorem eqProds_loop (a b:List Pr) (hl:a.length=b.length) (hs:a.length≤1048576):∀ (d i:Nat),a.length - i=d→i≤a.length→Ev (fun k=>Qd.l0 k a b (i:Int)) (decide (a.drop i=b.drop i)):=by
 intro d
 induction d with
 | zero=>
  intro i hd hi
  rw [show a.drop i = [] from List.drop_eq_nil_of_le (by omega),show b.drop i = [] from List.drop_eq_nil_of_le (by omega)]
  refine ev_succ ?_
  simp only [Qd.l0,if_neg (show ¬ (i:Int) < (a.length:Int) by omega),decide_true]
  exact ev_some _
 | succ d ih=>
  intro i hd hi
  have hlt:(i:Int) < (a.length:Int):=by omega
  have e1:wrap64 ((i:Int)+1)=((i+1:Nat):Int):=by rw [wrap_id (by omega) (by omega)];omega
  rw [drop_atP (show i < a.length by omega),drop_atP (show i < b.length by omega)]
  refine ev_succ ?_
  simp only [Qd.l0,if_pos hlt,if_pos (show (0:Int)≤i by omega),if_pos (show (i:Int) < (b.length:Int) by omega),Rd.f,e1]
  by_cases h0:(rp a i).f0=(rp b i).f0
  ·by_cases h1:(rp a i).f1=(rp b i).f1
   ·by_cases h2:(rp a i).f2=(rp b i).f2
    ·simp only [if_pos h0,if_pos h1,if_pos h2,bsome,if_true]
     have:=ih (i+1) (by omega) (by omega)
     simpa [Pr_ext h0 h1 h2] using this
    ·have hne:¬ rp a i=rp b i:=fun h=>h2 (by rw [h])
     simp only [if_pos h0,if_pos h1,if_neg h2,bsome,Bool.false_eq_true,if_false]
     rw [decide_eq_false (by simp [hne])]
     exact ev_some _
   ·have hne:¬ rp a i=rp b i:=fun h=>h1 (by rw [h])
    simp only [if_pos h0,if_neg h1,bsome,Bool.false_eq_true,if_false]
    rw [decide_eq_false (by simp [hne])]
    exact ev_some _
  ·have hne:¬ rp a i=rp b i:=fun h=>h0 (by rw [h])
   simp only [if_neg h0,bsome,Bool.false_eq_true,if_false]
   rw [decide_eq_false (by simp [hne])]
   exact ev_some _
theorem eqProds (a b:List Pr) (hs:a.length≤1048576):Ev (fun k=>Qd.f k a b) (decide (a=b)):=by
 unfold Qd.f
 by_cases h:(a.length:Int)=(b.length:Int)
 ·simp only [if_pos h]
  have:=eqProds_loop a b (by omega) hs a.length 0 (by omega) (by omega)
  simpa using this
 ·simp only [if_neg h]
  rw [decide_eq_false (fun e=>h (by rw [e]))]
  exact ev_some _
theorem eqProds_self (a:List Pr) (hs:a.length≤1048576):Ev (fun k=>Qd.f k a a) true:=by
 have:=eqProds a a hs
 rwa [decide_eq_true rfl] at this
def marksP:Nat→Int→List Pr
 | 0,_=>[]
 | n+1,a=>⟨a,a+1,a+1+1⟩::marksP n (a+1+1+1)
theorem marksP_length:∀ (n:Nat) (a:Int),(marksP n a).length=n
 | 0,_=>rfl
 | n+1,a=>by simp [marksP,marksP_length n]
theorem marksP_snoc:∀ (n:Nat) (a:Int),marksP (n+1) a=marksP n a ++ [⟨a+3 * n,a+3 * n+1,a+3 * n+1+1⟩]
 | 0,a=>by simp [marksP]
 | n+1,a=>by
  rw [marksP,marksP_snoc n,marksP]
  simp
  omega
theorem marksP_at:∀ (n:Nat) (a:Int) (j:Nat) (h:j < (marksP n a).length),(marksP n a)[j]=⟨a+3 * j,a+3 * j+1,a+3 * j+1+1⟩
 | 0,a,j,h=>by simp [marksP] at h
 | n+1,a,0,h=>by simp [marksP]
 | n+1,a,j+1,h=>by
  have:=marksP_at n (a+1+1+1) j (by simpa [marksP] using h)
  simp only [marksP,List.getElem_cons_succ]
  rw [this]
  congr 1 <;> omega
theorem dropP_at {l:List Pr} {i:Nat} (h:i < l.length):∃ x,l.drop i=x::l.drop (i+1):=⟨l[i],List.drop_eq_getElem_cons h⟩
theorem markP_loop (l:List Pr) (hl:l.length≤1048576):∀ (d i:Nat),l.length - i=d→i≤l.length→Ev (fun k=>Qg.l0 k (marksP i 1++l.drop i) (1+3 * (i:Int)) (i:Int)) (1+3 * (l.length:Int),marksP l.length 1):=by
 intro d
 induction d with
 | zero=>
  intro i hd hi
  obtain rfl:i=l.length:=by omega
  refine ev_succ ?_
  simp only [Qg.l0,List.drop_length,List.append_nil,marksP_length,if_neg (show ¬ (l.length:Int) < (l.length:Int) by omega)]
  exact ev_some _
 | succ d ih=>
  intro i hd hi
  have e1:wrap64 ((i:Int)+1)=((i+1:Nat):Int):=by rw [wrap_id (by omega) (by omega)];omega
  have e2:wrap64 (1+3 * (i:Int)+1)=1+3 * (i:Int)+1:=wrap_id (by omega) (by omega)
  have e3:wrap64 (1+3 * (i:Int)+1+1)=1+3 * (i:Int)+1+1:=wrap_id (by omega) (by omega)
  have e4:wrap64 (1+3 * (i:Int)+1+1+1)=1+3 * ((i+1:Nat):Int):=by rw [wrap_id (by omega) (by omega)];omega
  have hlen:(marksP i 1++l.drop i).length=l.length:=by simp [marksP_length];omega
  refine ev_succ ?_
  obtain ⟨x,hd1⟩:=dropP_at (show i < l.length by omega)
  have hr:∀ (x:Pr) (r:List Pr),Qb (marksP i 1++x::r) (i:Int)=x:=by
   intro x r
   unfold Qb
   rw [Int.toNat_natCast,List.getD_eq_getElem?_getD,List.getElem?_append_right (by rw [marksP_length];omega),marksP_length]
   simp
  simp only [Qg.l0,hlen,if_pos (show (i:Int) < (l.length:Int) by omega),if_pos (show (0:Int)≤i by omega),bsome,e1,e2,e3,e4,Int.toNat_natCast]
  rw [hd1,hr]
  rw [set_mid _ _ _ _ _ (marksP_length i 1).symm,hr,set_mid _ _ _ _ _ (marksP_length i 1).symm,hr,set_mid _ _ _ _ _ (marksP_length i 1).symm]
  have:=ih (i+1) (by omega) (by omega)
  rw [marksP_snoc,List.append_assoc] at this
  exact this
theorem heldP_loop (n:Nat) (hn:n≤1048576):∀ (d i:Nat),n - i=d→i≤n→Ev (fun k=>Qh.l0 k (marksP n 1) (1+3 * (i:Int)) (i:Int)) (1+3 * (n:Int)):=by
 intro d
 induction d with
 | zero=>
  intro i hd hi
  obtain rfl:i=n:=by omega
  refine ev_succ ?_
  simp only [Qh.l0,marksP_length,if_neg (show ¬ (i:Int) < (i:Int) by omega)]
  exact ev_some _
 | succ d ih=>
  intro i hd hi
  have e1:wrap64 ((i:Int)+1)=((i+1:Nat):Int):=by rw [wrap_id (by omega) (by omega)];omega
  have e2:wrap64 (1+3 * (i:Int)+1)=1+3 * (i:Int)+1:=wrap_id (by omega) (by omega)
  have e3:wrap64 (1+3 * (i:Int)+1+1)=1+3 * (i:Int)+1+1:=wrap_id (by omega) (by omega)
  have e4:wrap64 (1+3 * (i:Int)+1+1+1)=1+3 * ((i+1:Nat):Int):=by rw [wrap_id (by omega) (by omega)];omega
  have hr:Qb (marksP n 1) (i:Int)=⟨1+3 * (i:Int),1+3 * (i:Int)+1,1+3 * (i:Int)+1+1⟩:=by
   unfold Qb
   rw [Int.toNat_natCast,List.getD_eq_getElem?_getD,List.getElem?_eq_getElem (by rw [marksP_length];omega),Option.getD_some,marksP_at]
  refine ev_succ ?_
  simp only [Qh.l0,marksP_length,if_pos (show (i:Int) < (n:Int) by omega),if_pos (show (0:Int)≤i by omega),hr,e1,e2,e3,e4,if_true]
  exact ih (i+1) (by omega) (by omega)
theorem markProds (l:List Pr) (hl:l.length≤1048576):∃ l',Ev (fun k=>Qg.f k l 1) (1+3 * (l.length:Int),l')∧Ev (fun k=>Qh.f k l' 1) (1+3 * (l.length:Int)):=by
 refine ⟨marksP l.length 1,?_,?_⟩
 ·have:=markP_loop l hl l.length 0 (by omega) (by omega)
  simpa [marksP,Qg.f] using this
 ·have:=heldP_loop l.length hl l.length 0 (by omega) (by omega)
  simpa [Qh.f] using this
theorem rd_nat (l:List Int) (j:Nat) (h:j < l.length):rd l (j:Int)=l[j]:=by
 unfold rd
 rw [Int.toNat_natCast,List.getD_eq_getElem?_getD,List.getElem?_eq_getElem h]
 rfl
theorem drop_int {l:List Int} {i:Nat} (h:i < l.length):l.drop i=rd l i::l.drop (i+1):=by
 rw [List.drop_eq_getElem_cons h,rd_nat l i h]
def ab (l:List Int):Bool:=decide (∀ x∈l,0≤x∧x≤255)
theorem ab_cons (x:Int) (l:List Int):ab (x::l)=(decide (0≤x∧x≤255)&&ab l):=by
 rw [Bool.eq_iff_iff]
 simp [ab,List.forall_mem_cons]
theorem ab_nil:ab []=true:=by simp [ab]
theorem isByte_eq (a:Int):Rm.f a=some (decide (0≤a∧a≤255)):=by
 unfold Rm.f
 by_cases h:a ≥ 0
 ·rw [if_pos h]
  have:(0≤a∧a≤255)↔a≤255:=⟨fun h=>h.2,fun h'=>⟨h,h'⟩⟩
  simp [this]
 ·rw [if_neg h]
  have:¬ (0≤a∧a≤255):=fun h'=>h h'.1
  simp [this]
theorem baseValid_eq (a b:Int):Ra.f a b=some (decide ((0≤a∧a≤99999)∧(0≤b∧b≤99999))):=by
 unfold Ra.f
 rw [Rl,Rl]
 by_cases h : 0≤a∧a≤99999 <;> simp [h]
theorem idValid_eqB (a:Int):Qz.f a=some (decide (0≤a∧a≤254)):=by
 unfold Qz.f
 rw [Rl]
 rfl
theorem implAll_loop (l:List Int) (hl:l.length≤1000000000000000):∀ (d i:Nat),l.length - i=d→i≤l.length→Ev (fun k=>Qx.l0 k l (l.length:Int) (i:Int)) (ab (l.drop i)):=by
 intro d
 induction d with
 | zero=>
  intro i hd hi
  rw [show l.drop i = [] from List.drop_eq_nil_of_le (by omega),ab_nil]
  refine ev_succ ?_
  simp only [Qx.l0,if_neg (show ¬ (i:Int) < (l.length:Int) by omega)]
  exact ev_some _
 | succ d ih=>
  intro i hd hi
  have e1:wrap64 ((i:Int)+1)=((i+1:Nat):Int):=by rw [wrap_id (by omega) (by omega)];omega
  rw [drop_int (show i < l.length by omega),ab_cons]
  refine ev_succ ?_
  simp only [Qx.l0,if_pos (show (i:Int) < (l.length:Int) by omega),if_pos (show (0:Int)≤i by omega),isByte_eq,bsome,decide_eq_true_eq,e1]
  by_cases h : 0≤rd l (i:Int)∧rd l (i:Int)≤255
  ·simp only [if_pos h,decide_eq_true h,Bool.true_and]
   exact ih (i+1) (by omega) (by omega)
  ·simp only [if_neg h,decide_eq_false h,Bool.false_and]
   exact ev_some _
theorem implAll (l:List Int) (hl:l.length≤1000000000000000):Ev (fun k=>Qx.f k l) (ab l):=by
 unfold Qx.f
 have:=implAll_loop l hl l.length 0 (by omega) (by omega)
 simpa using this
theorem specAll_loop (l:List Int) (hl:l.length≤1000000000000000):∀ (d i:Nat),l.length - i=d→i≤l.length→Ev (fun k=>Q1.l0 k l (i:Int)) (ab (l.drop i)):=by
 intro d
 induction d with
 | zero=>
  intro i hd hi
  rw [show l.drop i = [] from List.drop_eq_nil_of_le (by omega),ab_nil]
  refine ev_succ ?_
  simp only [Q1.l0,if_neg (show ¬ (i:Int) < (l.length:Int) by omega)]
  exact ev_some _
 | succ d ih=>
  intro i hd hi
  have e1:wrap64 ((i:Int)+1)=((i+1:Nat):Int):=by rw [wrap_id (by omega) (by omega)];omega
  rw [drop_int (show i < l.length by omega),ab_cons]
  refine ev_succ ?_
  simp only [Q1.l0,if_pos (show (i:Int) < (l.length:Int) by omega),if_pos (show (0:Int)≤i by omega),spec_l6In_eq,bsome,decide_eq_true_eq,e1]
  by_cases h : 0≤rd l (i:Int)∧rd l (i:Int)≤255
  ·simp only [if_pos h,decide_eq_true h,Bool.true_and]
   exact ih (i+1) (by omega) (by omega)
  ·simp only [if_neg h,decide_eq_false h,Bool.false_and]
   exact ev_some _
theorem specAll (l:List Int) (hl:l.length≤1000000000000000):Ev (fun k=>Q1.f k l) (ab l):=by
 unfold Q1.f
 have:=specAll_loop l hl l.length 0 (by omega) (by omega)
 simpa using this
def pv (has:Bool) (l:List Int):Bool:=if has=true then decide (l.length≤12)&&ab l else decide (l.length=0)
theorem implPart (has:Bool) (l:List Int) (hl:l.length≤1000000000000000):Ev (fun k=>Q4.f k has l) (pv has l):=by
 unfold Q4.f pv
 cases has with
 | true=>
  simp only [if_true]
  by_cases h:(l.length:Int)≤12
  ·simp only [if_pos h,decide_eq_true (show l.length≤12 by omega),Bool.true_and]
   exact Ev.bind (implAll l hl) (ev_some _)
  ·simp only [if_neg h,decide_eq_false (show ¬ l.length≤12 by omega),Bool.false_and]
   exact ev_some _
 | false=>
  simp only [Bool.false_eq_true,if_false]
  rw [show ((l.length:Int)==0)=decide (l.length=0) by rw [Bool.eq_iff_iff];simp]
  exact ev_some _
theorem specPart (has:Bool) (l:List Int) (hl:l.length≤1000000000000000):Ev (fun k=>Rb.f k has l) (pv has l):=by
 unfold Rb.f pv
 cases has with
 | true=>
  simp only [if_true]
  refine Ev.bind (specAll l hl) ?_
  by_cases h:ab l=true
  ·simp only [if_pos h,h,Bool.and_true]
   rw [show decide ((l.length:Int)≤12)=decide (l.length≤12) by rw [decide_eq_decide];omega]
   exact ev_some _
  ·simp only [if_neg h,show ab l=false by simpa using h,Bool.and_false]
   exact ev_some _
 | false=>
  simp only [Bool.false_eq_true,if_false]
  by_cases h:l.length=0
  ·simp only [if_pos (show (l.length:Int)=0 by omega),decide_eq_true h]
   refine Ev.bind (specAll l hl) ?_
   have hn:l = []:=List.length_eq_zero_iff.1 h
   subst hn
   simp only [ab_nil,if_true]
   exact ev_some _
  ·simp only [if_neg (show ¬ (l.length:Int)=0 by omega),decide_eq_false h]
   exact ev_some _
abbrev Rc:=S75
abbrev rr (l:List Rc) (i:Int):Rc:=Qa l i
theorem rr_nat (l:List Rc) (j:Nat) (h:j < l.length):rr l (j:Int)=l[j]:=by
 unfold rr Qa
 rw [Int.toNat_natCast,List.getD_eq_getElem?_getD,List.getElem?_eq_getElem h]
 rfl
def smallR (r:Rc):Prop:=r.f3.length≤1000000000000000∧r.f5.length≤1000000000000000
def smallRs (l:List Rc):Prop:=l.length≤1000000000000000∧∀ r∈l,smallR r
theorem smallRs_at {l:List Rc} (h:smallRs l) (j:Nat) (hj:j < l.length):smallR (rr l (j:Int)):=by
 rw [rr_nat l j hj]
 exact h.2 _ (List.getElem_mem hj)
def rv (r:Rc):Bool:=decide ((0≤r.f0∧r.f0≤99999)∧(0≤r.f1∧r.f1≤99999))&&(pv r.f2 r.f3&&pv r.f4 r.f5)
theorem implRec (r:Rc) (h:smallR r):Ev (fun k=>Q5.f k r.f0 r.f1 r.f2 r.f3 r.f4 r.f5) (rv r):=by
 unfold Q5.f rv
 simp only [baseValid_eq,bsome,decide_eq_true_eq]
 by_cases h0:(0≤r.f0∧r.f0≤99999)∧(0≤r.f1∧r.f1≤99999)
 ·simp only [if_pos h0,decide_eq_true h0,Bool.true_and]
  refine Ev.bind (implPart _ _ h.1) ?_
  by_cases h1:pv r.f2 r.f3=true
  ·simp only [if_pos h1,h1,Bool.true_and]
   exact Ev.bind (implPart _ _ h.2) (ev_some _)
  ·simp only [if_neg h1,show pv r.f2 r.f3=false by simpa using h1,Bool.false_and]
   exact ev_some _
 ·simp only [if_neg h0,decide_eq_false h0,Bool.false_and]
  exact ev_some _
theorem specRec (r:Rc) (h:smallR r):Ev (fun k=>Q6.f k r.f0 r.f1 r.f2 r.f3 r.f4 r.f5) (rv r):=by
 unfold Q6.f rv
 simp only [spec_l6In_eq,bsome,decide_eq_true_eq]
 by_cases h0 : 0≤r.f0∧r.f0≤99999
 ·by_cases h1 : 0≤r.f1∧r.f1≤99999
  ·simp only [if_pos h0,if_pos h1,decide_eq_true (show (0≤r.f0∧r.f0≤99999)∧(0≤r.f1∧r.f1≤99999) from ⟨h0,h1⟩),Bool.true_and]
   refine Ev.bind (specPart _ _ h.1) ?_
   by_cases h2:pv r.f2 r.f3=true
   ·simp only [if_pos h2,h2,Bool.true_and]
    exact Ev.bind (specPart _ _ h.2) (ev_some _)
   ·simp only [if_neg h2,show pv r.f2 r.f3=false by simpa using h2,Bool.false_and]
    exact ev_some _
  ·simp only [if_pos h0,if_neg h1,decide_eq_false (show ¬ ((0≤r.f0∧r.f0≤99999)∧(0≤r.f1∧r.f1≤99999)) from fun h=>h1 h.2),Bool.false_and]
   exact ev_some _
 ·simp only [if_neg h0,decide_eq_false (show ¬ ((0≤r.f0∧r.f0≤99999)∧(0≤r.f1∧r.f1≤99999)) from fun h=>h0 h.1),Bool.false_and]
  exact ev_some _
def RF (l:List Rc) (i:Nat):Prop:=∀ j,i≤j→j < l.length→rv (rr l j)=true∧(0 < j→(rr l ((j:Int) - 1)).f0 < (rr l j).f0)
theorem RF_end {l:List Rc} {i:Nat} (h:l.length≤i):RF l i:=fun j h1 h2=>by omega
theorem RF_step {l:List Rc} {i:Nat} (h:i < l.length):RF l i↔(rv (rr l i)=true∧(0 < i→(rr l ((i:Int) - 1)).f0 < (rr l i).f0))∧RF l (i+1):=by
 constructor
 ·intro hv
  exact ⟨hv i (Nat.le_refl _) h,fun j h1 h2=>hv j (by omega) h2⟩
 ·rintro ⟨h1,h2⟩ j h3 h4
  by_cases e:j=i
  ·subst e;exact h1
  ·exact h2 j (by omega) h4
theorem implRecs_loop (l:List Rc) (hl:smallRs l) (a0 a1:Bool) (a2 a3 a4:Int):∀ (d i:Nat),l.length - i=d→i≤l.length→Evs (fun k=>Qc.l0 k l (l.length:Int) (i:Int) a0 a1 a2 a3 a4 l) (fun b=>b=true↔RF l i):=by
 intro d
 induction d with
 | zero=>
  intro i hd hi
  refine Evs.succ ?_
  simp only [Qc.l0,if_neg (show ¬ (i:Int) < (l.length:Int) by omega)]
  exact Evs.done (by simp;exact RF_end (by omega))
 | succ d ih=>
  intro i hd hi
  have hll:=hl.1
  have hn:=ih (i+1) (by omega) (by omega)
  have e1:wrap64 ((i:Int)+1)=((i+1:Nat):Int):=by rw [wrap_id (by omega) (by omega)];omega
  have e2:wrap64 ((i:Int) - 1)=(i:Int) - 1:=wrap_id (by omega) (by omega)
  rw [RF_step (show i < l.length by omega)]
  refine Evs.succ ?_
  simp only [Qc.l0,if_pos (show (i:Int) < (l.length:Int) by omega),if_pos (show (0:Int)≤i by omega),e1,e2]
  refine Evs.bind (Evs.of (implRec (rr l (i:Int)) (smallRs_at hl i (by omega))) rfl:Evs _ (fun x=>x=rv (rr l (i:Int)))) ?_
  rintro _ rfl
  by_cases h1:rv (rr l (i:Int))=true
  ·simp only [if_pos h1]
   by_cases h0:(i:Int) > 0
   ·simp only [if_pos h0,if_pos (show 0≤(i:Int) - 1 by omega),if_pos (show (i:Int) - 1 < (l.length:Int) by omega)]
    by_cases h2:(rr l ((i:Int) - 1)).f0 ≥ (rr l (i:Int)).f0
    ·simp only [if_pos h2]
     refine Evs.done ?_
     simp only [Bool.false_eq_true,false_iff]
     rintro ⟨⟨_,h3⟩,_⟩
     have:=h3 (by omega)
     omega
    ·simp only [if_neg h2]
     refine hn.mono fun b hb=>?_
     rw [hb]
     exact ⟨fun h=>⟨⟨h1,fun _=>by omega⟩,h⟩,fun h=>h.2⟩
   ·simp only [if_neg h0]
    refine hn.mono fun b hb=>?_
    rw [hb]
    exact ⟨fun h=>⟨⟨h1,fun h'=>absurd h' (by omega)⟩,h⟩,fun h=>h.2⟩
  ·simp only [if_neg h1]
   exact Evs.done (by simp only [Bool.false_eq_true,false_iff];exact fun h=>h1 h.1.1)
theorem specRecs_loop (l:List Rc) (hl:smallRs l):∀ (d i:Nat),l.length - i=d→i≤l.length→Evs (fun k=>Qf.l0 k l (i:Int)) (fun b=>b=true↔RF l i∧1≤l.length∧l.length≤6):=by
 intro d
 induction d with
 | zero=>
  intro i hd hi
  refine Evs.succ ?_
  simp only [Qf.l0,if_neg (show ¬ (i:Int) < (l.length:Int) by omega),spec_l6In_eq,bsome]
  exact Evs.done (by simp only [decide_eq_true_eq];exact ⟨fun h=>⟨RF_end (by omega),by omega,by omega⟩,fun h=>by have:=h.2;omega⟩)
 | succ d ih=>
  intro i hd hi
  have hll:=hl.1
  have hn:=ih (i+1) (by omega) (by omega)
  have e1:wrap64 ((i:Int)+1)=((i+1:Nat):Int):=by rw [wrap_id (by omega) (by omega)];omega
  have e2:wrap64 ((i:Int) - 1)=(i:Int) - 1:=wrap_id (by omega) (by omega)
  rw [RF_step (show i < l.length by omega)]
  refine Evs.succ ?_
  simp only [Qf.l0,if_pos (show (i:Int) < (l.length:Int) by omega),if_pos (show (0:Int)≤i by omega),e1,e2]
  refine Evs.bind (Evs.of (specRec (rr l (i:Int)) (smallRs_at hl i (by omega))) rfl:Evs _ (fun x=>x=rv (rr l (i:Int)))) ?_
  rintro _ rfl
  by_cases h1:rv (rr l (i:Int))=true
  ·simp only [if_pos h1]
   by_cases h0:(i:Int) > 0
   ·simp only [if_pos h0,if_pos (show 0≤(i:Int) - 1 by omega),if_pos (show (i:Int) - 1 < (l.length:Int) by omega)]
    by_cases h2:(rr l ((i:Int) - 1)).f0 ≥ (rr l (i:Int)).f0
    ·simp only [if_pos h2]
     refine Evs.done ?_
     simp only [Bool.false_eq_true,false_iff]
     rintro ⟨⟨⟨_,h3⟩,_⟩,_⟩
     have:=h3 (by omega)
     omega
    ·simp only [if_neg h2]
     refine hn.mono fun b hb=>?_
     rw [hb]
     exact ⟨fun h=>⟨⟨⟨h1,fun _=>by omega⟩,h.1⟩,h.2⟩,fun h=>⟨h.1.2,h.2⟩⟩
   ·simp only [if_neg h0]
    refine hn.mono fun b hb=>?_
    rw [hb]
    exact ⟨fun h=>⟨⟨⟨h1,fun h'=>absurd h' (by omega)⟩,h.1⟩,h.2⟩,fun h=>⟨h.1.2,h.2⟩⟩
  ·simp only [if_neg h1]
   exact Evs.done (by simp only [Bool.false_eq_true,false_iff];exact fun h=>h1 h.1.1.1)
def VB (a1:Bool) (a2 a3 a4:Int) (l:List Rc):Prop:=
 (if a2=255 then a3=0∧a4=0∧a1=false else (0≤a2∧a2≤254)∧(0≤a3∧a3≤99)∧(0≤a4∧a4≤9999))∧(1≤l.length∧l.length≤6)∧(a1=true→l.length=1)∧RF l 0
theorem implB_j0 (a0 a1:Bool) (a2 a3 a4:Int) (l:List Rc) (hl:smallRs l):Evs (fun k=>Qc.j0 k a0 a1 a2 a3 a4 l) (fun b=>b=true↔(1≤l.length∧l.length≤6)∧(a1=true→l.length=1)∧RF l 0):=by
 have hr:=implRecs_loop l hl a0 a1 a2 a3 a4 l.length 0 (by omega) (by omega)
 refine Evs.succ ?_
 simp only [Qc.j0,Rl,bsome,decide_eq_true_eq]
 by_cases h : 1≤(l.length:Int)∧(l.length:Int)≤6
 ·simp only [if_pos h]
  cases a1 with
  | true=>
   simp only [if_true]
   refine Evs.succ ?_
   by_cases h1:l.length=1
   ·simp only [Qc.j1,show ((l.length:Int) != 1)=false by rw [h1];rfl,Bool.false_eq_true,if_false]
    refine hr.mono fun b hb=>?_
    rw [hb]
    exact ⟨fun h2=>⟨by omega,fun _=>h1,h2⟩,fun h2=>h2.2.2⟩
   ·simp only [Qc.j1,show ((l.length:Int) != 1)=true by simp;omega,if_true]
    exact Evs.done (by simp only [Bool.false_eq_true,false_iff];exact fun h2=>h1 (h2.2.1 trivial))
  | false=>
   simp only [Bool.false_eq_true,if_false]
   refine Evs.succ ?_
   simp only [Qc.j1,Bool.false_eq_true,if_false]
   refine hr.mono fun b hb=>?_
   rw [hb]
   exact ⟨fun h2=>⟨by omega,(fun h3=>h3.elim),h2⟩,fun h2=>h2.2.2⟩
 ·simp only [if_neg h]
  refine Evs.succ ?_
  simp only [Qc.j1,if_true]
  exact Evs.done (by simp only [Bool.false_eq_true,false_iff];exact fun h2=>h ⟨by have:=h2.1.1;omega,by have:=h2.1.2;omega⟩)
theorem implB_evs (a0 a1:Bool) (a2 a3 a4:Int) (l:List Rc) (hl:smallRs l):Evs (fun k=>Qc.f k a0 a1 a2 a3 a4 l) (fun b=>b=true↔VB a1 a2 a3 a4 l):=by
 have hj:=implB_j0 a0 a1 a2 a3 a4 l hl
 unfold Qc.f VB
 by_cases h:a2=255
 ·simp only [if_pos h]
  by_cases h3:a3=0
  ·simp only [if_pos h3]
   by_cases h4:a4=0
   ·simp only [if_pos h4]
    cases a1 with
    | true=>
     simp only [if_true]
     exact Evs.done (by simp)
    | false=>
     simp only [Bool.false_eq_true,if_false]
     refine hj.mono fun b hb=>?_
     rw [hb]
     exact ⟨fun h2=>⟨⟨h3,h4,trivial⟩,h2.1,(fun h5=>h5.elim),h2.2.2⟩,fun h2=>⟨h2.2.1,(fun h5=>by cases h5),h2.2.2.2⟩⟩
   ·simp only [if_neg h4]
    exact Evs.done (by simp only [Bool.false_eq_true,false_iff];exact fun h2=>h4 h2.1.2.1)
  ·simp only [if_neg h3]
   exact Evs.done (by simp only [Bool.false_eq_true,false_iff];exact fun h2=>h3 h2.1.1)
 ·simp only [if_neg h,idValid_eqB,Rl,bsome,decide_eq_true_eq]
  by_cases h2 : 0≤a2∧a2≤254
  ·simp only [if_pos h2]
   by_cases h3 : 0≤a3∧a3≤99
   ·simp only [if_pos h3]
    by_cases h4 : 0≤a4∧a4≤9999
    ·simp only [if_pos h4]
     refine hj.mono fun b hb=>?_
     rw [hb]
     exact ⟨fun h5=>⟨⟨h2,h3,h4⟩,h5⟩,fun h5=>h5.2⟩
    ·simp only [if_neg h4]
     exact Evs.done (by simp only [Bool.false_eq_true,false_iff];exact fun h5=>h4 h5.1.2.2)
   ·simp only [if_neg h3]
    exact Evs.done (by simp only [Bool.false_eq_true,false_iff];exact fun h5=>h3 h5.1.2.1)
  ·simp only [if_neg h2]
   exact Evs.done (by simp only [Bool.false_eq_true,false_iff];exact fun h5=>h2 h5.1.1)
theorem specB_j0_true (a0 a1:Bool) (a2 a3 a4:Int) (l:List Rc):Evs (fun k=>Qn.j0 k true a0 a1 a2 a3 a4 l) (fun b=>b=false):=by
 refine Evs.succ ?_
 simp only [Qn.j0,if_true]
 exact Evs.done rfl
theorem specB_evs (a0 a1:Bool) (a2 a3 a4:Int) (l:List Rc) (hl:smallRs l):Evs (fun k=>Qn.f k a0 a1 a2 a3 a4 l) (fun b=>b=true↔VB a1 a2 a3 a4 l):=by
 have hr:=specRecs_loop l hl l.length 0 (by omega) (by omega)
 have no:∀ {P:Prop},¬ P→∀ b:Bool,b=false→(b=true↔P):=fun hP b hb=>by rw [hb];simp only [Bool.false_eq_true,false_iff];exact hP
 unfold Qn.f
 unfold Qf.f
 refine Evs.bind hr ?_
 intro t ht
 by_cases h:t=true
 ·obtain ⟨hRF,hl1⟩:=ht.1 h
  simp only [if_pos h,spec_l6In_eq,bsome,decide_eq_true_eq]
  by_cases h2 : 0≤a2∧a2≤255
  ·simp only [if_pos h2]
   by_cases h3 : 0≤a3∧a3≤99
   ·simp only [if_pos h3]
    by_cases h4 : 0≤a4∧a4≤9999
    ·simp only [decide_eq_true h4,Bool.not_true]
     refine Evs.succ ?_
     simp only [Qn.j0,Bool.false_eq_true,if_false]
     unfold VB
     by_cases h5:a2=255
     ·simp only [if_pos h5]
      by_cases h6:a3=0
      ·simp only [if_pos h6]
       by_cases h7:a4=0
       ·simp only [if_pos h7]
        refine Evs.done ?_
        cases a1
        ·simp;exact ⟨⟨h6,h7⟩,hl1,hRF⟩
        ·simp
       ·simp only [if_neg h7]
        exact Evs.done (no (fun h8=>h7 h8.1.2.1) _ rfl)
      ·simp only [if_neg h6]
       exact Evs.done (no (fun h8=>h6 h8.1.1) _ rfl)
     ·simp only [if_neg h5]
      cases a1 with
      | true=>
       simp only [if_true]
       refine Evs.done ?_
       simp only [beq_iff_eq]
       exact ⟨fun h8=>⟨⟨by omega,h3,h4⟩,hl1,fun _=>by omega,hRF⟩,fun h8=>by have:=h8.2.2.1 trivial;omega⟩
      | false=>
       simp only [Bool.false_eq_true,if_false]
       refine Evs.done ?_
       simp only [true_iff]
       exact ⟨⟨by omega,h3,h4⟩,hl1,(fun h8=>h8.elim),hRF⟩
    ·simp only [decide_eq_false h4,Bool.not_false]
     refine (specB_j0_true a0 a1 a2 a3 a4 l).mono (no ?_)
     unfold VB
     split
     ·rintro ⟨⟨_,h8,_⟩,_⟩
      exact h4 (by omega)
     ·exact fun h8=>h4 h8.1.2.2
   ·simp only [if_neg h3]
    refine (specB_j0_true a0 a1 a2 a3 a4 l).mono (no ?_)
    unfold VB
    split
    ·rintro ⟨⟨h8,_,_⟩,_⟩
     exact h3 (by omega)
    ·exact fun h8=>h3 h8.1.2.1
  ·simp only [if_neg h2]
   refine (specB_j0_true a0 a1 a2 a3 a4 l).mono (no ?_)
   unfold VB
   split
   ·rename_i h8
    exact fun _=>h2 (by omega)
   ·exact fun h8=>h2 (by have:=h8.1.1;omega)
 ·simp only [if_neg h]
  refine (specB_j0_true a0 a1 a2 a3 a4 l).mono (no ?_)
  exact fun h8=>h (ht.2 ⟨h8.2.2.2,h8.2.1⟩)
open Classical in
noncomputable def vb (a1:Bool) (a2 a3 a4:Int) (l:List Rc):Bool:=decide (VB a1 a2 a3 a4 l)
theorem vb_iff (a1:Bool) (a2 a3 a4:Int) (l:List Rc):vb a1 a2 a3 a4 l=true↔VB a1 a2 a3 a4 l:=by unfold vb;simp
theorem implB (a0 a1:Bool) (a2 a3 a4:Int) (l:List Rc) (hl:smallRs l):Ev (fun k=>Qc.f k a0 a1 a2 a3 a4 l) (vb a1 a2 a3 a4 l):=by
 obtain ⟨b,hb,h⟩:=implB_evs a0 a1 a2 a3 a4 l hl
 rw [show vb a1 a2 a3 a4 l=b by rw [Bool.eq_iff_iff,vb_iff,h]]
 exact hb
theorem specB (a0 a1:Bool) (a2 a3 a4:Int) (l:List Rc) (hl:smallRs l):Ev (fun k=>Qn.f k a0 a1 a2 a3 a4 l) (vb a1 a2 a3 a4 l):=by
 obtain ⟨b,hb,h⟩:=specB_evs a0 a1 a2 a3 a4 l hl
 rw [show vb a1 a2 a3 a4 l=b by rw [Bool.eq_iff_iff,vb_iff,h]]
 exact hb
abbrev Lr:=S94
def toR (x:Lr):Rc:=⟨x.f0,x.f1,x.f2,x.f3,x.f4,x.f5⟩
theorem rdLr (l:List Lr) (j:Nat) (h:j < l.length):Qp l (j:Int)=l[j]:=by
 unfold Qp
 rw [Int.toNat_natCast,List.getD_eq_getElem?_getD,List.getElem?_eq_getElem h]
 rfl
def sz (a:Int) (P:Prop) (r:Int):Prop:=r = -1∨(0≤r∧r≤a∧P)
theorem szInts (l:List Int) (hl:l.length≤9223372036854775807) (a:Int) (h0 : 0≤a) (h1:a≤1048576):∃ r,Q8.f l a=some r∧sz a (l.length≤1048576) r:=by
 have e:wrap64 (a - (l.length:Int))=a - (l.length:Int):=wrap_id (by omega) (by omega)
 unfold Q8.f
 rw [e]
 by_cases h:a - (l.length:Int) < 0
 ·rw [if_pos h];exact ⟨_,rfl,Or.inl rfl⟩
 ·rw [if_neg h];exact ⟨_,rfl,Or.inr ⟨by omega,by omega,by omega⟩⟩
def okR (x:Lr):Prop:=x.f3.length≤1048576∧x.f5.length≤1048576
def bigR (x:Lr):Prop:=x.f3.length≤9223372036854775807∧x.f5.length≤9223372036854775807
theorem szRec (x:Lr) (hx:bigR x) (a:Int) (h0 : 0≤a) (h1:a≤1048576):∃ r,Rh.f x.f0 x.f1 x.f2 x.f3 x.f4 x.f5 a=some r∧sz a (okR x) r:=by
 obtain ⟨r1,e1,p1⟩:=szInts x.f3 hx.1 a h0 h1
 unfold Rh.f
 rw [e1]
 rw [bsome]
 rcases p1 with rfl|⟨q0,q1,q2⟩
 ·rw [if_pos (by omega)];exact ⟨_,rfl,Or.inl rfl⟩
 ·rw [if_neg (by omega)]
  obtain ⟨r2,e2,p2⟩:=szInts x.f5 hx.2 r1 q0 (by omega)
  rw [e2]
  rw [bsome]
  rcases p2 with rfl|⟨s0,s1,s2⟩
  ·rw [if_pos (by omega)];exact ⟨_,rfl,Or.inl rfl⟩
  ·rw [if_neg (by omega)];exact ⟨_,rfl,Or.inr ⟨s0,by omega,q2,s2⟩⟩
theorem szRecs_loop (l:List Lr) (hl:l.length≤1048576) (hx:∀ x∈l,bigR x):∀ (d i:Nat) (a:Int),l.length - i=d→i≤l.length→0≤a→a≤1048576→Evs (fun k=>Qs.l0 k l a (i:Int)) (sz a (∀ j,i≤j→(h:j < l.length)→okR l[j])):=by
 intro d
 induction d with
 | zero=>
  intro i a hd hi h0 h1
  refine Evs.succ ?_
  simp only [Qs.l0,if_neg (show ¬ (i:Int) < (l.length:Int) by omega)]
  exact Evs.done (Or.inr ⟨h0,Int.le_refl _,fun j hj h=>by omega⟩)
 | succ d ih=>
  intro i a hd hi h0 h1
  have hlt:i < l.length:=by omega
  have e1:wrap64 ((i:Int)+1)=((i+1:Nat):Int):=by rw [wrap_id (by omega) (by omega)];omega
  refine Evs.succ ?_
  obtain ⟨r,er,pr⟩:=szRec l[i] (hx _ (List.getElem_mem hlt)) a h0 h1
  simp only [Qs.l0,if_pos (show (i:Int) < (l.length:Int) by omega),if_pos (show (0:Int)≤(i:Int) by omega),rdLr l i hlt,er,bsome,e1]
  rcases pr with rfl|⟨q0,q1,q2⟩
  ·simp only [if_pos (show (-1:Int) < 0 by omega)]
   exact Evs.done (Or.inl rfl)
  ·simp only [if_neg (show ¬ r < 0 by omega)]
   refine (ih (i+1) r (by omega) (by omega) q0 (by omega)).mono fun r2 h2=>?_
   rcases h2 with h2|⟨s0,s1,s2⟩
   ·exact Or.inl h2
   ·refine Or.inr ⟨s0,by omega,fun j hj h=>?_⟩
    by_cases he:j=i
    ·subst he;exact q2
    ·exact s2 j (by omega) h
theorem szRecs (l:List Lr) (hl:l.length≤9223372036854775807) (hx:∀ x∈l,bigR x) (a:Int) (h0 : 0≤a) (h1:a≤1048576):Evs (fun k=>Qs.f k l a) (sz a (l.length≤1048576∧∀ x∈l,okR x)):=by
 have e:wrap64 (a - (l.length:Int))=a - (l.length:Int):=wrap_id (by omega) (by omega)
 unfold Qs.f
 simp only [e]
 by_cases h:a - (l.length:Int) < 0
 ·simp only [if_pos h];exact Evs.done (Or.inl rfl)
 ·simp only [if_neg h]
  refine (szRecs_loop l (by omega) hx l.length 0 _ rfl (by omega) (by omega) (by omega)).mono fun r hr=>?_
  rcases hr with hr|⟨s0,s1,s2⟩
  ·exact Or.inl hr
  ·refine Or.inr ⟨s0,by omega,by omega,fun x hx2=>?_⟩
   obtain ⟨j,hj,rfl⟩:=List.getElem_of_mem hx2
   exact s2 j (Nat.zero_le _) hj
theorem set_midR {α:Type} (a:List α) (x y : α) (b:List α) (i:Nat) (h:i=a.length):(a++x::b).set i y=a++y::b:=by
 subst h
 simp
theorem fill_step {α:Type} (l:List α) (z : α) (i:Nat) (h:i < l.length):(l.take i++List.replicate (l.length - i) z).set i l[i]=l.take (i+1)++List.replicate (l.length - (i+1)) z:=by
 have e:l.length - i=(l.length - (i+1))+1:=by omega
 rw [e,List.replicate_succ,set_midR _ _ _ _ _ (by rw [length_take];omega)]
 have h2:l.take (i+1)=l.take i ++ [l[i]]:=by simp
 rw [h2,List.append_assoc]
 rfl
theorem fill_len {α:Type} (l:List α) (z : α) (i:Nat) (h:i≤l.length):(l.take i++List.replicate (l.length - i) z).length=l.length:=by
 rw [List.length_append,length_take,List.length_replicate]
 omega
theorem toInts (l:List Int) (hl:l.length≤1048576):Ev (fun k=>Qv.f k l) l:=by
 have loop:∀ (d i:Nat),l.length - i=d→i≤l.length→Ev (fun k=>Qv.l0 k l (l.take i++List.replicate (l.length - i) 0) (i:Int)) l:=by
  intro d
  induction d with
  | zero=>
   intro i hd hi
   refine ev_succ ?_
   simp only [Qv.l0,if_neg (show ¬ (i:Int) < (l.length:Int) by omega)]
   have:l.take i++List.replicate (l.length - i) 0=l:=by rw [List.take_of_length_le (by omega),hd];simp
   rw [this]
   exact ev_some _
  | succ d ih=>
   intro i hd hi
   have hlt:i < l.length:=by omega
   have e1:wrap64 ((i:Int)+1)=((i+1:Nat):Int):=by rw [wrap_id (by omega) (by omega)];omega
   refine ev_succ ?_
   simp only [Qv.l0,if_pos (show (i:Int) < (l.length:Int) by omega),if_pos (show (0:Int)≤(i:Int) by omega),fill_len l 0 i hi,e1,Int.toNat_natCast,rd_nat l i hlt,fill_step l 0 i hlt]
   exact ih (i+1) (by omega) (by omega)
 unfold Qv.f
 simp only [if_pos (show 0≤(l.length:Int) by omega),Int.toNat_natCast,if_pos (show l.length≤35184372088832 by omega)]
 exact loop l.length 0 rfl (by omega)
theorem toRec (x:Lr) (hx:okR x):Ev (fun k=>Rj.f k x.f0 x.f1 x.f2 x.f3 x.f4 x.f5) (x.f0,x.f1,x.f2,x.f3,x.f4,x.f5):=by
 unfold Rj.f
 refine Ev.bind (toInts x.f3 hx.1) ?_
 exact Ev.bind (toInts x.f5 hx.2) (ev_some _)
theorem toRecs (l:List Lr) (hl:l.length≤1048576) (hx:∀ x∈l,okR x):Ev (fun k=>Qq.f k l) (l.map toR):=by
 have hml:(l.map toR).length=l.length:=List.length_map ..
 have loop:∀ (d i:Nat),l.length - i=d→i≤l.length→Ev (fun k=>Qq.l0 k l ((l.map toR).take i++List.replicate ((l.map toR).length - i) z75) (i:Int)) (l.map toR):=by
  intro d
  induction d with
  | zero=>
   intro i hd hi
   refine ev_succ ?_
   simp only [Qq.l0,if_neg (show ¬ (i:Int) < (l.length:Int) by omega)]
   have:(l.map toR).take i++List.replicate ((l.map toR).length - i) z75=l.map toR:=by rw [List.take_of_length_le (by omega),hml,hd];simp
   rw [this]
   exact ev_some _
  | succ d ih=>
   intro i hd hi
   have hlt:i < l.length:=by omega
   have e1:wrap64 ((i:Int)+1)=((i+1:Nat):Int):=by rw [wrap_id (by omega) (by omega)];omega
   have hfs:=fill_step (l.map toR) z75 i (by omega)
   have hfl:=fill_len (l.map toR) z75 i (by omega)
   refine ev_succ ?_
   simp only [Qq.l0,if_pos (show (i:Int) < (l.length:Int) by omega),if_pos (show (0:Int)≤(i:Int) by omega),rdLr l i hlt,e1,hfl,Int.toNat_natCast]
   refine Ev.bind (toRec l[i] (hx _ (List.getElem_mem hlt))) ?_
   simp only [if_pos (show (i:Int) < ((l.map toR).length:Int) by omega)]
   have hg:(l.map toR)[i]=toR l[i]:=by simp
   rw [hg] at hfs
   rw [show (⟨l[i].f0,l[i].f1,l[i].f2,l[i].f3,l[i].f4,l[i].f5⟩:Rc)=toR l[i] from rfl,hfs]
   exact ih (i+1) (by omega) (by omega)
 unfold Qq.f
 simp only [if_pos (show 0≤(l.length:Int) by omega),Int.toNat_natCast,if_pos (show l.length≤3518437208883 by omega)]
 have:=loop l.length 0 rfl (by omega)
 rw [hml] at this
 exact this
theorem eqInts_self (a:List Int) (hs:a.length≤1048576):Ev (fun k=>Qt.f k a a) true:=by
 have loop:∀ (d i:Nat),a.length - i=d→i≤a.length→Ev (fun k=>Qt.l0 k a a (i:Int)) true:=by
  intro d
  induction d with
  | zero=>
   intro i hd hi
   refine ev_succ ?_
   simp only [Qt.l0,if_neg (show ¬ (i:Int) < (a.length:Int) by omega)]
   exact ev_some _
  | succ d ih=>
   intro i hd hi
   have e1:wrap64 ((i:Int)+1)=((i+1:Nat):Int):=by rw [wrap_id (by omega) (by omega)];omega
   refine ev_succ ?_
   simp only [Qt.l0,if_pos (show (i:Int) < (a.length:Int) by omega),if_pos (show (0:Int)≤(i:Int) by omega),if_true,e1]
   exact ih (i+1) (by omega) (by omega)
 unfold Qt.f
 simp only [if_true]
 exact loop a.length 0 rfl (by omega)
def okRc (x:Rc):Prop:=x.f3.length≤1048576∧x.f5.length≤1048576
theorem eqRec_self (x:Rc) (hx:okRc x):Ev (fun k=>Rg.f k x.f0 x.f1 x.f2 x.f3 x.f4 x.f5 x.f0 x.f1 x.f2 x.f3 x.f4 x.f5) true:=by
 unfold Rg.f
 simp only [if_true,bne_self_eq_false,Bool.false_eq_true,if_false]
 refine Ev.bind (eqInts_self x.f3 hx.1) ?_
 simp only [if_true]
 refine Ev.bind (eqInts_self x.f5 hx.2) ?_
 simp only [if_true]
 exact ev_some _
theorem eqRecs_self (a:List Rc) (hs:a.length≤1048576) (hx:∀ x∈a,okRc x):Ev (fun k=>Qk.f k a a) true:=by
 have loop:∀ (d i:Nat),a.length - i=d→i≤a.length→Ev (fun k=>Qk.l0 k a a (i:Int)) true:=by
  intro d
  induction d with
  | zero=>
   intro i hd hi
   refine ev_succ ?_
   simp only [Qk.l0,if_neg (show ¬ (i:Int) < (a.length:Int) by omega)]
   exact ev_some _
  | succ d ih=>
   intro i hd hi
   have hlt:i < a.length:=by omega
   have e1:wrap64 ((i:Int)+1)=((i+1:Nat):Int):=by rw [wrap_id (by omega) (by omega)];omega
   refine ev_succ ?_
   simp only [Qk.l0,if_pos (show (i:Int) < (a.length:Int) by omega),if_pos (show (0:Int)≤(i:Int) by omega),e1]
   refine Ev.bind (eqRec_self (rr a (i:Int)) (by rw [rr_nat a i hlt];exact hx _ (List.getElem_mem hlt))) ?_
   simp only [if_true]
   exact ih (i+1) (by omega) (by omega)
 unfold Qk.f
 simp only [if_true]
 exact loop a.length 0 rfl (by omega)
theorem szBatC (a0 a1:Bool) (a2 a3 a4:Int) (rs:List Lr) (hl:rs.length≤9223372036854775807) (hx:∀ y∈rs,bigR y) (a:Int) (h0 : 0≤a) (h1:a≤1048576):Evs (fun k=>Rf.f k a0 a1 a2 a3 a4 rs a) (sz a (rs.length≤1048576∧∀ y∈rs,okR y)):=by
 unfold Rf.f
 refine Evs.bind (szRecs rs hl hx a h0 h1) ?_
 intro r hr
 rcases hr with rfl|⟨s0,s1,s2⟩
 ·simp only [if_pos (show (-1:Int) < 0 by omega)];exact Evs.done (Or.inl rfl)
 ·simp only [if_neg (show ¬ r < 0 by omega)];exact Evs.done (Or.inr ⟨s0,s1,s2⟩)
theorem toBatC (a0 a1:Bool) (a2 a3 a4:Int) (rs:List Lr) (hl:rs.length≤1048576) (hx:∀ y∈rs,okR y):Ev (fun k=>Qy.f k a0 a1 a2 a3 a4 rs) (a0,a1,a2,a3,a4,rs.map toR):=by
 unfold Qy.f
 exact Ev.bind (toRecs rs hl hx) (ev_some _)
theorem eqBatC (a0 a1:Bool) (a2 a3 a4:Int) (rs:List Rc) (hl:rs.length≤1048576) (hx:∀ y∈rs,okRc y):Ev (fun k=>Re.f k a0 a1 a2 a3 a4 rs a0 a1 a2 a3 a4 rs) true:=by
 unfold Re.f
 simp only [if_true,bne_self_eq_false,Bool.false_eq_true,if_false]
 refine Ev.bind (eqRecs_self rs hl hx) ?_
 simp only [if_true]
 exact ev_some _
theorem okRc_of {rs:List Lr} (hx:∀ y∈rs,okR y):∀ y∈rs.map toR,okRc y:=fun y hy=>by
 obtain ⟨z,hz,rfl⟩:=List.mem_map.1 hy
 exact hx z hz
theorem smallRs_map {rs:List Lr} (hl:rs.length≤1048576) (hx:∀ y∈rs,okR y):smallRs (rs.map toR):=by
 refine ⟨by rw [List.length_map];omega,fun y hy=>?_⟩
 have:=okRc_of hx y hy
 exact ⟨by have:=this.1;omega,by have:=this.2;omega⟩
theorem maxLen_le:maxLen≤9223372036854775807:=by unfold maxLen;omega
theorem bigR_of {y:Lr} (h6:WF94 y):bigR y:=by
 have hm:=maxLen_le
 unfold WF94 at h6
 exact ⟨Nat.le_trans h6.2.2.2.1.1 hm,Nat.le_trans h6.2.2.2.2.2.1 hm⟩
end Go.Proofs.Ytmophgccpnpgfaa.Q
namespace Go.Proofs.Ytmophgccpnpgfaa.T
open Go.RowKit Go.Proofs.YtmophgccpnpgfaaW.PrintWords Go.Proofs.YtmophgccpnpgfaaW.PrintLast Go.Proofs.YtmophgccpnpgfaaW.PrintMore

set_option linter.unusedVariables false
set_option linter.unusedSimpArgs false
theorem eqA67 (d:Nat) (w:World) (x0 y0:Int) (x1 y1:Int) (x2 y2:Int) :
  (Op.equalIn (d+2) 67 (.agg #[.int .i64 x0,.int .i64 x1,.int .i64 x2]) (.agg #[.int .i64 y0,.int .i64 y1,.int .i64 y2])).run Try.prog w = .ok (x0==y0&&(x1==y1&&(x2==y2))) w:=by
 refine eqA_of Try.underlying67 (by kernel_rfl) ?_;refine eqf_cons (by rfl) (by go_simp;rfl) (by go_simp;rfl) (by go_simp) ?_;refine eqf_cons (by rfl) (by go_simp;rfl) (by go_simp;rfl) (by go_simp) ?_;exact eqf_last (by rfl) (by go_simp;rfl) (by go_simp;rfl) (by go_simp)
end Go.Proofs.Ytmophgccpnpgfaa.T
namespace Go.Proofs.Ytmophgccpnpgfaa.T
open Go.RowKit Go.Proofs.YtmophgccpnpgfaaW.PrintWords Go.Proofs.YtmophgccpnpgfaaW.PrintLast Go.Proofs.YtmophgccpnpgfaaW.PrintMore

set_option linter.unusedVariables false
set_option linter.unusedSimpArgs false
attribute [local go_sem high] eqA67
end Go.Proofs.Ytmophgccpnpgfaa.T
