/- The law FnExactUndoneOf holds (part 3 of 6; merged by pack2.py). -/
import Derived.LaidEqlPtr
import Derived.Lib.Builder
import Derived.Test.YticpnjhkdfdkkaaFnExactUndoneOfK1
set_option maxRecDepth 1000000
open List (setIfInBounds_toArray set_cons_zero set_cons_succ map_toArray map_cons map_nil length_drop length_take)
namespace Go.Proofs.Yticpnjhkdfdkkaa.T
open Go.RowKit Go.Proofs.YticpnjhkdfdkkaaW.PrintWords Go.Proofs.YticpnjhkdfdkkaaW.PrintLast Go.Proofs.YticpnjhkdfdkkaaW.PrintMore

set_option linter.unusedVariables false
set_option linter.unusedSimpArgs false
def Qi.l0:Nat→List (S27)→List (S27)→Int→Int→Option (Bool)
 | 0,_,_,_,_=>none
 | k+1,x0,x8,x9,x10=>if x10 < x9 then (if 0≤x10 then (if x10 < (x8.length:Int) then ((Qd.f k ((Qa x8 x10).f0) ((Qa x8 x10).f1) ((Qa x8 x10).f2) ((Qa x8 x10).f3) ((Qa x8 x10).f4) ((Qa x8 x10).f5)).bind fun t271=>(if t271=true then (if x10 > 0 then (if 0≤(wrap64 (x10 - 1)) then (if (wrap64 (x10 - 1)) < (x0.length:Int) then ((Re.f ((Qa x0 (wrap64 (x10 - 1))).f0) ((Qa x0 (wrap64 (x10 - 1))).f1) ((Qa x0 (wrap64 (x10 - 1))).f2) ((Qa x0 (wrap64 (x10 - 1))).f3) ((Qa x0 (wrap64 (x10 - 1))).f4) ((Qa x0 (wrap64 (x10 - 1))).f5)).bind fun t273=>((Q3.f ((Qa x8 x10).f0) ((Qa x8 x10).f1) ((Qa x8 x10).f2) ((Qa x8 x10).f3) ((Qa x8 x10).f4) ((Qa x8 x10).f5)).bind fun t274=>(if t273 ≥ t274 then (some false) else (Qi.l0 k x0 x8 x9 (wrap64 (x10+1)))))) else (none)) else (none)) else (Qi.l0 k x0 x8 x9 (wrap64 (x10+1)))) else (some false))) else (none)) else (none)) else (some true)
def Qi.f (k:Nat) (l0:List (S27)):Option (Bool):=if (l0.length:Int) > 8 then (some false) else (Qi.l0 k l0 l0 (l0.length:Int) 0)
def Qi.T6:Bool×List (List Nat×List Nat):=(true,[([],[]),([0],[0]),([1],[1]),([2,1],[2]),([3],[3]),([4,3],[3,4]),([5,3,3],[3,5]),([6],[6]),([6],[6]),([8,6],[6,8]),([7,9,6],[6,7,9]),([10,6],[6,10]),([11,6,6],[6,11]),([6],[6]),([13,12,6],[6,13]),([12,14,6],[6,12,14]),([6,15,3],[3,6,15]),([3,16],[3,16])])
def Qi.B6:List Nat:=[0,1,3,7,15,31,63,127,127,383,1023,2047,4095,127,16383,32767,65535,131071]
theorem Qi.tab6:rtab .any (opsOf Try.f61 6)=Qi.T6:=by kernel_rfl
theorem Qi.bits6:waitsOk Qi.T6.2 Qi.B6=true:=by kernel_rfl
set_option maxHeartbeats 8000000 in
theorem Qi.calls (k:Nat) (A0:Option Addr) (c0:Nat) (l0:List (S27)) (r:Bool) (w:World) (j4:Kd.C k27 w A0 l0.length l0) (j5:l0.length≤c0) (h:Qi.f k l0=some r) :
  Calls Try.prog 61 #[.slice A0 l0.length c0] w fun e w'=>e = .returned (.bool r)∧Below w.heap.size w w':=by
 have hu27:=Try.underlying27;have g6:=zzm j4;have q2:=zzm j5;clear j4 j5;have HB:=zzm (Below.refl w.heap.size w);have H:(if (l0.length:Int) > 8 then (some false) else (Qi.l0 k l0 l0 (l0.length:Int) 0))=some r:=h;clear h;by_cases c2:(l0.length:Int) > 8
 ·
  rw [if_pos c2] at H;have h4:decide (8 < (l0.length:Int))=true:=decide_eq_true c2;have h5:decide (8 < l0.length)=true:=decide_eq_true (by omega);clear c2;obtain rfl:=Option.some.inj H;go_enter Try.func61,Try.ntmps61;go_wp2;go_ret;exact ⟨zzR,zzh1⟩
 ·
  rw [if_neg c2] at H;have h4:decide (8 < (l0.length:Int))=false:=decide_eq_false c2;have h5:decide (8 < l0.length)=false:=decide_eq_false (by omega);clear c2;have H':=zzm H;clear H;go_enter Try.func61,Try.ntmps61;go_wp2;go_loopg [10] k (fun kq p3 w'=>∃ (a0:Int),p3 = .int .i64 a0∧Aside0 (Qi.l0 kq l0 l0 (l0.length:Int) a0=some r)∧Aside0 (kq≤k)∧Aside0 (Below w.heap.size w w'))
  case atStart=>exact ⟨(0),(by first|rfl|(simp;done)|(simp [*];done)),H',⟨Nat.le_refl _⟩,⟨zzh1⟩⟩
  case round=>
   clear H';try clear c2
   try clear h4
   try clear h5
   try clear p2
   obtain ⟨a0,rfl,HA,HK1,HB⟩:=hrel;cases gk with
   | zero=>exact absurd HA.out (by simp [Qi.l0])
   | succ k1=>
    have H:=HA.out;clear HA;simp only [Qi.l0] at H;by_cases c3:a0 < (l0.length:Int)
    ·
     rw [if_pos c3] at H;have j8:decide (a0 < (l0.length:Int))=true:=decide_eq_true c3;clear c3;by_cases c4 : 0≤a0
     ·
      rw [if_pos c4] at H;have q0:decide (0≤a0)=true:=decide_eq_true c4;clear c4;by_cases c5:a0 < (l0.length:Int)
      ·
       rw [if_pos c5] at H;have q1:decide (a0 < (l0.length:Int))=true:=decide_eq_true c5;clear c5;obtain ⟨j9,A6,H⟩:=zzG H;by_cases c7:j9=true
       ·
        subst c7;replace H:=zzIt H;by_cases c8:a0 > 0
        ·
         rw [if_pos c8] at H;have k0:decide (0 < a0)=true:=decide_eq_true c8;clear c8;obtain ⟨a4,hji9⟩:∃ j_:Int,(wrap64 (a0 - 1))=j_:=⟨_,rfl⟩;replace H:(if 0≤(a4) then (if (a4) < (l0.length:Int) then ((Re.f ((Qa l0 (a4)).f0) ((Qa l0 (a4)).f1) ((Qa l0 (a4)).f2) ((Qa l0 (a4)).f3) ((Qa l0 (a4)).f4) ((Qa l0 (a4)).f5)).bind fun g0=>((Q3.f ((Qa l0 a0).f0) ((Qa l0 a0).f1) ((Qa l0 a0).f2) ((Qa l0 a0).f3) ((Qa l0 a0).f4) ((Qa l0 a0).f5)).bind fun g1=>(if g0 ≥ g1 then (some false) else (Qi.l0 k1 l0 l0 (l0.length:Int) (wrap64 (a0+1)))))) else (none)) else (none))=some r:=by first|(rw [hji9] at H;exact H)|(simp only [hji9] at H ⊢;exact H)
         (try rw [hji9] at A6);have hji9w:(IntKind.i64.wrap (a0 - 1))=a4:=(i64_w _).trans hji9;by_cases h2 : 0≤(a4)
         ·
          rw [if_pos h2] at H;have p8:decide (0≤(a4))=true:=decide_eq_true h2;clear h2;by_cases h3:(a4) < (l0.length:Int)
          ·
           rw [if_pos h3] at H;have p9:decide ((a4) < (l0.length:Int))=true:=decide_eq_true h3;clear h3;obtain ⟨g0,j6,H⟩:=zzG H;obtain ⟨g1,j7,H⟩:=zzG H;by_cases g7:g0 ≥ g1
           ·
            rw [if_pos g7] at H;have j3:decide (g1≤g0)=true:=decide_eq_true g7;clear g7;obtain rfl:=Option.some.inj H;have e0 : 0≤(a0:Int):=zzt;have e1:a0 < (l0.length:Int):=zzt;obtain ⟨a9,a5,a6,g2,b1,b2,b3,b4,b5,b6,b7,b8⟩:=Q2 g6.out a0 e0 e1;cases g2;replace b1:=zzx HB.out b1;replace b2:=zzx HB.out b2;replace b3:=zzx HB.out b3;replace b4:=zzx HB.out b4;replace b5:=zzx HB.out b5;replace b6:=zzx HB.out b6;have b9:=zzm b8;have c1:=zzm b7;clear b8 b7;replace e0:=eq_true e0;replace e1:=eq_true e1;try go_wp2_with (first|((with_reducible refine gate_dst (N:=4) rfl ?_);refine box_event ?hg (N:=4) ?hd (cs:=#[.bool false,.bool false,.int .i64 0,.int .i64 0,.int .i64 0,.slice none 0 0]) (t:=27) ?hr ?_;(case hd=>rfl);(case hg=>rfl);(case hr=>first|(go_simp;done)|(go_simp;rfl));intro a2 hg h6 hbox hb;have a7:=zzm (zzp zzh1 hb);have a8:=zzm (hbox);have e5:=zzm ((by rw [hg];exact (zzo zzh1):w.heap.size≤a2));have e6:=zzm ((by rw [hg];exact (zzo zzh1):w.heap.size≤a2));clear HB;have HB:=a7;have a1:=a8;have g8:=e5;have g9:=e6;clear a7 a8 e5 e6 hb hbox hg;obtain ⟨k2,k3,k4,k5,k6,k7,k8,k9,l2,l3,l4,l5⟩:=zzc6 a1.out))
            have a7:Aside0 (((((((h6.setCell ⟨a2,0,none⟩ (.bool ((Qa l0 a0).f0))).setCell ⟨a2,1,none⟩ (.bool ((Qa l0 a0).f1))).setCell ⟨a2,2,none⟩ (.int .i64 ((Qa l0 a0).f2))).setCell ⟨a2,3,none⟩ (.int .i64 ((Qa l0 a0).f3))).setCell ⟨a2,4,none⟩ (.int .i64 ((Qa l0 a0).f4))).setCell ⟨a2,5,none⟩ (.slice a5 ((Qa l0 a0).f5).length a6)).heap[a2]? = some (.cells #[.bool ((Qa l0 a0).f0),.bool ((Qa l0 a0).f1),.int .i64 ((Qa l0 a0).f2),.int .i64 ((Qa l0 a0).f3),.int .i64 ((Qa l0 a0).f4),.slice a5 ((Qa l0 a0).f5).length a6] 27 (0,0))):=⟨by (with_reducible repeat (first|apply zzf|apply zzg|apply zze));refine zzi (cs:=#[.bool ((Qa l0 a0).f0),.bool ((Qa l0 a0).f1),.int .i64 ((Qa l0 a0).f2),.int .i64 ((Qa l0 a0).f3),.int .i64 ((Qa l0 a0).f4),.slice none 0 0]) ?_ 5 _ rfl;refine zzi (cs:=#[.bool ((Qa l0 a0).f0),.bool ((Qa l0 a0).f1),.int .i64 ((Qa l0 a0).f2),.int .i64 ((Qa l0 a0).f3),.int .i64 0,.slice none 0 0]) ?_ 4 _ rfl;refine zzi (cs:=#[.bool ((Qa l0 a0).f0),.bool ((Qa l0 a0).f1),.int .i64 ((Qa l0 a0).f2),.int .i64 0,.int .i64 0,.slice none 0 0]) ?_ 3 _ rfl;refine zzi (cs:=#[.bool ((Qa l0 a0).f0),.bool ((Qa l0 a0).f1),.int .i64 0,.int .i64 0,.int .i64 0,.slice none 0 0]) ?_ 2 _ rfl;refine zzi (cs:=#[.bool ((Qa l0 a0).f0),.bool false,.int .i64 0,.int .i64 0,.int .i64 0,.slice none 0 0]) ?_ 1 _ rfl;refine zzi (cs:=#[.bool false,.bool false,.int .i64 0,.int .i64 0,.int .i64 0,.slice none 0 0]) ?_ 0 _ rfl;(with_reducible repeat (first|apply zzf|apply zzg|apply zze));exact a1.out⟩;have a8:Aside0 (Below w.heap.size w ((((((h6.setCell ⟨a2,0,none⟩ (.bool ((Qa l0 a0).f0))).setCell ⟨a2,1,none⟩ (.bool ((Qa l0 a0).f1))).setCell ⟨a2,2,none⟩ (.int .i64 ((Qa l0 a0).f2))).setCell ⟨a2,3,none⟩ (.int .i64 ((Qa l0 a0).f3))).setCell ⟨a2,4,none⟩ (.int .i64 ((Qa l0 a0).f4))).setCell ⟨a2,5,none⟩ (.slice a5 ((Qa l0 a0).f5).length a6))):=⟨zzh3⟩
            (try clear a1)
            (try clear HB);generalize ((((((h6.setCell ⟨a2,0,none⟩ (.bool ((Qa l0 a0).f0))).setCell ⟨a2,1,none⟩ (.bool ((Qa l0 a0).f1))).setCell ⟨a2,2,none⟩ (.int .i64 ((Qa l0 a0).f2))).setCell ⟨a2,3,none⟩ (.int .i64 ((Qa l0 a0).f3))).setCell ⟨a2,4,none⟩ (.int .i64 ((Qa l0 a0).f4))).setCell ⟨a2,5,none⟩ (.slice a5 ((Qa l0 a0).f5).length a6))=p4 at a7 a8 ⊢;have a1:=a7;have HB:=a8;clear a7 a8;have a7:=zzm (zzg a1.out);have a8:=zzm (zzc HB.out);clear a1 HB;have a1:=a7;have HB:=a8;clear a7 a8;have g3 : 0≤((a4):Int):=zzt;have g4:(a4) < (l0.length:Int):=zzt;obtain ⟨h0,e7,e8,h1,c6,c9,d0,d1,d2,d3,e2,e3⟩:=Q2 g6.out (a4) g3 g4;have d4:=d3;have d5:=d2;have d6:=d1;have d7:=d0;have d8:=c9;have d9:=c6;obtain rfl:a9=h0:=(by injection h1);replace c6:=zzx HB.out c6;replace c9:=zzx HB.out c9;replace d0:=zzx HB.out d0;replace d1:=zzx HB.out d1;replace d2:=zzx HB.out d2;replace d3:=zzx HB.out d3;have e4:=zzm e3;have g5:=zzm e2;clear e3 e2;replace g3:=eq_true g3;replace g4:=eq_true g4;refine start_ (n:=18) (S:=fun w'=>w'.cell? ⟨a2,0,none⟩=some (.bool ((Qa l0 a0).f0))∧w'.cell? ⟨a2,1,none⟩=some (.bool ((Qa l0 a0).f1))∧w'.cell? ⟨a2,2,none⟩=some (.int .i64 ((Qa l0 a0).f2))∧w'.cell? ⟨a2,3,none⟩=some (.int .i64 ((Qa l0 a0).f3))∧w'.cell? ⟨a2,4,none⟩=some (.int .i64 ((Qa l0 a0).f4))∧w'.cell? ⟨a2,5,none⟩=some (.slice a5 ((Qa l0 a0).f5).length a6)∧w'.cell? (a9.add (((a4)).toNat * 6))=some (.bool ((Qa l0 (a4)).f0))∧w'.cell? ⟨(a9.add (((a4)).toNat * 6)).block,(a9.add (((a4)).toNat * 6)).off+1,none⟩=some (.bool ((Qa l0 (a4)).f1))∧w'.cell? ⟨(a9.add (((a4)).toNat * 6)).block,(a9.add (((a4)).toNat * 6)).off+2,none⟩=some (.int .i64 ((Qa l0 (a4)).f2))∧w'.cell? ⟨(a9.add (((a4)).toNat * 6)).block,(a9.add (((a4)).toNat * 6)).off+3,none⟩=some (.int .i64 ((Qa l0 (a4)).f3))∧w'.cell? ⟨(a9.add (((a4)).toNat * 6)).block,(a9.add (((a4)).toNat * 6)).off+4,none⟩=some (.int .i64 ((Qa l0 (a4)).f4))∧w'.cell? ⟨(a9.add (((a4)).toNat * 6)).block,(a9.add (((a4)).toNat * 6)).off+5,none⟩=some (.slice e7 ((Qa l0 (a4)).f5).length e8)) (ds:=[]) (zzB 18 0) (by kernel_rfl) rfl rfl ⟨(zzk a1.out 0).trans rfl,(zzk a1.out 1).trans rfl,(zzk a1.out 2).trans rfl,(zzk a1.out 3).trans rfl,(zzk a1.out 4).trans rfl,(zzk a1.out 5).trans rfl,(zzx HB.out d9),(zzx HB.out d8),(zzx HB.out d7),(zzx HB.out d6),(zzx HB.out d5),(zzx HB.out d4)⟩ (fun b0=>?_);refine with_tabW Qi.tab6 Qi.bits6 (fun a3 e9=>?_);generalize p4.drew=q3 at a1 HB e4 c6 c9 d0 d1 d2 d3 b0 ⊢;refine zzT 0 15 18 1 a3 e9 b0 ?_
            refine one_ (i:=1) (N:=some 16) (zzB 18 3) rfl rfl (one_of a3.out (by kernel_rfl)) (by decide) (fun K hK=>?_);refine goes_ Try.func22 (by kernel_rfl) rfl #[.agg #[.bool ((Qa l0 a0).f0),.bool ((Qa l0 a0).f1),.int .i64 ((Qa l0 a0).f2),.int .i64 ((Qa l0 a0).f3),.int .i64 ((Qa l0 a0).f4),.slice a5 ((Qa l0 a0).f5).length a6]] (by rfl) rfl rfl zzM2 ?_;with_reducible refine (Qd.calls k1 ((Qa l0 a0).f0) ((Qa l0 a0).f1) ((Qa l0 a0).f2) ((Qa l0 a0).f3) ((Qa l0 a0).f4) _ _ ((Qa l0 a0).f5) true _ ?side1 ?side2 A6.out).mono ?_
            (case side1=>exact zzcb b9 HB)
            (case side2=>exact c1.out);rintro e q4 ⟨rfl,hb⟩;refine ⟨_,rfl,?_⟩;have a7:=zzm (zzh (g:=a2) (o:=.cells #[.bool ((Qa l0 a0).f0),.bool ((Qa l0 a0).f1),.int .i64 ((Qa l0 a0).f2),.int .i64 ((Qa l0 a0).f3),.int .i64 ((Qa l0 a0).f4),.slice a5 ((Qa l0 a0).f5).length a6] 27 (0,0)) (zzE a1.out) hb);have a8:=zzm (zzp zzh2 hb);clear a1 HB;have a1:=a7;have HB:=a8;clear a7 a8
            (try clear hb)
            (try clear hb2)
            (try clear hk)
            (try clear hi);refine hK.out _ _ ⟨(zzk a1.out 0).trans rfl,(zzk a1.out 1).trans rfl,(zzk a1.out 2).trans rfl,(zzk a1.out 3).trans rfl,(zzk a1.out 4).trans rfl,(zzk a1.out 5).trans rfl,(zzx HB.out d9),(zzx HB.out d8),(zzx HB.out d7),(zzx HB.out d6),(zzx HB.out d5),(zzx HB.out d4)⟩ (fun b0=>?_);clear hK K;refine zzO 16 ?_
            refine zzP 2 17 18 7 a3 ?_
            refine zzP 3 18 18 15 a3 ?_
            refine zzP 4 19 18 31 a3 ?_
            refine zzP 5 20 18 63 a3 ?_
            refine zzP 6 21 18 127 a3 ?_
            refine zzP 7 22 18 255 a3 ?_
            refine zzP 8 23 18 511 a3 ?_
            refine zzP 9 24 18 1023 a3 ?_
            refine zzP 10 25 18 2047 a3 ?_
            refine zzT 11 26 18 4095 a3 e9 b0 ?_
            refine zzT 13 28 18 12287 a3 e9 b0 ?_
            refine one_ (i:=12) (N:=some 27) (zzB 18 16383) rfl rfl (one_of a3.out (by kernel_rfl)) (by decide) (fun K hK=>?_);refine goes_ Try.func65 (by kernel_rfl) rfl #[.agg #[.bool ((Qa l0 (a4)).f0),.bool ((Qa l0 (a4)).f1),.int .i64 ((Qa l0 (a4)).f2),.int .i64 ((Qa l0 (a4)).f3),.int .i64 ((Qa l0 (a4)).f4),.slice e7 ((Qa l0 (a4)).f5).length e8]] (by rfl) rfl rfl (by (try simp only [map_toArray,map_cons,map_nil]);first|done|(simp only [hji9];rfl)|rfl|(simp only [length_drop,length_take];rfl)) ?_;with_reducible refine (Re.calls ((Qa l0 (a4)).f0) ((Qa l0 (a4)).f1) ((Qa l0 (a4)).f2) ((Qa l0 (a4)).f3) ((Qa l0 (a4)).f4) _ _ ((Qa l0 (a4)).f5) g0 _ ?side1 ?side2 j6.out).mono ?_
            (case side1=>exact zzcb e4 HB)
            (case side2=>exact g5.out);rintro e q5 ⟨rfl,hb⟩;refine ⟨_,rfl,?_⟩;have a7:=zzm (zzh (g:=a2) (o:=.cells #[.bool ((Qa l0 a0).f0),.bool ((Qa l0 a0).f1),.int .i64 ((Qa l0 a0).f2),.int .i64 ((Qa l0 a0).f3),.int .i64 ((Qa l0 a0).f4),.slice a5 ((Qa l0 a0).f5).length a6] 27 (0,0)) (zzE a1.out) hb);have a8:=zzm (zzp zzh2 hb);clear a1 HB;have a1:=a7;have HB:=a8;clear a7 a8
            (try clear hb)
            (try clear hb2)
            (try clear hk)
            (try clear hi);refine hK.out _ _ ⟨(zzk a1.out 0).trans rfl,(zzk a1.out 1).trans rfl,(zzk a1.out 2).trans rfl,(zzk a1.out 3).trans rfl,(zzk a1.out 4).trans rfl,(zzk a1.out 5).trans rfl,(zzx HB.out d9),(zzx HB.out d8),(zzx HB.out d7),(zzx HB.out d6),(zzx HB.out d5),(zzx HB.out d4)⟩ (fun b0=>?_);clear hK K;refine zzO 27 ?_
            refine one_ (i:=14) (N:=some 29) (zzB 18 32767) rfl rfl (one_of a3.out (by kernel_rfl)) (by decide) (fun K hK=>?_);refine goes_ Try.func63 (by kernel_rfl) rfl #[.agg #[.bool ((Qa l0 a0).f0),.bool ((Qa l0 a0).f1),.int .i64 ((Qa l0 a0).f2),.int .i64 ((Qa l0 a0).f3),.int .i64 ((Qa l0 a0).f4),.slice a5 ((Qa l0 a0).f5).length a6]] (by rfl) rfl rfl zzM2 ?_;with_reducible refine (Q3.calls ((Qa l0 a0).f0) ((Qa l0 a0).f1) ((Qa l0 a0).f2) ((Qa l0 a0).f3) ((Qa l0 a0).f4) _ _ ((Qa l0 a0).f5) g1 _ ?side1 ?side2 j7.out).mono ?_
            (case side1=>exact zzcb b9 HB)
            (case side2=>exact c1.out);rintro e q6 ⟨rfl,hb⟩;refine ⟨_,rfl,?_⟩;have a7:=zzm (zzh (g:=a2) (o:=.cells #[.bool ((Qa l0 a0).f0),.bool ((Qa l0 a0).f1),.int .i64 ((Qa l0 a0).f2),.int .i64 ((Qa l0 a0).f3),.int .i64 ((Qa l0 a0).f4),.slice a5 ((Qa l0 a0).f5).length a6] 27 (0,0)) (zzE a1.out) hb);have a8:=zzm (zzp zzh2 hb);clear a1 HB;have a1:=a7;have HB:=a8;clear a7 a8
            (try clear hb)
            (try clear hb2)
            (try clear hk)
            (try clear hi);refine hK.out _ _ ⟨(zzk a1.out 0).trans rfl,(zzk a1.out 1).trans rfl,(zzk a1.out 2).trans rfl,(zzk a1.out 3).trans rfl,(zzk a1.out 4).trans rfl,(zzk a1.out 5).trans rfl,(zzx HB.out d9),(zzx HB.out d8),(zzx HB.out d7),(zzx HB.out d6),(zzx HB.out d5),(zzx HB.out d4)⟩ (fun b0=>?_);clear hK K;refine zzO 29 ?_
            refine zzP 15 30 18 65535 a3 ?_
            refine zzP 16 31 18 131071 a3 ?_
            refine zzP 17 32 18 262143 a3 ?_
            refine done_ (done_of a3.out (by kernel_rfl)) ?_;try go_wp2
            go_ret;exact ⟨by first|rfl|(simp [errW_none,errW_some] <;> rfl)|(simp only [← hji9];first|rfl|(simp [errW_none,errW_some] <;> rfl))|(simp [*,errW_none,errW_some] <;> rfl),zzh3⟩
           ·
            rw [if_neg g7] at H;have j3:decide (g1≤g0)=false:=decide_eq_false g7;clear g7;have H':=zzm H;clear H;have e0 : 0≤(a0:Int):=zzt;have e1:a0 < (l0.length:Int):=zzt;obtain ⟨a9,a5,a6,g2,b1,b2,b3,b4,b5,b6,b7,b8⟩:=Q2 g6.out a0 e0 e1;cases g2;replace b1:=zzx HB.out b1;replace b2:=zzx HB.out b2;replace b3:=zzx HB.out b3;replace b4:=zzx HB.out b4;replace b5:=zzx HB.out b5;replace b6:=zzx HB.out b6;have b9:=zzm b8;have c1:=zzm b7;clear b8 b7;replace e0:=eq_true e0;replace e1:=eq_true e1;try go_wp2_with (first|((with_reducible refine gate_dst (N:=4) rfl ?_);refine box_event ?hg (N:=4) ?hd (cs:=#[.bool false,.bool false,.int .i64 0,.int .i64 0,.int .i64 0,.slice none 0 0]) (t:=27) ?hr ?_;(case hd=>rfl);(case hg=>rfl);(case hr=>first|(go_simp;done)|(go_simp;rfl));intro a2 hg h7 hbox hb;have a7:=zzm (zzp zzh1 hb);have a8:=zzm (hbox);have e5:=zzm ((by rw [hg];exact (zzo zzh1):w.heap.size≤a2));have e6:=zzm ((by rw [hg];exact (zzo zzh1):w.heap.size≤a2));clear HB;have HB:=a7;have a1:=a8;have g8:=e5;have g9:=e6;clear a7 a8 e5 e6 hb hbox hg;obtain ⟨l6,l7,l8,l9,m0,m1,m2,m3,m4,m5,m6,m7⟩:=zzc6 a1.out))
            have a7:Aside0 (((((((h7.setCell ⟨a2,0,none⟩ (.bool ((Qa l0 a0).f0))).setCell ⟨a2,1,none⟩ (.bool ((Qa l0 a0).f1))).setCell ⟨a2,2,none⟩ (.int .i64 ((Qa l0 a0).f2))).setCell ⟨a2,3,none⟩ (.int .i64 ((Qa l0 a0).f3))).setCell ⟨a2,4,none⟩ (.int .i64 ((Qa l0 a0).f4))).setCell ⟨a2,5,none⟩ (.slice a5 ((Qa l0 a0).f5).length a6)).heap[a2]? = some (.cells #[.bool ((Qa l0 a0).f0),.bool ((Qa l0 a0).f1),.int .i64 ((Qa l0 a0).f2),.int .i64 ((Qa l0 a0).f3),.int .i64 ((Qa l0 a0).f4),.slice a5 ((Qa l0 a0).f5).length a6] 27 (0,0))):=⟨by (with_reducible repeat (first|apply zzf|apply zzg|apply zze));refine zzi (cs:=#[.bool ((Qa l0 a0).f0),.bool ((Qa l0 a0).f1),.int .i64 ((Qa l0 a0).f2),.int .i64 ((Qa l0 a0).f3),.int .i64 ((Qa l0 a0).f4),.slice none 0 0]) ?_ 5 _ rfl;refine zzi (cs:=#[.bool ((Qa l0 a0).f0),.bool ((Qa l0 a0).f1),.int .i64 ((Qa l0 a0).f2),.int .i64 ((Qa l0 a0).f3),.int .i64 0,.slice none 0 0]) ?_ 4 _ rfl;refine zzi (cs:=#[.bool ((Qa l0 a0).f0),.bool ((Qa l0 a0).f1),.int .i64 ((Qa l0 a0).f2),.int .i64 0,.int .i64 0,.slice none 0 0]) ?_ 3 _ rfl;refine zzi (cs:=#[.bool ((Qa l0 a0).f0),.bool ((Qa l0 a0).f1),.int .i64 0,.int .i64 0,.int .i64 0,.slice none 0 0]) ?_ 2 _ rfl;refine zzi (cs:=#[.bool ((Qa l0 a0).f0),.bool false,.int .i64 0,.int .i64 0,.int .i64 0,.slice none 0 0]) ?_ 1 _ rfl;refine zzi (cs:=#[.bool false,.bool false,.int .i64 0,.int .i64 0,.int .i64 0,.slice none 0 0]) ?_ 0 _ rfl;(with_reducible repeat (first|apply zzf|apply zzg|apply zze));exact a1.out⟩;have a8:Aside0 (Below w.heap.size w ((((((h7.setCell ⟨a2,0,none⟩ (.bool ((Qa l0 a0).f0))).setCell ⟨a2,1,none⟩ (.bool ((Qa l0 a0).f1))).setCell ⟨a2,2,none⟩ (.int .i64 ((Qa l0 a0).f2))).setCell ⟨a2,3,none⟩ (.int .i64 ((Qa l0 a0).f3))).setCell ⟨a2,4,none⟩ (.int .i64 ((Qa l0 a0).f4))).setCell ⟨a2,5,none⟩ (.slice a5 ((Qa l0 a0).f5).length a6))):=⟨zzh3⟩
            (try clear a1)
            (try clear HB);generalize ((((((h7.setCell ⟨a2,0,none⟩ (.bool ((Qa l0 a0).f0))).setCell ⟨a2,1,none⟩ (.bool ((Qa l0 a0).f1))).setCell ⟨a2,2,none⟩ (.int .i64 ((Qa l0 a0).f2))).setCell ⟨a2,3,none⟩ (.int .i64 ((Qa l0 a0).f3))).setCell ⟨a2,4,none⟩ (.int .i64 ((Qa l0 a0).f4))).setCell ⟨a2,5,none⟩ (.slice a5 ((Qa l0 a0).f5).length a6))=p5 at a7 a8 ⊢;have a1:=a7;have HB:=a8;clear a7 a8;have a7:=zzm (zzg a1.out);have a8:=zzm (zzc HB.out);clear a1 HB;have a1:=a7;have HB:=a8;clear a7 a8;have g3 : 0≤((a4):Int):=zzt;have g4:(a4) < (l0.length:Int):=zzt;obtain ⟨h0,e7,e8,h1,c6,c9,d0,d1,d2,d3,e2,e3⟩:=Q2 g6.out (a4) g3 g4;have d4:=d3;have d5:=d2;have d6:=d1;have d7:=d0;have d8:=c9;have d9:=c6;obtain rfl:a9=h0:=(by injection h1);replace c6:=zzx HB.out c6;replace c9:=zzx HB.out c9;replace d0:=zzx HB.out d0;replace d1:=zzx HB.out d1;replace d2:=zzx HB.out d2;replace d3:=zzx HB.out d3;have e4:=zzm e3;have g5:=zzm e2;clear e3 e2;replace g3:=eq_true g3;replace g4:=eq_true g4;refine start_ (n:=18) (S:=fun w'=>w'.cell? ⟨a2,0,none⟩=some (.bool ((Qa l0 a0).f0))∧w'.cell? ⟨a2,1,none⟩=some (.bool ((Qa l0 a0).f1))∧w'.cell? ⟨a2,2,none⟩=some (.int .i64 ((Qa l0 a0).f2))∧w'.cell? ⟨a2,3,none⟩=some (.int .i64 ((Qa l0 a0).f3))∧w'.cell? ⟨a2,4,none⟩=some (.int .i64 ((Qa l0 a0).f4))∧w'.cell? ⟨a2,5,none⟩=some (.slice a5 ((Qa l0 a0).f5).length a6)∧w'.cell? (a9.add (((a4)).toNat * 6))=some (.bool ((Qa l0 (a4)).f0))∧w'.cell? ⟨(a9.add (((a4)).toNat * 6)).block,(a9.add (((a4)).toNat * 6)).off+1,none⟩=some (.bool ((Qa l0 (a4)).f1))∧w'.cell? ⟨(a9.add (((a4)).toNat * 6)).block,(a9.add (((a4)).toNat * 6)).off+2,none⟩=some (.int .i64 ((Qa l0 (a4)).f2))∧w'.cell? ⟨(a9.add (((a4)).toNat * 6)).block,(a9.add (((a4)).toNat * 6)).off+3,none⟩=some (.int .i64 ((Qa l0 (a4)).f3))∧w'.cell? ⟨(a9.add (((a4)).toNat * 6)).block,(a9.add (((a4)).toNat * 6)).off+4,none⟩=some (.int .i64 ((Qa l0 (a4)).f4))∧w'.cell? ⟨(a9.add (((a4)).toNat * 6)).block,(a9.add (((a4)).toNat * 6)).off+5,none⟩=some (.slice e7 ((Qa l0 (a4)).f5).length e8)) (ds:=[]) (zzB 18 0) (by kernel_rfl) rfl rfl ⟨(zzk a1.out 0).trans rfl,(zzk a1.out 1).trans rfl,(zzk a1.out 2).trans rfl,(zzk a1.out 3).trans rfl,(zzk a1.out 4).trans rfl,(zzk a1.out 5).trans rfl,(zzx HB.out d9),(zzx HB.out d8),(zzx HB.out d7),(zzx HB.out d6),(zzx HB.out d5),(zzx HB.out d4)⟩ (fun b0=>?_);refine with_tabW Qi.tab6 Qi.bits6 (fun a3 e9=>?_);generalize p5.drew=q7 at a1 HB e4 c6 c9 d0 d1 d2 d3 b0 ⊢;refine zzT 0 15 18 1 a3 e9 b0 ?_
            refine one_ (i:=1) (N:=some 16) (zzB 18 3) rfl rfl (one_of a3.out (by kernel_rfl)) (by decide) (fun K hK=>?_);refine goes_ Try.func22 (by kernel_rfl) rfl #[.agg #[.bool ((Qa l0 a0).f0),.bool ((Qa l0 a0).f1),.int .i64 ((Qa l0 a0).f2),.int .i64 ((Qa l0 a0).f3),.int .i64 ((Qa l0 a0).f4),.slice a5 ((Qa l0 a0).f5).length a6]] (by rfl) rfl rfl zzM2 ?_;with_reducible refine (Qd.calls k1 ((Qa l0 a0).f0) ((Qa l0 a0).f1) ((Qa l0 a0).f2) ((Qa l0 a0).f3) ((Qa l0 a0).f4) _ _ ((Qa l0 a0).f5) true _ ?side1 ?side2 A6.out).mono ?_
            (case side1=>exact zzcb b9 HB)
            (case side2=>exact c1.out);rintro e q8 ⟨rfl,hb⟩;refine ⟨_,rfl,?_⟩;have a7:=zzm (zzh (g:=a2) (o:=.cells #[.bool ((Qa l0 a0).f0),.bool ((Qa l0 a0).f1),.int .i64 ((Qa l0 a0).f2),.int .i64 ((Qa l0 a0).f3),.int .i64 ((Qa l0 a0).f4),.slice a5 ((Qa l0 a0).f5).length a6] 27 (0,0)) (zzE a1.out) hb);have a8:=zzm (zzp zzh2 hb);clear a1 HB;have a1:=a7;have HB:=a8;clear a7 a8
            (try clear hb)
            (try clear hb2)
            (try clear hk)
            (try clear hi);refine hK.out _ _ ⟨(zzk a1.out 0).trans rfl,(zzk a1.out 1).trans rfl,(zzk a1.out 2).trans rfl,(zzk a1.out 3).trans rfl,(zzk a1.out 4).trans rfl,(zzk a1.out 5).trans rfl,(zzx HB.out d9),(zzx HB.out d8),(zzx HB.out d7),(zzx HB.out d6),(zzx HB.out d5),(zzx HB.out d4)⟩ (fun b0=>?_);clear hK K;refine zzO 16 ?_
            refine zzP 2 17 18 7 a3 ?_
            refine zzP 3 18 18 15 a3 ?_
            refine zzP 4 19 18 31 a3 ?_
            refine zzP 5 20 18 63 a3 ?_
            refine zzP 6 21 18 127 a3 ?_
            refine zzP 7 22 18 255 a3 ?_
            refine zzP 8 23 18 511 a3 ?_
            refine zzP 9 24 18 1023 a3 ?_
            refine zzP 10 25 18 2047 a3 ?_
            refine zzT 11 26 18 4095 a3 e9 b0 ?_
            refine zzT 13 28 18 12287 a3 e9 b0 ?_
            refine one_ (i:=12) (N:=some 27) (zzB 18 16383) rfl rfl (one_of a3.out (by kernel_rfl)) (by decide) (fun K hK=>?_);refine goes_ Try.func65 (by kernel_rfl) rfl #[.agg #[.bool ((Qa l0 (a4)).f0),.bool ((Qa l0 (a4)).f1),.int .i64 ((Qa l0 (a4)).f2),.int .i64 ((Qa l0 (a4)).f3),.int .i64 ((Qa l0 (a4)).f4),.slice e7 ((Qa l0 (a4)).f5).length e8]] (by rfl) rfl rfl (by (try simp only [map_toArray,map_cons,map_nil]);first|done|(simp only [hji9];rfl)|rfl|(simp only [length_drop,length_take];rfl)) ?_;with_reducible refine (Re.calls ((Qa l0 (a4)).f0) ((Qa l0 (a4)).f1) ((Qa l0 (a4)).f2) ((Qa l0 (a4)).f3) ((Qa l0 (a4)).f4) _ _ ((Qa l0 (a4)).f5) g0 _ ?side1 ?side2 j6.out).mono ?_
            (case side1=>exact zzcb e4 HB)
            (case side2=>exact g5.out);rintro e q9 ⟨rfl,hb⟩;refine ⟨_,rfl,?_⟩;have a7:=zzm (zzh (g:=a2) (o:=.cells #[.bool ((Qa l0 a0).f0),.bool ((Qa l0 a0).f1),.int .i64 ((Qa l0 a0).f2),.int .i64 ((Qa l0 a0).f3),.int .i64 ((Qa l0 a0).f4),.slice a5 ((Qa l0 a0).f5).length a6] 27 (0,0)) (zzE a1.out) hb);have a8:=zzm (zzp zzh2 hb);clear a1 HB;have a1:=a7;have HB:=a8;clear a7 a8
            (try clear hb)
            (try clear hb2)
            (try clear hk)
            (try clear hi);refine hK.out _ _ ⟨(zzk a1.out 0).trans rfl,(zzk a1.out 1).trans rfl,(zzk a1.out 2).trans rfl,(zzk a1.out 3).trans rfl,(zzk a1.out 4).trans rfl,(zzk a1.out 5).trans rfl,(zzx HB.out d9),(zzx HB.out d8),(zzx HB.out d7),(zzx HB.out d6),(zzx HB.out d5),(zzx HB.out d4)⟩ (fun b0=>?_);clear hK K;refine zzO 27 ?_
            refine one_ (i:=14) (N:=some 29) (zzB 18 32767) rfl rfl (one_of a3.out (by kernel_rfl)) (by decide) (fun K hK=>?_);refine goes_ Try.func63 (by kernel_rfl) rfl #[.agg #[.bool ((Qa l0 a0).f0),.bool ((Qa l0 a0).f1),.int .i64 ((Qa l0 a0).f2),.int .i64 ((Qa l0 a0).f3),.int .i64 ((Qa l0 a0).f4),.slice a5 ((Qa l0 a0).f5).length a6]] (by rfl) rfl rfl zzM2 ?_;with_reducible refine (Q3.calls ((Qa l0 a0).f0) ((Qa l0 a0).f1) ((Qa l0 a0).f2) ((Qa l0 a0).f3) ((Qa l0 a0).f4) _ _ ((Qa l0 a0).f5) g1 _ ?side1 ?side2 j7.out).mono ?_
            (case side1=>exact zzcb b9 HB)
            (case side2=>exact c1.out);rintro e r0 ⟨rfl,hb⟩;refine ⟨_,rfl,?_⟩;have a7:=zzm (zzh (g:=a2) (o:=.cells #[.bool ((Qa l0 a0).f0),.bool ((Qa l0 a0).f1),.int .i64 ((Qa l0 a0).f2),.int .i64 ((Qa l0 a0).f3),.int .i64 ((Qa l0 a0).f4),.slice a5 ((Qa l0 a0).f5).length a6] 27 (0,0)) (zzE a1.out) hb);have a8:=zzm (zzp zzh2 hb);clear a1 HB;have a1:=a7;have HB:=a8;clear a7 a8
            (try clear hb)
            (try clear hb2)
            (try clear hk)
            (try clear hi);refine hK.out _ _ ⟨(zzk a1.out 0).trans rfl,(zzk a1.out 1).trans rfl,(zzk a1.out 2).trans rfl,(zzk a1.out 3).trans rfl,(zzk a1.out 4).trans rfl,(zzk a1.out 5).trans rfl,(zzx HB.out d9),(zzx HB.out d8),(zzx HB.out d7),(zzx HB.out d6),(zzx HB.out d5),(zzx HB.out d4)⟩ (fun b0=>?_);clear hK K;refine zzO 29 ?_
            refine zzP 15 30 18 65535 a3 ?_
            refine zzP 16 31 18 131071 a3 ?_
            refine zzP 17 32 18 262143 a3 ?_
            refine done_ (done_of a3.out (by kernel_rfl)) ?_;try go_wp2
            go_roundg k1
            case measure=>have:=HK1.out;omega
            case rel=>exact ⟨(wrap64 (a0+1)),(by first|rfl|(simp;done)|(simp [*];done)),H',⟨by have:=HK1.out;omega⟩,⟨zzh3⟩⟩
          ·
           rw [if_neg h3] at H;exact absurd H (by simp)
         ·
          rw [if_neg h2] at H;exact absurd H (by simp)
        ·
         rw [if_neg c8] at H;have k0:decide (0 < a0)=false:=decide_eq_false c8;clear c8;have H':=zzm H;clear H;have e0 : 0≤(a0:Int):=zzt;have e1:a0 < (l0.length:Int):=zzt;obtain ⟨a9,a5,a6,g2,b1,b2,b3,b4,b5,b6,b7,b8⟩:=Q2 g6.out a0 e0 e1;cases g2;replace b1:=zzx HB.out b1;replace b2:=zzx HB.out b2;replace b3:=zzx HB.out b3;replace b4:=zzx HB.out b4;replace b5:=zzx HB.out b5;replace b6:=zzx HB.out b6;have b9:=zzm b8;have c1:=zzm b7;clear b8 b7;replace e0:=eq_true e0;replace e1:=eq_true e1;try go_wp2_with (first|((with_reducible refine gate_dst (N:=4) rfl ?_);refine box_event ?hg (N:=4) ?hd (cs:=#[.bool false,.bool false,.int .i64 0,.int .i64 0,.int .i64 0,.slice none 0 0]) (t:=27) ?hr ?_;(case hd=>rfl);(case hg=>rfl);(case hr=>first|(go_simp;done)|(go_simp;rfl));intro a2 hg h8 hbox hb;have a7:=zzm (zzp zzh1 hb);have a8:=zzm (hbox);have e5:=zzm ((by rw [hg];exact (zzo zzh1):w.heap.size≤a2));have e6:=zzm ((by rw [hg];exact (zzo zzh1):w.heap.size≤a2));clear HB;have HB:=a7;have a1:=a8;have g8:=e5;have g9:=e6;clear a7 a8 e5 e6 hb hbox hg;obtain ⟨m8,m9,n0,n1,n2,n3,n4,n5,n6,n7,n8,n9⟩:=zzc6 a1.out))
         have a7:Aside0 (((((((h8.setCell ⟨a2,0,none⟩ (.bool ((Qa l0 a0).f0))).setCell ⟨a2,1,none⟩ (.bool ((Qa l0 a0).f1))).setCell ⟨a2,2,none⟩ (.int .i64 ((Qa l0 a0).f2))).setCell ⟨a2,3,none⟩ (.int .i64 ((Qa l0 a0).f3))).setCell ⟨a2,4,none⟩ (.int .i64 ((Qa l0 a0).f4))).setCell ⟨a2,5,none⟩ (.slice a5 ((Qa l0 a0).f5).length a6)).heap[a2]? = some (.cells #[.bool ((Qa l0 a0).f0),.bool ((Qa l0 a0).f1),.int .i64 ((Qa l0 a0).f2),.int .i64 ((Qa l0 a0).f3),.int .i64 ((Qa l0 a0).f4),.slice a5 ((Qa l0 a0).f5).length a6] 27 (0,0))):=⟨by (with_reducible repeat (first|apply zzf|apply zzg|apply zze));refine zzi (cs:=#[.bool ((Qa l0 a0).f0),.bool ((Qa l0 a0).f1),.int .i64 ((Qa l0 a0).f2),.int .i64 ((Qa l0 a0).f3),.int .i64 ((Qa l0 a0).f4),.slice none 0 0]) ?_ 5 _ rfl;refine zzi (cs:=#[.bool ((Qa l0 a0).f0),.bool ((Qa l0 a0).f1),.int .i64 ((Qa l0 a0).f2),.int .i64 ((Qa l0 a0).f3),.int .i64 0,.slice none 0 0]) ?_ 4 _ rfl;refine zzi (cs:=#[.bool ((Qa l0 a0).f0),.bool ((Qa l0 a0).f1),.int .i64 ((Qa l0 a0).f2),.int .i64 0,.int .i64 0,.slice none 0 0]) ?_ 3 _ rfl;refine zzi (cs:=#[.bool ((Qa l0 a0).f0),.bool ((Qa l0 a0).f1),.int .i64 0,.int .i64 0,.int .i64 0,.slice none 0 0]) ?_ 2 _ rfl;refine zzi (cs:=#[.bool ((Qa l0 a0).f0),.bool false,.int .i64 0,.int .i64 0,.int .i64 0,.slice none 0 0]) ?_ 1 _ rfl;refine zzi (cs:=#[.bool false,.bool false,.int .i64 0,.int .i64 0,.int .i64 0,.slice none 0 0]) ?_ 0 _ rfl;(with_reducible repeat (first|apply zzf|apply zzg|apply zze));exact a1.out⟩;have a8:Aside0 (Below w.heap.size w ((((((h8.setCell ⟨a2,0,none⟩ (.bool ((Qa l0 a0).f0))).setCell ⟨a2,1,none⟩ (.bool ((Qa l0 a0).f1))).setCell ⟨a2,2,none⟩ (.int .i64 ((Qa l0 a0).f2))).setCell ⟨a2,3,none⟩ (.int .i64 ((Qa l0 a0).f3))).setCell ⟨a2,4,none⟩ (.int .i64 ((Qa l0 a0).f4))).setCell ⟨a2,5,none⟩ (.slice a5 ((Qa l0 a0).f5).length a6))):=⟨zzh3⟩
         (try clear a1)
         (try clear HB);generalize ((((((h8.setCell ⟨a2,0,none⟩ (.bool ((Qa l0 a0).f0))).setCell ⟨a2,1,none⟩ (.bool ((Qa l0 a0).f1))).setCell ⟨a2,2,none⟩ (.int .i64 ((Qa l0 a0).f2))).setCell ⟨a2,3,none⟩ (.int .i64 ((Qa l0 a0).f3))).setCell ⟨a2,4,none⟩ (.int .i64 ((Qa l0 a0).f4))).setCell ⟨a2,5,none⟩ (.slice a5 ((Qa l0 a0).f5).length a6))=p6 at a7 a8 ⊢;have a1:=a7;have HB:=a8;clear a7 a8;have a7:=zzm (zzg a1.out);have a8:=zzm (zzc HB.out);clear a1 HB;have a1:=a7;have HB:=a8;clear a7 a8;refine start_ (n:=18) (S:=fun w'=>w'.cell? ⟨a2,0,none⟩=some (.bool ((Qa l0 a0).f0))∧w'.cell? ⟨a2,1,none⟩=some (.bool ((Qa l0 a0).f1))∧w'.cell? ⟨a2,2,none⟩=some (.int .i64 ((Qa l0 a0).f2))∧w'.cell? ⟨a2,3,none⟩=some (.int .i64 ((Qa l0 a0).f3))∧w'.cell? ⟨a2,4,none⟩=some (.int .i64 ((Qa l0 a0).f4))∧w'.cell? ⟨a2,5,none⟩=some (.slice a5 ((Qa l0 a0).f5).length a6)) (ds:=[]) (zzB 18 0) (by kernel_rfl) rfl rfl ⟨(zzk a1.out 0).trans rfl,(zzk a1.out 1).trans rfl,(zzk a1.out 2).trans rfl,(zzk a1.out 3).trans rfl,(zzk a1.out 4).trans rfl,(zzk a1.out 5).trans rfl⟩ (fun b0=>?_);refine with_tabW Qi.tab6 Qi.bits6 (fun a3 e9=>?_);generalize p6.drew=r1 at a1 HB b0 ⊢;refine zzT 0 15 18 1 a3 e9 b0 ?_
         refine one_ (i:=1) (N:=some 16) (zzB 18 3) rfl rfl (one_of a3.out (by kernel_rfl)) (by decide) (fun K hK=>?_);refine goes_ Try.func22 (by kernel_rfl) rfl #[.agg #[.bool ((Qa l0 a0).f0),.bool ((Qa l0 a0).f1),.int .i64 ((Qa l0 a0).f2),.int .i64 ((Qa l0 a0).f3),.int .i64 ((Qa l0 a0).f4),.slice a5 ((Qa l0 a0).f5).length a6]] (by rfl) rfl rfl zzM2 ?_;with_reducible refine (Qd.calls k1 ((Qa l0 a0).f0) ((Qa l0 a0).f1) ((Qa l0 a0).f2) ((Qa l0 a0).f3) ((Qa l0 a0).f4) _ _ ((Qa l0 a0).f5) true _ ?side1 ?side2 A6.out).mono ?_
         (case side1=>exact zzcb b9 HB)
         (case side2=>exact c1.out);rintro e r2 ⟨rfl,hb⟩;refine ⟨_,rfl,?_⟩;have a7:=zzm (zzh (g:=a2) (o:=.cells #[.bool ((Qa l0 a0).f0),.bool ((Qa l0 a0).f1),.int .i64 ((Qa l0 a0).f2),.int .i64 ((Qa l0 a0).f3),.int .i64 ((Qa l0 a0).f4),.slice a5 ((Qa l0 a0).f5).length a6] 27 (0,0)) (zzE a1.out) hb);have a8:=zzm (zzp zzh2 hb);clear a1 HB;have a1:=a7;have HB:=a8;clear a7 a8
         (try clear hb)
         (try clear hb2)
         (try clear hk)
         (try clear hi);refine hK.out _ _ ⟨(zzk a1.out 0).trans rfl,(zzk a1.out 1).trans rfl,(zzk a1.out 2).trans rfl,(zzk a1.out 3).trans rfl,(zzk a1.out 4).trans rfl,(zzk a1.out 5).trans rfl⟩ (fun b0=>?_);clear hK K;refine zzO 16 ?_
         refine zzP 2 17 18 7 a3 ?_
         refine zzP 3 18 18 15 a3 ?_
         refine zzP 4 19 18 31 a3 ?_
         refine zzP 5 20 18 63 a3 ?_
         refine zzP 6 21 18 127 a3 ?_
         refine zzU 7 22 18 255 a3 ?_
         refine zzU 8 23 18 511 a3 ?_
         refine zzU 9 24 18 1023 a3 ?_
         refine zzU 10 25 18 2047 a3 ?_
         refine zzU 11 26 18 4095 a3 ?_
         refine zzU 12 27 18 8191 a3 ?_
         refine zzU 13 28 18 16383 a3 ?_
         refine zzU 14 29 18 32767 a3 ?_
         refine zzU 15 30 18 65535 a3 ?_
         refine zzP 16 31 18 131071 a3 ?_
         refine zzP 17 32 18 262143 a3 ?_
         refine done_ (done_of a3.out (by kernel_rfl)) ?_;try go_wp2
         go_roundg k1
         case measure=>have:=HK1.out;omega
         case rel=>exact ⟨(wrap64 (a0+1)),(by first|rfl|(simp;done)|(simp [*];done)),H',⟨by have:=HK1.out;omega⟩,⟨zzh3⟩⟩
       ·
        replace c7:=Bool.eq_false_iff.mpr c7;subst c7;replace H:=zzIf H;obtain rfl:=Option.some.inj H;have e0 : 0≤(a0:Int):=zzt;have e1:a0 < (l0.length:Int):=zzt;obtain ⟨a9,a5,a6,g2,b1,b2,b3,b4,b5,b6,b7,b8⟩:=Q2 g6.out a0 e0 e1;cases g2;replace b1:=zzx HB.out b1;replace b2:=zzx HB.out b2;replace b3:=zzx HB.out b3;replace b4:=zzx HB.out b4;replace b5:=zzx HB.out b5;replace b6:=zzx HB.out b6;have b9:=zzm b8;have c1:=zzm b7;clear b8 b7;replace e0:=eq_true e0;replace e1:=eq_true e1;try go_wp2_with (first|((with_reducible refine gate_dst (N:=4) rfl ?_);refine box_event ?hg (N:=4) ?hd (cs:=#[.bool false,.bool false,.int .i64 0,.int .i64 0,.int .i64 0,.slice none 0 0]) (t:=27) ?hr ?_;(case hd=>rfl);(case hg=>rfl);(case hr=>first|(go_simp;done)|(go_simp;rfl));intro a2 hg h9 hbox hb;have a7:=zzm (zzp zzh1 hb);have a8:=zzm (hbox);have e5:=zzm ((by rw [hg];exact (zzo zzh1):w.heap.size≤a2));have e6:=zzm ((by rw [hg];exact (zzo zzh1):w.heap.size≤a2));clear HB;have HB:=a7;have a1:=a8;have g8:=e5;have g9:=e6;clear a7 a8 e5 e6 hb hbox hg;obtain ⟨o0,o1,o2,o3,o4,o5,o6,o7,o8,o9,p0,p1⟩:=zzc6 a1.out))
        have a7:Aside0 (((((((h9.setCell ⟨a2,0,none⟩ (.bool ((Qa l0 a0).f0))).setCell ⟨a2,1,none⟩ (.bool ((Qa l0 a0).f1))).setCell ⟨a2,2,none⟩ (.int .i64 ((Qa l0 a0).f2))).setCell ⟨a2,3,none⟩ (.int .i64 ((Qa l0 a0).f3))).setCell ⟨a2,4,none⟩ (.int .i64 ((Qa l0 a0).f4))).setCell ⟨a2,5,none⟩ (.slice a5 ((Qa l0 a0).f5).length a6)).heap[a2]? = some (.cells #[.bool ((Qa l0 a0).f0),.bool ((Qa l0 a0).f1),.int .i64 ((Qa l0 a0).f2),.int .i64 ((Qa l0 a0).f3),.int .i64 ((Qa l0 a0).f4),.slice a5 ((Qa l0 a0).f5).length a6] 27 (0,0))):=⟨by (with_reducible repeat (first|apply zzf|apply zzg|apply zze));refine zzi (cs:=#[.bool ((Qa l0 a0).f0),.bool ((Qa l0 a0).f1),.int .i64 ((Qa l0 a0).f2),.int .i64 ((Qa l0 a0).f3),.int .i64 ((Qa l0 a0).f4),.slice none 0 0]) ?_ 5 _ rfl;refine zzi (cs:=#[.bool ((Qa l0 a0).f0),.bool ((Qa l0 a0).f1),.int .i64 ((Qa l0 a0).f2),.int .i64 ((Qa l0 a0).f3),.int .i64 0,.slice none 0 0]) ?_ 4 _ rfl;refine zzi (cs:=#[.bool ((Qa l0 a0).f0),.bool ((Qa l0 a0).f1),.int .i64 ((Qa l0 a0).f2),.int .i64 0,.int .i64 0,.slice none 0 0]) ?_ 3 _ rfl;refine zzi (cs:=#[.bool ((Qa l0 a0).f0),.bool ((Qa l0 a0).f1),.int .i64 0,.int .i64 0,.int .i64 0,.slice none 0 0]) ?_ 2 _ rfl;refine zzi (cs:=#[.bool ((Qa l0 a0).f0),.bool false,.int .i64 0,.int .i64 0,.int .i64 0,.slice none 0 0]) ?_ 1 _ rfl;refine zzi (cs:=#[.bool false,.bool false,.int .i64 0,.int .i64 0,.int .i64 0,.slice none 0 0]) ?_ 0 _ rfl;(with_reducible repeat (first|apply zzf|apply zzg|apply zze));exact a1.out⟩;have a8:Aside0 (Below w.heap.size w ((((((h9.setCell ⟨a2,0,none⟩ (.bool ((Qa l0 a0).f0))).setCell ⟨a2,1,none⟩ (.bool ((Qa l0 a0).f1))).setCell ⟨a2,2,none⟩ (.int .i64 ((Qa l0 a0).f2))).setCell ⟨a2,3,none⟩ (.int .i64 ((Qa l0 a0).f3))).setCell ⟨a2,4,none⟩ (.int .i64 ((Qa l0 a0).f4))).setCell ⟨a2,5,none⟩ (.slice a5 ((Qa l0 a0).f5).length a6))):=⟨zzh3⟩
        (try clear a1)
        (try clear HB);generalize ((((((h9.setCell ⟨a2,0,none⟩ (.bool ((Qa l0 a0).f0))).setCell ⟨a2,1,none⟩ (.bool ((Qa l0 a0).f1))).setCell ⟨a2,2,none⟩ (.int .i64 ((Qa l0 a0).f2))).setCell ⟨a2,3,none⟩ (.int .i64 ((Qa l0 a0).f3))).setCell ⟨a2,4,none⟩ (.int .i64 ((Qa l0 a0).f4))).setCell ⟨a2,5,none⟩ (.slice a5 ((Qa l0 a0).f5).length a6))=p7 at a7 a8 ⊢;have a1:=a7;have HB:=a8;clear a7 a8;have a7:=zzm (zzg a1.out);have a8:=zzm (zzc HB.out);clear a1 HB;have a1:=a7;have HB:=a8;clear a7 a8;refine start_ (n:=18) (S:=fun w'=>w'.cell? ⟨a2,0,none⟩=some (.bool ((Qa l0 a0).f0))∧w'.cell? ⟨a2,1,none⟩=some (.bool ((Qa l0 a0).f1))∧w'.cell? ⟨a2,2,none⟩=some (.int .i64 ((Qa l0 a0).f2))∧w'.cell? ⟨a2,3,none⟩=some (.int .i64 ((Qa l0 a0).f3))∧w'.cell? ⟨a2,4,none⟩=some (.int .i64 ((Qa l0 a0).f4))∧w'.cell? ⟨a2,5,none⟩=some (.slice a5 ((Qa l0 a0).f5).length a6)) (ds:=[]) (zzB 18 0) (by kernel_rfl) rfl rfl ⟨(zzk a1.out 0).trans rfl,(zzk a1.out 1).trans rfl,(zzk a1.out 2).trans rfl,(zzk a1.out 3).trans rfl,(zzk a1.out 4).trans rfl,(zzk a1.out 5).trans rfl⟩ (fun b0=>?_);refine with_tabW Qi.tab6 Qi.bits6 (fun a3 e9=>?_);generalize p7.drew=r3 at a1 HB b0 ⊢;refine zzT 0 15 18 1 a3 e9 b0 ?_
        refine one_ (i:=1) (N:=some 16) (zzB 18 3) rfl rfl (one_of a3.out (by kernel_rfl)) (by decide) (fun K hK=>?_);refine goes_ Try.func22 (by kernel_rfl) rfl #[.agg #[.bool ((Qa l0 a0).f0),.bool ((Qa l0 a0).f1),.int .i64 ((Qa l0 a0).f2),.int .i64 ((Qa l0 a0).f3),.int .i64 ((Qa l0 a0).f4),.slice a5 ((Qa l0 a0).f5).length a6]] (by rfl) rfl rfl zzM2 ?_;with_reducible refine (Qd.calls k1 ((Qa l0 a0).f0) ((Qa l0 a0).f1) ((Qa l0 a0).f2) ((Qa l0 a0).f3) ((Qa l0 a0).f4) _ _ ((Qa l0 a0).f5) false _ ?side1 ?side2 A6.out).mono ?_
        (case side1=>exact zzcb b9 HB)
        (case side2=>exact c1.out);rintro e r4 ⟨rfl,hb⟩;refine ⟨_,rfl,?_⟩;have a7:=zzm (zzh (g:=a2) (o:=.cells #[.bool ((Qa l0 a0).f0),.bool ((Qa l0 a0).f1),.int .i64 ((Qa l0 a0).f2),.int .i64 ((Qa l0 a0).f3),.int .i64 ((Qa l0 a0).f4),.slice a5 ((Qa l0 a0).f5).length a6] 27 (0,0)) (zzE a1.out) hb);have a8:=zzm (zzp zzh2 hb);clear a1 HB;have a1:=a7;have HB:=a8;clear a7 a8
        (try clear hb)
        (try clear hb2)
        (try clear hk)
        (try clear hi);refine hK.out _ _ ⟨(zzk a1.out 0).trans rfl,(zzk a1.out 1).trans rfl,(zzk a1.out 2).trans rfl,(zzk a1.out 3).trans rfl,(zzk a1.out 4).trans rfl,(zzk a1.out 5).trans rfl⟩ (fun b0=>?_);clear hK K;refine zzO 16 ?_
        refine zzP 2 17 18 7 a3 ?_
        refine zzP 3 18 18 15 a3 ?_
        refine zzU 4 19 18 31 a3 ?_
        refine zzU 5 20 18 63 a3 ?_
        refine zzU 6 21 18 127 a3 ?_
        refine zzU 7 22 18 255 a3 ?_
        refine zzU 8 23 18 511 a3 ?_
        refine zzU 9 24 18 1023 a3 ?_
        refine zzU 10 25 18 2047 a3 ?_
        refine zzU 11 26 18 4095 a3 ?_
        refine zzU 12 27 18 8191 a3 ?_
        refine zzU 13 28 18 16383 a3 ?_
        refine zzU 14 29 18 32767 a3 ?_
        refine zzU 15 30 18 65535 a3 ?_
        refine zzU 16 31 18 131071 a3 ?_
        refine zzP 17 32 18 262143 a3 ?_
        refine done_ (done_of a3.out (by kernel_rfl)) ?_;try go_wp2
        go_ret;exact ⟨zzR,zzh3⟩
      ·
       rw [if_neg c5] at H;exact absurd H (by simp)
     ·
      rw [if_neg c4] at H;exact absurd H (by simp)
    ·
     rw [if_neg c3] at H;have j8:decide (a0 < (l0.length:Int))=false:=decide_eq_false c3;clear c3;obtain rfl:=Option.some.inj H;go_wp2;go_ret;exact ⟨zzR,zzh1⟩

set_option linter.unusedVariables false
set_option linter.unusedSimpArgs false
def slices_Equal_int_int.l0:Nat→List Int→List Int→Int→Int→Option (Bool)
 | 0,_,_,_,_=>none
 | k+1,x0,x1,x12,x13=>if x13 < x12 then (if 0≤x13 then (if x13 < (x0.length:Int) then (if x13 < (x1.length:Int) then (if (rd x0 x13)=(rd x1 x13) then (slices_Equal_int_int.l0 k x0 x1 x12 (wrap64 (x13+1))) else (some false)) else (none)) else (none)) else (none)) else (some true)
def slices_Equal_int_int.f (k:Nat) (l0:List Int) (l1:List Int):Option (Bool):=if (l0.length:Int)=(l1.length:Int) then (slices_Equal_int_int.l0 k l0 l1 (l0.length:Int) 0) else (some false)
set_option maxHeartbeats 8000000 in
theorem slices_Equal_int_int.calls (k:Nat) (A0:Option Addr) (c0:Nat) (l0:List Int) (A1:Option Addr) (c1:Nat) (l1:List Int) (r:Bool) (w:World) (b4:Kd.C (Kd.int .i64) w A0 l0.length l0) (b5:l0.length≤c0) (b6:Kd.C (Kd.int .i64) w A1 l1.length l1) (b7:l1.length≤c1) (h:slices_Equal_int_int.f k l0 l1=some r) :
  Calls Try.prog 105 #[.slice A0 l0.length c0,.slice A1 l1.length c1] w fun e w'=>e = .returned (.bool r)∧Drawn0 w w':=by
 have b8:=zzm b4;have d5:=zzm b5;clear b4 b5;have b9:=zzm b6;have d6:=zzm b7;clear b6 b7;have H:(if (l0.length:Int)=(l1.length:Int) then (slices_Equal_int_int.l0 k l0 l1 (l0.length:Int) 0) else (some false))=some r:=h;clear h;by_cases c3:(l0.length:Int)=(l1.length:Int)
 ·
  rw [if_pos c3] at H;obtain ⟨a9,b0⟩:=zzQ c3;have b1:(l0.length==l1.length)=true:=by first|simpa using c3|(simp at c3 ⊢;omega)
  clear c3;have H':=zzm H;clear H;go_enter Try.func105,Try.ntmps105;go_wp2;repeat (go_quiet (fail);try go_wp2)
  go_loopg [13] k (fun kq d1 w'=>∃ (a0:Int),d1 = .int .i64 a0∧Aside0 (slices_Equal_int_int.l0 kq l0 l1 (l0.length:Int) a0=some r)∧Aside0 (kq≤k)∧Drawn0 w w')
  case atStart=>exact ⟨(0),(by first|rfl|(simp;done)|(simp [*];done)),H',⟨Nat.le_refl _⟩,by repeat (first|exact Drawn0.refl _|apply Drawn0.step)⟩
  case round=>
   clear H';try clear c1
   try clear p2
   try clear c3
   try clear a9
   try clear b0
   try clear b1
   obtain ⟨a0,rfl,HA,HK1,⟨m1,rfl⟩⟩:=hrel;cases gk with
   | zero=>exact absurd HA.out (by simp [slices_Equal_int_int.l0])
   | succ k1=>
    have H:=HA.out;clear HA;simp only [slices_Equal_int_int.l0] at H;by_cases c4:a0 < (l0.length:Int)
    ·
     rw [if_pos c4] at H;have c2:decide (a0 < (l0.length:Int))=true:=decide_eq_true c4;clear c4;by_cases c5 : 0≤a0
     ·
      rw [if_pos c5] at H;have d2:decide (0≤a0)=true:=decide_eq_true c5;clear c5;by_cases c6:a0 < (l0.length:Int)
      ·
       rw [if_pos c6] at H;have d3:decide (a0 < (l0.length:Int))=true:=decide_eq_true c6;clear c6;by_cases c7:a0 < (l1.length:Int)
       ·
        rw [if_pos c7] at H;have d4:decide (a0 < (l1.length:Int))=true:=decide_eq_true c7;clear c7;by_cases c8:(rd l0 a0)=(rd l1 a0)
        ·
         rw [if_pos c8] at H;obtain ⟨c9,d0⟩:=zzQ c8;clear c8;have H':=zzm H;clear H;have a1 : 0≤(a0:Int):=zzt;have a2:a0 < (l0.length:Int):=zzt;obtain ⟨b2,a5,a7⟩:=Kd.at_int b8.out a0 a1 a2;cases a5;replace a1:=eq_true a1;replace a2:=eq_true a2;have a3 : 0≤(a0:Int):=zzt;have a4:a0 < (l1.length:Int):=zzt;obtain ⟨b3,a6,a8⟩:=Kd.at_int b9.out a0 a3 a4;cases a6;replace a3:=eq_true a3;replace a4:=eq_true a4;go_wp2;repeat (go_quiet (fail);try go_wp2)
         go_roundg k1
         case measure=>have:=HK1.out;omega
         case rel=>exact ⟨(wrap64 (a0+1)),(by first|rfl|(simp;done)|(simp [*];done)),H',⟨by have:=HK1.out;omega⟩,by repeat (first|exact Drawn0.refl _|apply Drawn0.step)⟩
        ·
         rw [if_neg c8] at H;obtain ⟨c9,d0⟩:=zzY c8;obtain rfl:=Option.some.inj H;have a1 : 0≤(a0:Int):=zzt;have a2:a0 < (l0.length:Int):=zzt;obtain ⟨b2,a5,a7⟩:=Kd.at_int b8.out a0 a1 a2;cases a5;replace a1:=eq_true a1;replace a2:=eq_true a2;have a3 : 0≤(a0:Int):=zzt;have a4:a0 < (l1.length:Int):=zzt;obtain ⟨b3,a6,a8⟩:=Kd.at_int b9.out a0 a3 a4;cases a6;replace a3:=eq_true a3;replace a4:=eq_true a4;go_wp2;repeat (go_quiet (fail);try go_wp2)
         go_ret;exact ⟨by first|rfl|(simp;done)|(simp [*];done),by repeat (first|exact Drawn0.refl _|apply Drawn0.step)⟩
       ·
        rw [if_neg c7] at H;exact absurd H (by simp)
      ·
       rw [if_neg c6] at H;exact absurd H (by simp)
     ·
      rw [if_neg c5] at H;exact absurd H (by simp)
    ·
     rw [if_neg c4] at H;have c2:decide (a0 < (l0.length:Int))=false:=decide_eq_false c4;clear c4;obtain rfl:=Option.some.inj H;go_wp2;repeat (go_quiet (fail);try go_wp2)
     go_ret;exact ⟨by first|rfl|(simp;done)|(simp [*];done),by repeat (first|exact Drawn0.refl _|apply Drawn0.step)⟩
 ·
  rw [if_neg c3] at H;obtain ⟨a9,b0⟩:=zzY c3;have b1:(l0.length==l1.length)=false:=by first|simpa using c3|(simp at c3 ⊢;omega)
  obtain rfl:=Option.some.inj H;go_enter Try.func105,Try.ntmps105;go_wp2;repeat (go_quiet (fail);try go_wp2)
  go_ret;exact ⟨by first|rfl|(simp;done)|(simp [*];done),by repeat (first|exact Drawn0.refl _|apply Drawn0.step)⟩

set_option linter.unusedVariables false
set_option linter.unusedSimpArgs false
def Rs.f (k:Nat) (a0_0:Bool) (a0_1:Bool) (a0_2:Int) (a0_3:Int) (a0_4:Int) (l0_5:List (S34)):Option (Bool):=if 0 < (l0_5.length:Int) then ((slices_Equal_int_int.f k ((Qb l0_5 0).f5) (([1]:List Int))).bind fun t285=>(some t285)) else (none)
set_option maxHeartbeats 8000000 in
theorem Rs.calls (k:Nat) (b3:Bool) (b4:Bool) (b5:Int) (b6:Int) (b7:Int) (c5:Option Addr) (b8:Nat) (a0:List (S34)) (r:Bool) (w:World) (c8:Kd.C k34 w c5 a0.length a0) (c9:a0.length≤b8) (h:Rs.f k b3 b4 b5 b6 b7 a0=some r) :
  Calls Try.prog 92 #[.agg #[.bool b3,.bool b4,.int .i64 b5,.int .i64 b6,.int .i64 b7,.slice c5 a0.length b8]] w fun e w'=>e = .returned (.bool r)∧Below w.heap.size w w':=by
 have hu27:=Try.underlying27;have d4:=zzm c8;have g6:=zzm c9;clear c8 c9;have HB:=zzm (Below.refl w.heap.size w);have H:(if 0 < (a0.length:Int) then ((slices_Equal_int_int.f k ((Qb a0 0).f5) (([1]:List Int))).bind fun a8=>(some a8)) else (none))=some r:=h;clear h;by_cases c2 : 0 < (a0.length:Int)
 ·
  rw [if_pos c2] at H;have h0:decide (0 < (a0.length:Int))=true:=decide_eq_true c2;have h1:decide (0 < a0.length)=true:=decide_eq_true (by omega);clear c2;obtain ⟨y282,hy282⟩:∃ y_:List Int,y_=(([1]:List Int)):=⟨_,rfl⟩;replace H:((slices_Equal_int_int.f k ((Qb a0 0).f5) y282).bind fun a8=>(some a8))=some r:=by first|(rw [hy282];with_reducible exact H)|(have H2_:=(Option.bind_some _ _).symm.trans H;rw [hy282];with_reducible exact H2_)|(have H2_:=(Option.bind_some _ _).symm.trans H;with_reducible exact H2_)|with_reducible exact H|(rw [hy282];exact H)|exact H
  have Ny282:=zzm hy282;clear hy282;obtain ⟨a8,A3,H⟩:=zzG H;obtain rfl:=Option.some.inj H;go_enter Try.func92,Try.ntmps92;go_wp2_with (first|((with_reducible refine gate_dst (N:=1) rfl ?_);refine box_event ?hg (N:=1) ?hd (cs:=#[.bool b3,.bool b4,.int .i64 b5,.int .i64 b6,.int .i64 b7,.slice c5 a0.length b8]) (t:=27) ?hr ?_;(case hd=>rfl);(case hg=>rfl);(case hr=>first|(go_simp;done)|(go_simp;rfl));intro b9 hg w4 hbox hb;have c1:=zzm (zzp zzh1 hb);have c3:=zzm (hbox);have c4:=zzm ((by rw [hg];exact (zzo zzh1):w.heap.size≤b9));have d6:=zzm ((by rw [hg];exact (zzo zzh1):w.heap.size≤b9));clear HB;have HB:=c1;have a7:=c3;have g7:=c4;have g8:=d6;clear c1 c3 c4 d6 hb hbox hg;obtain ⟨e0,e1,e2,e3,e4,e5,e6,e7,e8,e9,g0,g1⟩:=zzc6 a7.out;have c6 : 0≤(0:Int):=(by omega);have c7 : 0 < (a0.length:Int):=zzt;obtain ⟨d5,g2,g3,d2,d3,d7,a1,a2,a3,a4,a5,a6,a9,b0,b1,b2⟩:=Q9 d4.out 0 c6 c7;cases d7;have g9:(0 < a0.length)=True:=eq_true (by omega);(try rw [show ((0:Int)).toNat=0 from rfl] at a1);(try rw [show 0 * 6=0 from rfl] at a1);(try rw [Addr.add_zero'] at a1);(try rw [show ((0:Int)).toNat=0 from rfl] at a2);(try rw [show 0 * 6=0 from rfl] at a2);(try rw [Addr.add_zero'] at a2);(try rw [show ((0:Int)).toNat=0 from rfl] at a3);(try rw [show 0 * 6=0 from rfl] at a3);(try rw [Addr.add_zero'] at a3);(try rw [show ((0:Int)).toNat=0 from rfl] at a4);(try rw [show 0 * 6=0 from rfl] at a4);(try rw [Addr.add_zero'] at a4);(try rw [show ((0:Int)).toNat=0 from rfl] at a5);(try rw [show 0 * 6=0 from rfl] at a5);(try rw [Addr.add_zero'] at a5);(try rw [show ((0:Int)).toNat=0 from rfl] at a6);(try rw [show 0 * 6=0 from rfl] at a6);(try rw [Addr.add_zero'] at a6);replace a1:=zzx HB.out a1;replace a2:=zzx HB.out a2;replace a3:=zzx HB.out a3;replace a4:=zzx HB.out a4;replace a5:=zzx HB.out a5;replace a6:=zzx HB.out a6;have d8:=zzm b0;have d9:=zzm a9;clear b0 a9;have d0:=zzm b2;have d1:=zzm b1;clear b2 b1;replace c6:=eq_true c6;replace c7:=eq_true c7)|((with_reducible refine gate_dst (N:=8) rfl ?_);refine Kd.R_lit (Kd.int .i64) _ 3 ?hg (N:=8) ?hd (xs:=([1]:List Int)) (inner:=[.int .i64 1]) (ok:=fun _=>True) (okp:=fun _=>True) ?hr ?hp (fun _ hk=>hk) trivial (Below.refl _ _) (Nat.le_refl _) (by simp) ?_;(case hd=>rfl);(case hg=>rfl);(case hr=>first|(go_simp;done)|(go_simp;rfl));(case hp=>exact (Reps.one (show Kd.M (Kd.int .i64) _ _ _ 1 [.int .i64 1] from rfl) (Reps.none _ _)));intro h2 w6 ho7 hb hg_ hnew_;clear hg_ hnew_;(first|rw [← Ny282.out] at ho7|(simp only [Int.reduceToNat] at ho7;rw [← Ny282.out] at ho7));have c1:=zzm (Kd.R_lower ho7 (zzo zzh2));have c3:=zzm (zzh (g:=b9) (o:=.cells #[.bool b3,.bool b4,.int .i64 b5,.int .i64 b6,.int .i64 b7,.slice (some d5) a0.length b8] 27 (0,0)) (zzE a7.out) hb);have c4:=zzm (zzp zzh2 hb);clear a7 HB;have c0:=c1;have a7:=c3;have HB:=c4;clear c1 c3 c4 hb ho7;obtain ⟨g4,g5,eo8⟩:=Kd.R_slice c0.out;subst eo8)|((with_reducible refine gate_callee (f:=105) rfl ?_);refine goesL_ (some 9) rfl rfl Try.func105 (by kernel_rfl) rfl #[.slice d2 ((Qb a0 0).f5).length d3,.slice g4 y282.length g5] rfl zzM2 ?_;(with_reducible refine (slices_Equal_int_int.calls k _ _ ((Qb a0 0).f5) _ _ y282 a8 _ ?side1 ?side2 ?side3 ?side4 A3.out).mono ?_);(case side1=>exact zzcb d0 HB);(case side2=>exact d1.out);(case side3=>repeat (first|exact (Kd.R_reads' c0.out).2.2|(with_reducible refine Kd.C_alloc ?_ _)|(with_reducible refine Kd.C_drewN ?_ _)|(with_reducible refine Kd.C_drew ?_)));(case side4=>exact (Kd.R_reads' c0.out).2.1);rintro e w' ⟨rfl,⟨nd,rfl⟩⟩;refine ⟨_,rfl,?_⟩));go_ret;exact ⟨zzR,zzh3⟩
 ·
  rw [if_neg c2] at H;exact absurd H (by simp)

set_option linter.unusedVariables false
set_option linter.unusedSimpArgs false
abbrev rootCells (a c n:Nat):Array Value:=#[.pointer (some ⟨a,0,none⟩),.pointer (some ⟨c,0,none⟩),.pointer none,.nilIface,.int .i64 (n:Int)]
abbrev nodeCells (a c g v:Nat):Array Value:=#[.pointer (some ⟨a,0,none⟩),.pointer (some ⟨c,0,none⟩),.pointer (some ⟨g,0,none⟩),.iface 3 (.int .i64 (v:Int))]
structure IsList (w:World) (g:Nat) (r:Nat→Nat) (vs:List Nat):Prop where
 r0:r 0=g
 rn:r (vs.length+1)=g
 inj:∀ i j,i≤vs.length→j≤vs.length→r i=r j→i=j
 root:w.heap[g]? = some (.cells (rootCells (r 1) (r vs.length) vs.length) 116 (0,0))
 node:∀ j (h:j < vs.length),w.heap[r (j+1)]? = some (.cells (nodeCells (r (j+2)) (r j) g vs[j]) 105 (0,0))
theorem IsList.of_heap {w w1:World} {g:Nat} {r:Nat→Nat} {vs:List Nat} (h:IsList w g r vs) (hm:∀ i,i≤vs.length→w1.heap[r i]? = w.heap[r i]?):IsList w1 g r vs:=
 ⟨h.r0,h.rn,h.inj,by have:=hm 0 (Nat.zero_le _);rw [h.r0] at this;exact this.trans h.root,fun j hj=>(hm (j+1) hj).trans (h.node j hj)⟩
theorem IsList.lt {w:World} {g:Nat} {r:Nat→Nat} {vs:List Nat} (h:IsList w g r vs) (i:Nat) (hi:i≤vs.length):r i < w.heap.size:=by
 cases i with
 | zero=>rw [h.r0];exact blk_lt h.root
 | succ i=>exact blk_lt (h.node i hi)
theorem IsList.below {w w1:World} {g:Nat} {r:Nat→Nat} {vs:List Nat} (h:IsList w g r vs) (hb:Below w.heap.size w w1):IsList w1 g r vs:=h.of_heap fun i hi=>hb.block _ (h.lt i hi)
abbrev zeroRoot:Array Value:=#[.pointer none,.pointer none,.pointer none,.nilIface,.int .i64 0]
set_option maxHeartbeats 8000000 in
theorem list_Init.calls (g:Nat) (w:World) (hg:w.heap[g]? = some (.cells zeroRoot 116 (0,0))) :
  Calls Try.prog 102 #[.pointer (some ⟨g,0,none⟩)] w fun e w'=>e = .returned (.pointer (some ⟨g,0,none⟩))∧w'.heap[g]? = some (.cells (rootCells g g 0) 116 (0,0))∧∀ B,B≤g→Below B w w':=by
 have HG:=zzm hg;have hf0:=zzl hg 0;have hf1:=zzl hg 1;have hf4:=zzl hg 4;have a0:w.cell? ⟨g,0,none⟩=some (.pointer none):=(zzk hg 0).trans rfl;have a1:w.cell? ⟨g,1,none⟩=some (.pointer none):=(zzk hg 1).trans rfl;have a2:w.cell? ⟨g,4,none⟩=some (.int .i64 0):=(zzk hg 4).trans rfl;clear hg;go_enter Try.func102,Try.ntmps102;go_wp2;go_ret;exact ⟨rfl,zzi (zzi (zzi HG.out 0 _ rfl) 1 _ rfl) 4 _ rfl,fun B hB=>(((Below.refl _ _).setCell (p:=⟨g,0,none⟩) hB _).setCell (p:=⟨g,1,none⟩) hB _).setCell (p:=⟨g,4,none⟩) hB _⟩
theorem alloc_root {o:Oper} (ρ:Operand→Value) (ho:o.op = .alloc 116) (W:World):(execOp ρ o).run Try.prog W = .ok (.value (.pointer (some ⟨W.heap.size,0,none⟩))) (W.alloc (.cells zeroRoot 116 (0,0))):=by
 obtain ⟨i0,hi,hz0,hz1,hz2⟩:=info_parts (show (Try.prog.info? 116).map (fun i=>(i.zero,i.size,i.bytes))=some (some (.agg zeroRoot),5,48) by kernel_rfl);have hz:(zeroValue 116).run Try.prog W = .ok (.agg zeroRoot) W:=by simp [zeroValue,typeInfo,hi,hz0,go_sem]
 obtain ⟨op,dst,guard,pos,x1,x2⟩:=o;subst ho;simp [execOp,Instr.alloc,hz,newVar,newRow,go_sem]
set_option maxHeartbeats 8000000 in
theorem list_New.calls (w:World) :
  Calls Try.prog 88 #[] w fun e w'=>∃ g r,e = .returned (.pointer (some ⟨g,0,none⟩))∧IsList w' g r []∧w.heap.size≤g∧Below w.heap.size w w':=by
 have HB:=zzm (Below.refl w.heap.size w);go_enter Try.func88,Try.ntmps88;go_wp2_with (first|((with_reducible refine gate_dst (N:=1) rfl ?_);refine box_event ?hg (N:=1) ?hd (cs:=zeroRoot) (t:=116) ?hr ?_;(case hd=>rfl);(case hg=>rfl);(case hr=>exact alloc_root _ rfl _);intro g hg w1 hbox hb;have BK:=zzm hbox;have HB0:=zzm (zzp HB.out hb);have HG:=zzm (show w.heap.size≤g by rw [hg];exact HB.out.size);clear hb hbox hg)|((with_reducible refine gate_callee (f:=102) rfl ?_);refine goesL_ (some 2) rfl rfl Try.func102 (by kernel_rfl) rfl #[.pointer (some ⟨g,0,none⟩)] rfl (by (try simp only [map_toArray,map_cons,map_nil]);first|done|rfl) ?_;(with_reducible refine (list_Init.calls _ _ BK.out).mono ?_);rintro e w9 ⟨rfl,hx,hb⟩;refine ⟨_,rfl,?_⟩;have a0:=zzm hx;have HB2:=zzm (below_weaken HB0.out HG.out (hb _ (Nat.le_refl _)));clear hb hx));go_ret;refine ⟨g,fun _=>g,rfl,⟨rfl,rfl,fun i j hi hj _=>by simp at hi hj;omega,a0.out,fun j h=>absurd h (by simp)⟩,HG.out,HB2.out⟩
theorem neq_ptr_other {w:World} {c g:Nat} {cc cg:Array Value} {tc tg:TypeId} (hne:c≠g) (hc:w.heap[c]? = some (.cells cc tc (0,0))) (hg:w.heap[g]? = some (.cells cg tg (0,0))) :
  (binOp .neq 101 (.pointer (some ⟨c,0,none⟩)) (.pointer (some ⟨g,0,none⟩))).run Try.prog w = .ok (.bool true) w:=by
 obtain ⟨i0,hi,hz0,hz1,hz2⟩:=info_parts (show (Try.prog.info? 105).map (fun i=>(i.zero,i.size,i.bytes))=some (some (.agg #[.pointer none,.pointer none,.pointer none,.nilIface]),4,40) by kernel_rfl);have hne' : (⟨c,0,none⟩:Addr)≠⟨g,0,none⟩:=fun e=>hne (by injection e);have h:∀ d:Nat,(Op.equalIn (d+1) 101 (.pointer (some ⟨c,0,none⟩)) (.pointer (some ⟨g,0,none⟩))).run Try.prog w = .ok false w:=fun d=>by
  simp [Op.equalIn,run_underlying Try.underlying101,sizeOf,typeInfo,hi,show i0.size≠0 by omega,run_sameAddr_other w hne' hc hg]
 simp only [binOp];simp [Op.equal,Op.maxDepth,h 9999]
theorem neq_ptr_same {w:World} {g:Nat} : (binOp .neq 101 (.pointer (some ⟨g,0,none⟩)) (.pointer (some ⟨g,0,none⟩))).run Try.prog w = .ok (.bool false) w:=by
 obtain ⟨i0,hi,hz0,hz1,hz2⟩:=info_parts (show (Try.prog.info? 105).map (fun i=>(i.zero,i.size,i.bytes))=some (some (.agg #[.pointer none,.pointer none,.pointer none,.nilIface]),4,40) by kernel_rfl);exact Lib.run_neq_ptr_same w _ Try.underlying101 hi
theorem eql_ptr_same {w:World} {g:Nat} : (binOp .eql 99 (.pointer (some ⟨g,0,none⟩)) (.pointer (some ⟨g,0,none⟩))).run Try.prog w = .ok (.bool true) w:=by
 obtain ⟨i0,hi,hz0,hz1,hz2⟩:=info_parts (show (Try.prog.info? 116).map (fun i=>(i.zero,i.size,i.bytes))=some (some (.agg zeroRoot),5,48) by kernel_rfl);exact run_eql_ptr_same w _ Try.underlying99 hi
set_option maxHeartbeats 8000000 in
theorem list_Front.calls (g:Nat) (r:Nat→Nat) (vs:List Nat) (w:World) (h:IsList w g r vs) (hn:vs.length < 1000000000000) :
  Calls Try.prog 90 #[.pointer (some ⟨g,0,none⟩)] w fun e w'=>e = .returned (.pointer (if 0 < vs.length then some ⟨r 1,0,none⟩ else none))∧Drawn0 w w':=by
 have a1:w.cell? ⟨g,0,none⟩=some (.pointer (some ⟨r 1,0,none⟩)):=(zzk h.root 0).trans rfl;have a0:w.cell? ⟨g,4,none⟩=some (.int .i64 (vs.length:Int)):=(zzk h.root 4).trans rfl;clear h;by_cases hz:vs.length=0
 ·rw [hz] at a0
  rw [if_neg (by omega)];clear hz;go_enter Try.func90,Try.ntmps90;go_wp2;go_ret;exact ⟨rfl,by repeat (first|exact Drawn0.refl _|apply Drawn0.step)⟩
 ·have hz' : ((vs.length:Int)==0)=false:=by simpa using hz
  rw [if_pos (by omega)];clear hz;go_enter Try.func90,Try.ntmps90;go_wp2;go_ret;exact ⟨rfl,by repeat (first|exact Drawn0.refl _|apply Drawn0.step)⟩
set_option maxHeartbeats 8000000 in
theorem list_Next.calls (g:Nat) (r:Nat→Nat) (vs:List Nat) (w:World) (h:IsList w g r vs) (p:Nat) (hp:p < vs.length) :
  Calls Try.prog 91 #[.pointer (some ⟨r (p+1),0,none⟩)] w fun e w'=>e = .returned (.pointer (if p+1 < vs.length then some ⟨r (p+2),0,none⟩ else none))∧Drawn0 w w':=by
 have a0:w.cell? ⟨r (p+1),0,none⟩=some (.pointer (some ⟨r (p+2),0,none⟩)):=(zzk (h.node p hp) 0).trans rfl;have a1:w.cell? ⟨r (p+1),2,none⟩=some (.pointer (some ⟨g,0,none⟩)):=(zzk (h.node p hp) 2).trans rfl;by_cases hz:p+1 < vs.length
 ·have hne:r (p+2)≠g:=by
   intro e;have:=h.inj (p+2) 0 (by omega) (by omega) (by rw [e,h.r0]);omega
  rw [if_pos hz];have hq:=neq_ptr_other hne (h.node (p+1) hz) h.root;generalize r (p+2)=c at a0 hne hq ⊢;generalize r (p+1)=b at a0 a1 ⊢;clear h hz;go_enter Try.func91,Try.ntmps91;go_wp2;go_ret;exact ⟨rfl,by repeat (first|exact Drawn0.refl _|apply Drawn0.step)⟩
 ·have he:r (p+2)=g:=by rw [show p+2=vs.length+1 by omega];exact h.rn
  rw [if_neg hz];have hq:=neq_ptr_same (w:=w) (g:=g);rw [he] at a0;generalize r (p+1)=b at a0 a1 ⊢;clear h hz he;go_enter Try.func91,Try.ntmps91;go_wp2;go_ret;exact ⟨rfl,by repeat (first|exact Drawn0.refl _|apply Drawn0.step)⟩
set_option maxHeartbeats 8000000 in
theorem list_lazyInit.calls (g:Nat) (r:Nat→Nat) (vs:List Nat) (w:World) (h:IsList w g r vs) :
  Calls Try.prog 103 #[.pointer (some ⟨g,0,none⟩)] w fun e w'=>e = .returned (.tuple #[])∧Drawn0 w w':=by
 have a0:w.cell? ⟨g,0,none⟩=some (.pointer (some ⟨r 1,0,none⟩)):=(zzk h.root 0).trans rfl;generalize r 1=c at a0;clear h;go_enter Try.func103,Try.ntmps103;go_wp2;go_end0;exact ⟨rfl,by repeat (first|exact Drawn0.refl _|apply Drawn0.step)⟩
abbrev freshNode (v:Nat):Array Value:=#[.pointer none,.pointer none,.pointer none,.iface 3 (.int .i64 (v:Int))]
def insW (w:World) (g a b n:Nat):World:=(((((w.setCell ⟨b,1,none⟩ (.pointer (some ⟨a,0,none⟩))).setCell ⟨b,0,none⟩ (.pointer (some ⟨g,0,none⟩))).setCell ⟨a,0,none⟩ (.pointer (some ⟨b,0,none⟩))).setCell ⟨g,1,none⟩ (.pointer (some ⟨b,0,none⟩))).setCell ⟨b,2,none⟩ (.pointer (some ⟨g,0,none⟩))).setCell ⟨g,4,none⟩ (.int .i64 ((n:Int)+1))
set_option maxHeartbeats 8000000 in
theorem insert_core (w:World) (g a b n:Nat) (x4:Value) (hb0:w.cell? ⟨b,0,none⟩=some (.pointer none)) (hb1:w.cell? ⟨b,1,none⟩=some (.pointer none)) (hb2:w.cell? ⟨b,2,none⟩=some (.pointer none)) (ha0:w.cell? ⟨a,0,none⟩=some (.pointer (some ⟨g,0,none⟩))) (hg1:w.cell? ⟨g,1,none⟩=some x4) (hg4:w.cell? ⟨g,4,none⟩=some (.int .i64 (n:Int)))
  (fb0:w.frozen? ⟨b,0,none⟩=false) (fb1:w.frozen? ⟨b,1,none⟩=false) (fb2:w.frozen? ⟨b,2,none⟩=false) (fa0:w.frozen? ⟨a,0,none⟩=false) (fg1:w.frozen? ⟨g,1,none⟩=false) (fg4:w.frozen? ⟨g,4,none⟩=false)
  (hgb:g≠b) (hab:a≠b) (hw:wrap64 ((n:Int)+1)=(n:Int)+1) :
  Calls Try.prog 111 #[.pointer (some ⟨g,0,none⟩),.pointer (some ⟨b,0,none⟩),.pointer (some ⟨a,0,none⟩)] w fun e w'=>e = .returned (.pointer (some ⟨b,0,none⟩))∧w' = insW w g a b n:=by
 have hbg:b≠g:=fun e=>hgb e.symm;have hba:b≠a:=fun e=>hab e.symm;by_cases hag:a=g
 ·subst hag
  go_enter Try.func111,Try.ntmps111;go_wp2;go_ret;exact ⟨rfl,rfl⟩
 ·have hga:g≠a:=fun e=>hag e.symm
  go_enter Try.func111,Try.ntmps111;go_wp2;go_ret;exact ⟨rfl,rfl⟩
def rAdd (r:Nat→Nat) (n b g:Nat):Nat→Nat:=fun i=>if i≤n then r i else if i=n+1 then b else g
theorem far_eq {w:World} {k:Nat} {p:Addr} {u:Value} {o:Option Obj} (hne:k≠p.block) (h:w.heap[k]? = o):(w.setCell p u).heap[k]? = o:=(Below.heap_setCell w p u k hne).trans h
theorem insW_far {w:World} {g a b n k:Nat} (h1:k≠g) (h2:k≠a) (h3:k≠b):(insW w g a b n).heap[k]? = w.heap[k]?:=
 far_eq h1 (far_eq h3 (far_eq h1 (far_eq h2 (far_eq h3 (far_eq h3 rfl)))))
theorem insW_b {w:World} {g a b n v:Nat} (hgb:g≠b) (hab:a≠b) (h:w.heap[b]? = some (.cells (freshNode v) 105 (0,0))):(insW w g a b n).heap[b]? = some (.cells (nodeCells g a g v) 105 (0,0)):=
 far_eq (Ne.symm hgb) (zzi (far_eq (Ne.symm hgb) (far_eq (Ne.symm hab) (zzi (zzi h 1 _ rfl) 0 _ rfl))) 2 _ rfl)
theorem insW_g {w:World} {g a b n c d:Nat} (hgb:g≠b) (hga:g≠a) (h:w.heap[g]? = some (.cells (rootCells c d n) 116 (0,0))):(insW w g a b n).heap[g]? = some (.cells (rootCells c b (n+1)) 116 (0,0)):=
 zzi (far_eq hgb (zzi (far_eq hga (far_eq hgb (far_eq hgb h))) 1 _ rfl)) 4 _ rfl
theorem insW_g0 {w:World} {g b n c d:Nat} (hgb:g≠b) (h:w.heap[g]? = some (.cells (rootCells c d n) 116 (0,0))):(insW w g g b n).heap[g]? = some (.cells (rootCells b b (n+1)) 116 (0,0)):=
 zzi (far_eq hgb (zzi (zzi (far_eq hgb (far_eq hgb h)) 0 _ rfl) 1 _ rfl)) 4 _ rfl
theorem insW_a {w:World} {g a b n c d v:Nat} (hag:a≠g) (hab:a≠b) (h:w.heap[a]? = some (.cells (nodeCells c d g v) 105 (0,0))):(insW w g a b n).heap[a]? = some (.cells (nodeCells b d g v) 105 (0,0)):=
 far_eq hag (far_eq hab (far_eq hag (zzi (far_eq hab (far_eq hab h)) 0 _ rfl)))
theorem insW_size {w:World} {g a b n:Nat} : (insW w g a b n).heap.size=w.heap.size:=by simp [insW]
theorem insW_list {w:World} {g:Nat} {r:Nat→Nat} {vs:List Nat} {v b:Nat} (h:IsList w g r vs) (hb:w.heap[b]? = some (.cells (freshNode v) 105 (0,0))) (hbn:∀ i,i≤vs.length→r i≠b):IsList (insW w g (r vs.length) b vs.length) g (rAdd r vs.length b g) (vs ++ [v]):=by
 have hgb:g≠b:=by have:=hbn 0 (Nat.zero_le _);rwa [h.r0] at this
 have hlen:(vs ++ [v]).length=vs.length+1:=by simp
 refine ⟨?_,?_,?_,?_,?_⟩
 ·unfold rAdd;rw [if_pos (Nat.zero_le _)];exact h.r0
 ·unfold rAdd;rw [hlen,if_neg (by omega),if_neg (by omega)]
 ·intro i j hi hj he
  rw [hlen] at hi hj;unfold rAdd at he;by_cases h1:i≤vs.length
  ·by_cases h2:j≤vs.length
   ·rw [if_pos h1,if_pos h2] at he;exact h.inj i j h1 h2 he
   ·rw [if_pos h1,if_neg h2,if_pos (by omega)] at he;exact absurd he (hbn i h1)
  ·by_cases h2:j≤vs.length
   ·rw [if_neg h1,if_pos (by omega),if_pos h2] at he;exact absurd he.symm (hbn j h2)
   ·omega
 ·rw [hlen]
  unfold rAdd;rw [if_neg (show ¬ vs.length+1≤vs.length by omega),if_pos rfl];by_cases hz:vs.length=0
  ·rw [if_neg (by omega),if_pos (by omega)]
   have:r vs.length=g:=by rw [hz];exact h.r0
   rw [this];exact insW_g0 hgb h.root
  ·rw [if_pos (by omega)]
   have hga:g≠r vs.length:=fun e=>hz (h.inj vs.length 0 (Nat.le_refl _) (Nat.zero_le _) (by rw [h.r0];exact e.symm));exact insW_g hgb hga h.root
 ·intro j hj
  rw [hlen] at hj;by_cases hl:j=vs.length
  ·subst hl
   have e1:(vs ++ [v])[vs.length]'(by simp)=v:=by simp
   rw [e1];unfold rAdd;rw [if_neg (show ¬ vs.length+1≤vs.length by omega),if_pos rfl,if_neg (show ¬ vs.length+2≤vs.length by omega),if_neg (show ¬ vs.length+2=vs.length+1 by omega),if_pos (Nat.le_refl _)];exact insW_b hgb (hbn _ (Nat.le_refl _)) hb
  ·have hj' : j < vs.length:=by omega
   have e1:(vs ++ [v])[j]'(by simp;omega)=vs[j]:=by simp [List.getElem_append,hj']
   rw [e1];have hne0:r (j+1)≠g:=fun e=>by have:=h.inj (j+1) 0 (by omega) (Nat.zero_le _) (by rw [h.r0];exact e);omega
   unfold rAdd;rw [if_pos (show j+1≤vs.length by omega),if_pos (show j≤vs.length by omega)];by_cases hlast:j+1=vs.length
   ·rw [if_neg (show ¬ j+2≤vs.length by omega),if_pos (show j+2=vs.length+1 by omega)]
    have h3:=h.node j hj';rw [hlast] at h3 hne0 ⊢;exact insW_a hne0 (hbn _ (Nat.le_refl _)) h3
   ·rw [if_pos (show j+2≤vs.length by omega)]
    refine (insW_far hne0 (fun e=>?_) (hbn _ (by omega))).trans (h.node j hj');have:=h.inj (j+1) vs.length (by omega) (Nat.le_refl _) e;omega
theorem insW_below {w:World} {B g a b n:Nat} (h1:B≤g) (h2:B≤a) (h3:B≤b):Below B w (insW w g a b n):=
 ((((((Below.refl _ _).setCell (p:=⟨b,1,none⟩) h3 _).setCell (p:=⟨b,0,none⟩) h3 _).setCell (p:=⟨a,0,none⟩) h2 _).setCell (p:=⟨g,1,none⟩) h1 _).setCell (p:=⟨b,2,none⟩) h3 _).setCell (p:=⟨g,4,none⟩) h1 _
theorem list_insert.calls (g:Nat) (r:Nat→Nat) (vs:List Nat) (v b:Nat) (w:World) (h:IsList w g r vs) (hn:vs.length < 1000000000000) (hb:w.heap[b]? = some (.cells (freshNode v) 105 (0,0))) (hbn:∀ i,i≤vs.length→r i≠b) :
  Calls Try.prog 111 #[.pointer (some ⟨g,0,none⟩),.pointer (some ⟨b,0,none⟩),.pointer (some ⟨r vs.length,0,none⟩)] w fun e w'=>e = .returned (.pointer (some ⟨b,0,none⟩))∧w' = insW w g (r vs.length) b vs.length:=by
 have hgb:g≠b:=by have:=hbn 0 (Nat.zero_le _);rwa [h.r0] at this
 have ha0:w.cell? ⟨r vs.length,0,none⟩=some (.pointer (some ⟨g,0,none⟩))∧w.frozen? ⟨r vs.length,0,none⟩=false:=by
  by_cases hz:vs.length=0
  ·have e0:r vs.length=g:=by rw [hz];exact h.r0
   have e1:r 1=g:=by have:=h.rn;rwa [hz] at this
   have h1:=(zzk h.root 0).trans rfl;rw [e1] at h1;rw [e0];exact ⟨h1,zzl h.root 0⟩
  ·obtain ⟨m,hm⟩:∃ m,vs.length=m+1:=⟨vs.length - 1,by omega⟩
   have h2:=h.node m (by omega);have h1:=(zzk h2 0).trans rfl;have e1:r (m+2)=g:=by have:=h.rn;rwa [hm] at this
   rw [e1] at h1;rw [hm];exact ⟨h1,zzl h2 0⟩
 exact insert_core w g (r vs.length) b vs.length _ ((zzk hb 0).trans rfl) ((zzk hb 1).trans rfl) ((zzk hb 2).trans rfl) ha0.1 ((zzk h.root 1).trans rfl) ((zzk h.root 4).trans rfl) (zzl hb 0) (zzl hb 1) (zzl hb 2) ha0.2 (zzl h.root 1) (zzl h.root 4) hgb (hbn _ (Nat.le_refl _)) (by unfold wrap64;omega)
theorem IsList.fresh {w:World} {g:Nat} {r:Nat→Nat} {vs:List Nat} (h:IsList w g r vs) {b:Nat} (hb:w.heap.size≤b):∀ i,i≤vs.length→r i≠b:=fun i hi e=>by have:=h.lt i hi;omega
def ListKept (w w' : World) (r:Nat→Nat) (n:Nat):Prop:=Kept w w' (fun k=>∃ i,i≤n∧k=r i)
theorem kept_ins {w w1:World} {g b:Nat} {r:Nat→Nat} {n:Nat} (hr0:r 0=g) (hb:Below w.heap.size w w1) (hbs:w.heap.size≤b):ListKept w (insW w1 g (r n) b n) r n:=by
 refine ⟨by rw [insW_size];exact hb.size,fun k hk hS=>?_⟩;refine (insW_far (fun e=>hS ⟨0,Nat.zero_le _,by rw [hr0];exact e⟩) (fun e=>hS ⟨n,Nat.le_refl _,e⟩) (by omega)).trans (hb.block k hk)
set_option maxHeartbeats 8000000 in
theorem list_insertValue.calls (g:Nat) (r:Nat→Nat) (vs:List Nat) (v:Nat) (w:World) (h:IsList w g r vs) (hn:vs.length < 1000000000000) :
  Calls Try.prog 104 #[.pointer (some ⟨g,0,none⟩),.iface 3 (.int .i64 (v:Int)),.pointer (some ⟨r vs.length,0,none⟩)] w fun e w'=>∃ b,e = .returned (.pointer (some ⟨b,0,none⟩))∧w.heap.size≤b∧IsList w' g (rAdd r vs.length b g) (vs ++ [v])∧ListKept w w' r vs.length∧∀ B,B≤w.heap.size→(∀ i,i≤vs.length→B≤r i)→Below B w w':=by
 have HL:=zzm h;have HN:=zzm hn;have HB:=zzm (Below.refl w.heap.size w);have a0:=zzm h.r0;clear hn h;generalize ha:r vs.length=a;have HA:=zzm ha;clear ha;go_enter Try.func104,Try.ntmps104;go_wp2_with (first|((with_reducible refine gate_dst (N:=10) rfl ?_);refine box_event ?hg (N:=10) ?hd (cs:=freshNode v) (t:=105) ?hr ?_;(case hd=>rfl);(case hg=>rfl);(case hr=>first|(go_simp;done)|(go_simp;rfl));intro b hg w1 hbox hb;have BK:=zzm hbox;have HB0:=zzm (zzp HB.out hb);have HG:=zzm (show w.heap.size≤b by rw [hg];exact HB.out.size);have a1:=zzm (HL.out.below hb);clear hb hbox hg)|((with_reducible refine gate_callee (f:=111) rfl ?_);refine goesL_ (some 12) rfl rfl Try.func111 (by kernel_rfl) rfl #[.pointer (some ⟨g,0,none⟩),.pointer (some ⟨b,0,none⟩),.pointer (some ⟨a,0,none⟩)] rfl (by (try simp only [map_toArray,map_cons,map_nil]);first|done|rfl) ?_;rw [← HA.out];(with_reducible refine (list_insert.calls g r vs v b _ a1.out HN.out BK.out (HL.out.fresh HG.out)).mono ?_);rintro e w9 ⟨rfl,hx⟩;refine ⟨_,rfl,?_⟩;have HX:=zzm hx;clear hx));go_ret;have hL:=HL.out;refine ⟨b,rfl,HG.out,?_,?_,?_⟩
 ·rw [HX.out];exact insW_list a1.out BK.out (hL.fresh HG.out)
 ·rw [HX.out];exact kept_ins a0.out HB0.out HG.out
 ·intro B hB hi
  rw [HX.out];exact (HB0.out.mono hB).trans (insW_below (by rw [← a0.out];exact hi 0 (Nat.zero_le _)) (hi _ (Nat.le_refl _)) (Nat.le_trans hB HG.out))
set_option maxHeartbeats 8000000 in
theorem list_PushBack.calls (g:Nat) (r:Nat→Nat) (vs:List Nat) (v:Nat) (w:World) (h:IsList w g r vs) (hn:vs.length < 1000000000000) :
  Calls Try.prog 89 #[.pointer (some ⟨g,0,none⟩),.iface 3 (.int .i64 (v:Int))] w fun e w'=>∃ b,e = .returned (.pointer (some ⟨b,0,none⟩))∧w.heap.size≤b∧IsList w' g (rAdd r vs.length b g) (vs ++ [v])∧ListKept w w' r vs.length∧∀ B,B≤w.heap.size→(∀ i,i≤vs.length→B≤r i)→Below B w w':=by
 have HL:=zzm h;have HN:=zzm hn;have a0:w.cell? ⟨g,1,none⟩=some (.pointer (some ⟨r vs.length,0,none⟩)):=(zzk h.root 1).trans rfl;clear hn h;generalize ha:r vs.length=a at a0;have HA:=zzm ha;clear ha;go_enter Try.func89,Try.ntmps89;go_wp2_with (first|((with_reducible refine gate_callee (f:=103) rfl ?_);refine goesL_ (some 6) rfl rfl Try.func103 (by kernel_rfl) rfl #[.pointer (some ⟨g,0,none⟩)] rfl (by (try simp only [map_toArray,map_cons,map_nil]);first|done|rfl) ?_;(with_reducible refine (list_lazyInit.calls g r vs _ HL.out).mono ?_);rintro e w9 ⟨rfl,hd⟩;refine ⟨_,rfl,?_⟩;obtain ⟨m,rfl⟩:=hd.out;have a1:=zzm (show IsList (w.drewN m) g r vs from HL.out.below (zzb (Below.refl _ _) m));clear hd)|((with_reducible refine gate_callee (f:=104) rfl ?_);refine goesL_ (some 14) rfl rfl Try.func104 (by kernel_rfl) rfl #[.pointer (some ⟨g,0,none⟩),.iface 3 (.int .i64 (v:Int)),.pointer (some ⟨a,0,none⟩)] rfl (by (try simp only [map_toArray,map_cons,map_nil]);first|done|rfl) ?_;rw [← HA.out];(with_reducible refine (list_insertValue.calls g r vs v _ a1.out HN.out).mono ?_);rintro e w9 ⟨b,rfl,hx⟩;refine ⟨_,rfl,?_⟩;have HX:=zzm hx;clear hx));go_ret;obtain ⟨h1,h2,h3,h4⟩:=HX.out;exact ⟨b,rfl,h1,h2,h3,fun B h5 h6=>(zzb (Below.refl _ _) m).trans (h4 B h5 h6)⟩
def remW (w:World) (g a b c n:Nat):World:=(((((w.setCell ⟨a,0,none⟩ (.pointer (some ⟨c,0,none⟩))).setCell ⟨c,1,none⟩ (.pointer (some ⟨a,0,none⟩))).setCell ⟨b,0,none⟩ (.pointer none)).setCell ⟨b,1,none⟩ (.pointer none)).setCell ⟨b,2,none⟩ (.pointer none)).setCell ⟨g,4,none⟩ (.int .i64 ((n:Int) - 1))
set_option maxHeartbeats 8000000 in
theorem remove_core (w:World) (g a b c n:Nat) (x2 x4 x5:Value) (hb0:w.cell? ⟨b,0,none⟩=some (.pointer (some ⟨c,0,none⟩))) (hb1:w.cell? ⟨b,1,none⟩=some (.pointer (some ⟨a,0,none⟩))) (hb2:w.cell? ⟨b,2,none⟩=some x2) (ha0:w.cell? ⟨a,0,none⟩=some x4) (hc1:w.cell? ⟨c,1,none⟩=some x5) (hg4:w.cell? ⟨g,4,none⟩=some (.int .i64 (n:Int)))
  (fb0:w.frozen? ⟨b,0,none⟩=false) (fb1:w.frozen? ⟨b,1,none⟩=false) (fb2:w.frozen? ⟨b,2,none⟩=false) (fa0:w.frozen? ⟨a,0,none⟩=false) (fc1:w.frozen? ⟨c,1,none⟩=false) (fg4:w.frozen? ⟨g,4,none⟩=false)
  (hgb:g≠b) (hab:a≠b) (hcb:c≠b) (hag:a=g∨a≠g) (hcg:c=g∨c≠g) (hac:a=c∨a≠c) (h3:a=c→a=g) (hw:wrap64 ((n:Int) - 1)=(n:Int) - 1) :
  Calls Try.prog 106 #[.pointer (some ⟨g,0,none⟩),.pointer (some ⟨b,0,none⟩)] w fun e w'=>e = .returned (.tuple #[])∧w' = (remW w g a b c n).drew.drew:=by
 have hbg:b≠g:=fun e=>hgb e.symm;have hba:b≠a:=fun e=>hab e.symm;have hbc:b≠c:=fun e=>hcb e.symm;rcases hac with rfl|hac
 ·rcases hag with rfl|hag
  ·clear hcg
   go_enter Try.func106,Try.ntmps106;go_wp2;go_region;go_wp2;go_region;go_wp2;go_end0;exact ⟨rfl,rfl⟩
  ·exact absurd (h3 rfl) hag
 ·have hca:c≠a:=fun e=>hac e.symm
  rcases hag with rfl|hag
  ·clear hcg
   go_enter Try.func106,Try.ntmps106;go_wp2;go_region;go_wp2;go_region;go_wp2;go_end0;exact ⟨rfl,rfl⟩
  ·have hga:g≠a:=fun e=>hag e.symm
   rcases hcg with rfl|hcg
   ·go_enter Try.func106,Try.ntmps106
    go_wp2;go_region;go_wp2;go_region;go_wp2;go_end0;exact ⟨rfl,rfl⟩
   ·have hgc:g≠c:=fun e=>hcg e.symm
    go_enter Try.func106,Try.ntmps106;go_wp2;go_region;go_wp2;go_region;go_wp2;go_end0;exact ⟨rfl,rfl⟩
section
variable {w:World} {g a b c n k x y d v:Nat}
theorem remW_far (h1:k≠g) (h2:k≠a) (h3:k≠b) (h4:k≠c):(remW w g a b c n).heap[k]? = w.heap[k]?:=
 far_eq h1 (far_eq h3 (far_eq h3 (far_eq h3 (far_eq h4 (far_eq h2 rfl)))))
theorem remW_size:(remW w g a b c n).heap.size=w.heap.size:=by simp [remW]
theorem cast_pred:(.int .i64 (((n+1:Nat):Int) - 1):Value) = .int .i64 (n:Int):=by
 congr 1;omega
theorem remW_g (hgb:g≠b) (hga:g≠a) (hgc:g≠c) (h:w.heap[g]? = some (.cells (rootCells x y (n+1)) 116 (0,0))):(remW w g a b c (n+1)).heap[g]? = some (.cells (rootCells x y n) 116 (0,0)):=
 zzi (far_eq hgb (far_eq hgb (far_eq hgb (far_eq hgc (far_eq hga h))))) 4 _ (by rw [cast_pred];rfl)
theorem remW_ga (hgb:g≠b) (hgc:g≠c) (h:w.heap[g]? = some (.cells (rootCells x y (n+1)) 116 (0,0))):(remW w g g b c (n+1)).heap[g]? = some (.cells (rootCells c y n) 116 (0,0)):=
 zzi (far_eq hgb (far_eq hgb (far_eq hgb (far_eq hgc (zzi h 0 _ rfl))))) 4 _ (by rw [cast_pred];rfl)
theorem remW_gc (hgb:g≠b) (hga:g≠a) (h:w.heap[g]? = some (.cells (rootCells x y (n+1)) 116 (0,0))):(remW w g a b g (n+1)).heap[g]? = some (.cells (rootCells x a n) 116 (0,0)):=
 zzi (far_eq hgb (far_eq hgb (far_eq hgb (zzi (far_eq hga h) 1 _ rfl)))) 4 _ (by rw [cast_pred];rfl)
theorem remW_gg (hgb:g≠b) (h:w.heap[g]? = some (.cells (rootCells x y (n+1)) 116 (0,0))):(remW w g g b g (n+1)).heap[g]? = some (.cells (rootCells g g n) 116 (0,0)):=
 zzi (far_eq hgb (far_eq hgb (far_eq hgb (zzi (zzi h 0 _ rfl) 1 _ rfl)))) 4 _ (by rw [cast_pred];rfl)
theorem remW_a (hag:a≠g) (hab:a≠b) (hac:a≠c) (h:w.heap[a]? = some (.cells (nodeCells x y d v) 105 (0,0))):(remW w g a b c n).heap[a]? = some (.cells (nodeCells c y d v) 105 (0,0)):=
 far_eq hag (far_eq hab (far_eq hab (far_eq hab (far_eq hac (zzi h 0 _ rfl)))))
theorem remW_c (hcg:c≠g) (hcb:c≠b) (hca:c≠a) (h:w.heap[c]? = some (.cells (nodeCells x y d v) 105 (0,0))):(remW w g a b c n).heap[c]? = some (.cells (nodeCells x a d v) 105 (0,0)):=
 far_eq hcg (far_eq hcb (far_eq hcb (far_eq hcb (zzi (far_eq hca h) 1 _ rfl))))
theorem remW_v (hbg:b≠g) (hba:b≠a) (hbc:b≠c) (h:w.heap[b]? = some (.cells (nodeCells x y d v) 105 (0,0))):(remW w g a b c n).cell? ⟨b,3,none⟩=some (.iface 3 (.int .i64 (v:Int))):=by
 have h1:(remW w g a b c n).heap[b]? = some (.cells #[.pointer none,.pointer none,.pointer none,.iface 3 (.int .i64 (v:Int))] 105 (0,0)):=far_eq hbg (zzi (zzi (zzi (far_eq hbc (far_eq hba h)) 0 _ rfl) 1 _ rfl) 2 _ rfl);exact (zzk h1 3).trans rfl
theorem remW_below {B:Nat} (h1:B≤g) (h2:B≤a) (h3:B≤b) (h4:B≤c):Below B w (remW w g a b c n):=
 ((((((Below.refl _ _).setCell (p:=⟨a,0,none⟩) h2 _).setCell (p:=⟨c,1,none⟩) h4 _).setCell (p:=⟨b,0,none⟩) h3 _).setCell (p:=⟨b,1,none⟩) h3 _).setCell (p:=⟨b,2,none⟩) h3 _).setCell (p:=⟨g,4,none⟩) h1 _
end
def rRem (r:Nat→Nat) (p:Nat):Nat→Nat:=fun i=>if i≤p then r i else r (i+1)
theorem IsList.ne_root {w:World} {g:Nat} {r:Nat→Nat} {vs:List Nat} (h:IsList w g r vs) {i:Nat} (h0 : 0 < i) (hi:i≤vs.length):r i≠g:=fun e=>by
 have:=h.inj i 0 hi (Nat.zero_le _) (by rw [h.r0];exact e)
 omega
theorem IsList.ne_of {w:World} {g:Nat} {r:Nat→Nat} {vs:List Nat} (h:IsList w g r vs) {i j:Nat} (hi:i≤vs.length) (hj:j≤vs.length+1) (hne:i≠j) (h0:i=0→j≠vs.length+1):r i≠r j:=fun e=>by
 by_cases hl:j=vs.length+1
 ·rw [hl,h.rn] at e
  by_cases hz:i=0
  ·exact h0 hz hl
  ·exact h.ne_root (by omega) hi e
 ·exact hne (h.inj i j hi (by omega) e)
theorem remW_list {w:World} {g:Nat} {r:Nat→Nat} {vs:List Nat} (h:IsList w g r vs) (p:Nat) (hp:p < vs.length):IsList (remW w g (r p) (r (p+1)) (r (p+2)) vs.length) g (rRem r p) (vs.eraseIdx p):=by
 obtain ⟨m,hm⟩:∃ m,vs.length=m+1:=⟨vs.length - 1,by omega⟩;have hlen:(vs.eraseIdx p).length=m:=by rw [List.length_eraseIdx_of_lt hp];omega
 have hgb:g≠r (p+1):=(h.ne_root (by omega) (by omega)).symm;refine ⟨?_,?_,?_,?_,?_⟩
 ·unfold rRem;rw [if_pos (Nat.zero_le _)];exact h.r0
 ·unfold rRem;rw [hlen,if_neg (by omega)];have:=h.rn;rwa [hm] at this
 ·intro i j hi hj he
  rw [hlen] at hi hj;unfold rRem at he;by_cases h1:i≤p
  ·by_cases h2:j≤p
   ·rw [if_pos h1,if_pos h2] at he;exact h.inj i j (by omega) (by omega) he
   ·rw [if_pos h1,if_neg h2] at he;have:=h.inj i (j+1) (by omega) (by omega) he;omega
  ·by_cases h2:j≤p
   ·rw [if_neg h1,if_pos h2] at he;have:=h.inj (i+1) j (by omega) (by omega) he;omega
   ·rw [if_neg h1,if_neg h2] at he;have:=h.inj (i+1) (j+1) (by omega) (by omega) he;omega
 ·rw [hlen,hm]
  have hroot:=h.root;rw [hm] at hroot;unfold rRem;by_cases h1:p=0
  ·subst h1
   rw [if_neg (show ¬ 1≤0 by omega)];by_cases h2:m=0
   ·subst h2
    rw [if_pos (Nat.le_refl _)];have e1:r (0+2)=g:=by have:=h.rn;rwa [hm] at this
    rw [e1,h.r0];exact remW_gg hgb hroot
   ·rw [if_neg (show ¬ m≤0 by omega),h.r0]
    exact remW_ga hgb (h.ne_root (show 0 < 0+2 by omega) (by omega)).symm hroot
  ·rw [if_pos (show 1≤p by omega)]
   by_cases h2:p=m
   ·subst h2
    rw [if_pos (Nat.le_refl _)];have e1:r (p+2)=g:=by have:=h.rn;rwa [hm] at this
    rw [e1];exact remW_gc hgb (h.ne_root (by omega) (by omega)).symm hroot
   ·rw [if_neg (show ¬ m≤p by omega)]
    exact remW_g hgb (h.ne_root (by omega) (by omega)).symm (h.ne_root (by omega) (by omega)).symm hroot
 ·intro j hj
  rw [hlen] at hj;rw [List.getElem_eraseIdx];unfold rRem;by_cases h1:j+1≤p
  ·rw [dif_pos (show j < p by omega),if_pos h1,if_pos (show j≤p by omega)]
   have hj':=h.node j (by omega);have n1:r (j+1)≠g:=h.ne_root (by omega) (by omega);have n2:r (j+1)≠r (p+1):=h.ne_of (by omega) (by omega) (by omega) (by omega);have n3:r (j+1)≠r (p+2):=h.ne_of (by omega) (by omega) (by omega) (by omega);by_cases h2:j+1=p
   ·rw [if_neg (show ¬ j+2≤p by omega)]
    subst h2;exact remW_a n1 n2 n3 hj'
   ·rw [if_pos (show j+2≤p by omega)]
    exact (remW_far n1 (h.ne_of (by omega) (by omega) (by omega) (by omega)) n2 n3).trans hj'
  ·rw [dif_neg (show ¬ j < p by omega),if_neg h1,if_neg (show ¬ j+2≤p by omega)]
   have hj':=h.node (j+1) (by omega);have n1:r (j+2)≠g:=h.ne_root (by omega) (by omega);have n2:r (j+2)≠r (p+1):=h.ne_of (by omega) (by omega) (by omega) (by omega);have n3:r (j+2)≠r p:=h.ne_of (by omega) (by omega) (by omega) (by omega);by_cases h2:j=p
   ·rw [if_pos (show j≤p by omega)]
    subst h2;exact remW_c n1 n2 n3 hj'
   ·rw [if_neg (show ¬ j≤p by omega)]
    exact (remW_far n1 n3 n2 (h.ne_of (by omega) (by omega) (by omega) (by omega))).trans hj'
theorem IsList.drew {w:World} {g:Nat} {r:Nat→Nat} {vs:List Nat} (h:IsList w g r vs):IsList w.drew g r vs:=⟨h.r0,h.rn,h.inj,h.root,h.node⟩
theorem heap_drew2 (W:World):W.drew.drew.heap=W.heap:=rfl
theorem cell_drew2 (W:World) (a:Addr):W.drew.drew.cell? a=W.cell? a:=rfl
set_option maxHeartbeats 8000000 in
theorem list_Remove.calls (g:Nat) (r:Nat→Nat) (vs:List Nat) (p:Nat) (w:World) (h:IsList w g r vs) (hn:vs.length < 1000000000000) (hp:p < vs.length) :
  Calls Try.prog 93 #[.pointer (some ⟨g,0,none⟩),.pointer (some ⟨r (p+1),0,none⟩)] w fun e w'=>e = .returned (.iface 3 (.int .i64 (vs[p]:Int)))∧IsList w' g (rRem r p) (vs.eraseIdx p)∧ListKept w w' r vs.length∧∀ B,(∀ i,i≤vs.length→B≤r i)→Below B w w':=by
 have hb:=h.node p hp;have hb2:w.cell? ⟨r (p+1),2,none⟩=some (.pointer (some ⟨g,0,none⟩)):=(zzk hb 2).trans rfl;have hgb:g≠r (p+1):=(h.ne_root (by omega) (by omega)).symm;have hba:r (p+1)≠r p:=h.ne_of (by omega) (by omega) (by omega) (by omega);have hbc:r (p+1)≠r (p+2):=h.ne_of (by omega) (by omega) (by omega) (by omega);have hlast:p+2=vs.length+1→r (p+2)=g:=fun e=>by rw [e];exact h.rn
 have hfirst:p=0→r p=g:=fun e=>by rw [e];exact h.r0
 have ha:(∃ x,w.cell? ⟨r p,0,none⟩=some x)∧w.frozen? ⟨r p,0,none⟩=false:=by
  by_cases hz:p=0
  ·rw [hfirst hz];exact ⟨⟨_,(zzk h.root 0).trans rfl⟩,zzl h.root 0⟩
  ·have h2:=h.node (p - 1) (by omega)
   rw [show p - 1+1=p by omega] at h2;exact ⟨⟨_,(zzk h2 0).trans rfl⟩,zzl h2 0⟩
 have hc:(∃ x,w.cell? ⟨r (p+2),1,none⟩=some x)∧w.frozen? ⟨r (p+2),1,none⟩=false:=by
  by_cases hz:p+2=vs.length+1
  ·rw [hlast hz];exact ⟨⟨_,(zzk h.root 1).trans rfl⟩,zzl h.root 1⟩
  ·have h2:=h.node (p+1) (by omega)
   exact ⟨⟨_,(zzk h2 1).trans rfl⟩,zzl h2 1⟩
 obtain ⟨⟨x4,ha0⟩,fa0⟩:=ha;obtain ⟨⟨x5,a0⟩,fc1⟩:=hc;have hac:r p=r (p+2)→r p=g:=fun e=>by
  by_cases hz:p=0
  ·exact hfirst hz
  ·exact absurd e (h.ne_of (by omega) (by omega) (by omega) (by omega))
 have core:=remove_core w g (r p) (r (p+1)) (r (p+2)) vs.length _ _ _ ((zzk hb 0).trans rfl) ((zzk hb 1).trans rfl) hb2 ha0 a0 ((zzk h.root 4).trans rfl) (zzl hb 0) (zzl hb 1) (zzl hb 2) fa0 fc1 (zzl h.root 4) hgb hba.symm hbc.symm (Decidable.em _) (Decidable.em _) (Decidable.em _) hac (by unfold wrap64;omega);have hL:IsList (remW w g (r p) (r (p+1)) (r (p+2)) vs.length).drew.drew g (rRem r p) (vs.eraseIdx p):=(remW_list h p hp).drew.drew;have hK:ListKept w (remW w g (r p) (r (p+1)) (r (p+2)) vs.length).drew.drew r vs.length:=by
  refine ⟨by rw [World.size_drew,World.size_drew,remW_size];exact Nat.le_refl _,fun k hk hS=>?_⟩;rw [heap_drew2];refine remW_far (fun e=>hS ⟨0,Nat.zero_le _,by rw [h.r0];exact e⟩) (fun e=>hS ⟨p,by omega,e⟩) (fun e=>hS ⟨p+1,by omega,e⟩) (fun e=>?_);by_cases hz:p+2=vs.length+1
  ·exact hS ⟨0,Nat.zero_le _,by rw [h.r0,e];exact hlast hz⟩
  ·exact hS ⟨p+2,by omega,e⟩
 have hB:∀ B,(∀ i,i≤vs.length→B≤r i)→Below B w (remW w g (r p) (r (p+1)) (r (p+2)) vs.length).drew.drew:=fun B hi=>by
  have h0:B≤g:=by rw [← h.r0];exact hi 0 (Nat.zero_le _)
  refine (remW_below h0 (hi _ (by omega)) (hi _ (by omega)) ?_).drew.drew;by_cases hz:p+2=vs.length+1
  ·rw [hlast hz];exact h0
  ·exact hi _ (by omega)
 have hv:(remW w g (r p) (r (p+1)) (r (p+2)) vs.length).drew.drew.cell? ⟨r (p+1),3,none⟩=some (.iface 3 (.int .i64 (vs[p]:Int))):=by rw [cell_drew2];exact remW_v hgb.symm hba hbc hb
 have hq:=eql_ptr_same (w:=w) (g:=g);have CO:=zzm core;have HR:=zzm (And.intro hL (And.intro hK hB));clear core hL hK hB ha0 fa0 a0 fc1 hac hlast hfirst hgb hba hbc hb h hn;generalize (remW w g (r p) (r (p+1)) (r (p+2)) vs.length).drew.drew=W at CO HR hv;generalize r (p+1)=b at CO HR hv hb2 ⊢;generalize vs[p]=v at hv ⊢;go_enter Try.func93,Try.ntmps93;go_wp2_with ((with_reducible refine gate_callee (f:=106) rfl ?_);refine goesL_ (some 13) rfl rfl Try.func106 (by kernel_rfl) rfl #[.pointer (some ⟨g,0,none⟩),.pointer (some ⟨b,0,none⟩)] rfl (by (try simp only [map_toArray,map_cons,map_nil]);first|done|rfl) ?_;(with_reducible refine CO.out.mono ?_);rintro e w9 ⟨rfl,hx⟩;refine ⟨_,rfl,?_⟩;rw [← hx] at hv HR;clear hx);go_ret;exact ⟨rfl,HR.out.1,HR.out.2.1,HR.out.2.2⟩
def ints (l:List Int):Array Value:=(l.map fun x=>Value.int .i64 x).toArray
theorem ints_at {l:List Int} {i:Nat} (h:i < l.length):(ints l)[i]? = some (.int .i64 (l.getD i 0)):=by
 simp [ints,List.getD_eq_getElem?_getD,h]
theorem ints_set (l:List Int) (i:Nat) (x:Int):(ints l).setIfInBounds i (.int .i64 x)=ints (l.set i x):=by
 simp [ints,List.map_set]
structure FSt where
 ws:List Int
 bs:List Int
 op:List Nat
def tellsP (b:S27):Bool:=decide ((Qb b.f5 0).f5 = [1])
def fin1 (l:List S27) (i:Nat) (s:FSt) (k:Nat):FSt:=
 if (Qa l (k:Int)).f2=(Qa l (i:Int)).f2 then ⟨s.ws.set k (if tellsP (Qa l (i:Int))=true then 1 else 2),s.bs.set k (i:Int),s.op⟩ else ⟨s.ws,s.bs,s.op ++ [k]⟩
def fstep (l:List S27) (s:FSt) (i:Nat):FSt:=
 if (Qa l (i:Int)).f2=255 then ⟨s.ws.set i 1,s.bs.set i (-1),s.op⟩
 else if (Qa l (i:Int)).f1=false then ⟨s.ws,s.bs.set i (-1),s.op ++ [i]⟩
 else s.op.foldl (fin1 l i) ⟨s.ws.set i 3,s.bs.set i (-1),[]⟩
def fates0 (n:Nat):FSt:=⟨List.replicate n 0,List.replicate n 0,[]⟩
def fatesTo (l:List S27) (k:Nat):FSt:=(List.range k).foldl (fstep l) (fates0 l.length)
theorem fatesTo_succ (l:List S27) (k:Nat):fatesTo l (k+1)=fstep l (fatesTo l k) k:=by
 unfold fatesTo;rw [List.range_succ,List.foldl_append];rfl
structure FOk (n:Nat) (m:Nat) (s:FSt):Prop where
 lw:s.ws.length=n
 lb:s.bs.length=n
 lo:s.op.length≤m
 op:∀ x∈s.op,x < n
theorem FOk.fin1 {n m:Nat} {s:FSt} (h:FOk n m s) (l:List S27) (i k:Nat) (hk:k < n):FOk n (m+1) (fin1 l i s k):=by
 unfold Yticpnjhkdfdkkaa.T.fin1;split
 ·exact ⟨by simpa using h.lw,by simpa using h.lb,by have:=h.lo;simp only;omega,h.op⟩
 ·refine ⟨h.lw,h.lb,by have:=h.lo;simp;omega,fun x hx=>?_⟩
  rcases List.mem_append.1 hx with hx|hx
  ·exact h.op x hx
  ·rw [List.mem_singleton.1 hx];exact hk
theorem FOk.mono {n m m' : Nat} {s:FSt} (h:FOk n m s) (hm:m≤m'):FOk n m' s:=⟨h.lw,h.lb,Nat.le_trans h.lo hm,h.op⟩
theorem FOk.fold {n:Nat} (l:List S27) (i:Nat):∀ (xs:List Nat) (m:Nat) (s:FSt),FOk n m s→(∀ x∈xs,x < n)→FOk n (m+xs.length) (xs.foldl (Yticpnjhkdfdkkaa.T.fin1 l i) s)
 | [],_,_,h,_=>h
 | x::xs,m,s,h,hx=>by
  have:=FOk.fold l i xs (m+1) _ (h.fin1 l i x (hx x (by simp))) (fun y hy=>hx y (by simp [hy]))
  rw [List.foldl_cons,List.length_cons,show m+(xs.length+1)=m+1+xs.length by omega]
  exact this
theorem FOk.step {n m:Nat} {s:FSt} (h:FOk n m s) (l:List S27) (i:Nat) (hi:i < n):FOk n (m+1) (fstep l s i):=by
 unfold fstep;split
 ·exact ⟨by simpa using h.lw,by simpa using h.lb,by have:=h.lo;simp only;omega,h.op⟩
 ·split
  ·refine ⟨h.lw,by simpa using h.lb,by have:=h.lo;simp;omega,fun x hx=>?_⟩
   rcases List.mem_append.1 hx with hx|hx
   ·exact h.op x hx
   ·rw [List.mem_singleton.1 hx];exact hi
  ·have:=FOk.fold l i s.op 0 ⟨s.ws.set i 3,s.bs.set i (-1),[]⟩ ⟨by simpa using h.lw,by simpa using h.lb,by simp,by simp⟩ h.op
   exact this.mono (by have:=h.lo;omega)
theorem fates_ok (l:List S27):∀ k,k≤l.length→FOk l.length k (fatesTo l k)
 | 0,_=>⟨by simp [fatesTo,fates0],by simp [fatesTo,fates0],by simp [fatesTo,fates0],by simp [fatesTo,fates0]⟩
 | k+1,h=>by
  rw [fatesTo_succ]
  exact (fates_ok l k (by omega)).step l k (by omega)
structure FS (w W:World) (n g2 g3 gW gB gl:Nat) (r:Nat→Nat) (s:FSt):Prop where
 ok:FOk n n s
 res:W.heap[g2]? = some (.cells #[.slice none 0 0,.slice none 0 0] 72 (0,0))
 f:W.heap[g3]? = some (.cells #[.slice (some ⟨gW,0,none⟩) n n,.slice (some ⟨gB,0,none⟩) n n] 72 (0,0))
 ww:W.heap[gW]? = some (.cells (ints s.ws) 74 (0,0))
 bb:W.heap[gB]? = some (.cells (ints s.bs) 3 (0,0))
 l:IsList W gl r s.op
 n23:g2≠g3
 below:Below w.heap.size w W
 ge2:w.heap.size≤g2
 ge3:w.heap.size≤g3
 geW:w.heap.size≤gW
 geB:w.heap.size≤gB
 geL:∀ i,i≤s.op.length→w.heap.size≤r i
theorem IsList.ne_ty {W:World} {g x t:Nat} {r:Nat→Nat} {vs:List Nat} {cs:Array Value} (h:IsList W g r vs) (hx:W.heap[x]? = some (.cells cs t (0,0))) (h1 : 116≠t) (h2 : 105≠t):∀ i,i≤vs.length→r i≠x
 | 0,_=>by rw [h.r0];exact blk_ne h.root hx h1
 | i+1,hi=>blk_ne (h.node i hi) hx h2
section
variable {w W W' : World} {n g2 g3 gW gB gl:Nat} {r:Nat→Nat} {s:FSt}
theorem FS.mono (h:FS w W n g2 g3 gW gB gl r s) (hb:Below W.heap.size W W'):FS w W' n g2 g3 gW gB gl r s:=
 ⟨h.ok,zzh h.res hb,zzh h.f hb,zzh h.ww hb,zzh h.bb hb,h.l.below hb,h.n23,zzp h.below hb,h.ge2,h.ge3,h.geW,h.geB,h.geL⟩
theorem FS.setW (h:FS w W n g2 g3 gW gB gl r s) (k:Nat) (x:Int):FS w (W.setCell ⟨gW,k,none⟩ (.int .i64 x)) n g2 g3 gW gB gl r ⟨s.ws.set k x,s.bs,s.op⟩:=
  ⟨⟨by simpa using h.ok.lw,h.ok.lb,h.ok.lo,h.ok.op⟩,zzj h.res (blk_ne h.res h.ww (by decide)) _,zzj h.f (blk_ne h.f h.ww (by decide)) _,zzi h.ww k _ (ints_set _ _ _),zzj h.bb (blk_ne h.bb h.ww (by decide)) _,
   h.l.of_heap (fun i hi=>Below.heap_setCell _ _ _ _ (h.l.ne_ty h.ww (by decide) (by decide) i hi)),h.n23,zzd h.below h.geW,h.ge2,h.ge3,h.geW,h.geB,h.geL⟩
theorem FS.setB (h:FS w W n g2 g3 gW gB gl r s) (k:Nat) (x:Int):FS w (W.setCell ⟨gB,k,none⟩ (.int .i64 x)) n g2 g3 gW gB gl r ⟨s.ws,s.bs.set k x,s.op⟩:=
  ⟨⟨h.ok.lw,by simpa using h.ok.lb,h.ok.lo,h.ok.op⟩,zzj h.res (blk_ne h.res h.bb (by decide)) _,zzj h.f (blk_ne h.f h.bb (by decide)) _,zzj h.ww (blk_ne h.ww h.bb (by decide)) _,zzi h.bb k _ (ints_set _ _ _),
   h.l.of_heap (fun i hi=>Below.heap_setCell _ _ _ _ (h.l.ne_ty h.bb (by decide) (by decide) i hi)),h.n23,zzd h.below h.geB,h.ge2,h.ge3,h.geW,h.geB,h.geL⟩
theorem kept_at {r:Nat→Nat} {m x t:Nat} {cs:Array Value} {gl:Nat} {vs:List Nat} (hl:IsList W gl r vs) (hk:ListKept W W' r vs.length) (hx:W.heap[x]? = some (.cells cs t (0,0))) (h1 : 116≠t) (h2 : 105≠t):W'.heap[x]? = some (.cells cs t (0,0)):=
 (hk.2 x (blk_lt hx) (fun ⟨i,hi,he⟩=>hl.ne_ty hx h1 h2 i hi he.symm)).trans hx
theorem FS.list (h:FS w W n g2 g3 gW gB gl r s) {r' : Nat→Nat} {op' : List Nat} (hl:IsList W' gl r' op') (hk:ListKept W W' r s.op.length) (hb:Below w.heap.size W W') (hr:∀ i,i≤op'.length→w.heap.size≤r' i) (ho:op'.length≤n) (hx:∀ x∈op',x < n):FS w W' n g2 g3 gW gB gl r' ⟨s.ws,s.bs,op'⟩:=
 ⟨⟨h.ok.lw,h.ok.lb,ho,hx⟩,kept_at (m:=0) h.l hk h.res (by decide) (by decide),kept_at (m:=0) h.l hk h.f (by decide) (by decide),kept_at (m:=0) h.l hk h.ww (by decide) (by decide),kept_at (m:=0) h.l hk h.bb (by decide) (by decide),hl,h.n23,h.below.trans hb,h.ge2,h.ge3,h.geW,h.geB,hr⟩
theorem FS.cellW (h:FS w W n g2 g3 gW gB gl r s) (k:Nat) (hk:k < n):(∃ v,W.cell? ⟨gW,k,none⟩=some v)∧W.frozen? ⟨gW,k,none⟩=false:=
 ⟨⟨_,(zzk h.ww k).trans (ints_at (by rw [h.ok.lw];exact hk))⟩,zzl h.ww k⟩
theorem FS.cellB (h:FS w W n g2 g3 gW gB gl r s) (k:Nat) (hk:k < n):(∃ v,W.cell? ⟨gB,k,none⟩=some v)∧W.frozen? ⟨gB,k,none⟩=false:=
 ⟨⟨_,(zzk h.bb k).trans (ints_at (by rw [h.ok.lb];exact hk))⟩,zzl h.bb k⟩
theorem FS.f0 (h:FS w W n g2 g3 gW gB gl r s):W.cell? ⟨g3,0,none⟩=some (.slice (some ⟨gW,0,none⟩) n n):=(zzk h.f 0).trans rfl
theorem FS.f1 (h:FS w W n g2 g3 gW gB gl r s):W.cell? ⟨g3,1,none⟩=some (.slice (some ⟨gB,0,none⟩) n n):=(zzk h.f 1).trans rfl
theorem ints_R {e:Nat} {l:List Int} {g base:Nat} (h:W.heap[g]? = some (.cells (ints l) e (0,0))) (hg:base≤g) (hm:l.length≤maxLen):(Kd.int .i64).R e W base (fun _=>True) (.slice (some ⟨g,0,none⟩) l.length l.length) l:=by
 refine Kd.R_of_own ?_ (fun _ _=>trivial);refine ⟨by simp [encs],.inr ⟨g,l.length,ints l,rfl,hg,h,Nat.le_refl _,hm,by simp [ints],?_⟩⟩;simp [ints,encs];rw [← List.map_take,List.take_length]
end
theorem eq_loop (a b:List Int) (hl:a.length=b.length) (hm:a.length≤9223372036854775807):∀ (d i:Nat),a.length - i=d→i≤a.length→∀ k,d < k→slices_Equal_int_int.l0 k a b (a.length:Int) (i:Int)=some (decide (a.drop i=b.drop i)):=by
 intro d;induction d with
 | zero=>
  intro i hd hi k hk;obtain ⟨k,rfl⟩:∃ k',k=k' + 1:=⟨k - 1,by omega⟩;rw [show a.drop i = [] from List.drop_eq_nil_of_le (by omega),show b.drop i = [] from List.drop_eq_nil_of_le (by omega)];simp only [slices_Equal_int_int.l0,if_neg (show ¬ (i:Int) < (a.length:Int) by omega),decide_true]
 | succ d ih=>
  intro i hd hi k hk;obtain ⟨k,rfl⟩:∃ k',k=k' + 1:=⟨k - 1,by omega⟩;have e1:wrap64 ((i:Int)+1)=((i+1:Nat):Int):=by unfold wrap64;omega
  have r1:∀ l:List Int,i < l.length→l.drop i=rd l (i:Int)::l.drop (i+1):=fun l h=>by
   rw [List.drop_eq_getElem_cons h];simp [rd,List.getD_eq_getElem?_getD,List.getElem?_eq_getElem h]
  rw [r1 a (by omega),r1 b (by omega)];simp only [slices_Equal_int_int.l0,if_pos (show (i:Int) < (a.length:Int) by omega),if_pos (show (0:Int)≤i by omega),if_pos (show (i:Int) < (b.length:Int) by omega),e1];by_cases h0:rd a i=rd b i
  ·rw [if_pos h0,ih (i+1) (by omega) (by omega) k (by omega)]
   simp [h0]
  ·rw [if_neg h0,decide_eq_false (by simp [h0])]
theorem eq_f (a b:List Int) (hm:a.length≤9223372036854775807):slices_Equal_int_int.f (a.length+1) a b=some (decide (a=b)):=by
 unfold slices_Equal_int_int.f;by_cases h:(a.length:Int)=(b.length:Int)
 ·rw [if_pos h]
  have:=eq_loop a b (by omega) hm a.length 0 (by omega) (by omega) (a.length+1) (by omega);simpa using this
 ·rw [if_neg h,decide_eq_false (fun e=>h (by rw [e]))]
theorem tells_calls (b0 b1:Bool) (b2 b3 b4:Int) (A5:Option Addr) (c5:Nat) (l5:List S34) (w:World) (hr:Kd.C k34 w A5 l5.length l5) (hc:l5.length≤c5) (hp : 0 < l5.length) :
  Calls Try.prog 92 #[.agg #[.bool b0,.bool b1,.int .i64 b2,.int .i64 b3,.int .i64 b4,.slice A5 l5.length c5]] w fun e w'=>e = .returned (.bool (decide ((Qb l5 0).f5 = [1])))∧Below w.heap.size w w':=by
 obtain ⟨_,_,_,_,_,_,_,_,_,_,_,_,_,_,_,g5⟩:=Q9 hr 0 (by omega) (by omega);have hm:=Kd.C_max g5;refine Rs.calls ((Qb l5 0).f5.length+1) b0 b1 b2 b3 b4 A5 c5 l5 _ w hr hc ?_;unfold Rs.f;rw [if_pos (show (0:Int) < (l5.length:Int) by omega),eq_f _ _ hm];rfl
theorem made_ints (n:Nat):madeCells (Value.int .i64 0).cells n=ints (List.replicate n 0):=by
 apply Array.ext
 ·simp [madeCells,ints]
 ·intro i h1 h2
  have:i % 1=0:=by omega
  simp [madeCells,ints,Value.cells,this]
theorem make70 (n:Nat) (hn:n≤1000000) (W:World):(Instr.makeSlice 70 (.int .i64 (n:Int)) (.int .i64 (n:Int))).run Try.prog W = .ok (.slice (some ⟨W.heap.size,0,none⟩) n n) (W.alloc (.cells (ints (List.replicate n 0)) 74 (0,0))):=by
 obtain ⟨i0,hi,hz0,hz1,hz2⟩:=info_parts (show (Try.prog.info? 74).map (fun i=>(i.zero,i.size,i.bytes))=some (some (.int .i64 0),1,8) by kernel_rfl);have:=run_make (P:=Try.prog) W 70 74 i0 _ Try.underlying70 hi hz0 .i64 .i64 (n:Int) (n:Int) (by omega) (by omega) (by rw [hz2];omega) (by omega);rw [this,hz1,Nat.mul_one,Int.toNat_natCast,made_ints]
theorem make32 (n:Nat) (hn:n≤1000000) (W:World):(Instr.makeSlice 32 (.int .i64 (n:Int)) (.int .i64 (n:Int))).run Try.prog W = .ok (.slice (some ⟨W.heap.size,0,none⟩) n n) (W.alloc (.cells (ints (List.replicate n 0)) 3 (0,0))):=by
 obtain ⟨i0,hi,hz0,hz1,hz2⟩:=info_parts info3;have:=run_make (P:=Try.prog) W 32 3 i0 _ Try.underlying32 hi hz0 .i64 .i64 (n:Int) (n:Int) (by omega) (by omega) (by rw [hz2];omega) (by omega);rw [this,hz1,Nat.mul_one,Int.toNat_natCast,made_ints]
theorem al3_0 (W:World) (a b c:Obj):(((W.alloc a).alloc b).alloc c).heap[W.heap.size]? = some a:=zze (zze (blk_new W a) b) c
theorem al3_1 (W:World) (a b c:Obj):(((W.alloc a).alloc b).alloc c).heap[W.heap.size+1]? = some b:=by
 have:=blk_new (W.alloc a) b;rw [World.size_alloc] at this;exact zze this c
theorem al3_2 (W:World) (a b c:Obj):(((W.alloc a).alloc b).alloc c).heap[W.heap.size+1+1]? = some c:=by
 have:=blk_new ((W.alloc a).alloc b) c;rw [World.size_alloc,World.size_alloc] at this;exact this
theorem assert_int (x:Int) (W:World):(Instr.typeAssert (.iface 3 (.int .i64 x)) 20 3 false).run Try.prog W = .ok (.int .i64 x) W:=by
 simp [Instr.typeAssert,run_underlying Try.underlying3]
set_option maxHeartbeats 8000000 in
theorem Rb.core (A0:Option Addr) (c0:Nat) (l0:List S27) (w:World) (b9:Kd.C k27 w A0 l0.length l0) (a2:l0.length≤c0) (hn:l0.length≤1000000) (hp:∀ j:Nat,j < l0.length→0 < (Qa l0 (j:Int)).f5.length) :
  Calls Try.prog 62 #[.slice A0 l0.length c0] w fun e w'=>∃ v1 v2:Value,e = .returned (.agg #[v1,v2])∧Kd.R (Kd.int .i64) 74 w' w.heap.size (fun _=>True) v1 (fatesTo l0 l0.length).ws∧Kd.R (Kd.int .i64) 3 w' w.heap.size (fun _=>True) v2 (fatesTo l0 l0.length).bs∧Below w.heap.size w w':=by
 have HR:=zzm b9;have HN:=zzm hn;have HP:=zzm hp;have HB:=zzm (Below.refl w.heap.size w);have hm1:=make70 l0.length hn;have hm2:=make32 l0.length hn;clear b9 a2 hn hp;go_enter Try.func62,Try.ntmps62;go_upto_region 1 with ((with_reducible refine gate_dst (N:=2) rfl ?_);refine box_event ?hg (N:=2) ?hd (cs:=#[.slice none 0 0,.slice none 0 0]) (t:=72) ?hr ?_;(case hd=>rfl);(case hg=>rfl);(case hr=>first|(go_simp;done)|(go_simp;rfl));intro g2 hg w1 hbox hb;have HB1:=zzm (zzp HB.out hb);have a0:=zzm hbox;have c7:=zzm (show w.heap.size≤g2 by rw [hg];exact HB.out.size);clear hb hbox hg);refine wp_mono (Q:=fun e a' W=>match e with | .normal=>∃ gW gB g3:Nat,a' = ⟨#[.slice A0 l0.length c0,undef,.pointer (some ⟨g2,0,none⟩),.pointer (some ⟨g3,0,none⟩),undef,undef,undef,undef,undef,undef,.slice A0 l0.length c0,.int .i64 (l0.length:Int),.slice (some ⟨gW,0,none⟩) l0.length l0.length,.slice A0 l0.length c0,.int .i64 (l0.length:Int),.slice (some ⟨gB,0,none⟩) l0.length l0.length,.agg #[.slice (some ⟨gW,0,none⟩) l0.length l0.length,.slice (some ⟨gB,0,none⟩) l0.length l0.length],undef,undef,undef,undef,undef,undef,undef,undef,undef,undef,undef,undef,undef,undef,undef,undef,undef,undef,undef,undef,undef,undef,undef,undef,undef,undef,undef,undef,undef,undef,undef,undef,undef,undef,undef,undef,undef,undef,undef,undef,undef,undef,undef,undef,undef,undef,undef,undef,undef,undef,undef,undef,undef,undef,undef,undef,undef,undef,undef,undef,undef,undef,undef,undef,undef,undef,undef,undef,undef,undef,undef,undef],[]⟩∧Aside0 (W.heap[g2]? = some (.cells #[.slice none 0 0,.slice none 0 0] 72 (0,0)))∧Aside0 (W.heap[g3]? = some (.cells #[.slice (some ⟨gW,0,none⟩) l0.length l0.length,.slice (some ⟨gB,0,none⟩) l0.length l0.length] 72 (0,0)))∧Aside0 (W.heap[gW]? = some (.cells (ints (List.replicate l0.length 0)) 74 (0,0)))∧Aside0 (W.heap[gB]? = some (.cells (ints (List.replicate l0.length 0)) 3 (0,0)))∧Aside0 (Below w.heap.size w W)∧Aside0 (w.heap.size≤g3∧w.heap.size≤gW∧w.heap.size≤gB∧g2≠g3)|_=>False) ?_ ?_
 ·refine wp_region_any (by kernel_rfl) ?_
  change wpAny _ _ _ _ _ _ _ (World.drew _);refine wpAny_take (i:=0) (v:=.slice A0 l0.length c0) rfl (by kernel_rfl) (by kernel_rfl) (by kernel_rfl) (fun _ _ _ h=>h) (Or.inl ⟨by rfl,by intro w;go_simp⟩) ?_;refine wpAny_take (i:=3) (v:=.slice A0 l0.length c0) rfl (by kernel_rfl) (by kernel_rfl) (by kernel_rfl) (fun _ _ _ h=>h) (Or.inl ⟨by rfl,by intro w;go_simp⟩) ?_;refine wpAny_take (i:=1) (v:=.int .i64 (l0.length:Int)) rfl (by kernel_rfl) (by kernel_rfl) (by kernel_rfl) (fun _ _ _ h=>h) (Or.inl ⟨by rfl,by intro w;go_simp⟩) ?_;refine wpAny_take (i:=4) (v:=.int .i64 (l0.length:Int)) rfl (by kernel_rfl) (by kernel_rfl) (by kernel_rfl) (fun _ _ _ h=>h) (Or.inl ⟨by rfl,by intro w;go_simp⟩) ?_;refine wpAny_ready (rs:=[2,5,7]) (by kernel_rfl) (by simp) ?_;refine AllReady.cons rfl (fun K hK=>?_) ?_
  ·go_simp
   refine hK _ _ ?_;clear hK K;refine wpAny_ready (rs:=[5,7]) (by kernel_rfl) (by simp) ?_;refine AllReady.cons rfl (fun K hK=>?_) ?_
   ·go_simp
    refine hK _ _ ?_;clear hK K;refine wpAny_take (i:=6) (v:=?_) rfl (by kernel_rfl) (by kernel_rfl) (by kernel_rfl) (fun _ _ _ h=>h) (Or.inl ⟨by rfl,?_⟩) ?_;rotate_left
    ·intro w
     go_simp;with_reducible rfl
    refine wpAny_ready (rs:=[7]) (by kernel_rfl) (by simp) ?_;refine AllReady.cons rfl (fun K hK=>?_) ?_
    ·go_simp
     refine hK _ _ ?_;clear hK K;refine wpAny_ready (rs:=[8]) (by kernel_rfl) (by simp) ?_;refine AllReady.cons rfl (fun K hK=>?_) AllReady.nil;go_simp;refine hK _ _ ?_;clear hK K;refine wpAny_done (by kernel_rfl) ?_ _;refine ⟨_,_,_,rfl,?_,?_,?_,?_,?_,?_⟩
     ·exact ⟨zzg (zze (zze (zze a0.out _) _) _)⟩
     ·exact ⟨by first|exact zzg (al3_0 _ _ _ _)|exact zzg (al3_1 _ _ _ _)|exact zzg (al3_2 _ _ _ _)⟩
     ·exact ⟨by first|exact zzg (al3_0 _ _ _ _)|exact zzg (al3_1 _ _ _ _)|exact zzg (al3_2 _ _ _ _)⟩
     ·exact ⟨by first|exact zzg (al3_0 _ _ _ _)|exact zzg (al3_1 _ _ _ _)|exact zzg (al3_2 _ _ _ _)⟩
     ·exact ⟨zzc (zza (zza (zza HB1.out _) _) _)⟩
     ·exact ⟨by have h1:=HB1.out.size;have h2:=blk_lt a0.out;refine ⟨?_,?_,?_,?_⟩ <;> omega⟩
    exact AllReady.nil
   refine AllReady.cons rfl (fun K hK=>?_) ?_
   ·go_simp
    refine hK _ _ ?_;clear hK K;refine wpAny_ready (rs:=[5]) (by kernel_rfl) (by simp) ?_;refine AllReady.cons rfl (fun K hK=>?_) ?_
    ·go_simp
     refine hK _ _ ?_;clear hK K;refine wpAny_take (i:=6) (v:=?_) rfl (by kernel_rfl) (by kernel_rfl) (by kernel_rfl) (fun _ _ _ h=>h) (Or.inl ⟨by rfl,?_⟩) ?_;rotate_left
     ·intro w
      go_simp;with_reducible rfl
     refine wpAny_ready (rs:=[8]) (by kernel_rfl) (by simp) ?_;refine AllReady.cons rfl (fun K hK=>?_) AllReady.nil;go_simp;refine hK _ _ ?_;clear hK K;refine wpAny_done (by kernel_rfl) ?_ _;refine ⟨_,_,_,rfl,?_,?_,?_,?_,?_,?_⟩
     ·exact ⟨zzg (zze (zze (zze a0.out _) _) _)⟩
     ·exact ⟨by first|exact zzg (al3_0 _ _ _ _)|exact zzg (al3_1 _ _ _ _)|exact zzg (al3_2 _ _ _ _)⟩
     ·exact ⟨by first|exact zzg (al3_0 _ _ _ _)|exact zzg (al3_1 _ _ _ _)|exact zzg (al3_2 _ _ _ _)⟩
     ·exact ⟨by first|exact zzg (al3_0 _ _ _ _)|exact zzg (al3_1 _ _ _ _)|exact zzg (al3_2 _ _ _ _)⟩
     ·exact ⟨zzc (zza (zza (zza HB1.out _) _) _)⟩
     ·exact ⟨by have h1:=HB1.out.size;have h2:=blk_lt a0.out;refine ⟨?_,?_,?_,?_⟩ <;> omega⟩
    exact AllReady.nil
   exact AllReady.nil
  refine AllReady.cons rfl (fun K hK=>?_) ?_
  ·go_simp
   refine hK _ _ ?_;clear hK K;refine wpAny_ready (rs:=[2,7]) (by kernel_rfl) (by simp) ?_;refine AllReady.cons rfl (fun K hK=>?_) ?_
   ·go_simp
    refine hK _ _ ?_;clear hK K;refine wpAny_take (i:=6) (v:=?_) rfl (by kernel_rfl) (by kernel_rfl) (by kernel_rfl) (fun _ _ _ h=>h) (Or.inl ⟨by rfl,?_⟩) ?_;rotate_left
    ·intro w
     go_simp;with_reducible rfl
    refine wpAny_ready (rs:=[7]) (by kernel_rfl) (by simp) ?_;refine AllReady.cons rfl (fun K hK=>?_) ?_
    ·go_simp
     refine hK _ _ ?_;clear hK K;refine wpAny_ready (rs:=[8]) (by kernel_rfl) (by simp) ?_;refine AllReady.cons rfl (fun K hK=>?_) AllReady.nil;go_simp;refine hK _ _ ?_;clear hK K;refine wpAny_done (by kernel_rfl) ?_ _;refine ⟨_,_,_,rfl,?_,?_,?_,?_,?_,?_⟩
     ·exact ⟨zzg (zze (zze (zze a0.out _) _) _)⟩
     ·exact ⟨by first|exact zzg (al3_0 _ _ _ _)|exact zzg (al3_1 _ _ _ _)|exact zzg (al3_2 _ _ _ _)⟩
     ·exact ⟨by first|exact zzg (al3_0 _ _ _ _)|exact zzg (al3_1 _ _ _ _)|exact zzg (al3_2 _ _ _ _)⟩
     ·exact ⟨by first|exact zzg (al3_0 _ _ _ _)|exact zzg (al3_1 _ _ _ _)|exact zzg (al3_2 _ _ _ _)⟩
     ·exact ⟨zzc (zza (zza (zza HB1.out _) _) _)⟩
     ·exact ⟨by have h1:=HB1.out.size;have h2:=blk_lt a0.out;refine ⟨?_,?_,?_,?_⟩ <;> omega⟩
    exact AllReady.nil
   refine AllReady.cons rfl (fun K hK=>?_) ?_
   ·go_simp
    refine hK _ _ ?_;clear hK K;refine wpAny_ready (rs:=[2]) (by kernel_rfl) (by simp) ?_;refine AllReady.cons rfl (fun K hK=>?_) ?_
    ·go_simp
     refine hK _ _ ?_;clear hK K;refine wpAny_take (i:=6) (v:=?_) rfl (by kernel_rfl) (by kernel_rfl) (by kernel_rfl) (fun _ _ _ h=>h) (Or.inl ⟨by rfl,?_⟩) ?_;rotate_left
     ·intro w
      go_simp;with_reducible rfl
     refine wpAny_ready (rs:=[8]) (by kernel_rfl) (by simp) ?_;refine AllReady.cons rfl (fun K hK=>?_) AllReady.nil;go_simp;refine hK _ _ ?_;clear hK K;refine wpAny_done (by kernel_rfl) ?_ _;refine ⟨_,_,_,rfl,?_,?_,?_,?_,?_,?_⟩
     ·exact ⟨zzg (zze (zze (zze a0.out _) _) _)⟩
     ·exact ⟨by first|exact zzg (al3_0 _ _ _ _)|exact zzg (al3_1 _ _ _ _)|exact zzg (al3_2 _ _ _ _)⟩
     ·exact ⟨by first|exact zzg (al3_0 _ _ _ _)|exact zzg (al3_1 _ _ _ _)|exact zzg (al3_2 _ _ _ _)⟩
     ·exact ⟨by first|exact zzg (al3_0 _ _ _ _)|exact zzg (al3_1 _ _ _ _)|exact zzg (al3_2 _ _ _ _)⟩
     ·exact ⟨zzc (zza (zza (zza HB1.out _) _) _)⟩
     ·exact ⟨by have h1:=HB1.out.size;have h2:=blk_lt a0.out;refine ⟨?_,?_,?_,?_⟩ <;> omega⟩
    exact AllReady.nil
   exact AllReady.nil
  refine AllReady.cons rfl (fun K hK=>?_) ?_
  ·go_simp
   refine hK _ _ ?_;clear hK K;refine wpAny_ready (rs:=[2,5]) (by kernel_rfl) (by simp) ?_;refine AllReady.cons rfl (fun K hK=>?_) ?_
   ·go_simp
    refine hK _ _ ?_;clear hK K;refine wpAny_ready (rs:=[5]) (by kernel_rfl) (by simp) ?_;refine AllReady.cons rfl (fun K hK=>?_) ?_
    ·go_simp
     refine hK _ _ ?_;clear hK K;refine wpAny_take (i:=6) (v:=?_) rfl (by kernel_rfl) (by kernel_rfl) (by kernel_rfl) (fun _ _ _ h=>h) (Or.inl ⟨by rfl,?_⟩) ?_;rotate_left
     ·intro w
      go_simp;with_reducible rfl
     refine wpAny_ready (rs:=[8]) (by kernel_rfl) (by simp) ?_;refine AllReady.cons rfl (fun K hK=>?_) AllReady.nil;go_simp;refine hK _ _ ?_;clear hK K;refine wpAny_done (by kernel_rfl) ?_ _;refine ⟨_,_,_,rfl,?_,?_,?_,?_,?_,?_⟩
     ·exact ⟨zzg (zze (zze (zze a0.out _) _) _)⟩
     ·exact ⟨by first|exact zzg (al3_0 _ _ _ _)|exact zzg (al3_1 _ _ _ _)|exact zzg (al3_2 _ _ _ _)⟩
     ·exact ⟨by first|exact zzg (al3_0 _ _ _ _)|exact zzg (al3_1 _ _ _ _)|exact zzg (al3_2 _ _ _ _)⟩
     ·exact ⟨by first|exact zzg (al3_0 _ _ _ _)|exact zzg (al3_1 _ _ _ _)|exact zzg (al3_2 _ _ _ _)⟩
     ·exact ⟨zzc (zza (zza (zza HB1.out _) _) _)⟩
     ·exact ⟨by have h1:=HB1.out.size;have h2:=blk_lt a0.out;refine ⟨?_,?_,?_,?_⟩ <;> omega⟩
    exact AllReady.nil
   refine AllReady.cons rfl (fun K hK=>?_) ?_
   ·go_simp
    refine hK _ _ ?_;clear hK K;refine wpAny_ready (rs:=[2]) (by kernel_rfl) (by simp) ?_;refine AllReady.cons rfl (fun K hK=>?_) ?_
    ·go_simp
     refine hK _ _ ?_;clear hK K;refine wpAny_take (i:=6) (v:=?_) rfl (by kernel_rfl) (by kernel_rfl) (by kernel_rfl) (fun _ _ _ h=>h) (Or.inl ⟨by rfl,?_⟩) ?_;rotate_left
     ·intro w
      go_simp;with_reducible rfl
     refine wpAny_ready (rs:=[8]) (by kernel_rfl) (by simp) ?_;refine AllReady.cons rfl (fun K hK=>?_) AllReady.nil;go_simp;refine hK _ _ ?_;clear hK K;refine wpAny_done (by kernel_rfl) ?_ _;refine ⟨_,_,_,rfl,?_,?_,?_,?_,?_,?_⟩
     ·exact ⟨zzg (zze (zze (zze a0.out _) _) _)⟩
     ·exact ⟨by first|exact zzg (al3_0 _ _ _ _)|exact zzg (al3_1 _ _ _ _)|exact zzg (al3_2 _ _ _ _)⟩
     ·exact ⟨by first|exact zzg (al3_0 _ _ _ _)|exact zzg (al3_1 _ _ _ _)|exact zzg (al3_2 _ _ _ _)⟩
     ·exact ⟨by first|exact zzg (al3_0 _ _ _ _)|exact zzg (al3_1 _ _ _ _)|exact zzg (al3_2 _ _ _ _)⟩
     ·exact ⟨zzc (zza (zza (zza HB1.out _) _) _)⟩
     ·exact ⟨by have h1:=HB1.out.size;have h2:=blk_lt a0.out;refine ⟨?_,?_,?_,?_⟩ <;> omega⟩
    exact AllReady.nil
   exact AllReady.nil
  exact AllReady.nil
 ·intro e a' w2 hq
  cases e with
  | normal=>?_
  | _=>exact hq.elim
  obtain ⟨gW,gB,g3,rfl,H2,H3,HW0,HY0,HB2,HGE⟩:=hq;clear hm1 hm2 HB1 a0;have HS0:=zzm (And.intro H2.out (And.intro H3.out (And.intro HW0.out HY0.out)));go_wp2_with ((with_reducible refine gate_callee (f:=88) rfl ?_);refine goesL_ (some 17) rfl rfl Try.func88 (by kernel_rfl) rfl #[] rfl (by (try simp only [map_toArray,map_cons,map_nil]);first|done|rfl) ?_;(with_reducible refine (list_New.calls _).mono ?_);rintro e w3 ⟨gl,r0,rfl,hl,hge,hb⟩;refine ⟨_,rfl,?_⟩;have HS1:=zzm (show FS w w3 l0.length g2 g3 gW gB gl r0 (fatesTo l0 0) from ⟨(fates_ok l0 0 (Nat.zero_le _)).mono (Nat.zero_le _),zzh HS0.out.1 hb,zzh HS0.out.2.1 hb,zzh HS0.out.2.2.1 hb,zzh HS0.out.2.2.2 hb,hl,HGE.out.2.2.2,zzp HB2.out hb,c7.out,HGE.out.1,HGE.out.2.1,HGE.out.2.2.1,fun i hi=>by have h0:i=0:=Nat.le_zero.1 hi;subst h0;exact Nat.le_trans (Nat.le_trans HB2.out.size hge) (Nat.le_of_eq hl.r0.symm)⟩);clear hl hge hb);clear HS0 H2 H3 HW0 HY0 HB2 HGE;go_loopw [20] (fun i W=>∃ k:Nat,∃ r,k≤l0.length∧i = .int .i64 k∧Aside0 (FS w W l0.length g2 g3 gW gB gl r (fatesTo l0 k))) (fun i _=>l0.length - (intOf i).toNat)
  case atStart=>exact ⟨0,r0,Nat.zero_le _,rfl,HS1⟩
  case round=>
   clear HS1;obtain ⟨k,r,hk,rfl,HS⟩:=hrel;by_cases hlt:k < l0.length
   ·obtain ⟨ad,A5,c5,he,a4,a5,a6,a7,a8,a9,l5,g5⟩:=Q2 HR.out (k:Int) (by omega) (by omega)
    subst he;have hbl:=HS.out.below;replace a4:=(hbl.cell (zzn w _ a4)).trans a4;replace a5:=(hbl.cell (zzn w _ a5)).trans a5;replace a6:=(hbl.cell (zzn w _ a6)).trans a6;replace a7:=(hbl.cell (zzn w _ a7)).trans a7;replace a8:=(hbl.cell (zzn w _ a8)).trans a8;replace a9:=(hbl.cell (zzn w _ a9)).trans a9;simp only [Int.toNat_natCast] at a4 a5 a6 a7 a8 a9;have L5:=zzm l5;have G5:=zzm g5;have P5:=zzm (HP.out k hlt);have hsu:=fatesTo_succ l0 k;unfold fstep at hsu;have HF:=zzm (fates_ok l0 k hk);clear hbl l5 g5;obtain ⟨b,hb_⟩:∃ b,b=Qa l0 (k:Int):=⟨_,rfl⟩;rw [← hb_] at a4 a5 a6 a7 a8 a9 L5 G5 P5 hsu;have HSU:=zzm hsu;have HBE:=zzm hb_;clear hsu hb_;obtain ⟨s,hs_⟩:∃ s,s=fatesTo l0 k:=⟨_,rfl⟩;rw [← hs_] at HS HSU HF;clear hs_;have hks:k < 1000000:=by have:=HN.out;omega
    have hki:(k:Int) < (l0.length:Int):=by omega
    have hki0 : 0≤(k:Int):=by omega
    go_upto_region 6 with ((with_reducible refine gate_dst (N:=6) rfl ?_);refine box_event ?hg (N:=6) ?hd (cs:=#[.bool false,.bool false,.int .i64 0,.int .i64 0,.int .i64 0,.slice none 0 0]) (t:=27) ?hr ?_;(case hd=>rfl);(case hg=>rfl);(case hr=>first|(go_simp;done)|(go_simp;rfl));intro gb hg a3 hbox hb;have HX:=zzm hb;have BX:=zzm hbox;have GX:=zzm (Nat.le_of_eq hg.symm);clear hb hbox hg;have hz0:a3.cell? ⟨_,0,none⟩=some _:=(zzk BX.out 0).trans rfl;have hf0:=zzl BX.out 0;have hz1:a3.cell? ⟨_,1,none⟩=some _:=(zzk BX.out 1).trans rfl;have hf1:=zzl BX.out 1;have hz2:a3.cell? ⟨_,2,none⟩=some _:=(zzk BX.out 2).trans rfl;have hf2:=zzl BX.out 2;have hz3:a3.cell? ⟨_,3,none⟩=some _:=(zzk BX.out 3).trans rfl;have hf3:=zzl BX.out 3;have hz4:a3.cell? ⟨_,4,none⟩=some _:=(zzk BX.out 4).trans rfl;have hf4:=zzl BX.out 4;have hz5:a3.cell? ⟨_,5,none⟩=some _:=(zzk BX.out 5).trans rfl;have hf5:=zzl BX.out 5);have HS4:=zzm (HS.out.mono (((((((HX.out).setCell (p:=⟨gb,0,none⟩) GX.out (.bool b.f0)).setCell (p:=⟨gb,1,none⟩) GX.out (.bool b.f1)).setCell (p:=⟨gb,2,none⟩) GX.out (.int .i64 b.f2)).setCell (p:=⟨gb,3,none⟩) GX.out (.int .i64 b.f3)).setCell (p:=⟨gb,4,none⟩) GX.out (.int .i64 b.f4)).setCell (p:=⟨gb,5,none⟩) GX.out (.slice A5 b.f5.length c5)));have BG4:=zzm (zzi (cs:=#[.bool b.f0,.bool b.f1,.int .i64 b.f2,.int .i64 b.f3,.int .i64 b.f4,.slice none 0 0]) (cs':=#[.bool b.f0,.bool b.f1,.int .i64 b.f2,.int .i64 b.f3,.int .i64 b.f4,.slice A5 b.f5.length c5]) (zzi (cs:=#[.bool b.f0,.bool b.f1,.int .i64 b.f2,.int .i64 b.f3,.int .i64 0,.slice none 0 0]) (cs':=#[.bool b.f0,.bool b.f1,.int .i64 b.f2,.int .i64 b.f3,.int .i64 b.f4,.slice none 0 0]) (zzi (cs:=#[.bool b.f0,.bool b.f1,.int .i64 b.f2,.int .i64 0,.int .i64 0,.slice none 0 0]) (cs':=#[.bool b.f0,.bool b.f1,.int .i64 b.f2,.int .i64 b.f3,.int .i64 0,.slice none 0 0]) (zzi (cs:=#[.bool b.f0,.bool b.f1,.int .i64 0,.int .i64 0,.int .i64 0,.slice none 0 0]) (cs':=#[.bool b.f0,.bool b.f1,.int .i64 b.f2,.int .i64 0,.int .i64 0,.slice none 0 0]) (zzi (cs:=#[.bool b.f0,.bool false,.int .i64 0,.int .i64 0,.int .i64 0,.slice none 0 0]) (cs':=#[.bool b.f0,.bool b.f1,.int .i64 0,.int .i64 0,.int .i64 0,.slice none 0 0]) (zzi (cs:=#[.bool false,.bool false,.int .i64 0,.int .i64 0,.int .i64 0,.slice none 0 0]) (cs':=#[.bool b.f0,.bool false,.int .i64 0,.int .i64 0,.int .i64 0,.slice none 0 0]) (BX.out) 0 (.bool b.f0) rfl) 1 (.bool b.f1) rfl) 2 (.int .i64 b.f2) rfl) 3 (.int .i64 b.f3) rfl) 4 (.int .i64 b.f4) rfl) 5 (.slice A5 b.f5.length c5) rfl);clear hz0 hz1 hz2 hz3 hz4 hz5 hf0 hf1 hf2 hf3 hf4 hf5 a4 a5 a6 a7 a8 a9 HS BX;generalize (((((a3.setCell ⟨gb,0,none⟩ (.bool b.f0)).setCell ⟨gb,1,none⟩ (.bool b.f1)).setCell ⟨gb,2,none⟩ (.int .i64 b.f2)).setCell ⟨gb,3,none⟩ (.int .i64 b.f3)).setCell ⟨gb,4,none⟩ (.int .i64 b.f4)).setCell ⟨gb,5,none⟩ (.slice A5 b.f5.length c5)=c8 at HS4 BG4 ⊢;have b6:=HS4.out.f1;obtain ⟨⟨vy,hy⟩,hfy⟩:=HS4.out.cellB k hlt;go_upto_region 19 with fail;have HS5:=zzm (HS4.out.setB k (-1));have BG5:=zzm (zzj (p:=⟨gB,k,none⟩) BG4.out (blk_ne BG4.out HS4.out.bb (by decide)) (.int .i64 (-1)));clear b6 hy hfy HS4 BG4;generalize c8.setCell ⟨gB,k,none⟩ (.int .i64 (-1))=c1 at HS5 BG5 ⊢;have d1:c1.cell? ⟨gb,1,none⟩=some (.bool b.f1):=(zzk BG5.out 1).trans rfl;have d2:c1.cell? ⟨gb,2,none⟩=some (.int .i64 b.f2):=(zzk BG5.out 2).trans rfl;have a2:=HS5.out.f0;obtain ⟨⟨vw,hw_⟩,hfw⟩:=HS5.out.cellW k hlt;by_cases h255:b.f2=255
    ·have HQ:=zzm (HSU.out.trans (if_pos h255))
     rw [h255] at d2;clear h255;go_wp2;go_roundw
     case rel=>exact ⟨k+1,r,by omega,by go_num,⟨by rw [HQ.out];exact HS5.out.setW k 1⟩⟩
     case measure=>simp [intOf];omega
    ·have h255' : (b.f2==255)=false:=by simpa using h255
     rw [if_neg h255] at HSU;clear h255;have HSU0:=HSU.out;cases hm:b.f1 with
     | false=>
      have HQ:=zzm (HSU0.trans (if_pos hm));rw [hm] at d1;clear HSU0 hm;go_wp2_with ((with_reducible refine gate_callee (f:=89) rfl ?_);refine goesL_ (some 86) rfl rfl Try.func89 (by kernel_rfl) rfl #[.pointer (some ⟨gl,0,none⟩),.iface 3 (.int .i64 (k:Int))] rfl (by (try simp only [map_toArray,map_cons,map_nil]);first|done|rfl) ?_;(with_reducible refine (list_PushBack.calls gl r s.op k _ HS5.out.l (by have:=HF.out.lo;have:=HN.out;omega)).mono ?_);rintro e c4 ⟨nb,rfl,hge,hl,hkp,hbl⟩;refine ⟨_,rfl,?_⟩;have HNB:=zzm hge;have c9:=zzm hl;have HK6:=zzm hkp;have HB6:=zzm (hbl w.heap.size HS5.out.below.size HS5.out.geL);clear hge hl hkp hbl);go_roundw
      case rel=>
       have hge:∀ i,i≤(s.op ++ [k]).length→w.heap.size≤rAdd r s.op.length nb gl i:=by
        intro i hi;unfold rAdd;split
        ·exact HS5.out.geL i (by assumption)
        ·split
         ·exact Nat.le_trans HS5.out.below.size HNB.out
         ·have:=HS5.out.geL 0 (Nat.zero_le _);rw [HS5.out.l.r0] at this;exact this
       have hlo:=HF.out.lo;exact ⟨k+1,rAdd r s.op.length nb gl,by omega,by go_num,⟨by rw [HQ.out];exact HS5.out.list c9.out HK6.out HB6.out hge (by simp;omega) (fun x hx=>by rcases List.mem_append.1 hx with hx|hx;exact HF.out.op x hx;rw [List.mem_singleton.1 hx];exact hlt)⟩⟩
      case measure=>simp [intOf];omega
     | true=>
      rw [if_neg (by rw [hm];simp)] at HSU0;have HQ:=zzm HSU0;rw [hm] at d1;clear HSU0 hm;have BG0:=BG5;go_upto_region 8 with fail;have HS6:=zzm (HS5.out.setW k 3);have BG6:=zzm (zzj (p:=⟨gW,k,none⟩) BG5.out (blk_ne BG5.out HS5.out.ww (by decide)) (.int .i64 3));clear a2 hw_ hfw d1 d2 HS5 BG5 BG0;generalize c1.setCell ⟨gW,k,none⟩ (.int .i64 3)=c4 at HS6 BG6 ⊢;go_wp2_with ((with_reducible refine gate_callee (f:=90) rfl ?_);refine goesL_ (some 34) rfl rfl Try.func90 (by kernel_rfl) rfl #[.pointer (some ⟨gl,0,none⟩)] rfl (by (try simp only [map_toArray,map_cons,map_nil]);first|done|rfl) ?_;(with_reducible refine (list_Front.calls gl r s.op _ HS6.out.l (by have:=HF.out.lo;have:=HN.out;omega)).mono ?_);rintro e d0 ⟨he,hd⟩;obtain ⟨ev,rfl⟩:∃ ev,e = .returned ev:=⟨_,he⟩;have HEV:=zzm (Ending.returned.inj he);clear he;refine ⟨_,rfl,?_⟩;obtain ⟨m,rfl⟩:=hd.out;have HS7:=zzm (HS6.out.mono (zzb (Below.refl _ _) m));have BG7:=zzm (zzf BG6.out m);clear hd HS6 BG6;generalize c4.drewN m=d0 at HS7 BG7 ⊢);go_loopg [7] s.op.length (fun gk v W=>∃ j:Nat,∃ r' : Nat→Nat,∃ st:FSt,j+gk=s.op.length∧st=(s.op.take j).foldl (fin1 l0 k) ⟨s.ws.set k 3,s.bs.set k (-1),[]⟩∧v = .pointer (if j < s.op.length then some ⟨r' (st.op.length+1),0,none⟩ else none)∧Aside0 (FS w W l0.length g2 g3 gW gB gl r' ⟨st.ws,st.bs,st.op++s.op.drop j⟩)∧Aside0 (W.heap[gb]? = some (.cells #[.bool b.f0,.bool b.f1,.int .i64 b.f2,.int .i64 b.f3,.int .i64 b.f4,.slice A5 b.f5.length c5] 27 (0,0))))
      case atStart=>exact ⟨0,r,_,by omega,rfl,by simpa using HEV.out,⟨by simpa using HS7.out⟩,BG7⟩
      case round=>
       clear HS7 BG7;obtain ⟨j,r',st,hjk,hst,rfl,HS,BG⟩:=hrel;by_cases hj:j < s.op.length
       ·have hst2:=hst
        rw [if_pos hj] at *;obtain ⟨x,hx⟩:∃ x,x=s.op[j]:=⟨_,rfl⟩;have hdrop:s.op.drop j=x::s.op.drop (j+1):=by rw [hx];exact List.drop_eq_getElem_cons hj
        have hxn:x < l0.length:=by rw [hx];exact HF.out.op _ (List.getElem_mem hj)
        have htk:s.op.take (j+1)=s.op.take j ++ [x]:=by rw [hx];exact List.take_succ_eq_append_getElem hj
        have hnx:(s.op.take (j+1)).foldl (fin1 l0 k) ⟨s.ws.set k 3,s.bs.set k (-1),[]⟩=fin1 l0 k st x:=by rw [htk,List.foldl_append,← hst];rfl
        have hlen:(st.op++s.op.drop j).length=st.op.length+(s.op.length - j):=by simp
        have hp:st.op.length < (st.op++s.op.drop j).length:=by omega
        have hvx:(st.op++s.op.drop j)[st.op.length]'hp=x:=by simp [hdrop]
        have hlo:st.op.length≤1000000:=by have:=HS.out.ok.lo;have h2:=HN.out;simp only [hlen] at this;omega
        have hlo2:(st.op++s.op.drop j).length < 1000000000000:=by have:=HS.out.ok.lo;have h2:=HN.out;simp only at this;omega
        have hL:=HS.out.l;have hvc:wr.cell? ⟨r' (st.op.length+1),3,none⟩=some (.iface 3 (.int .i64 (x:Int))):=by have:=(zzk (hL.node st.op.length hp) 3).trans rfl;rw [hvx] at this;exact this
        have hNX:=zzm (And.intro hnx (And.intro hst2 (And.intro hdrop (And.intro hxn hjk))));have HLO:=zzm (And.intro hlo2 hp);have HJ:=zzm hj;obtain ⟨d6,A6,c6,he2,ha0,ha1,ha2,ha3,ha4,ha5,l6,g6⟩:=Q2 HR.out (x:Int) (by omega) (by omega);injection he2 with he2;subst he2;replace ha2:=(HS.out.below.cell (zzn w _ ha2)).trans ha2;simp only [Int.toNat_natCast] at ha2;have d2:wr.cell? ⟨gb,2,none⟩=some (.int .i64 b.f2):=(zzk BG.out 2).trans rfl;have hxi:(x:Int) < (l0.length:Int):=by omega
        have hxi0 : 0≤(x:Int):=by omega
        clear hst2 hnx htk hdrop hxn hvx hlo hlo2 hp hlen hL hst hjk hj ha0 ha1 ha3 ha4 ha5 l6 g6 hx;have hxn:x < l0.length:=by omega
        have hta:∀ W:World,(Instr.typeAssert (.iface 3 (.int .i64 (x:Int))) 20 3 false).run Try.prog W = .ok (.int .i64 (x:Int)) W:=fun W=>assert_int _ W;have hP8:∀ W:World,Below wr.heap.size wr W→Aside0 (FS w W l0.length g2 g3 gW gB gl r' ⟨st.ws,st.bs,st.op++s.op.drop j⟩)∧Aside0 (W.heap[gb]? = some (.cells #[.bool b.f0,.bool b.f1,.int .i64 b.f2,.int .i64 b.f3,.int .i64 b.f4,.slice A5 b.f5.length c5] 27 (0,0))):=fun W hb=>⟨⟨HS.out.mono hb⟩,⟨zzh BG.out hb⟩⟩;have HP8:=zzm hP8;clear hP8;by_cases hxe:(Qa l0 (x:Int)).f2=b.f2
        ·have HXE:=zzm hxe
         rw [hxe] at ha2;clear hxe;go_upto_region 12 with (((with_reducible refine gate_callee (f:=91) rfl ?_);refine goesL_ (some 38) rfl rfl Try.func91 (by kernel_rfl) rfl #[.pointer (some ⟨r' (st.op.length+1),0,none⟩)] rfl (by (try simp only [map_toArray,map_cons,map_nil]);first|done|rfl) ?_;(with_reducible refine (list_Next.calls gl r' (st.op++s.op.drop j) _ HS.out.l st.op.length HLO.out.2).mono ?_);rintro e b7 ⟨he,hd⟩;obtain ⟨ev2,rfl⟩:∃ ev,e = .returned ev:=⟨_,he⟩;have HEV2:=zzm (Ending.returned.inj he);clear he;refine ⟨_,rfl,?_⟩;obtain ⟨m2,rfl⟩:=hd.out;clear hd));go_region;obtain ⟨HS8,BG8⟩:=HP8.out _ (zzb (Below.refl _ _) (m2+1));clear hvc ha2 d2 HS BG HP8 hta;generalize wr.drewN (m2+1)=b7 at HS8 BG8 ⊢;obtain ⟨tv,htl⟩:∃ tv,tellsP b=tv:=⟨_,rfl⟩;have HTL:=zzm htl;clear htl;cases tv with
         | true=>
          have a2:=HS8.out.f0;obtain ⟨⟨vw,hw_⟩,hfw⟩:=HS8.out.cellW x hxn;go_upto_region 14 with fail;have HS9:=zzm (HS8.out.setW x 2);have BG9:=zzm (zzj (p:=⟨gW,x,none⟩) BG8.out (blk_ne BG8.out HS8.out.ww (by decide)) (.int .i64 2));clear a2 hw_ hfw HS8 BG8;generalize b7.setCell ⟨gW,x,none⟩ (.int .i64 2)=a1 at HS9 BG9 ⊢;have b0:a1.cell? ⟨gb,0,none⟩=some (.bool b.f0):=(zzk BG9.out 0).trans rfl;have b1:a1.cell? ⟨gb,1,none⟩=some (.bool b.f1):=(zzk BG9.out 1).trans rfl;have b2:a1.cell? ⟨gb,2,none⟩=some (.int .i64 b.f2):=(zzk BG9.out 2).trans rfl;have b3:a1.cell? ⟨gb,3,none⟩=some (.int .i64 b.f3):=(zzk BG9.out 3).trans rfl;have b4:a1.cell? ⟨gb,4,none⟩=some (.int .i64 b.f4):=(zzk BG9.out 4).trans rfl;have b5:a1.cell? ⟨gb,5,none⟩=some (.slice A5 b.f5.length c5):=(zzk BG9.out 5).trans rfl;go_upto_region 15 with (((with_reducible refine gate_callee (f:=92) rfl ?_);refine goesL_ (some 57) rfl rfl Try.func92 (by kernel_rfl) rfl #[.agg #[.bool b.f0,.bool b.f1,.int .i64 b.f2,.int .i64 b.f3,.int .i64 b.f4,.slice A5 b.f5.length c5]] rfl (by (try simp only [map_toArray,map_cons,map_nil]);first|done|rfl) ?_;(with_reducible refine (tells_calls _ _ _ _ _ _ _ b.f5 _ ?s1 L5.out P5.out).mono ?_);(case s1=>exact Kd.C_below G5.out HS9.out.below);rintro e c2 ⟨he,hb⟩;rw [show decide ((Qb b.f5 0).f5 = [1])=true from HTL.out] at he;subst he;refine ⟨_,rfl,?_⟩;have HS10:=zzm (HS9.out.mono hb);have BG10:=zzm (zzh BG9.out hb);clear hb));clear b0 b1 b2 b3 b4 b5 HS9 BG9;have a2:=HS10.out.f0;obtain ⟨⟨vw,hw_⟩,hfw⟩:=HS10.out.cellW x hxn;go_upto_region 16 with fail;have HS11:=zzm (HS10.out.setW x 1);have BG11:=zzm (zzj (p:=⟨gW,x,none⟩) BG10.out (blk_ne BG10.out HS10.out.ww (by decide)) (.int .i64 1));rw [List.set_set] at HS11;clear a2 hw_ hfw HS10 BG10;generalize c2.setCell ⟨gW,x,none⟩ (.int .i64 1)=d3 at HS11 BG11 ⊢;have b6:=HS11.out.f1;obtain ⟨⟨vy,hy⟩,hfy⟩:=HS11.out.cellB x hxn;go_upto_region 17 with fail;have HS12:=zzm (HS11.out.setB x (k:Int));have BG12:=zzm (zzj (p:=⟨gB,x,none⟩) BG11.out (blk_ne BG11.out HS11.out.bb (by decide)) (.int .i64 (k:Int)));clear b6 hy hfy HS11 BG11;generalize d3.setCell ⟨gB,x,none⟩ (.int .i64 (k:Int))=d4 at HS12 BG12 ⊢;go_wp2_with (((with_reducible refine gate_callee (f:=93) rfl ?_);refine goesL_ (some 69) rfl rfl Try.func93 (by kernel_rfl) rfl #[.pointer (some ⟨gl,0,none⟩),.pointer (some ⟨r' (st.op.length+1),0,none⟩)] rfl (by (try simp only [map_toArray,map_cons,map_nil]);first|done|rfl) ?_;(with_reducible refine (list_Remove.calls gl r' (st.op++s.op.drop j) st.op.length _ HS12.out.l HLO.out.1 HLO.out.2).mono ?_);rintro e d5 ⟨rfl,hl,hkp,hbl⟩;refine ⟨_,rfl,?_⟩;have b8:=zzm hl;have HK13:=zzm hkp;have HB13:=zzm (hbl w.heap.size HS12.out.geL);have BG13:=zzm (kept_at (m:=0) HS12.out.l hkp BG12.out (by decide) (by decide));clear hl hkp hbl));go_roundg (gk - 1)
          case measure=>have h1:=hNX.out.2.2.2.2;have h2:=HJ.out;omega
          case rel=>
           obtain ⟨hnx,hst2,hdrop,hxn_,hjk⟩:=hNX.out;have hj:=HJ.out;have hf:fin1 l0 k st x=⟨st.ws.set x 1,st.bs.set x (k:Int),st.op⟩:=by unfold fin1;rw [if_pos (by rw [← HBE.out];exact HXE.out),← HBE.out,HTL.out];rfl
           have her:(st.op++s.op.drop j).eraseIdx st.op.length=st.op++s.op.drop (j+1):=by rw [hdrop];simp [List.eraseIdx_append_of_length_le]
           have hlen:(st.op++s.op.drop j).length=st.op.length+(s.op.length - j):=by simp
           have hEV:=HEV2.out;have hgl:=HS12.out.geL;have hll:=b8.out;rw [her] at hll;refine ⟨j+1,rRem r' st.op.length,_,by omega,hnx.symm,?_,?_,BG13⟩
           ·rw [hf,hEV,hlen]
            unfold rRem;rw [if_neg (show ¬ st.op.length+1≤st.op.length by omega)];by_cases hj2:j+1 < s.op.length
            ·rw [if_pos (show st.op.length+1 < st.op.length+(s.op.length - j) by omega),if_pos hj2]
            ·rw [if_neg (show ¬ st.op.length+1 < st.op.length+(s.op.length - j) by omega),if_neg hj2]
           ·rw [hf]
            refine ⟨HS12.out.list hll HK13.out HB13.out (fun i hi=>?_) ?_ (fun y hy=>?_)⟩
            ·have c3:i+1≤(st.op++s.op.drop j).length:=by rw [hlen];simp at hi;omega
             unfold rRem;split
             ·exact hgl i (by simp only;omega)
             ·exact hgl (i+1) c3
            ·have:=HS12.out.ok.lo;simp only [hlen] at this;simp;omega
            ·refine HS12.out.ok.op y ?_
             rw [show (st.op++s.op.drop j)=st.op++x::s.op.drop (j+1) by rw [hdrop]];rcases List.mem_append.1 hy with h|h
             ·exact List.mem_append_left _ h
             ·exact List.mem_append_right _ (List.mem_cons_of_mem _ h)
         | false=>
          have a2:=HS8.out.f0;obtain ⟨⟨vw,hw_⟩,hfw⟩:=HS8.out.cellW x hxn;go_upto_region 14 with fail;have HS9:=zzm (HS8.out.setW x 2);have BG9:=zzm (zzj (p:=⟨gW,x,none⟩) BG8.out (blk_ne BG8.out HS8.out.ww (by decide)) (.int .i64 2));clear a2 hw_ hfw HS8 BG8;generalize b7.setCell ⟨gW,x,none⟩ (.int .i64 2)=a1 at HS9 BG9 ⊢;have b0:a1.cell? ⟨gb,0,none⟩=some (.bool b.f0):=(zzk BG9.out 0).trans rfl;have b1:a1.cell? ⟨gb,1,none⟩=some (.bool b.f1):=(zzk BG9.out 1).trans rfl;have b2:a1.cell? ⟨gb,2,none⟩=some (.int .i64 b.f2):=(zzk BG9.out 2).trans rfl;have b3:a1.cell? ⟨gb,3,none⟩=some (.int .i64 b.f3):=(zzk BG9.out 3).trans rfl;have b4:a1.cell? ⟨gb,4,none⟩=some (.int .i64 b.f4):=(zzk BG9.out 4).trans rfl;have b5:a1.cell? ⟨gb,5,none⟩=some (.slice A5 b.f5.length c5):=(zzk BG9.out 5).trans rfl;go_upto_region 16 with (((with_reducible refine gate_callee (f:=92) rfl ?_);refine goesL_ (some 57) rfl rfl Try.func92 (by kernel_rfl) rfl #[.agg #[.bool b.f0,.bool b.f1,.int .i64 b.f2,.int .i64 b.f3,.int .i64 b.f4,.slice A5 b.f5.length c5]] rfl (by (try simp only [map_toArray,map_cons,map_nil]);first|done|rfl) ?_;(with_reducible refine (tells_calls _ _ _ _ _ _ _ b.f5 _ ?s1 L5.out P5.out).mono ?_);(case s1=>exact Kd.C_below G5.out HS9.out.below);rintro e c2 ⟨he,hb⟩;rw [show decide ((Qb b.f5 0).f5 = [1])=false from HTL.out] at he;subst he;refine ⟨_,rfl,?_⟩;have HS10:=zzm (HS9.out.mono hb);have BG10:=zzm (zzh BG9.out hb);clear hb));clear b0 b1 b2 b3 b4 b5 HS9 BG9;have HS11:=HS10;have BG11:=BG10;clear HS10 BG10;have b6:=HS11.out.f1;obtain ⟨⟨vy,hy⟩,hfy⟩:=HS11.out.cellB x hxn;go_upto_region 17 with fail;have HS12:=zzm (HS11.out.setB x (k:Int));have BG12:=zzm (zzj (p:=⟨gB,x,none⟩) BG11.out (blk_ne BG11.out HS11.out.bb (by decide)) (.int .i64 (k:Int)));clear b6 hy hfy HS11 BG11;generalize c2.setCell ⟨gB,x,none⟩ (.int .i64 (k:Int))=d4 at HS12 BG12 ⊢;go_wp2_with (((with_reducible refine gate_callee (f:=93) rfl ?_);refine goesL_ (some 69) rfl rfl Try.func93 (by kernel_rfl) rfl #[.pointer (some ⟨gl,0,none⟩),.pointer (some ⟨r' (st.op.length+1),0,none⟩)] rfl (by (try simp only [map_toArray,map_cons,map_nil]);first|done|rfl) ?_;(with_reducible refine (list_Remove.calls gl r' (st.op++s.op.drop j) st.op.length _ HS12.out.l HLO.out.1 HLO.out.2).mono ?_);rintro e d5 ⟨rfl,hl,hkp,hbl⟩;refine ⟨_,rfl,?_⟩;have b8:=zzm hl;have HK13:=zzm hkp;have HB13:=zzm (hbl w.heap.size HS12.out.geL);have BG13:=zzm (kept_at (m:=0) HS12.out.l hkp BG12.out (by decide) (by decide));clear hl hkp hbl));go_roundg (gk - 1)
          case measure=>have h1:=hNX.out.2.2.2.2;have h2:=HJ.out;omega
          case rel=>
           obtain ⟨hnx,hst2,hdrop,hxn_,hjk⟩:=hNX.out;have hj:=HJ.out;have hf:fin1 l0 k st x=⟨st.ws.set x 2,st.bs.set x (k:Int),st.op⟩:=by unfold fin1;rw [if_pos (by rw [← HBE.out];exact HXE.out),← HBE.out,HTL.out];rfl
           have her:(st.op++s.op.drop j).eraseIdx st.op.length=st.op++s.op.drop (j+1):=by rw [hdrop];simp [List.eraseIdx_append_of_length_le]
           have hlen:(st.op++s.op.drop j).length=st.op.length+(s.op.length - j):=by simp
           have hEV:=HEV2.out;have hgl:=HS12.out.geL;have hll:=b8.out;rw [her] at hll;refine ⟨j+1,rRem r' st.op.length,_,by omega,hnx.symm,?_,?_,BG13⟩
           ·rw [hf,hEV,hlen]
            unfold rRem;rw [if_neg (show ¬ st.op.length+1≤st.op.length by omega)];by_cases hj2:j+1 < s.op.length
            ·rw [if_pos (show st.op.length+1 < st.op.length+(s.op.length - j) by omega),if_pos hj2]
            ·rw [if_neg (show ¬ st.op.length+1 < st.op.length+(s.op.length - j) by omega),if_neg hj2]
           ·rw [hf]
            refine ⟨HS12.out.list hll HK13.out HB13.out (fun i hi=>?_) ?_ (fun y hy=>?_)⟩
            ·have c3:i+1≤(st.op++s.op.drop j).length:=by rw [hlen];simp at hi;omega
             unfold rRem;split
             ·exact hgl i (by simp only;omega)
             ·exact hgl (i+1) c3
            ·have:=HS12.out.ok.lo;simp only [hlen] at this;simp;omega
            ·refine HS12.out.ok.op y ?_
             rw [show (st.op++s.op.drop j)=st.op++x::s.op.drop (j+1) by rw [hdrop]];rcases List.mem_append.1 hy with h|h
             ·exact List.mem_append_left _ h
             ·exact List.mem_append_right _ (List.mem_cons_of_mem _ h)
        ·have hxeb:((Qa l0 (x:Int)).f2==b.f2)=false:=by simpa using hxe
         have HXE:=zzm hxe;clear hxe;go_upto_region 12 with (((with_reducible refine gate_callee (f:=91) rfl ?_);refine goesL_ (some 38) rfl rfl Try.func91 (by kernel_rfl) rfl #[.pointer (some ⟨r' (st.op.length+1),0,none⟩)] rfl (by (try simp only [map_toArray,map_cons,map_nil]);first|done|rfl) ?_;(with_reducible refine (list_Next.calls gl r' (st.op++s.op.drop j) _ HS.out.l st.op.length HLO.out.2).mono ?_);rintro e b7 ⟨he,hd⟩;obtain ⟨ev2,rfl⟩:∃ ev,e = .returned ev:=⟨_,he⟩;have HEV2:=zzm (Ending.returned.inj he);clear he;refine ⟨_,rfl,?_⟩;obtain ⟨m2,rfl⟩:=hd.out;clear hd));go_region;obtain ⟨HS8,BG8⟩:=HP8.out _ (zzb (Below.refl _ _) (m2+1));clear hvc ha2 d2 HS BG HP8 hta hxeb;generalize wr.drewN (m2+1)=b7 at HS8 BG8 ⊢;go_wp2;go_roundg (gk - 1)
         case measure=>have h1:=hNX.out.2.2.2.2;have h2:=HJ.out;omega
         case rel=>
          obtain ⟨hnx,hst2,hdrop,hxn_,hjk⟩:=hNX.out;have hj:=HJ.out;have hf:fin1 l0 k st x=⟨st.ws,st.bs,st.op ++ [x]⟩:=by unfold fin1;rw [if_neg (by rw [← HBE.out];exact HXE.out)]
          have hlen:(st.op++s.op.drop j).length=st.op.length+(s.op.length - j):=by simp
          have hEV:=HEV2.out;refine ⟨j+1,r',_,by omega,hnx.symm,?_,?_,BG8⟩
          ·rw [hf,hEV,hlen]
           simp only [List.length_append,List.length_singleton];by_cases hj2:j+1 < s.op.length
           ·rw [if_pos (show st.op.length+1 < st.op.length+(s.op.length - j) by omega),if_pos hj2]
           ·rw [if_neg (show ¬ st.op.length+1 < st.op.length+(s.op.length - j) by omega),if_neg hj2]
          ·rw [hf]
           have:=HS8.out;rw [hdrop] at this;refine ⟨?_⟩;simpa using this
       ·have hjl:j=s.op.length:=by omega
        have hfull:st=s.op.foldl (fin1 l0 k) ⟨s.ws.set k 3,s.bs.set k (-1),[]⟩:=by rw [hst,hjl,List.take_length]
        have HFU:=zzm hfull;have HS':=HS.out;rw [hjl,List.drop_length,List.append_nil] at HS';have HSE:=zzm HS';rw [if_neg hj];clear hst hfull HS' HS hjl hj;go_wp2;go_roundw
        case rel=>exact ⟨k+1,r',by omega,by go_num,⟨by rw [HQ.out,← HFU.out];exact HSE.out⟩⟩
        case measure=>simp [intOf];omega
   ·have hk2:k=l0.length:=by omega
    subst hk2;have a2:=HS.out.f0;have b6:=HS.out.f1;have b9:wr.cell? ⟨g2,0,none⟩=some (.slice none 0 0):=(zzk HS.out.res 0).trans rfl;have d7:wr.cell? ⟨g2,1,none⟩=some (.slice none 0 0):=(zzk HS.out.res 1).trans rfl;have fr0:=zzl HS.out.res 0;have fr1:=zzl HS.out.res 1;have h23:=HS.out.n23;go_wp2;refine bodyPost_ret (results_cell_row rfl _ _ g2 72 #[.slice (some ⟨gW,0,none⟩) l0.length l0.length,.slice (some ⟨gB,0,none⟩) l0.length l0.length] (0,0) _ rfl (zzi (zzi HS.out.res 0 _ rfl) 1 _ rfl) Try.underlying72 rfl (by kernel_rfl)) rfl ?_;have hH:=HS.out;have hmx:l0.length≤maxLen:=by have:=HN.out;unfold maxLen;omega
    have r1:=ints_R (e:=74) (zzj (p:=⟨g2,1,none⟩) (zzj (p:=⟨g2,0,none⟩) hH.ww (blk_ne hH.ww hH.res (by decide)) (.slice (some ⟨gW,0,none⟩) l0.length l0.length)) (blk_ne hH.ww hH.res (by decide)) (.slice (some ⟨gB,0,none⟩) l0.length l0.length)) hH.geW (by rw [hH.ok.lw];exact hmx);have r2:=ints_R (e:=3) (zzj (p:=⟨g2,1,none⟩) (zzj (p:=⟨g2,0,none⟩) hH.bb (blk_ne hH.bb hH.res (by decide)) (.slice (some ⟨gW,0,none⟩) l0.length l0.length)) (blk_ne hH.bb hH.res (by decide)) (.slice (some ⟨gB,0,none⟩) l0.length l0.length)) hH.geB (by rw [hH.ok.lb];exact hmx);rw [hH.ok.lw] at r1;rw [hH.ok.lb] at r2;exact ⟨_,_,rfl,r1,r2,zzd (zzd hH.below hH.ge2) hH.ge2⟩
def fatesFit (l0:List S27):Bool:=decide (l0.length≤1000000)&&l0.all fun b=>decide (0 < b.f5.length)
def Rb.f (l0:List S27):Option (List Int×List Int):=if fatesFit l0=true then some ((fatesTo l0 l0.length).ws,(fatesTo l0 l0.length).bs) else none
theorem Rb.calls (A0:Option Addr) (c0:Nat) (l0:List (S27)) (r1:List Int) (r2:List Int) (w:World) (hr0:Kd.C k27 w A0 l0.length l0) (hc0:l0.length≤c0) (h:Rb.f l0=some (r1,r2)) :
  Calls Try.prog 62 #[.slice A0 l0.length c0] w fun e w'=>∃ v0_ v1_:Value,e = .returned (.agg #[v0_,v1_])∧Kd.R (Kd.int .i64) 74 w' w.heap.size (fun _=>True) v0_ r1∧Kd.R (Kd.int .i64) 3 w' w.heap.size (fun _=>True) v1_ r2∧Below w.heap.size w w':=by
 unfold Rb.f at h;split at h
 ·rename_i hf
  obtain ⟨rfl,rfl⟩:=Prod.mk.inj (Option.some.inj h);unfold fatesFit at hf;rw [Bool.and_eq_true,decide_eq_true_eq,List.all_eq_true] at hf;refine Rb.core A0 c0 l0 w hr0 hc0 hf.1 (fun j hj=>?_);have h2:Qa l0 (j:Int)=l0[j]:=by simp [Qa,List.getD_eq_getElem?_getD,List.getElem?_eq_getElem hj]
  rw [h2];simpa using hf.2 _ (List.getElem_mem hj)
 ·cases h

set_option linter.unusedVariables false
set_option linter.unusedSimpArgs false
mutual
def Qc.l0:Nat→List (S27)→List (S46)→List (S27)→Int→Int→List Int→List Int→Option ((List (S46)))
 | 0,_,_,_,_,_,_,_=>none
 | k+1,x0,x3,x16,x17,x18,x348000,x348001=>if x18 < x17 then (if 0≤x18 then (if x18 < (x16.length:Int) then (if x18 < (x348000.length:Int) then (if (rd x348000 x18)=2 then (Qc.l1 k x0 x3 x18 true (wrap64 (x18 - 1)) x16 x17 x18 x348000 x348001 ((Qa x16 x18).f0) ((Qa x16 x18).f1) ((Qa x16 x18).f2) ((Qa x16 x18).f3) ((Qa x16 x18).f4) ((Qa x16 x18).f5)) else (Qc.l0 k x0 x3 x16 x17 (wrap64 (x18+1)) x348000 x348001)) else (none)) else (none)) else (none)) else (some x3)
def Qc.j2:Nat→List (S27)→List (S46)→Int→Bool→List (S27)→Int→Int→List Int→List Int→Bool→Bool→Int→Int→Int→List (S34)→Option ((List (S46)))
 | 0,_,_,_,_,_,_,_,_,_,_,_,_,_,_,_=>none
 | k+1,x0,x3,x5,x7,x16,x17,x18,x348000,x348001,x350000,x350001,x350002,x350003,x350004,x350005=>if x7=true then ((Q3.f x350000 x350001 x350002 x350003 x350004 x350005).bind fun t353=>(if 0≤x5 then (if x5 < (x348001.length:Int) then (if 0≤(rd x348001 x5) then (if (rd x348001 x5) < (x0.length:Int) then ((Q3.f ((Qa x0 (rd x348001 x5)).f0) ((Qa x0 (rd x348001 x5)).f1) ((Qa x0 (rd x348001 x5)).f2) ((Qa x0 (rd x348001 x5)).f3) ((Qa x0 (rd x348001 x5)).f4) ((Qa x0 (rd x348001 x5)).f5)).bind fun t356=>(if x3.length < 5864062014805 then (Qc.l0 k x0 (x3 ++ [(⟨x350002,t353,t356⟩:S46)]) x16 x17 (wrap64 (x18+1)) x348000 x348001) else (none))) else (none)) else (none)) else (none)) else (none))) else (Qc.l0 k x0 x3 x16 x17 (wrap64 (x18+1)) x348000 x348001)
def Qc.l1:Nat→List (S27)→List (S46)→Int→Bool→Int→List (S27)→Int→Int→List Int→List Int→Bool→Bool→Int→Int→Int→List (S34)→Option ((List (S46)))
 | 0,_,_,_,_,_,_,_,_,_,_,_,_,_,_,_,_=>none
 | k+1,x0,x3,x5,x7,x8,x16,x17,x18,x348000,x348001,x350000,x350001,x350002,x350003,x350004,x350005=>if x8 ≥ 0 then (if 0≤x8 then (if x8 < (x0.length:Int) then (if ((Qa x0 x8).f2)=x350002 then (Qc.j2 k x0 x3 x5 ((Qa x0 x8).f1) x16 x17 x18 x348000 x348001 x350000 x350001 x350002 x350003 x350004 x350005) else (Qc.l1 k x0 x3 x5 x7 (wrap64 (x8 - 1)) x16 x17 x18 x348000 x348001 x350000 x350001 x350002 x350003 x350004 x350005)) else (none)) else (none)) else (Qc.j2 k x0 x3 x5 x7 x16 x17 x18 x348000 x348001 x350000 x350001 x350002 x350003 x350004 x350005)
end
def Qc.f (k:Nat) (l0:List (S27)):Option ((List (S46))):=(some (([]:List (S46)):List (S46))).bind fun y337=>((Qi.f k l0).bind fun t340=>(if t340=true then ((Rb.f l0).bind fun bt341=>(Qc.l0 k l0 y337 l0 (l0.length:Int) 0 bt341.1 bt341.2)) else (some y337)))
def Qc.T13:Bool×List (List Nat×List Nat):=(true,[([],[]),([],[]),([0,1],[0,1]),([2],[2]),([3],[3]),([],[]),([5],[5]),([4,6],[4,6])])
def Qc.B13:List Nat:=[0,0,3,7,15,0,32,127]
theorem Qc.tab13:rtab .any (opsOf Try.f32 13)=Qc.T13:=by kernel_rfl
theorem Qc.bits13:waitsOk Qc.T13.2 Qc.B13=true:=by kernel_rfl
def Qc.T16:Bool×List (List Nat×List Nat):=(true,[([],[]),([],[]),([1],[1]),([],[]),([3],[3]),([],[]),([],[]),([6],[6]),([],[]),([7,8],[7,8]),([9],[9]),([5,10],[5,10]),([11],[11]),([12,4],[12]),([2,4,13],[2,4,13]),([14],[14]),([0,15,13],[0,15]),([16,16,0,1,2,3,4,5,6,7,8,9,10,11,12,13,14,15,16],[0,16])])
def Qc.B16:List Nat:=[0,0,2,0,8,0,0,64,0,448,960,2016,4064,8184,16382,32766,65535,131071]
theorem Qc.tab16:rtab .any (opsOf Try.f32 16)=Qc.T16:=by kernel_rfl
theorem Qc.bits16:waitsOk Qc.T16.2 Qc.B16=true:=by kernel_rfl
set_option maxHeartbeats 8000000 in
theorem Qc.calls (k:Nat) (A0:Option Addr) (c0:Nat) (l0:List (S27)) (r:List (S46)) (w:World) (x3:Kd.C k27 w A0 l0.length l0) (x4:l0.length≤c0) (h:Qc.f k l0=some r) :
  Calls Try.prog 32 #[.slice A0 l0.length c0] w fun e w'=>∃ x5:Value,e = .returned (x5)∧Kd.R k46 46 w' w.heap.size (fun _=>True) x5 r∧Below w.heap.size w w':=by
 have hu72:=Try.underlying72;have hu27:=Try.underlying27;have hu46:=Try.underlying46;have j7:=zzm x3;have v9:=zzm x4;clear x3 x4;have HB:=zzm (Below.refl w.heap.size w);have H:((some (([]:List (S46)):List (S46))).bind fun y337=>((Qi.f k l0).bind fun n1=>(if n1=true then ((Rb.f l0).bind fun j8=>(Qc.l0 k l0 y337 l0 (l0.length:Int) 0 j8.1 j8.2)) else (some y337))))=some r:=h;clear h;obtain ⟨y337,hy337⟩:∃ y_:List (S46),y_=(([]:List (S46))):=⟨_,rfl⟩;replace H:((Qi.f k l0).bind fun n1=>(if n1=true then ((Rb.f l0).bind fun j8=>(Qc.l0 k l0 y337 l0 (l0.length:Int) 0 j8.1 j8.2)) else (some y337)))=some r:=by first|(rw [hy337];with_reducible exact H)|(have H2_:=(Option.bind_some _ _).symm.trans H;rw [hy337];with_reducible exact H2_)|(have H2_:=(Option.bind_some _ _).symm.trans H;with_reducible exact H2_)|with_reducible exact H|(rw [hy337];exact H)|exact H
 have Ny337:=zzm hy337;clear hy337;obtain ⟨n1,A2,H⟩:=zzG H;by_cases c3:n1=true
 ·
  subst c3;replace H:=zzIt H;replace H:=zzH H;obtain ⟨⟨b2,a6⟩,x6,H⟩:=H;replace H:(Qc.l0 k l0 y337 l0 (l0.length:Int) 0 b2 a6)=some r:=H;have A4:=zzm x6;clear x6;have H':=zzm H;clear H;go_enter Try.func32,Try.ntmps32;go_wp2_with (first|((with_reducible refine gate_dst (N:=9) rfl ?_);refine Kd.R_lit k46 _ 46 ?hg (N:=9) ?hd (xs:=([]:List (S46))) (inner:=[]) (ok:=fun _=>True) (okp:=fun _=>True) ?hr ?hp (fun _ hk=>hk) trivial (Below.refl _ _) (Nat.le_refl _) (by simp) ?_;(case hd=>rfl);(case hg=>rfl);(case hr=>first|(go_simp;done)|(go_simp;rfl));(case hp=>exact (Reps.none _ _));intro x7 w5 ho6 hb hg_ hnew_;clear hg_ hnew_;(first|rw [← Ny337.out] at ho6|(simp only [Int.reduceToNat] at ho6;rw [← Ny337.out] at ho6));have b4:=zzm (Kd.R_lower ho6 (zzo zzh1));have b5:=zzm (zzp zzh1 hb);clear HB;have d2:=b4;have HB:=b5;clear b4 b5 hb ho6)|((with_reducible refine gate_callee (f:=61) rfl ?_);refine goesL_ (some 11) rfl rfl Try.func61 (by kernel_rfl) rfl #[.slice A0 l0.length c0] rfl zzM2 ?_;(with_reducible refine (Qi.calls k _ _ l0 true _ ?side1 ?side2 A2.out).mono ?_);(case side1=>exact zzcb j7 HB);(case side2=>exact v9.out);rintro e w7 ⟨rfl,hb⟩;refine ⟨_,rfl,?_⟩;have b4:=zzm (Kd.R_below (by (with_reducible repeat (first|apply Kd.R_alloc|apply Kd.R_drewN|apply Kd.R_drew));exact d2.out) hb);have b5:=zzm (zzp zzh1 hb);clear d2 HB;have d2:=b4;have HB:=b5;clear b4 b5;(try clear hb);(try clear hb2);(try clear hk);(try clear hi))|((with_reducible refine gate_callee (f:=62) rfl ?_);refine goesL_ (some 15) rfl rfl Try.func62 (by kernel_rfl) rfl #[.slice A0 l0.length c0] rfl zzM2 ?_;(with_reducible refine (Rb.calls _ _ l0 b2 a6 _ ?side1 ?side2 A4.out).mono ?_);(case side1=>exact zzcb j7 HB);(case side2=>exact v9.out);rintro e w8 ⟨C2,C3,rfl,ho0,ho1,hb⟩;refine ⟨_,rfl,?_⟩;have b4:=zzm (Kd.R_below (by (with_reducible repeat (first|apply Kd.R_alloc|apply Kd.R_drewN|apply Kd.R_drew));exact d2.out) hb);have b5:=zzm (Kd.R_lower ho0 (zzo zzh1));have c5:=zzm (Kd.R_lower ho1 (zzo zzh1));have c7:=zzm (zzp zzh1 hb);clear d2 HB;have d2:=b4;have j9:=b5;have k0:=c5;have HB:=c7;clear b4 b5 c5 c7;(try clear hb);(try clear hb2);(try clear hk);(try clear hi);(try clear ho0);(try clear ho1))|((with_reducible refine gate_dst (N:=4) rfl ?_);refine box_event ?hg (N:=4) ?hd (cs:=#[.slice none 0 0,.slice none 0 0]) (t:=72) ?hr ?_;(case hd=>rfl);(case hg=>rfl);(case hr=>first|(go_simp;done)|(go_simp;rfl));intro b3 hg w9 hbox hb;have b4:=zzm (Kd.R_below (by (with_reducible repeat (first|apply Kd.R_alloc|apply Kd.R_drewN|apply Kd.R_drew));exact d2.out) hb);have b5:=zzm (Kd.R_below (by (with_reducible repeat (first|apply Kd.R_alloc|apply Kd.R_drewN|apply Kd.R_drew));exact j9.out) hb);have c5:=zzm (Kd.R_below (by (with_reducible repeat (first|apply Kd.R_alloc|apply Kd.R_drewN|apply Kd.R_drew));exact k0.out) hb);have c7:=zzm (zzp zzh1 hb);have d0:=zzm (hbox);have d1:=zzm ((by rw [hg];exact (zzo zzh1):w.heap.size≤b3));have m8:=zzm ((by rw [hg];exact (zzo zzh1):w.heap.size≤b3));clear d2 j9 k0 HB;have d2:=b4;have j9:=b5;have k0:=c5;have HB:=c7;have a5:=d0;have A9:=d1;have B0:=m8;clear b4 b5 c5 c7 d0 d1 m8 hb hbox hg;obtain ⟨g2,c8,eo10⟩:=Kd.R_slice j9.out;subst eo10;obtain ⟨k4,k5,k6,k7⟩:=zzc2 a5.out;obtain ⟨d9,d3,eo12⟩:=Kd.R_slice k0.out;subst eo12));go_loopg [3,18] k (fun kq v3 z9 w'=>∃ (g3:List (S46)) (a0:Int),z9 = .int .i64 a0∧Aside0 (Qc.l0 kq l0 g3 l0 (l0.length:Int) a0 b2 a6=some r)∧Aside0 (kq≤k)∧Aside0 (Kd.R k46 46 w' w.heap.size (fun _=>True) v3 g3)∧Aside0 (Kd.R (Kd.int .i64) 74 w' w.heap.size (fun _=>True) (.slice g2 b2.length c8) b2)∧Aside0 (Kd.R (Kd.int .i64) 3 w' w.heap.size (fun _=>True) (.slice d9 a6.length d3) a6)∧Aside0 (w'.heap[b3]? = some (.cells #[(.slice g2 b2.length c8),(.slice d9 a6.length d3)] 72 (0,0)))∧Aside0 (Below w.heap.size w w'))
  case atStart=>exact ⟨(y337),(0),(by first|rfl|(simp;done)|(simp [*];done)),H',⟨Nat.le_refl _⟩,⟨by (with_reducible repeat (first|apply Kd.R_alloc|apply Kd.R_drewN|apply Kd.R_drew));exact Kd.R_mono (Kd.R_far (p:=⟨b3,1,none⟩) (Kd.R_far (p:=⟨b3,0,none⟩) (Kd.R_types d2.out a5.out (by decide)) (fun _ hk=>hk.2) (.slice g2 b2.length c8)) (fun _ hk=>hk.2) (.slice d9 a6.length d3)) (fun _ hk=>trivial)⟩,⟨by (with_reducible repeat (first|apply Kd.R_alloc|apply Kd.R_drewN|apply Kd.R_drew));exact Kd.R_mono (Kd.R_far (p:=⟨b3,1,none⟩) (Kd.R_far (p:=⟨b3,0,none⟩) (Kd.R_types j9.out a5.out (by decide)) (fun _ hk=>hk.2) (.slice g2 b2.length c8)) (fun _ hk=>hk.2) (.slice d9 a6.length d3)) (fun _ hk=>trivial)⟩,⟨by (with_reducible repeat (first|apply Kd.R_alloc|apply Kd.R_drewN|apply Kd.R_drew));exact Kd.R_mono (Kd.R_far (p:=⟨b3,1,none⟩) (Kd.R_far (p:=⟨b3,0,none⟩) (Kd.R_types k0.out a5.out (by decide)) (fun _ hk=>hk.2) (.slice g2 b2.length c8)) (fun _ hk=>hk.2) (.slice d9 a6.length d3)) (fun _ hk=>trivial)⟩,⟨by (with_reducible repeat (first|apply zzf|apply zzg|apply zze));refine zzi (cs:=#[.slice g2 b2.length c8,.slice none 0 0]) ?_ 1 _ rfl;refine zzi (cs:=#[.slice none 0 0,.slice none 0 0]) ?_ 0 _ rfl;(with_reducible repeat (first|apply zzf|apply zzg|apply zze));exact a5.out⟩,⟨zzh3⟩⟩
  case round=>
   clear H';try clear p2
   try clear c3
   try clear c6
   try clear k4
   try clear k5
   try clear k6
   try clear k7
   obtain ⟨g3,a0,rfl,HA,HK1,b0,a2,a4,a5,HB⟩:=hrel;cases gk with
   | zero=>exact absurd HA.out (by simp [Qc.l0])
   | succ k1=>
    have H:=HA.out;clear HA;simp only [Qc.l0] at H;by_cases m9:a0 < (l0.length:Int)
    ·
     rw [if_pos m9] at H;have r1:decide (a0 < (l0.length:Int))=true:=decide_eq_true m9;clear m9;by_cases n9 : 0≤a0
     ·
      rw [if_pos n9] at H;have t3:decide (0≤a0)=true:=decide_eq_true n9;clear n9;by_cases o0:a0 < (l0.length:Int)
      ·
       rw [if_pos o0] at H;have t4:decide (a0 < (l0.length:Int))=true:=decide_eq_true o0;clear o0;by_cases o1:a0 < (b2.length:Int)
       ·
        rw [if_pos o1] at H;have t5:decide (a0 < (b2.length:Int))=true:=decide_eq_true o1;clear o1;by_cases n2:(rd b2 a0)=2
        ·
         rw [if_pos n2] at H;obtain ⟨r2,r3⟩:=zzQ n2;clear n2;have s4:=zzm H;clear H;have g8 : 0≤(a0:Int):=zzt;have g9:a0 < (l0.length:Int):=zzt;obtain ⟨a9,b7,b8,s5,e0,e1,e2,e3,e4,e5,g4,g5⟩:=Q2 j7.out a0 g8 g9;cases s5;replace e0:=zzx HB.out e0;replace e1:=zzx HB.out e1;replace e2:=zzx HB.out e2;replace e3:=zzx HB.out e3;replace e4:=zzx HB.out e4;replace e5:=zzx HB.out e5;have o2:=zzm g5;have o3:=zzm g4;clear g5 g4;replace g8:=eq_true g8;replace g9:=eq_true g9;go_upto_block 2 with (first|((with_reducible refine gate_dst (N:=6) rfl ?_);refine box_event ?hg (N:=6) ?hd (cs:=#[.bool false,.bool false,.int .i64 0,.int .i64 0,.int .i64 0,.slice none 0 0]) (t:=27) ?hr ?_;(case hd=>rfl);(case hg=>rfl);(case hr=>first|(go_simp;done)|(go_simp;rfl));intro a1 hg C5 hbox hb;have b4:=zzm (Kd.R_below (by (with_reducible repeat (first|apply Kd.R_alloc|apply Kd.R_drewN|apply Kd.R_drew));exact b0.out) hb);have b5:=zzm (Kd.R_below (by (with_reducible repeat (first|apply Kd.R_alloc|apply Kd.R_drewN|apply Kd.R_drew));exact a2.out) hb);have c5:=zzm (Kd.R_below (by (with_reducible repeat (first|apply Kd.R_alloc|apply Kd.R_drewN|apply Kd.R_drew));exact a4.out) hb);have c7:=zzm (zzh (g:=b3) (o:=.cells #[.slice g2 b2.length c8,.slice d9 a6.length d3] 72 (0,0)) (zzE a5.out) hb);have d0:=zzm (zzp zzh2 hb);have d1:=zzm (hbox);have m8:=zzm ((by rw [hg];exact (zzo zzh2):w.heap.size≤a1));have r7:=zzm ((by rw [hg];exact (zzo zzh2):w.heap.size≤a1));have r8:=zzm ((by rw [hg];exact Nat.ne_of_lt (blk_lt (g:=b3) (o:=.cells #[.slice g2 b2.length c8,.slice d9 a6.length d3] 72 (0,0)) (zzE a5.out)):b3≠a1));have r9:=zzm ((by rw [hg];exact Nat.ne_of_gt (blk_lt (g:=b3) (o:=.cells #[.slice g2 b2.length c8,.slice d9 a6.length d3] 72 (0,0)) (zzE a5.out)):a1≠b3));clear b0 a2 a4 a5 HB;have b0:=b4;have a2:=b5;have a4:=c5;have a5:=c7;have HB:=d0;have a3:=d1;have w2:=m8;have w3:=r7;have b1:=r8;have h2:=r9;clear b4 b5 c5 c7 d0 d1 m8 r7 r8 r9 hb hbox hg;have B1:=h2.out;have B2:=b1.out;obtain ⟨o4,o5,o6,o7,o8,o9,p0,p1,p4,p5,p7,p8⟩:=zzc6 a3.out;obtain ⟨p9,q0,q1,q2⟩:=zzc2 a5.out;have h0 : 0≤(a0:Int):=zzt;have h1:a0 < (b2.length:Int):=zzt;obtain ⟨b9,s6,a8⟩:=Kd.at_int (Kd.R_reads' a2.out).2.2 a0 h0 h1;cases s6;have e6:b9.block≠a1:=Kd.own_blk (Kd.R_ne a2.out a3.out (by decide));have e7:b9.block≠a1:=Kd.own_blk (Kd.R_ne a2.out a3.out (by decide));have e8:b9.block≠a1:=Kd.own_blk (Kd.R_ne a2.out a3.out (by decide));have e9:b9.block≠a1:=Kd.own_blk (Kd.R_ne a2.out a3.out (by decide));have g0:b9.block≠a1:=Kd.own_blk (Kd.R_ne a2.out a3.out (by decide));have g1:b9.block≠a1:=Kd.own_blk (Kd.R_ne a2.out a3.out (by decide));replace a8:=(cell_far (p:=⟨a1,0,none⟩) (by first|exact zzaf e6|exact e6) (.bool ((Qa l0 a0).f0))).trans a8;replace a8:=(cell_far (p:=⟨a1,1,none⟩) (by first|exact zzaf e7|exact e7) (.bool ((Qa l0 a0).f1))).trans a8;replace a8:=(cell_far (p:=⟨a1,2,none⟩) (by first|exact zzaf e8|exact e8) (.int .i64 ((Qa l0 a0).f2))).trans a8;replace a8:=(cell_far (p:=⟨a1,3,none⟩) (by first|exact zzaf e9|exact e9) (.int .i64 ((Qa l0 a0).f3))).trans a8;replace a8:=(cell_far (p:=⟨a1,4,none⟩) (by first|exact zzaf g0|exact g0) (.int .i64 ((Qa l0 a0).f4))).trans a8;replace a8:=(cell_far (p:=⟨a1,5,none⟩) (by first|exact zzaf g1|exact g1) (.slice b7 ((Qa l0 a0).f5).length b8)).trans a8;clear e6 e7 e8 e9 g0 g1;replace h0:=eq_true h0;replace h1:=eq_true h1))
         (try simp only [Act.put,zzq,zzr,zzs]);go_cut [7] (fun v7 wc=>∃ (kq:Nat) (n0:Bool),v7 = .bool n0∧Aside0 (Qc.j2 kq l0 g3 a0 n0 l0 (l0.length:Int) a0 b2 a6 ((Qa l0 a0).f0) ((Qa l0 a0).f1) ((Qa l0 a0).f2) ((Qa l0 a0).f3) ((Qa l0 a0).f4) ((Qa l0 a0).f5)=some r)∧Aside0 (kq≤k1)∧Aside0 (Kd.R k46 46 wc w.heap.size (fun _=>True) u3 g3)∧Aside0 (Kd.R (Kd.int .i64) 74 wc w.heap.size (fun _=>True) (.slice (some b9) b2.length c8) b2)∧Aside0 (Kd.R (Kd.int .i64) 3 wc w.heap.size (fun _=>True) (.slice d9 a6.length d3) a6)∧Aside0 (wc.heap[b3]? = some (.cells #[(.slice (some b9) b2.length c8),(.slice d9 a6.length d3)] 72 (0,0)))∧Aside0 (wc.heap[a1]? = some (.cells #[.bool ((Qa l0 a0).f0),.bool ((Qa l0 a0).f1),.int .i64 ((Qa l0 a0).f2),.int .i64 ((Qa l0 a0).f3),.int .i64 ((Qa l0 a0).f4),(.slice b7 ((Qa l0 a0).f5).length b8)] 27 (0,0)))∧Aside0 (Below w.heap.size w wc))
         case first=>
          have H:=s4.out;clear s4;have H':=zzm H;clear H;go_wp2;go_loopg [7,8] k1 (fun kq v7 v8 w'=>∃ (n3:Bool) (a7:Int),v7 = .bool n3∧v8 = .int .i64 a7∧Aside0 (Qc.l1 kq l0 g3 a0 n3 a7 l0 (l0.length:Int) a0 b2 a6 ((Qa l0 a0).f0) ((Qa l0 a0).f1) ((Qa l0 a0).f2) ((Qa l0 a0).f3) ((Qa l0 a0).f4) ((Qa l0 a0).f5)=some r)∧Aside0 (kq≤k1)∧Aside0 (Kd.R k46 46 w' w.heap.size (fun _=>True) u3 g3)∧Aside0 (Kd.R (Kd.int .i64) 74 w' w.heap.size (fun _=>True) (.slice (some b9) b2.length c8) b2)∧Aside0 (Kd.R (Kd.int .i64) 3 w' w.heap.size (fun _=>True) (.slice d9 a6.length d3) a6)∧Aside0 (w'.heap[b3]? = some (.cells #[(.slice (some b9) b2.length c8),(.slice d9 a6.length d3)] 72 (0,0)))∧Aside0 (w'.heap[a1]? = some (.cells #[.bool ((Qa l0 a0).f0),.bool ((Qa l0 a0).f1),.int .i64 ((Qa l0 a0).f2),.int .i64 ((Qa l0 a0).f3),.int .i64 ((Qa l0 a0).f4),(.slice b7 ((Qa l0 a0).f5).length b8)] 27 (0,0)))∧Aside0 (Below w.heap.size w w'))
          case atStart=>exact ⟨(true),(wrap64 (a0 - 1)),(by first|rfl|(simp;done)|(simp [*];done)),(by first|rfl|(simp;done)|(simp [*];done)),H',⟨Nat.le_refl _⟩,⟨by (with_reducible repeat (first|apply Kd.R_alloc|apply Kd.R_drewN|apply Kd.R_drew));exact Kd.R_mono (Kd.R_far (p:=⟨a1,5,none⟩) (Kd.R_far (p:=⟨a1,4,none⟩) (Kd.R_far (p:=⟨a1,3,none⟩) (Kd.R_far (p:=⟨a1,2,none⟩) (Kd.R_far (p:=⟨a1,1,none⟩) (Kd.R_far (p:=⟨a1,0,none⟩) (Kd.R_types b0.out a3.out (by decide)) (fun _ hk=>hk.2) (.bool ((Qa l0 a0).f0))) (fun _ hk=>hk.2) (.bool ((Qa l0 a0).f1))) (fun _ hk=>hk.2) (.int .i64 ((Qa l0 a0).f2))) (fun _ hk=>hk.2) (.int .i64 ((Qa l0 a0).f3))) (fun _ hk=>hk.2) (.int .i64 ((Qa l0 a0).f4))) (fun _ hk=>hk.2) (.slice b7 ((Qa l0 a0).f5).length b8)) (fun _ hk=>trivial)⟩,⟨by (with_reducible repeat (first|apply Kd.R_alloc|apply Kd.R_drewN|apply Kd.R_drew));exact Kd.R_mono (Kd.R_far (p:=⟨a1,5,none⟩) (Kd.R_far (p:=⟨a1,4,none⟩) (Kd.R_far (p:=⟨a1,3,none⟩) (Kd.R_far (p:=⟨a1,2,none⟩) (Kd.R_far (p:=⟨a1,1,none⟩) (Kd.R_far (p:=⟨a1,0,none⟩) (Kd.R_types a2.out a3.out (by decide)) (fun _ hk=>hk.2) (.bool ((Qa l0 a0).f0))) (fun _ hk=>hk.2) (.bool ((Qa l0 a0).f1))) (fun _ hk=>hk.2) (.int .i64 ((Qa l0 a0).f2))) (fun _ hk=>hk.2) (.int .i64 ((Qa l0 a0).f3))) (fun _ hk=>hk.2) (.int .i64 ((Qa l0 a0).f4))) (fun _ hk=>hk.2) (.slice b7 ((Qa l0 a0).f5).length b8)) (fun _ hk=>trivial)⟩,⟨by (with_reducible repeat (first|apply Kd.R_alloc|apply Kd.R_drewN|apply Kd.R_drew));exact Kd.R_mono (Kd.R_far (p:=⟨a1,5,none⟩) (Kd.R_far (p:=⟨a1,4,none⟩) (Kd.R_far (p:=⟨a1,3,none⟩) (Kd.R_far (p:=⟨a1,2,none⟩) (Kd.R_far (p:=⟨a1,1,none⟩) (Kd.R_far (p:=⟨a1,0,none⟩) (Kd.R_types a4.out a3.out (by decide)) (fun _ hk=>hk.2) (.bool ((Qa l0 a0).f0))) (fun _ hk=>hk.2) (.bool ((Qa l0 a0).f1))) (fun _ hk=>hk.2) (.int .i64 ((Qa l0 a0).f2))) (fun _ hk=>hk.2) (.int .i64 ((Qa l0 a0).f3))) (fun _ hk=>hk.2) (.int .i64 ((Qa l0 a0).f4))) (fun _ hk=>hk.2) (.slice b7 ((Qa l0 a0).f5).length b8)) (fun _ hk=>trivial)⟩,⟨by (with_reducible repeat (first|apply zzf|apply zzg|apply zze));refine zzj ?_ b1.out _;(with_reducible repeat (first|apply zzf|apply zzg|apply zze));refine zzj ?_ b1.out _;(with_reducible repeat (first|apply zzf|apply zzg|apply zze));refine zzj ?_ b1.out _;(with_reducible repeat (first|apply zzf|apply zzg|apply zze));refine zzj ?_ b1.out _;(with_reducible repeat (first|apply zzf|apply zzg|apply zze));refine zzj ?_ b1.out _;(with_reducible repeat (first|apply zzf|apply zzg|apply zze));refine zzj ?_ b1.out _;(with_reducible repeat (first|apply zzf|apply zzg|apply zze));exact a5.out⟩,⟨by (with_reducible repeat (first|apply zzf|apply zzg|apply zze));refine zzi (cs:=#[.bool ((Qa l0 a0).f0),.bool ((Qa l0 a0).f1),.int .i64 ((Qa l0 a0).f2),.int .i64 ((Qa l0 a0).f3),.int .i64 ((Qa l0 a0).f4),.slice none 0 0]) ?_ 5 _ rfl;refine zzi (cs:=#[.bool ((Qa l0 a0).f0),.bool ((Qa l0 a0).f1),.int .i64 ((Qa l0 a0).f2),.int .i64 ((Qa l0 a0).f3),.int .i64 0,.slice none 0 0]) ?_ 4 _ rfl;refine zzi (cs:=#[.bool ((Qa l0 a0).f0),.bool ((Qa l0 a0).f1),.int .i64 ((Qa l0 a0).f2),.int .i64 0,.int .i64 0,.slice none 0 0]) ?_ 3 _ rfl;refine zzi (cs:=#[.bool ((Qa l0 a0).f0),.bool ((Qa l0 a0).f1),.int .i64 0,.int .i64 0,.int .i64 0,.slice none 0 0]) ?_ 2 _ rfl;refine zzi (cs:=#[.bool ((Qa l0 a0).f0),.bool false,.int .i64 0,.int .i64 0,.int .i64 0,.slice none 0 0]) ?_ 1 _ rfl;refine zzi (cs:=#[.bool false,.bool false,.int .i64 0,.int .i64 0,.int .i64 0,.slice none 0 0]) ?_ 0 _ rfl;(with_reducible repeat (first|apply zzf|apply zzg|apply zze));exact a3.out⟩,⟨zzh3⟩⟩
          case round=>
           clear H';try clear c1
           try clear c2
           try clear p2
           try clear c3
           try clear p3
           try clear q3
           try clear A1
           try clear c6
           try clear p6
           try clear m9
           try clear r1
           try clear n9
           try clear t3
           try clear o0
           try clear t4
           try clear o1
           try clear t5
           try clear n2
           try clear r2
           try clear r3
           try clear A3
           try clear k4
           try clear k5
           try clear o4
           try clear o5
           try clear o6
           try clear o7
           try clear o8
           try clear o9
           try clear p9
           try clear q0
           try clear k6
           try clear k7
           try clear p0
           try clear p1
           try clear p4
           try clear p5
           try clear p7
           try clear p8
           try clear q1
           try clear q2
           try clear e0
           try clear e1
           try clear e2
           try clear e3
           try clear e4
           try clear e5
           try clear a8
           try clear p2
           try clear g8
           try clear h0
           try clear g9
           try clear h1
           obtain ⟨n3,a7,rfl,rfl,HA,HK2,b0,a2,a4,a5,a3,HB⟩:=hrel;cases gk with
           | zero=>exact absurd HA.out (by simp [Qc.l1])
           | succ k2=>
            have H:=HA.out;clear HA;simp only [Qc.l1] at H;by_cases n4:a7 ≥ 0
            ·
             rw [if_pos n4] at H;have h6:decide (0≤a7)=true:=decide_eq_true n4;clear n4
             (first|rw [h6]|(simp only [i64_w,i32_w];rw [h6])|skip);by_cases s0 : 0≤a7
             ·
              rw [if_pos s0] at H;have w4:decide (0≤a7)=true:=decide_eq_true s0;clear s0;by_cases s1:a7 < (l0.length:Int)
              ·
               rw [if_pos s1] at H;have w6:decide (a7 < (l0.length:Int))=true:=decide_eq_true s1;clear s1;by_cases q4:((Qa l0 a7).f2)=((Qa l0 a0).f2)
               ·
                rw [if_pos q4] at H;obtain ⟨t6,t7⟩:=zzQ q4;clear q4;have H':=zzm H;clear H;try go_wp2
                have b4:=zzm (Kd.R_drew b0.out);have b5:=zzm (Kd.R_drew a2.out);have c5:=zzm (Kd.R_drew a4.out);have c7:=zzm (zzg a5.out);have d0:=zzm (zzg a3.out);have d1:=zzm (zzc HB.out);clear b0 a2 a4 a5 a3 HB;have b0:=b4;have a2:=b5;have a4:=c5;have a5:=c7;have a3:=d0;have HB:=d1;clear b4 b5 c5 c7 d0 d1;have h3 : 0≤(a7:Int):=zzt;have h4:a7 < (l0.length:Int):=zzt;obtain ⟨r4,n5,n6,s7,d4,d5,d6,d7,d8,c9,g6,g7⟩:=Q2 j7.out a7 h3 h4;have k8:=c9;have k9:=d8;have l2:=d7;have l3:=d6;have l4:=d5;have l5:=d4;obtain rfl:a9=r4:=(by injection s7);replace d4:=zzx HB.out d4;replace d5:=zzx HB.out d5;replace d6:=zzx HB.out d6;replace d7:=zzx HB.out d7;replace d8:=zzx HB.out d8;replace c9:=zzx HB.out c9;have l6:=zzm g7;have v5:=zzm g6;clear g7 g6;replace h3:=eq_true h3;replace h4:=eq_true h4;refine start_ (n:=8) (S:=fun w'=>w'.cell? ⟨a1,0,none⟩=some (.bool ((Qa l0 a0).f0))∧w'.cell? ⟨a1,1,none⟩=some (.bool ((Qa l0 a0).f1))∧w'.cell? ⟨a1,2,none⟩=some (.int .i64 ((Qa l0 a0).f2))∧w'.cell? ⟨a1,3,none⟩=some (.int .i64 ((Qa l0 a0).f3))∧w'.cell? ⟨a1,4,none⟩=some (.int .i64 ((Qa l0 a0).f4))∧w'.cell? ⟨a1,5,none⟩=some (.slice b7 ((Qa l0 a0).f5).length b8)∧w'.cell? (a9.add ((a7).toNat * 6))=some (.bool ((Qa l0 a7).f0))∧w'.cell? ⟨(a9.add ((a7).toNat * 6)).block,(a9.add ((a7).toNat * 6)).off+1,none⟩=some (.bool ((Qa l0 a7).f1))∧w'.cell? ⟨(a9.add ((a7).toNat * 6)).block,(a9.add ((a7).toNat * 6)).off+2,none⟩=some (.int .i64 ((Qa l0 a7).f2))∧w'.cell? ⟨(a9.add ((a7).toNat * 6)).block,(a9.add ((a7).toNat * 6)).off+3,none⟩=some (.int .i64 ((Qa l0 a7).f3))∧w'.cell? ⟨(a9.add ((a7).toNat * 6)).block,(a9.add ((a7).toNat * 6)).off+4,none⟩=some (.int .i64 ((Qa l0 a7).f4))∧w'.cell? ⟨(a9.add ((a7).toNat * 6)).block,(a9.add ((a7).toNat * 6)).off+5,none⟩=some (.slice n5 ((Qa l0 a7).f5).length n6)) (ds:=[]) (zzB 8 0) (by kernel_rfl) rfl rfl ⟨(zzk a3.out 0).trans rfl,(zzk a3.out 1).trans rfl,(zzk a3.out 2).trans rfl,(zzk a3.out 3).trans rfl,(zzk a3.out 4).trans rfl,(zzk a3.out 5).trans rfl,(zzx HB.out l5),(zzx HB.out l4),(zzx HB.out l3),(zzx HB.out l2),(zzx HB.out k9),(zzx HB.out k8)⟩ (fun c4=>?_);refine with_tabW Qc.tab13 Qc.bits13 (fun b6 h5=>?_);generalize wr.drew=C6 at b0 a2 a4 a5 a3 HB l6 d4 d5 d6 d7 d8 c9 c4 ⊢;refine zzP 0 35 8 1 b6 ?_
                refine zzP 1 36 8 3 b6 ?_
                refine zzP 2 37 8 7 b6 ?_
                refine zzP 3 38 8 15 b6 ?_
                refine zzP 5 40 8 47 b6 ?_
                refine zzT 4 39 8 63 b6 h5 c4 ?_
                refine zzT 6 41 8 127 b6 h5 c4 ?_
                refine zzP 7 42 8 255 b6 ?_
                refine done_ (done_of b6.out (by kernel_rfl)) ?_;have r5 : 0≤(a7:Int):=zzt;have r6:a7 < (l0.length:Int):=zzt;obtain ⟨x0,A5,A6,x8,l7,l8,l9,m0,m1,h7,q5,q6⟩:=Q2 j7.out a7 r5 r6;obtain rfl:a9=x0:=(by injection x8);replace l7:=zzx HB.out l7;replace l8:=zzx HB.out l8;replace l9:=zzx HB.out l9;replace m0:=zzx HB.out m0;replace m1:=zzx HB.out m1;replace h7:=zzx HB.out h7;have y1:=zzm q6;have y2:=zzm q5;clear q6 q5;replace r5:=eq_true r5;replace r6:=eq_true r6;have ea_:=Option.some.inj (c9.symm.trans h7);injection ea_ with ea_ en_ ec_;subst ea_;subst ec_;clear en_;try go_wp2
                go_meet
                case rel=>exact ⟨_,((Qa l0 a7).f1),(by first|rfl|(simp;done)|(simp [*];done)),H',⟨by have:=HK1.out;have:=HK2.out;first|omega|exact Nat.le_refl _⟩,⟨by (with_reducible repeat (first|apply Kd.R_alloc|apply Kd.R_drewN|apply Kd.R_drew));exact b0.out⟩,⟨by (with_reducible repeat (first|apply Kd.R_alloc|apply Kd.R_drewN|apply Kd.R_drew));exact a2.out⟩,⟨by (with_reducible repeat (first|apply Kd.R_alloc|apply Kd.R_drewN|apply Kd.R_drew));exact a4.out⟩,⟨zzE a5.out⟩,⟨zzE a3.out⟩,⟨zzh3⟩⟩
               ·
                rw [if_neg q4] at H;obtain ⟨t6,t7⟩:=zzY q4;have H':=zzm H;clear H;try go_wp2
                have b4:=zzm (Kd.R_drew b0.out);have b5:=zzm (Kd.R_drew a2.out);have c5:=zzm (Kd.R_drew a4.out);have c7:=zzm (zzg a5.out);have d0:=zzm (zzg a3.out);have d1:=zzm (zzc HB.out);clear b0 a2 a4 a5 a3 HB;have b0:=b4;have a2:=b5;have a4:=c5;have a5:=c7;have a3:=d0;have HB:=d1;clear b4 b5 c5 c7 d0 d1;have h3 : 0≤(a7:Int):=zzt;have h4:a7 < (l0.length:Int):=zzt;obtain ⟨r4,n5,n6,s7,d4,d5,d6,d7,d8,c9,g6,g7⟩:=Q2 j7.out a7 h3 h4;have k8:=c9;have k9:=d8;have l2:=d7;have l3:=d6;have l4:=d5;have l5:=d4;obtain rfl:a9=r4:=(by injection s7);replace d4:=zzx HB.out d4;replace d5:=zzx HB.out d5;replace d6:=zzx HB.out d6;replace d7:=zzx HB.out d7;replace d8:=zzx HB.out d8;replace c9:=zzx HB.out c9;have l6:=zzm g7;have v5:=zzm g6;clear g7 g6;replace h3:=eq_true h3;replace h4:=eq_true h4;refine start_ (n:=8) (S:=fun w'=>w'.cell? ⟨a1,0,none⟩=some (.bool ((Qa l0 a0).f0))∧w'.cell? ⟨a1,1,none⟩=some (.bool ((Qa l0 a0).f1))∧w'.cell? ⟨a1,2,none⟩=some (.int .i64 ((Qa l0 a0).f2))∧w'.cell? ⟨a1,3,none⟩=some (.int .i64 ((Qa l0 a0).f3))∧w'.cell? ⟨a1,4,none⟩=some (.int .i64 ((Qa l0 a0).f4))∧w'.cell? ⟨a1,5,none⟩=some (.slice b7 ((Qa l0 a0).f5).length b8)∧w'.cell? (a9.add ((a7).toNat * 6))=some (.bool ((Qa l0 a7).f0))∧w'.cell? ⟨(a9.add ((a7).toNat * 6)).block,(a9.add ((a7).toNat * 6)).off+1,none⟩=some (.bool ((Qa l0 a7).f1))∧w'.cell? ⟨(a9.add ((a7).toNat * 6)).block,(a9.add ((a7).toNat * 6)).off+2,none⟩=some (.int .i64 ((Qa l0 a7).f2))∧w'.cell? ⟨(a9.add ((a7).toNat * 6)).block,(a9.add ((a7).toNat * 6)).off+3,none⟩=some (.int .i64 ((Qa l0 a7).f3))∧w'.cell? ⟨(a9.add ((a7).toNat * 6)).block,(a9.add ((a7).toNat * 6)).off+4,none⟩=some (.int .i64 ((Qa l0 a7).f4))∧w'.cell? ⟨(a9.add ((a7).toNat * 6)).block,(a9.add ((a7).toNat * 6)).off+5,none⟩=some (.slice n5 ((Qa l0 a7).f5).length n6)) (ds:=[]) (zzB 8 0) (by kernel_rfl) rfl rfl ⟨(zzk a3.out 0).trans rfl,(zzk a3.out 1).trans rfl,(zzk a3.out 2).trans rfl,(zzk a3.out 3).trans rfl,(zzk a3.out 4).trans rfl,(zzk a3.out 5).trans rfl,(zzx HB.out l5),(zzx HB.out l4),(zzx HB.out l3),(zzx HB.out l2),(zzx HB.out k9),(zzx HB.out k8)⟩ (fun c4=>?_);refine with_tabW Qc.tab13 Qc.bits13 (fun b6 h5=>?_);generalize wr.drew=C7 at b0 a2 a4 a5 a3 HB l6 d4 d5 d6 d7 d8 c9 c4 ⊢;refine zzP 0 35 8 1 b6 ?_
                refine zzP 1 36 8 3 b6 ?_
                refine zzP 2 37 8 7 b6 ?_
                refine zzP 3 38 8 15 b6 ?_
                refine zzP 5 40 8 47 b6 ?_
                refine zzT 4 39 8 63 b6 h5 c4 ?_
                refine zzT 6 41 8 127 b6 h5 c4 ?_
                refine zzP 7 42 8 255 b6 ?_
                refine done_ (done_of b6.out (by kernel_rfl)) ?_;try go_wp2
                go_roundg k2
                case measure=>have:=HK1.out;have:=HK2.out;omega
                case rel=>exact ⟨(n3),(wrap64 (a7 - 1)),(by first|rfl|(simp;done)|(simp [*];done)),(by first|rfl|(simp;done)|(simp [*];done)),H',⟨by have:=HK1.out;have:=HK2.out;omega⟩,⟨by (with_reducible repeat (first|apply Kd.R_alloc|apply Kd.R_drewN|apply Kd.R_drew));exact b0.out⟩,⟨by (with_reducible repeat (first|apply Kd.R_alloc|apply Kd.R_drewN|apply Kd.R_drew));exact a2.out⟩,⟨by (with_reducible repeat (first|apply Kd.R_alloc|apply Kd.R_drewN|apply Kd.R_drew));exact a4.out⟩,⟨zzE a5.out⟩,⟨zzE a3.out⟩,⟨zzh3⟩⟩
              ·
               rw [if_neg s1] at H;exact absurd H (by simp)
             ·
              rw [if_neg s0] at H;exact absurd H (by simp)
            ·
             rw [if_neg n4] at H;have h6:decide (0≤a7)=false:=decide_eq_false n4;clear n4
             (first|rw [h6]|(simp only [i64_w,i32_w];rw [h6])|skip);have H':=zzm H;clear H;go_wp2;go_meet
             case rel=>exact ⟨_,(n3),(by first|rfl|(simp;done)|(simp [*];done)),H',⟨by have:=HK1.out;have:=HK2.out;first|omega|exact Nat.le_refl _⟩,⟨by (with_reducible repeat (first|apply Kd.R_alloc|apply Kd.R_drewN|apply Kd.R_drew));exact b0.out⟩,⟨by (with_reducible repeat (first|apply Kd.R_alloc|apply Kd.R_drewN|apply Kd.R_drew));exact a2.out⟩,⟨by (with_reducible repeat (first|apply Kd.R_alloc|apply Kd.R_drewN|apply Kd.R_drew));exact a4.out⟩,⟨zzE a5.out⟩,⟨zzE a3.out⟩,⟨zzh3⟩⟩
         case rest=>
          clear s4;try clear c1
          try clear c2
          try clear p2
          try clear c3
          try clear p3
          try clear q3
          try clear A1
          try clear c6
          try clear p6
          try clear m9
          try clear r1
          try clear n9
          try clear t3
          try clear o0
          try clear t4
          try clear o1
          try clear t5
          try clear n2
          try clear r2
          try clear r3
          try clear A3
          try clear n4
          try clear h6
          try clear s0
          try clear w4
          try clear s1
          try clear w6
          try clear q4
          try clear t6
          try clear t7
          try clear k4
          try clear k5
          try clear o4
          try clear o5
          try clear o6
          try clear o7
          try clear o8
          try clear o9
          try clear p9
          try clear q0
          try clear k6
          try clear k7
          try clear p0
          try clear p1
          try clear p4
          try clear p5
          try clear p7
          try clear p8
          try clear q1
          try clear q2
          try clear e0
          try clear e1
          try clear e2
          try clear e3
          try clear e4
          try clear e5
          try clear a8
          try clear d4
          try clear d5
          try clear d6
          try clear d7
          try clear d8
          try clear c9
          try clear l7
          try clear l8
          try clear l9
          try clear m0
          try clear m1
          try clear h7
          try clear p2
          try clear p3
          try clear g8
          try clear h0
          try clear h3
          try clear r5
          try clear p6
          try clear q3
          try clear g9
          try clear h1
          try clear h4
          try clear r6
          obtain ⟨kq,n0,rfl,HA,HJ17,b0,a2,a4,a5,a3,HB⟩:=hcut;cases kq with
          | zero=>exact absurd HA.out (by simp [Qc.j2])
          | succ s8=>
           have H:=HA.out;clear HA;simp only [Qc.j2] at H;by_cases t8:n0=true
           ·
            subst t8;replace H:=zzIt H;obtain ⟨n7,A7,H⟩:=zzG H;by_cases t9 : 0≤a0
            ·
             rw [if_pos t9] at H;have B3:decide (0≤a0)=true:=decide_eq_true t9;clear t9;by_cases v0:a0 < (a6.length:Int)
             ·
              rw [if_pos v0] at H;have B5:decide (a0 < (a6.length:Int))=true:=decide_eq_true v0;clear v0;by_cases v1 : 0≤(rd a6 a0)
              ·
               rw [if_pos v1] at H;have B7:decide (0≤(rd a6 a0))=true:=decide_eq_true v1;clear v1;by_cases v2:(rd a6 a0) < (l0.length:Int)
               ·
                rw [if_pos v2] at H;have B9:decide ((rd a6 a0) < (l0.length:Int))=true:=decide_eq_true v2;clear v2;obtain ⟨n8,A8,H⟩:=zzG H;by_cases v4:g3.length < 5864062014805
                ·
                 rw [if_pos v4] at H;have LMc36:=zzm v4;clear v4;obtain ⟨y357,hy357⟩:∃ y_:List (S46),y_=(g3 ++ [(⟨((Qa l0 a0).f2),n7,n8⟩:S46)]):=⟨_,rfl⟩;replace H:(Qc.l0 s8 l0 y357 l0 (l0.length:Int) (wrap64 (a0+1)) b2 a6)=some r:=by first|(rw [hy357];with_reducible exact H)|(have H2_:=(Option.bind_some _ _).symm.trans H;rw [hy357];with_reducible exact H2_)|(have H2_:=(Option.bind_some _ _).symm.trans H;with_reducible exact H2_)|with_reducible exact H|(rw [hy357];exact H)|exact H
                 have Ny357:=zzm hy357;clear hy357;have H':=zzm H;clear H;try go_wp2
                 have b4:=zzm (Kd.R_drew b0.out);have b5:=zzm (Kd.R_drew a2.out);have c5:=zzm (Kd.R_drew a4.out);have c7:=zzm (zzg a5.out);have d0:=zzm (zzg a3.out);have d1:=zzm (zzc HB.out);clear b0 a2 a4 a5 a3 HB;have b0:=b4;have a2:=b5;have a4:=c5;have a5:=c7;have a3:=d0;have HB:=d1;clear b4 b5 c5 c7 d0 d1;have s9 : 0≤(a0:Int):=zzt;have t0:a0 < (a6.length:Int):=zzt;obtain ⟨k3,x9,q7⟩:=Kd.at_int (Kd.R_reads' a4.out).2.2 a0 s9 t0;cases x9;replace s9:=eq_true s9;replace t0:=eq_true t0;have t1 : 0≤((rd a6 a0):Int):=zzt;have t2:(rd a6 a0) < (l0.length:Int):=zzt;obtain ⟨x1,s2,s3,y0,h8,h9,j3,j4,j5,j6,q8,q9⟩:=Q2 j7.out (rd a6 a0) t1 t2;have m2:=j6;have m3:=j5;have m4:=j4;have m5:=j3;have m6:=h9;have m7:=h8;obtain rfl:a9=x1:=(by injection y0);replace h8:=zzx HB.out h8;replace h9:=zzx HB.out h9;replace j3:=zzx HB.out j3;replace j4:=zzx HB.out j4;replace j5:=zzx HB.out j5;replace j6:=zzx HB.out j6;have r0:=zzm q9;have v6:=zzm q8;clear q9 q8;replace t1:=eq_true t1;replace t2:=eq_true t2;refine start_ (n:=18) (S:=fun w'=>w'.cell? ⟨a1,0,none⟩=some (.bool ((Qa l0 a0).f0))∧w'.cell? ⟨a1,1,none⟩=some (.bool ((Qa l0 a0).f1))∧w'.cell? ⟨a1,2,none⟩=some (.int .i64 ((Qa l0 a0).f2))∧w'.cell? ⟨a1,3,none⟩=some (.int .i64 ((Qa l0 a0).f3))∧w'.cell? ⟨a1,4,none⟩=some (.int .i64 ((Qa l0 a0).f4))∧w'.cell? ⟨a1,5,none⟩=some (.slice b7 ((Qa l0 a0).f5).length b8)∧w'.cell? ⟨b3,0,none⟩=some (.slice (some b9) b2.length c8)∧w'.cell? ⟨b3,1,none⟩=some (.slice (some k3) a6.length d3)∧w'.cell? (k3.add (a0).toNat)=some (.int .i64 (rd a6 a0))∧w'.cell? (a9.add (((rd a6 a0)).toNat * 6))=some (.bool ((Qa l0 (rd a6 a0)).f0))∧w'.cell? ⟨(a9.add (((rd a6 a0)).toNat * 6)).block,(a9.add (((rd a6 a0)).toNat * 6)).off+1,none⟩=some (.bool ((Qa l0 (rd a6 a0)).f1))∧w'.cell? ⟨(a9.add (((rd a6 a0)).toNat * 6)).block,(a9.add (((rd a6 a0)).toNat * 6)).off+2,none⟩=some (.int .i64 ((Qa l0 (rd a6 a0)).f2))∧w'.cell? ⟨(a9.add (((rd a6 a0)).toNat * 6)).block,(a9.add (((rd a6 a0)).toNat * 6)).off+3,none⟩=some (.int .i64 ((Qa l0 (rd a6 a0)).f3))∧w'.cell? ⟨(a9.add (((rd a6 a0)).toNat * 6)).block,(a9.add (((rd a6 a0)).toNat * 6)).off+4,none⟩=some (.int .i64 ((Qa l0 (rd a6 a0)).f4))∧w'.cell? ⟨(a9.add (((rd a6 a0)).toNat * 6)).block,(a9.add (((rd a6 a0)).toNat * 6)).off+5,none⟩=some (.slice s2 ((Qa l0 (rd a6 a0)).f5).length s3)) (ds:=[15,16]) (zzB 18 0) (by kernel_rfl) rfl rfl ⟨(zzk a3.out 0).trans rfl,(zzk a3.out 1).trans rfl,(zzk a3.out 2).trans rfl,(zzk a3.out 3).trans rfl,(zzk a3.out 4).trans rfl,(zzk a3.out 5).trans rfl,(zzk a5.out 0).trans rfl,(zzk a5.out 1).trans rfl,q7,(zzx HB.out m7),(zzx HB.out m6),(zzx HB.out m5),(zzx HB.out m4),(zzx HB.out m3),(zzx HB.out m2)⟩ (fun c4=>?_);refine with_tabW Qc.tab16 Qc.bits16 (fun b6 h5=>?_);generalize wc.drew=C8 at b0 a2 a4 a5 a3 HB r0 q7 h8 h9 j3 j4 j5 j6 c4 ⊢;refine zzP 0 49 18 1 b6 ?_
                 refine zzP 1 50 18 3 b6 ?_
                 refine zzP 5 54 18 35 b6 ?_
                 refine zzP 6 55 18 99 b6 ?_
                 refine zzP 8 57 18 355 b6 ?_
                 refine zzT 2 51 18 359 b6 h5 c4 ?_
                 refine zzT 3 52 18 367 b6 h5 c4 ?_
                 refine zzT 7 56 18 495 b6 h5 c4 ?_
                 refine zzP 9 58 18 1007 b6 ?_
                 refine zzT 10 59 18 2031 b6 h5 c4 ?_
                 refine zzP 11 60 18 4079 b6 ?_
                 refine zzT 12 61 18 8175 b6 h5 c4 ?_
                 refine one_ (i:=4) (N:=some 53) (zzB 18 8191) rfl rfl (one_of b6.out (by kernel_rfl)) (by decide) (fun K hK=>?_);refine goes_ Try.func63 (by kernel_rfl) rfl #[.agg #[.bool ((Qa l0 a0).f0),.bool ((Qa l0 a0).f1),.int .i64 ((Qa l0 a0).f2),.int .i64 ((Qa l0 a0).f3),.int .i64 ((Qa l0 a0).f4),.slice b7 ((Qa l0 a0).f5).length b8]] (by rfl) rfl rfl zzM2 ?_;with_reducible refine (Q3.calls ((Qa l0 a0).f0) ((Qa l0 a0).f1) ((Qa l0 a0).f2) ((Qa l0 a0).f3) ((Qa l0 a0).f4) _ _ ((Qa l0 a0).f5) n7 _ ?side1 ?side2 A7.out).mono ?_
                 (case side1=>exact zzcb o2 HB)
                 (case side2=>exact o3.out);rintro e C9 ⟨rfl,hb⟩;have HS8_:=(hb.cell (zzn _ _ (c4.2.2.2.2.2.2.2.2.1))).trans (c4.2.2.2.2.2.2.2.2.1);refine ⟨_,rfl,?_⟩;have b4:=zzm (Kd.R_below (by (with_reducible repeat (first|apply Kd.R_alloc|apply Kd.R_drewN|apply Kd.R_drew));exact b0.out) hb);have b5:=zzm (Kd.R_below (by (with_reducible repeat (first|apply Kd.R_alloc|apply Kd.R_drewN|apply Kd.R_drew));exact a2.out) hb);have c5:=zzm (Kd.R_below (by (with_reducible repeat (first|apply Kd.R_alloc|apply Kd.R_drewN|apply Kd.R_drew));exact a4.out) hb);have c7:=zzm (zzh (g:=b3) (o:=.cells #[.slice (some b9) b2.length c8,.slice (some k3) a6.length d3] 72 (0,0)) (zzE a5.out) hb);have d0:=zzm (zzh (g:=a1) (o:=.cells #[.bool ((Qa l0 a0).f0),.bool ((Qa l0 a0).f1),.int .i64 ((Qa l0 a0).f2),.int .i64 ((Qa l0 a0).f3),.int .i64 ((Qa l0 a0).f4),.slice b7 ((Qa l0 a0).f5).length b8] 27 (0,0)) (zzE a3.out) hb);have d1:=zzm (zzp zzh2 hb);clear b0 a2 a4 a5 a3 HB;have b0:=b4;have a2:=b5;have a4:=c5;have a5:=c7;have a3:=d0;have HB:=d1;clear b4 b5 c5 c7 d0 d1
                 (try clear hb)
                 (try clear hb2)
                 (try clear hk)
                 (try clear hi);refine hK.out _ _ ⟨(zzk a3.out 0).trans rfl,(zzk a3.out 1).trans rfl,(zzk a3.out 2).trans rfl,(zzk a3.out 3).trans rfl,(zzk a3.out 4).trans rfl,(zzk a3.out 5).trans rfl,(zzk a5.out 0).trans rfl,(zzk a5.out 1).trans rfl,HS8_,(zzx HB.out m7),(zzx HB.out m6),(zzx HB.out m5),(zzx HB.out m4),(zzx HB.out m3),(zzx HB.out m2)⟩ (fun c4=>?_);clear hK K;refine zzO 53 ?_
                 refine one_ (i:=13) (N:=some 62) (zzB 18 16383) rfl rfl (one_of b6.out (by kernel_rfl)) (by decide) (fun K hK=>?_);refine goes_ Try.func63 (by kernel_rfl) rfl #[.agg #[.bool ((Qa l0 (rd a6 a0)).f0),.bool ((Qa l0 (rd a6 a0)).f1),.int .i64 ((Qa l0 (rd a6 a0)).f2),.int .i64 ((Qa l0 (rd a6 a0)).f3),.int .i64 ((Qa l0 (rd a6 a0)).f4),.slice s2 ((Qa l0 (rd a6 a0)).f5).length s3]] (by rfl) rfl rfl zzM2 ?_;with_reducible refine (Q3.calls ((Qa l0 (rd a6 a0)).f0) ((Qa l0 (rd a6 a0)).f1) ((Qa l0 (rd a6 a0)).f2) ((Qa l0 (rd a6 a0)).f3) ((Qa l0 (rd a6 a0)).f4) _ _ ((Qa l0 (rd a6 a0)).f5) n8 _ ?side1 ?side2 A8.out).mono ?_
                 (case side1=>exact zzcb r0 HB)
                 (case side2=>exact v6.out);rintro e D0 ⟨rfl,hb⟩;have HS8_:=(hb.cell (zzn _ _ (c4.2.2.2.2.2.2.2.2.1))).trans (c4.2.2.2.2.2.2.2.2.1);refine ⟨_,rfl,?_⟩;have b4:=zzm (Kd.R_below (by (with_reducible repeat (first|apply Kd.R_alloc|apply Kd.R_drewN|apply Kd.R_drew));exact b0.out) hb);have b5:=zzm (Kd.R_below (by (with_reducible repeat (first|apply Kd.R_alloc|apply Kd.R_drewN|apply Kd.R_drew));exact a2.out) hb);have c5:=zzm (Kd.R_below (by (with_reducible repeat (first|apply Kd.R_alloc|apply Kd.R_drewN|apply Kd.R_drew));exact a4.out) hb);have c7:=zzm (zzh (g:=b3) (o:=.cells #[.slice (some b9) b2.length c8,.slice (some k3) a6.length d3] 72 (0,0)) (zzE a5.out) hb);have d0:=zzm (zzh (g:=a1) (o:=.cells #[.bool ((Qa l0 a0).f0),.bool ((Qa l0 a0).f1),.int .i64 ((Qa l0 a0).f2),.int .i64 ((Qa l0 a0).f3),.int .i64 ((Qa l0 a0).f4),.slice b7 ((Qa l0 a0).f5).length b8] 27 (0,0)) (zzE a3.out) hb);have d1:=zzm (zzp zzh2 hb);clear b0 a2 a4 a5 a3 HB;have b0:=b4;have a2:=b5;have a4:=c5;have a5:=c7;have a3:=d0;have HB:=d1;clear b4 b5 c5 c7 d0 d1
                 (try clear hb)
                 (try clear hb2)
                 (try clear hk)
                 (try clear hi);refine hK.out _ _ ⟨(zzk a3.out 0).trans rfl,(zzk a3.out 1).trans rfl,(zzk a3.out 2).trans rfl,(zzk a3.out 3).trans rfl,(zzk a3.out 4).trans rfl,(zzk a3.out 5).trans rfl,(zzk a5.out 0).trans rfl,(zzk a5.out 1).trans rfl,HS8_,(zzx HB.out m7),(zzx HB.out m6),(zzx HB.out m5),(zzx HB.out m4),(zzx HB.out m3),(zzx HB.out m2)⟩ (fun c4=>?_);clear hK K;refine zzO 62 ?_
                 refine zzP 14 63 18 32767 b6 ?_
                 refine last_ (i:=15) (N:=some 64) (zzB 18 65535) rfl rfl (one_of b6.out (by kernel_rfl)) (by decide) (fun K hK=>?_);refine value_ (w1:=?_) (v:=?_) (by rfl) rfl ?_ ?_;rotate_left 2
                 ·
                  go_simp;constructor
                  ·
                   rfl
                  ·
                   rfl
                 refine hK.out _ _ ?_;clear hK K;refine zzO 64 ?_
                 refine last_ (i:=16) (N:=some 65) (zzB 18 131071) rfl rfl (one_of b6.out (by kernel_rfl)) (by decide) (fun K hK=>?_);refine Kd.R_append_step k46 (w0:=w) w.heap.size (by rfl) (.tmp 49) (.tmp 64) 42 46 (.agg #[(.int .i64 0),(.int .i64 0),(.int .i64 0)]) 24 rfl Try.underlying42 info46 rfl (by decide) (by omega) u3 g3 (⟨((Qa l0 a0).f2),n7,n8⟩:S46) [.int .i64 ((Qa l0 a0).f2),.int .i64 n7,.int .i64 n8] (fun _=>True) (fun _=>False) rfl rfl ?aP (fun _ hk=>hk.elim) ?aF ?aO ?aB ?aS ?aL ?_
                 (case aP=>exact k46_mkM _ _ _ (⟨((Qa l0 a0).f2),n7,n8⟩:S46))
                 (case aB=>exact zzh2)
                 (case aF=>exact (fun _ _=>trivial))
                 (case aO=>exact (by (with_reducible repeat (first|apply Kd.R_alloc|apply Kd.R_drewN|apply Kd.R_drew));exact b0.out))
                 (case aS=>exact (zzo zzh2))
                 (case aL=>have:=LMc36.out;omega);intro C4 D1 ho hb hg hat;rw [← Ny357.out] at ho;have b4:=zzm (Kd.R_over' (by (with_reducible repeat (first|apply Kd.R_alloc|apply Kd.R_drewN|apply Kd.R_drew));exact a2.out) (Kd.R_typed (by (with_reducible repeat (first|apply Kd.R_alloc|apply Kd.R_drewN|apply Kd.R_drew));exact b0.out)) (by decide) hg);have b5:=zzm (Kd.R_over' (by (with_reducible repeat (first|apply Kd.R_alloc|apply Kd.R_drewN|apply Kd.R_drew));exact a4.out) (Kd.R_typed (by (with_reducible repeat (first|apply Kd.R_alloc|apply Kd.R_drewN|apply Kd.R_drew));exact b0.out)) (by decide) hg);have c5:=zzm (blk_grown (g:=b3) (o:=.cells #[.slice (some b9) b2.length c8,.slice (some k3) a6.length d3] 72 (0,0)) (zzE a5.out) hg (Kd.R_ne b0.out a5.out (by decide)));have c7:=zzm (blk_grown (g:=a1) (o:=.cells #[.bool ((Qa l0 a0).f0),.bool ((Qa l0 a0).f1),.int .i64 ((Qa l0 a0).f2),.int .i64 ((Qa l0 a0).f3),.int .i64 ((Qa l0 a0).f4),.slice b7 ((Qa l0 a0).f5).length b8] 27 (0,0)) (zzE a3.out) hg (Kd.R_ne b0.out a3.out (by decide)));have d0:=zzm (hb);have d1:=zzm (ho);clear a2 a4 a5 a3 HB b0;have a2:=b4;have a4:=b5;have a5:=c5;have a3:=c7;have HB:=d0;have x2:=d1;clear b4 b5 c5 c7 d0 d1;clear ho hb hg hat;refine hK.out _ _ ?_;clear hK K;refine zzO 65 ?_
                 refine zzP 17 3 18 262143 b6 ?_
                 refine done_ (done_of b6.out (by kernel_rfl)) ?_;try go_wp2
                 go_roundg s8
                 case measure=>have:=HK1.out;have:=HJ17.out;omega
                 case rel=>exact ⟨(y357),(wrap64 (a0+1)),(by first|rfl|(simp;done)|(simp [*];done)),H',⟨by have:=HK1.out;have:=HJ17.out;omega⟩,⟨by (with_reducible repeat (first|apply Kd.R_alloc|apply Kd.R_drewN|apply Kd.R_drew));exact x2.out⟩,⟨by (with_reducible repeat (first|apply Kd.R_alloc|apply Kd.R_drewN|apply Kd.R_drew));exact a2.out⟩,⟨by (with_reducible repeat (first|apply Kd.R_alloc|apply Kd.R_drewN|apply Kd.R_drew));exact a4.out⟩,⟨zzE a5.out⟩,⟨zzh3⟩⟩
                ·
                 rw [if_neg v4] at H;exact absurd H (by simp)
               ·
                rw [if_neg v2] at H;exact absurd H (by simp)
              ·
               rw [if_neg v1] at H;exact absurd H (by simp)
             ·
              rw [if_neg v0] at H;exact absurd H (by simp)
            ·
             rw [if_neg t9] at H;exact absurd H (by simp)
           ·
            replace t8:=Bool.eq_false_iff.mpr t8;subst t8;replace H:=zzIf H;have H':=zzm H;clear H;go_wp2;go_roundg s8
            case measure=>have:=HK1.out;have:=HJ17.out;omega
            case rel=>exact ⟨(g3),(wrap64 (a0+1)),(by first|rfl|(simp;done)|(simp [*];done)),H',⟨by have:=HK1.out;have:=HJ17.out;omega⟩,⟨by (with_reducible repeat (first|apply Kd.R_alloc|apply Kd.R_drewN|apply Kd.R_drew));exact b0.out⟩,⟨by (with_reducible repeat (first|apply Kd.R_alloc|apply Kd.R_drewN|apply Kd.R_drew));exact a2.out⟩,⟨by (with_reducible repeat (first|apply Kd.R_alloc|apply Kd.R_drewN|apply Kd.R_drew));exact a4.out⟩,⟨zzE a5.out⟩,⟨zzh3⟩⟩
        ·
         rw [if_neg n2] at H;obtain ⟨r2,r3⟩:=zzY n2;have H':=zzm H;clear H;have g8 : 0≤(a0:Int):=zzt;have g9:a0 < (l0.length:Int):=zzt;obtain ⟨a9,b7,b8,s5,e0,e1,e2,e3,e4,e5,g4,g5⟩:=Q2 j7.out a0 g8 g9;cases s5;replace e0:=zzx HB.out e0;replace e1:=zzx HB.out e1;replace e2:=zzx HB.out e2;replace e3:=zzx HB.out e3;replace e4:=zzx HB.out e4;replace e5:=zzx HB.out e5;have o2:=zzm g5;have o3:=zzm g4;clear g5 g4;replace g8:=eq_true g8;replace g9:=eq_true g9;go_wp2_with (first|((with_reducible refine gate_dst (N:=6) rfl ?_);refine box_event ?hg (N:=6) ?hd (cs:=#[.bool false,.bool false,.int .i64 0,.int .i64 0,.int .i64 0,.slice none 0 0]) (t:=27) ?hr ?_;(case hd=>rfl);(case hg=>rfl);(case hr=>first|(go_simp;done)|(go_simp;rfl));intro a1 hg D2 hbox hb;have b4:=zzm (Kd.R_below (by (with_reducible repeat (first|apply Kd.R_alloc|apply Kd.R_drewN|apply Kd.R_drew));exact b0.out) hb);have b5:=zzm (Kd.R_below (by (with_reducible repeat (first|apply Kd.R_alloc|apply Kd.R_drewN|apply Kd.R_drew));exact a2.out) hb);have c5:=zzm (Kd.R_below (by (with_reducible repeat (first|apply Kd.R_alloc|apply Kd.R_drewN|apply Kd.R_drew));exact a4.out) hb);have c7:=zzm (zzh (g:=b3) (o:=.cells #[.slice g2 b2.length c8,.slice d9 a6.length d3] 72 (0,0)) (zzE a5.out) hb);have d0:=zzm (zzp zzh2 hb);have d1:=zzm (hbox);have m8:=zzm ((by rw [hg];exact (zzo zzh2):w.heap.size≤a1));have r7:=zzm ((by rw [hg];exact (zzo zzh2):w.heap.size≤a1));have r8:=zzm ((by rw [hg];exact Nat.ne_of_lt (blk_lt (g:=b3) (o:=.cells #[.slice g2 b2.length c8,.slice d9 a6.length d3] 72 (0,0)) (zzE a5.out)):b3≠a1));have r9:=zzm ((by rw [hg];exact Nat.ne_of_gt (blk_lt (g:=b3) (o:=.cells #[.slice g2 b2.length c8,.slice d9 a6.length d3] 72 (0,0)) (zzE a5.out)):a1≠b3));clear b0 a2 a4 a5 HB;have b0:=b4;have a2:=b5;have a4:=c5;have a5:=c7;have HB:=d0;have a3:=d1;have w2:=m8;have w3:=r7;have b1:=r8;have h2:=r9;clear b4 b5 c5 c7 d0 d1 m8 r7 r8 r9 hb hbox hg;have C0:=h2.out;have C1:=b1.out;obtain ⟨y3,y4,y5,y6,y7,y8,y9,z0,z1,z2,z3,z4⟩:=zzc6 a3.out;obtain ⟨z5,z6,z7,z8⟩:=zzc2 a5.out;have h0 : 0≤(a0:Int):=zzt;have h1:a0 < (b2.length:Int):=zzt;obtain ⟨b9,s6,a8⟩:=Kd.at_int (Kd.R_reads' a2.out).2.2 a0 h0 h1;cases s6;have e6:b9.block≠a1:=Kd.own_blk (Kd.R_ne a2.out a3.out (by decide));have e7:b9.block≠a1:=Kd.own_blk (Kd.R_ne a2.out a3.out (by decide));have e8:b9.block≠a1:=Kd.own_blk (Kd.R_ne a2.out a3.out (by decide));have e9:b9.block≠a1:=Kd.own_blk (Kd.R_ne a2.out a3.out (by decide));have g0:b9.block≠a1:=Kd.own_blk (Kd.R_ne a2.out a3.out (by decide));have g1:b9.block≠a1:=Kd.own_blk (Kd.R_ne a2.out a3.out (by decide));replace a8:=(cell_far (p:=⟨a1,0,none⟩) (by first|exact zzaf e6|exact e6) (.bool ((Qa l0 a0).f0))).trans a8;replace a8:=(cell_far (p:=⟨a1,1,none⟩) (by first|exact zzaf e7|exact e7) (.bool ((Qa l0 a0).f1))).trans a8;replace a8:=(cell_far (p:=⟨a1,2,none⟩) (by first|exact zzaf e8|exact e8) (.int .i64 ((Qa l0 a0).f2))).trans a8;replace a8:=(cell_far (p:=⟨a1,3,none⟩) (by first|exact zzaf e9|exact e9) (.int .i64 ((Qa l0 a0).f3))).trans a8;replace a8:=(cell_far (p:=⟨a1,4,none⟩) (by first|exact zzaf g0|exact g0) (.int .i64 ((Qa l0 a0).f4))).trans a8;replace a8:=(cell_far (p:=⟨a1,5,none⟩) (by first|exact zzaf g1|exact g1) (.slice b7 ((Qa l0 a0).f5).length b8)).trans a8;clear e6 e7 e8 e9 g0 g1;replace h0:=eq_true h0;replace h1:=eq_true h1));go_roundg k1
         case measure=>have:=HK1.out;omega
         case rel=>exact ⟨(g3),(wrap64 (a0+1)),(by first|rfl|(simp;done)|(simp [*];done)),H',⟨by have:=HK1.out;omega⟩,⟨by (with_reducible repeat (first|apply Kd.R_alloc|apply Kd.R_drewN|apply Kd.R_drew));exact Kd.R_mono (Kd.R_far (p:=⟨a1,5,none⟩) (Kd.R_far (p:=⟨a1,4,none⟩) (Kd.R_far (p:=⟨a1,3,none⟩) (Kd.R_far (p:=⟨a1,2,none⟩) (Kd.R_far (p:=⟨a1,1,none⟩) (Kd.R_far (p:=⟨a1,0,none⟩) (Kd.R_types b0.out a3.out (by decide)) (fun _ hk=>hk.2) (.bool ((Qa l0 a0).f0))) (fun _ hk=>hk.2) (.bool ((Qa l0 a0).f1))) (fun _ hk=>hk.2) (.int .i64 ((Qa l0 a0).f2))) (fun _ hk=>hk.2) (.int .i64 ((Qa l0 a0).f3))) (fun _ hk=>hk.2) (.int .i64 ((Qa l0 a0).f4))) (fun _ hk=>hk.2) (.slice b7 ((Qa l0 a0).f5).length b8)) (fun _ hk=>trivial)⟩,⟨by (with_reducible repeat (first|apply Kd.R_alloc|apply Kd.R_drewN|apply Kd.R_drew));exact Kd.R_mono (Kd.R_far (p:=⟨a1,5,none⟩) (Kd.R_far (p:=⟨a1,4,none⟩) (Kd.R_far (p:=⟨a1,3,none⟩) (Kd.R_far (p:=⟨a1,2,none⟩) (Kd.R_far (p:=⟨a1,1,none⟩) (Kd.R_far (p:=⟨a1,0,none⟩) (Kd.R_types a2.out a3.out (by decide)) (fun _ hk=>hk.2) (.bool ((Qa l0 a0).f0))) (fun _ hk=>hk.2) (.bool ((Qa l0 a0).f1))) (fun _ hk=>hk.2) (.int .i64 ((Qa l0 a0).f2))) (fun _ hk=>hk.2) (.int .i64 ((Qa l0 a0).f3))) (fun _ hk=>hk.2) (.int .i64 ((Qa l0 a0).f4))) (fun _ hk=>hk.2) (.slice b7 ((Qa l0 a0).f5).length b8)) (fun _ hk=>trivial)⟩,⟨by (with_reducible repeat (first|apply Kd.R_alloc|apply Kd.R_drewN|apply Kd.R_drew));exact Kd.R_mono (Kd.R_far (p:=⟨a1,5,none⟩) (Kd.R_far (p:=⟨a1,4,none⟩) (Kd.R_far (p:=⟨a1,3,none⟩) (Kd.R_far (p:=⟨a1,2,none⟩) (Kd.R_far (p:=⟨a1,1,none⟩) (Kd.R_far (p:=⟨a1,0,none⟩) (Kd.R_types a4.out a3.out (by decide)) (fun _ hk=>hk.2) (.bool ((Qa l0 a0).f0))) (fun _ hk=>hk.2) (.bool ((Qa l0 a0).f1))) (fun _ hk=>hk.2) (.int .i64 ((Qa l0 a0).f2))) (fun _ hk=>hk.2) (.int .i64 ((Qa l0 a0).f3))) (fun _ hk=>hk.2) (.int .i64 ((Qa l0 a0).f4))) (fun _ hk=>hk.2) (.slice b7 ((Qa l0 a0).f5).length b8)) (fun _ hk=>trivial)⟩,⟨by (with_reducible repeat (first|apply zzf|apply zzg|apply zze));refine zzj ?_ b1.out _;(with_reducible repeat (first|apply zzf|apply zzg|apply zze));refine zzj ?_ b1.out _;(with_reducible repeat (first|apply zzf|apply zzg|apply zze));refine zzj ?_ b1.out _;(with_reducible repeat (first|apply zzf|apply zzg|apply zze));refine zzj ?_ b1.out _;(with_reducible repeat (first|apply zzf|apply zzg|apply zze));refine zzj ?_ b1.out _;(with_reducible repeat (first|apply zzf|apply zzg|apply zze));refine zzj ?_ b1.out _;(with_reducible repeat (first|apply zzf|apply zzg|apply zze));exact a5.out⟩,⟨zzh3⟩⟩
       ·
        rw [if_neg o1] at H;exact absurd H (by simp)
      ·
       rw [if_neg o0] at H;exact absurd H (by simp)
     ·
      rw [if_neg n9] at H;exact absurd H (by simp)
    ·
     rw [if_neg m9] at H;have r1:decide (a0 < (l0.length:Int))=false:=decide_eq_false m9;clear m9;obtain rfl:=Option.some.inj H;go_wp2;go_ret;exact ⟨_,zzR,by (with_reducible repeat (first|apply Kd.R_alloc|apply Kd.R_drewN|apply Kd.R_drew));exact b0.out,zzh3⟩
 ·
  replace c3:=Bool.eq_false_iff.mpr c3;subst c3;replace H:=zzIf H;obtain rfl:=Option.some.inj H;go_enter Try.func32,Try.ntmps32;go_wp2_with (first|((with_reducible refine gate_dst (N:=9) rfl ?_);refine Kd.R_lit k46 _ 46 ?hg (N:=9) ?hd (xs:=([]:List (S46))) (inner:=[]) (ok:=fun _=>True) (okp:=fun _=>True) ?hr ?hp (fun _ hk=>hk) trivial (Below.refl _ _) (Nat.le_refl _) (by simp) ?_;(case hd=>rfl);(case hg=>rfl);(case hr=>first|(go_simp;done)|(go_simp;rfl));(case hp=>exact (Reps.none _ _));intro x7 D3 ho46 hb hg_ hnew_;clear hg_ hnew_;(first|rw [← Ny337.out] at ho46|(simp only [Int.reduceToNat] at ho46;rw [← Ny337.out] at ho46));have b4:=zzm (Kd.R_lower ho46 (zzo zzh1));have b5:=zzm (zzp zzh1 hb);clear HB;have d2:=b4;have HB:=b5;clear b4 b5 hb ho46)|((with_reducible refine gate_callee (f:=61) rfl ?_);refine goesL_ (some 11) rfl rfl Try.func61 (by kernel_rfl) rfl #[.slice A0 l0.length c0] rfl zzM2 ?_;(with_reducible refine (Qi.calls k _ _ l0 false _ ?side1 ?side2 A2.out).mono ?_);(case side1=>exact zzcb j7 HB);(case side2=>exact v9.out);rintro e D4 ⟨rfl,hb⟩;refine ⟨_,rfl,?_⟩;have b4:=zzm (Kd.R_below (by (with_reducible repeat (first|apply Kd.R_alloc|apply Kd.R_drewN|apply Kd.R_drew));exact d2.out) hb);have b5:=zzm (zzp zzh1 hb);clear d2 HB;have d2:=b4;have HB:=b5;clear b4 b5;(try clear hb);(try clear hb2);(try clear hk);(try clear hi)));go_ret;exact ⟨_,zzR,by (with_reducible repeat (first|apply Kd.R_alloc|apply Kd.R_drewN|apply Kd.R_drew));exact d2.out,zzh1⟩

set_option linter.unusedVariables false
set_option linter.unusedSimpArgs false
def Rh.f (a0_0:Bool) (a0_1:Bool) (a0_2:Int) (a0_3:Int) (a0_4:Int) (l0_5:List (S34)):Option (Int):=if 0≤(wrap64 ((l0_5.length:Int) - 1)) then (if (wrap64 ((l0_5.length:Int) - 1)) < (l0_5.length:Int) then (some ((Qb l0_5 (wrap64 ((l0_5.length:Int) - 1))).f0)) else (none)) else (none)
set_option maxHeartbeats 8000000 in
theorem Rh.calls (b2:Bool) (b3:Bool) (b4:Int) (b5:Int) (b6:Int) (b7:Option Addr) (b8:Nat) (a0:List (S34)) (r:Int) (w:World) (c1:Kd.C k34 w b7 a0.length a0) (c2:a0.length≤b8) (h:Rh.f b2 b3 b4 b5 b6 a0=some r) :
  Calls Try.prog 76 #[.agg #[.bool b2,.bool b3,.int .i64 b4,.int .i64 b5,.int .i64 b6,.slice b7 a0.length b8]] w fun e w'=>e = .returned (.int .i64 r)∧Below w.heap.size w w':=by
 have hu27:=Try.underlying27;have c6:=zzm c1;have g3:=zzm c2;clear c1 c2;have HB:=zzm (Below.refl w.heap.size w);have H:(if 0≤(wrap64 ((a0.length:Int) - 1)) then (if (wrap64 ((a0.length:Int) - 1)) < (a0.length:Int) then (some ((Qb a0 (wrap64 ((a0.length:Int) - 1))).f0)) else (none)) else (none))=some r:=h;clear h;obtain ⟨a1,hji2⟩:∃ j_:Int,(wrap64 ((a0.length:Int) - 1))=j_:=⟨_,rfl⟩;replace H:(if 0≤(a1) then (if (a1) < (a0.length:Int) then (some ((Qb a0 (a1)).f0)) else (none)) else (none))=some r:=by first|(rw [hji2] at H;exact H)|(simp only [hji2] at H ⊢;exact H)
 have hji2w:(IntKind.i64.wrap ((a0.length:Int) - 1))=a1:=(i64_w _).trans hji2;by_cases c3 : 0≤(a1)
 ·
  rw [if_pos c3] at H;have g7:decide (0≤(a1))=true:=decide_eq_true c3;clear c3;by_cases c4:(a1) < (a0.length:Int)
  ·
   rw [if_pos c4] at H;have g8:decide ((a1) < (a0.length:Int))=true:=decide_eq_true c4;clear c4;obtain rfl:=Option.some.inj H;go_enter Try.func76,Try.ntmps76;go_wp2_with (first|((with_reducible refine gate_dst (N:=1) rfl ?_);refine box_event ?hg (N:=1) ?hd (cs:=#[.bool b2,.bool b3,.int .i64 b4,.int .i64 b5,.int .i64 b6,.slice b7 a0.length b8]) (t:=27) ?hr ?_;(case hd=>rfl);(case hg=>rfl);(case hr=>first|(go_simp;done)|(go_simp;rfl));intro c5 hg w5 hbox hb;have c8:=zzm (zzp zzh1 hb);have c9:=zzm (hbox);have d0:=zzm ((by rw [hg];exact (zzo zzh1):w.heap.size≤c5));have d1:=zzm ((by rw [hg];exact (zzo zzh1):w.heap.size≤c5));clear HB;have HB:=c8;have c7:=c9;have g4:=d0;have g5:=d1;clear c8 c9 d0 d1 hb hbox hg;obtain ⟨d7,d8,d9,e0,e1,e2,e3,e4,e5,e6,e7,e8⟩:=zzc6 c7.out;have b9 : 0≤((a1):Int):=zzt;have c0:(a1) < (a0.length:Int):=zzt;obtain ⟨g6,e9,g0,g1,g2,d2,a2,a3,a4,a5,a6,a7,a8,a9,b0,b1⟩:=Q9 c6.out (a1) b9 c0;cases d2;replace a2:=zzx HB.out a2;replace a3:=zzx HB.out a3;replace a4:=zzx HB.out a4;replace a5:=zzx HB.out a5;replace a6:=zzx HB.out a6;replace a7:=zzx HB.out a7;have d3:=zzm a9;have d4:=zzm a8;clear a9 a8;have d5:=zzm b1;have d6:=zzm b0;clear b1 b0;replace b9:=eq_true b9;replace c0:=eq_true c0));go_ret;exact ⟨by first|rfl|(simp [errW_none,errW_some] <;> rfl)|(simp only [← hji2];first|rfl|(simp [errW_none,errW_some] <;> rfl))|(simp [*,errW_none,errW_some] <;> rfl),zzh3⟩
  ·
   rw [if_neg c4] at H;exact absurd H (by simp)
 ·
  rw [if_neg c3] at H;exact absurd H (by simp)
end Go.Proofs.Yticpnjhkdfdkkaa.T
