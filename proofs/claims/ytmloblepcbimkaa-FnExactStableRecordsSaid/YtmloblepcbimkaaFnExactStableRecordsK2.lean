/- The law FnExactStableRecords holds (part 3 of 5; merged by pack2.py). -/
import Derived.Lib.SliceRun
import Derived.Test.YtmloblepcbimkaaFnExactStableRecordsK1
set_option maxRecDepth 1000000
open List (setIfInBounds_toArray set_cons_zero set_cons_succ map_toArray map_cons map_nil length_drop length_take)
namespace Go.Proofs.Ytmloblepcbimkaa.T
open Go.RowKit Go.Proofs.YtmloblepcbimkaaW.PrintWords Go.Proofs.YtmloblepcbimkaaW.PrintLast Go.Proofs.YtmloblepcbimkaaW.PrintMore

set_option linter.unusedVariables false
set_option linter.unusedSimpArgs false
mutual
def Qc.l0:Nat→List (S39)→List (S42)→Int→Option ((List (S42)))
 | 0,_,_,_=>none
 | k+1,x0,x3,x4=>if x4 < (x0.length:Int) then ((Qk.f k x0).bind fun t169=>(Qc.j1 k x0 x3 x4 t169)) else (Qc.j1 k x0 x3 x4 false)
def Qc.j1:Nat→List (S39)→List (S42)→Int→Bool→Option ((List (S42)))
 | 0,_,_,_,_=>none
 | k+1,x0,x3,x4,x14=>if x14=true then (if 0≤x4 then (if x4 < (x0.length:Int) then (if (Qa x0 x4).f1=true then (Qc.j2 k x0 x3 x4 true) else (if 0 < (((Qa x0 x4).f5).length:Int) then ((Q3.f k x0).bind fun t173=>(Qc.j2 k x0 x3 x4 (decide (((Qb ((Qa x0 x4).f5) 0).f0) ≥ t173)))) else (none))) else (none)) else (none)) else (some x3)
def Qc.j2:Nat→List (S39)→List (S42)→Int→Bool→Option ((List (S42)))
 | 0,_,_,_,_=>none
 | k+1,x0,x3,x4,x34=>if x34=true then (Qc.l0 k x0 x3 (wrap64 (x4+1))) else (if 0≤x4 then (if x4 < (x0.length:Int) then ((Rb.f ((Qa x0 x4).f0) ((Qa x0 x4).f1) ((Qa x0 x4).f2) ((Qa x0 x4).f3) ((Qa x0 x4).f4) ((Qa x0 x4).f5)).bind fun t175=>(if t175=true then ((Qu.f k x0 x4).bind fun t176=>(if 0≤t176 then (if t176 < (x0.length:Int) then ((Rq.f ((Qa x0 t176).f0) ((Qa x0 t176).f1) ((Qa x0 t176).f2) ((Qa x0 t176).f3) ((Qa x0 t176).f4) ((Qa x0 t176).f5)).bind fun t178=>(Qc.j3 k x0 x3 x4 (!t178))) else (none)) else (none))) else (Qc.j3 k x0 x3 x4 false))) else (none)) else (none))
def Qc.j3:Nat→List (S39)→List (S42)→Int→Bool→Option ((List (S42)))
 | 0,_,_,_,_=>none
 | k+1,x0,x3,x4,x49=>if x49=true then (Qc.l0 k x0 x3 (wrap64 (x4+1))) else (Qc.l1 k x0 x3 x4 0)
def Qc.l1:Nat→List (S39)→List (S42)→Int→Int→Option ((List (S42)))
 | 0,_,_,_,_=>none
 | k+1,x0,x3,x4,x5=>if 0≤x4 then (if x4 < (x0.length:Int) then (if x5 < (((Qa x0 x4).f5).length:Int) then (if 0≤x5 then ((Rw.f ((Qb ((Qa x0 x4).f5) x5).f0) ((Qb ((Qa x0 x4).f5) x5).f1) ((Qb ((Qa x0 x4).f5) x5).f2) ((Qb ((Qa x0 x4).f5) x5).f3) ((Qb ((Qa x0 x4).f5) x5).f4) ((Qb ((Qa x0 x4).f5) x5).f5)).bind fun bt182=>(if x3.length < 1759218604441 then (Qc.l1 k x0 (x3 ++ [(⟨bt182.1,bt182.2.1,bt182.2.2.1,bt182.2.2.2.1,bt182.2.2.2.2.1,bt182.2.2.2.2.2⟩:S42)]) x4 (wrap64 (x5+1))) else (none))) else (none)) else (Qc.l0 k x0 x3 (wrap64 (x4+1)))) else (none)) else (none)
end
def Qc.f (k:Nat) (l0:List (S39)):Option ((List (S42))):=Qc.l0 k l0 (([]:List (S42))) 0
def Qc.T5:Bool×List (List Nat×List Nat):=(true,[([],[]),([],[]),([0,1],[0,1]),([2],[2]),([3],[3]),([4],[4]),([5],[5]),([5],[5]),([6,7,5],[5,6,7]),([8,5],[5,8]),([9,5],[5,9]),([10,5],[5,10]),([11,5],[5,11]),([12,5],[5,12]),([5],[5]),([14,5,5],[5,14]),([13,15,5],[5,13,15]),([5,16],[5,16])])
def Qc.B5:List Nat:=[0,0,3,7,15,31,63,63,255,511,1023,2047,4095,8191,63,16447,65535,131071]
theorem Qc.tab5:rtab .any (opsOf Try.f5 5)=Qc.T5:=by kernel_rfl
theorem Qc.bits5:waitsOk Qc.T5.2 Qc.B5=true:=by kernel_rfl
set_option maxHeartbeats 8000000 in
theorem Qc.calls (k:Nat) (A0:Option Addr) (c0:Nat) (l0:List (S39)) (r:List (S42)) (w:World) (B0:Kd.C k39 w A0 l0.length l0) (B1:l0.length≤c0) (h:Qc.f k l0=some r) :
  Calls Try.prog 5 #[.slice A0 l0.length c0] w fun e w'=>∃ B2:Value,e = .returned (B2)∧Kd.S k42 42 w' w.heap.size (fun _=>True) B2 r∧Below w.heap.size w w':=by
 have hu39:=Try.underlying39;have hu42:=Try.underlying42;have h7:=zzm B0;have x9:=zzm B1;clear B0 B1;have HB:=zzm (Below.refl w.heap.size w);have H:(Qc.l0 k l0 (([]:List (S42))) 0)=some r:=h;clear h;obtain ⟨y166,hy166⟩:∃ y_:List (S42),y_=(([]:List (S42))):=⟨_,rfl⟩;replace H:(Qc.l0 k l0 y166 0)=some r:=by first|(rw [hy166];with_reducible exact H)|(have H2_:=(Option.bind_some _ _).symm.trans H;rw [hy166];with_reducible exact H2_)|(have H2_:=(Option.bind_some _ _).symm.trans H;with_reducible exact H2_)|with_reducible exact H|(rw [hy166];exact H)|exact H
 have Ny166:=zzm hy166;clear hy166;have H':=zzm H;clear H;go_enter Try.func5,Try.ntmps5;go_wp2_with (first|((with_reducible refine gate_dst (N:=6) rfl ?_);refine Kd.S_lit k42 _ 42 ?hg (N:=6) ?hd (xs:=([]:List (S42))) (inner:=[]) (ok:=fun _=>True) (okp:=fun _=>True) ?hr ?hp (fun _ hk=>hk) trivial (Below.refl _ _) (Nat.le_refl _) (by simp) ?_;(case hd=>rfl);(case hg=>rfl);(case hr=>first|(go_simp;done)|(go_simp;rfl));(case hp=>exact (Reps.none _ _));intro F1 w2 ho3 hb hg_ hnew_;clear hg_ hnew_;(first|rw [← Ny166.out] at ho3|(simp only [Int.reduceToNat] at ho3;rw [← Ny166.out] at ho3));have b2:=zzm (Kd.S_lower ho3 (zzo zzh1));have b3:=zzm (zzp zzh1 hb);clear HB;have A3:=b2;have HB:=b3;clear b2 b3 hb ho3));go_loopg [3,4] k (fun kq v3 v4 w'=>∃ (d0:List (S42)) (a0:Int),v4 = .int .i64 a0∧Aside0 (Qc.l0 kq l0 d0 a0=some r)∧Aside0 (kq≤k)∧Aside0 (Kd.S k42 42 w' w.heap.size (fun _=>True) v3 d0)∧Aside0 (Below w.heap.size w w'))
 case atStart=>exact ⟨(y166),(0),(by first|rfl|(simp;done)|(simp [*];done)),H',⟨Nat.le_refl _⟩,⟨by (with_reducible repeat (first|apply Kd.S_alloc|apply Kd.S_drewN|apply Kd.S_drew));exact A3.out⟩,⟨zzh1⟩⟩
 case round=>
  clear H';try clear p2
  obtain ⟨d0,a0,rfl,HA,HK1,a1,HB⟩:=hrel;cases gk with
  | zero=>exact absurd HA.out (by simp [Qc.l0])
  | succ k1=>
   have H:=HA.out;clear HA;simp only [Qc.l0] at H;have y0:=zzm H;clear H;go_upto_region 3 with (fail);go_cut [14] (fun D2 wc=>∃ (kq:Nat) (m7:Bool),D2 = .bool m7∧Aside0 (Qc.j1 kq l0 d0 a0 m7=some r)∧Aside0 (kq≤k1)∧Aside0 (Kd.S k42 42 wc w.heap.size (fun _=>True) u3 d0)∧Aside0 (Below w.heap.size w wc))
   case first=>
    have H:=y0.out;clear y0;by_cases c5:a0 < (l0.length:Int)
    ·
     rw [if_pos c5] at H;have h3:decide (a0 < (l0.length:Int))=true:=decide_eq_true c5;clear c5
     (first|rw [h3]|(simp only [i64_w,i32_w];rw [h3])|skip);obtain ⟨y1,A6,H⟩:=zzG H;have H':=zzm H;clear H;go_wp2_with (first|(go_at_call 14;(with_reducible refine (Qk.calls k1 _ _ l0 y1 _ ?side1 ?side2 A6.out).mono ?_);(case side1=>exact zzcb h7 HB);(case side2=>exact x9.out);rintro e w7 ⟨rfl,hb⟩;have b2:=zzm (Kd.S_below (zzS a1.out) hb);have b3:=zzm (zzp zzh1 hb);clear a1 HB;have a1:=b2;have HB:=b3;clear b2 b3;(try clear hb);(try clear hb2);(try clear hk);(try clear hi)));go_meet
     case rel=>exact ⟨_,(y1),(by first|rfl|(simp;done)|(simp [*];done)),H',⟨by have:=HK1.out;first|omega|exact Nat.le_refl _⟩,⟨by (with_reducible repeat (first|apply Kd.S_alloc|apply Kd.S_drewN|apply Kd.S_drew));exact a1.out⟩,⟨zzh1⟩⟩
    ·
     rw [if_neg c5] at H;have h3:decide (a0 < (l0.length:Int))=false:=decide_eq_false c5;clear c5
     (first|rw [h3]|(simp only [i64_w,i32_w];rw [h3])|skip);have H':=zzm H;clear H;go_wp2;go_meet
     case rel=>exact ⟨_,(false),(by first|rfl|(simp;done)|(simp [*];done)),H',⟨by have:=HK1.out;first|omega|exact Nat.le_refl _⟩,⟨by (with_reducible repeat (first|apply Kd.S_alloc|apply Kd.S_drewN|apply Kd.S_drew));exact a1.out⟩,⟨zzh1⟩⟩
   case rest=>
    clear y0;try clear p2
    try clear c5
    try clear h3
    try clear p2
    obtain ⟨kq,m7,rfl,HA,HJ3,a1,HB⟩:=hcut;cases kq with
    | zero=>exact absurd HA.out (by simp [Qc.j1])
    | succ s6=>
     have H:=HA.out;clear HA;simp only [Qc.j1] at H;by_cases c8:m7=true
     ·
      subst c8;replace H:=zzIt H;have y2:=zzm H;clear H;go_upto_region 5 with (fail);go_cut [34] (fun D3 wc=>∃ (kq:Nat) (m8:Bool),D3 = .bool m8∧Aside0 (Qc.j2 kq l0 d0 a0 m8=some r)∧Aside0 (kq≤s6)∧Aside0 (Kd.S k42 42 wc w.heap.size (fun _=>True) u3 d0)∧Aside0 (Below w.heap.size w wc))
      case first=>
       have H:=y2.out;clear y2;by_cases n2 : 0≤a0
       ·
        rw [if_pos n2] at H;have l2:decide (0≤a0)=true:=decide_eq_true n2;clear n2
        (first|rw [l2]|(simp only [i64_w,i32_w];rw [l2])|skip);by_cases n3:a0 < (l0.length:Int)
        ·
         rw [if_pos n3] at H;have s2:decide (a0 < (l0.length:Int))=true:=decide_eq_true n3;clear n3;obtain ⟨bq12,hbq12⟩:∃ b_:Bool,b_=((Qa l0 a0).f1):=⟨_,rfl⟩;replace H:(if bq12=true then (Qc.j2 s6 l0 d0 a0 true) else (if 0 < (((Qa l0 a0).f5).length:Int) then ((Q3.f s6 l0).bind fun s3=>(Qc.j2 s6 l0 d0 a0 (decide (((Qb ((Qa l0 a0).f5) 0).f0) ≥ s3)))) else (none)))=some r:=by rw [← hbq12] at H;exact H
         have c4:=zzm hbq12;clear hbq12;by_cases n4:bq12=true
         ·
          subst n4;replace H:=zzIt H;have H':=zzm H;clear H;try go_wp2
          have b2:=zzm (Kd.S_drew a1.out);have b3:=zzm (zzc HB.out);clear a1 HB;have a1:=b2;have HB:=b3;clear b2 b3;have e4 : 0≤(a0:Int):=zzt;have e5:a0 < (l0.length:Int):=zzt;obtain ⟨a2,s7,l3,t0,a6,a3,a8,a9,b0,a7,e6,e7⟩:=Q6 h7.out a0 e4 e5;have h8:=a7;have h9:=b0;have j4:=a9;have j5:=a8;have d2:=a3;have j6:=a6
          (try rw [← c4.out] at a6)
          (try rw [← c4.out] at a3);cases t0;replace a6:=zzx HB.out a6;replace a3:=zzx HB.out a3;replace a8:=zzx HB.out a8;replace a9:=zzx HB.out a9;replace b0:=zzx HB.out b0;replace a7:=zzx HB.out a7;have l5:=zzm e7;have w6:=zzm e6;clear e7 e6;replace e4:=eq_true e4;replace e5:=eq_true e5;refine start_ (n:=18) (S:=fun w'=>w'.cell? (a2.add ((a0).toNat * 6))=some (.bool ((Qa l0 a0).f0))∧w'.cell? ⟨(a2.add ((a0).toNat * 6)).block,(a2.add ((a0).toNat * 6)).off+1,none⟩=some (.bool true)∧w'.cell? ⟨(a2.add ((a0).toNat * 6)).block,(a2.add ((a0).toNat * 6)).off+2,none⟩=some (.int .i64 ((Qa l0 a0).f2))∧w'.cell? ⟨(a2.add ((a0).toNat * 6)).block,(a2.add ((a0).toNat * 6)).off+3,none⟩=some (.int .i64 ((Qa l0 a0).f3))∧w'.cell? ⟨(a2.add ((a0).toNat * 6)).block,(a2.add ((a0).toNat * 6)).off+4,none⟩=some (.int .i64 ((Qa l0 a0).f4))∧w'.cell? ⟨(a2.add ((a0).toNat * 6)).block,(a2.add ((a0).toNat * 6)).off+5,none⟩=some (.slice s7 ((Qa l0 a0).f5).length l3)) (ds:=[]) (zzB 18 0) (by kernel_rfl) rfl rfl ⟨(zzx HB.out j6 :),(by first|exact zzx HB.out d2|exact a3|(rw [c4.out];exact zzx HB.out d2)),(zzx HB.out j5 :),(zzx HB.out j4 :),(zzx HB.out h9 :),(zzx HB.out h8 :)⟩ (fun e3=>?_);refine with_tabW Qc.tab5 Qc.bits5 (fun a4 s8=>?_);generalize wc.drew=F5 at a1 HB l5 a6 a3 a8 a9 b0 a7 e3 ⊢;refine zzP 0 17 18 1 a4 ?_
          refine zzP 1 18 18 3 a4 ?_
          refine zzP 2 19 18 7 a4 ?_
          refine zzP 3 20 18 15 a4 ?_
          refine zzT 4 21 18 31 a4 s8 e3 ?_
          refine zzP 5 22 18 63 a4 ?_
          refine zzU 6 23 18 127 a4 ?_
          refine zzU 7 24 18 255 a4 ?_
          refine zzU 8 25 18 511 a4 ?_
          refine zzU 9 26 18 1023 a4 ?_
          refine zzU 10 27 18 2047 a4 ?_
          refine zzU 11 28 18 4095 a4 ?_
          refine zzU 12 29 18 8191 a4 ?_
          refine zzU 13 30 18 16383 a4 ?_
          refine zzU 14 31 18 32767 a4 ?_
          refine zzU 15 32 18 65535 a4 ?_
          refine zzU 16 33 18 131071 a4 ?_
          refine zzP 17 34 18 262143 a4 ?_
          refine done_ (done_of a4.out (by kernel_rfl)) ?_;try go_wp2
          go_meet
          case rel=>exact ⟨_,(true),(by first|rfl|(simp;done)|(simp [*];done)),H',⟨by have:=HK1.out;have:=HJ3.out;first|omega|exact Nat.le_refl _⟩,⟨by (with_reducible repeat (first|apply Kd.S_alloc|apply Kd.S_drewN|apply Kd.S_drew));exact a1.out⟩,⟨zzh1⟩⟩
         ·
          replace n4:=Bool.eq_false_iff.mpr n4;subst n4;replace H:=zzIf H;by_cases n5 : 0 < (((Qa l0 a0).f5).length:Int)
          ·
           rw [if_pos n5] at H;have s4:decide (0 < (((Qa l0 a0).f5).length:Int))=true:=decide_eq_true n5;have s5:decide (0 < ((Qa l0 a0).f5).length)=true:=decide_eq_true (by omega);clear n5;obtain ⟨s3,D4,H⟩:=zzG H;have H':=zzm H;clear H;try go_wp2
           have b2:=zzm (Kd.S_drew a1.out);have b3:=zzm (zzc HB.out);clear a1 HB;have a1:=b2;have HB:=b3;clear b2 b3;have e4 : 0≤(a0:Int):=zzt;have e5:a0 < (l0.length:Int):=zzt;obtain ⟨a2,s7,l3,t0,a6,a3,a8,a9,b0,a7,e6,e7⟩:=Q6 h7.out a0 e4 e5;have h8:=a7;have h9:=b0;have j4:=a9;have j5:=a8;have d2:=a3;have j6:=a6
           (try rw [← c4.out] at a6)
           (try rw [← c4.out] at a3);cases t0;replace a6:=zzx HB.out a6;replace a3:=zzx HB.out a3;replace a8:=zzx HB.out a8;replace a9:=zzx HB.out a9;replace b0:=zzx HB.out b0;replace a7:=zzx HB.out a7;have l5:=zzm e7;have w6:=zzm e6;clear e7 e6;replace e4:=eq_true e4;replace e5:=eq_true e5;have l6 : 0≤(a0:Int):=zzt;have l7:a0 < (l0.length:Int):=zzt;obtain ⟨A4,D5,D6,C2,c7,b6,d3,d4,d5,c9,o0,o1⟩:=Q6 h7.out a0 l6 l7;have o2:=c9;have o3:=d5;have o4:=d4;have o5:=d3;have j7:=b6;have o6:=c7
           (try rw [← c4.out] at c7)
           (try rw [← c4.out] at b6);obtain rfl:a2=A4:=(by injection C2);replace c7:=zzx HB.out c7;replace b6:=zzx HB.out b6;replace d3:=zzx HB.out d3;replace d4:=zzx HB.out d4;replace d5:=zzx HB.out d5;replace c9:=zzx HB.out c9;have o7:=zzm o1;have C8:=zzm o0;clear o1 o0;replace l6:=eq_true l6;replace l7:=eq_true l7;have ea_:=Option.some.inj (a7.symm.trans c9);injection ea_ with ea_ en_ ec_;subst ea_;subst ec_;clear en_;have l8 : 0≤(0:Int):=(by omega);have l9 : 0 < (((Qa l0 a0).f5).length:Int):=zzt;obtain ⟨c6,y3,y4,y5,y6,C3,b7,b1,b4,b8,b5,b9,o8,o9,p0,p3⟩:=Qt o7.out 0 l8 l9;have e8:=b9
           (try rw [show ((0:Int)).toNat=0 from rfl] at e8)
           (try rw [show 0 * 6=0 from rfl] at e8)
           (try rw [Addr.add_zero'] at e8);have e9:=b5
           (try rw [show ((0:Int)).toNat=0 from rfl] at e9)
           (try rw [show 0 * 6=0 from rfl] at e9)
           (try rw [Addr.add_zero'] at e9);have g0:=b8
           (try rw [show ((0:Int)).toNat=0 from rfl] at g0)
           (try rw [show 0 * 6=0 from rfl] at g0)
           (try rw [Addr.add_zero'] at g0);have g1:=b4
           (try rw [show ((0:Int)).toNat=0 from rfl] at g1)
           (try rw [show 0 * 6=0 from rfl] at g1)
           (try rw [Addr.add_zero'] at g1);have g2:=b1
           (try rw [show ((0:Int)).toNat=0 from rfl] at g2)
           (try rw [show 0 * 6=0 from rfl] at g2)
           (try rw [Addr.add_zero'] at g2);have g3:=b7
           (try rw [show ((0:Int)).toNat=0 from rfl] at g3)
           (try rw [show 0 * 6=0 from rfl] at g3)
           (try rw [Addr.add_zero'] at g3)
           (try rw [← c4.out] at b4)
           (try rw [← c4.out] at b5);cases C3;have E6:(0 < ((Qa l0 a0).f5).length)=True:=eq_true (by omega)
           (try rw [show ((0:Int)).toNat=0 from rfl] at b7)
           (try rw [show 0 * 6=0 from rfl] at b7)
           (try rw [Addr.add_zero'] at b7)
           (try rw [show ((0:Int)).toNat=0 from rfl] at b1)
           (try rw [show 0 * 6=0 from rfl] at b1)
           (try rw [Addr.add_zero'] at b1)
           (try rw [show ((0:Int)).toNat=0 from rfl] at b4)
           (try rw [show 0 * 6=0 from rfl] at b4)
           (try rw [Addr.add_zero'] at b4)
           (try rw [show ((0:Int)).toNat=0 from rfl] at b8)
           (try rw [show 0 * 6=0 from rfl] at b8)
           (try rw [Addr.add_zero'] at b8)
           (try rw [show ((0:Int)).toNat=0 from rfl] at b5)
           (try rw [show 0 * 6=0 from rfl] at b5)
           (try rw [Addr.add_zero'] at b5)
           (try rw [show ((0:Int)).toNat=0 from rfl] at b9)
           (try rw [show 0 * 6=0 from rfl] at b9)
           (try rw [Addr.add_zero'] at b9);replace b7:=zzx HB.out b7;replace b1:=zzx HB.out b1;replace b4:=zzx HB.out b4;replace b8:=zzx HB.out b8;replace b5:=zzx HB.out b5;replace b9:=zzx HB.out b9;have w8:=zzm o9;have C9:=zzm o8;clear o9 o8;have w9:=zzm p3;have D0:=zzm p0;clear p3 p0;replace l8:=eq_true l8;replace l9:=eq_true l9;refine start_ (n:=18) (S:=fun w'=>w'.cell? (a2.add ((a0).toNat * 6))=some (.bool ((Qa l0 a0).f0))∧w'.cell? ⟨(a2.add ((a0).toNat * 6)).block,(a2.add ((a0).toNat * 6)).off+1,none⟩=some (.bool false)∧w'.cell? ⟨(a2.add ((a0).toNat * 6)).block,(a2.add ((a0).toNat * 6)).off+2,none⟩=some (.int .i64 ((Qa l0 a0).f2))∧w'.cell? ⟨(a2.add ((a0).toNat * 6)).block,(a2.add ((a0).toNat * 6)).off+3,none⟩=some (.int .i64 ((Qa l0 a0).f3))∧w'.cell? ⟨(a2.add ((a0).toNat * 6)).block,(a2.add ((a0).toNat * 6)).off+4,none⟩=some (.int .i64 ((Qa l0 a0).f4))∧w'.cell? ⟨(a2.add ((a0).toNat * 6)).block,(a2.add ((a0).toNat * 6)).off+5,none⟩=some (.slice (some c6) ((Qa l0 a0).f5).length l3)∧w'.cell? (a2.add ((a0).toNat * 6))=some (.bool ((Qa l0 a0).f0))∧w'.cell? ⟨(a2.add ((a0).toNat * 6)).block,(a2.add ((a0).toNat * 6)).off+1,none⟩=some (.bool (false))∧w'.cell? ⟨(a2.add ((a0).toNat * 6)).block,(a2.add ((a0).toNat * 6)).off+2,none⟩=some (.int .i64 ((Qa l0 a0).f2))∧w'.cell? ⟨(a2.add ((a0).toNat * 6)).block,(a2.add ((a0).toNat * 6)).off+3,none⟩=some (.int .i64 ((Qa l0 a0).f3))∧w'.cell? ⟨(a2.add ((a0).toNat * 6)).block,(a2.add ((a0).toNat * 6)).off+4,none⟩=some (.int .i64 ((Qa l0 a0).f4))∧w'.cell? ⟨(a2.add ((a0).toNat * 6)).block,(a2.add ((a0).toNat * 6)).off+5,none⟩=some (.slice (some c6) ((Qa l0 a0).f5).length l3)∧w'.cell? c6=some (.int .i64 ((Qb ((Qa l0 a0).f5) 0).f0))∧w'.cell? ⟨c6.block,c6.off+1,none⟩=some (.int .i64 ((Qb ((Qa l0 a0).f5) 0).f1))∧w'.cell? ⟨c6.block,c6.off+2,none⟩=some (.bool ((Qb ((Qa l0 a0).f5) 0).f2))∧w'.cell? ⟨c6.block,c6.off+3,none⟩=some (.slice y3 ((Qb ((Qa l0 a0).f5) 0).f3).length y4)∧w'.cell? ⟨c6.block,c6.off+4,none⟩=some (.bool ((Qb ((Qa l0 a0).f5) 0).f4))∧w'.cell? ⟨c6.block,c6.off+5,none⟩=some (.slice y5 ((Qb ((Qa l0 a0).f5) 0).f5).length y6)) (ds:=[]) (zzB 18 0) (by kernel_rfl) rfl rfl ⟨(zzx HB.out j6 :),(by first|exact zzx HB.out d2|exact a3|(rw [c4.out];exact zzx HB.out d2)),(zzx HB.out j5 :),(zzx HB.out j4 :),(zzx HB.out h9 :),(zzx HB.out h8 :),(zzx HB.out o6 :),(by first|exact zzx HB.out j7|exact b6|(rw [c4.out];exact zzx HB.out j7)),(zzx HB.out o5 :),(zzx HB.out o4 :),(zzx HB.out o3 :),(zzx HB.out o2 :),(zzx HB.out g3 :),(by first|exact zzx HB.out g2|exact b1),(zzx HB.out g1 :),(zzx HB.out g0 :),(zzx HB.out e9 :),(zzx HB.out e8 :)⟩ (fun e3=>?_);refine with_tabW Qc.tab5 Qc.bits5 (fun a4 s8=>?_);generalize wc.drew=F6 at a1 HB l5 o7 w8 w9 a6 a3 a8 a9 b0 a7 c7 b6 d3 d4 d5 c9 b7 b1 b4 b8 b5 b9 e3 ⊢;refine zzP 0 17 18 1 a4 ?_
           refine zzP 1 18 18 3 a4 ?_
           refine zzP 2 19 18 7 a4 ?_
           refine zzP 3 20 18 15 a4 ?_
           refine zzT 4 21 18 31 a4 s8 e3 ?_
           refine zzP 5 22 18 63 a4 ?_
           refine zzP 6 23 18 127 a4 ?_
           refine zzP 7 24 18 255 a4 ?_
           refine zzP 8 25 18 511 a4 ?_
           refine zzP 9 26 18 1023 a4 ?_
           refine zzP 14 31 18 17407 a4 ?_
           refine zzT 10 27 18 18431 a4 s8 e3 ?_
           refine zzP 11 28 18 20479 a4 ?_
           refine zzP 12 29 18 24575 a4 ?_
           refine zzT 13 30 18 32767 a4 s8 e3 ?_
           refine one_ (i:=15) (N:=some 32) (zzB 18 65535) rfl rfl (one_of a4.out (by kernel_rfl)) (by decide) (fun K hK=>?_);refine goes_ Try.func15 (by kernel_rfl) rfl #[.slice (some a2) l0.length c0] (by rfl) rfl rfl zzM2 ?_;with_reducible refine (Q3.calls s6 _ _ l0 s3 _ ?side1 ?side2 D4.out).mono ?_
           (case side1=>exact zzcb h7 HB)
           (case side2=>exact x9.out);rintro e F7 ⟨rfl,hb⟩;refine ⟨_,rfl,?_⟩;have b2:=zzm (Kd.S_below (zzS a1.out) hb);have b3:=zzm (zzp zzh1 hb);clear a1 HB;have a1:=b2;have HB:=b3;clear b2 b3
           (try clear hb)
           (try clear hb2)
           (try clear hk)
           (try clear hi);refine hK.out _ _ ⟨(zzx HB.out j6 :),(by first|exact zzx HB.out d2|exact a3|(rw [c4.out];exact zzx HB.out d2)),(zzx HB.out j5 :),(zzx HB.out j4 :),(zzx HB.out h9 :),(zzx HB.out h8 :),(zzx HB.out o6 :),(by first|exact zzx HB.out j7|exact b6|(rw [c4.out];exact zzx HB.out j7)),(zzx HB.out o5 :),(zzx HB.out o4 :),(zzx HB.out o3 :),(zzx HB.out o2 :),(zzx HB.out g3 :),(by first|exact zzx HB.out g2|exact b1),(zzx HB.out g1 :),(zzx HB.out g0 :),(zzx HB.out e9 :),(zzx HB.out e8 :)⟩ (fun e3=>?_);clear hK K;refine zzO 32 ?_
           refine zzP 16 33 18 131071 a4 ?_
           refine zzP 17 34 18 262143 a4 ?_
           refine done_ (done_of a4.out (by kernel_rfl)) ?_;try go_wp2
           go_meet
           case rel=>exact ⟨_,(decide (((Qb ((Qa l0 a0).f5) 0).f0) ≥ s3)),(by first|rfl|(simp;done)|(simp [*];done)),H',⟨by have:=HK1.out;have:=HJ3.out;first|omega|exact Nat.le_refl _⟩,⟨by (with_reducible repeat (first|apply Kd.S_alloc|apply Kd.S_drewN|apply Kd.S_drew));exact a1.out⟩,⟨zzh1⟩⟩
          ·
           rw [if_neg n5] at H;exact absurd H (by simp)
        ·
         rw [if_neg n3] at H;exact absurd H (by simp)
       ·
        rw [if_neg n2] at H;exact absurd H (by simp)
      case rest=>
       clear y2;try clear c1
       try clear p1
       try clear q1
       try clear B3
       try clear B7
       try clear p2
       try clear c5
       try clear h3
       try clear c8
       try clear n2
       try clear l2
       try clear n3
       try clear s2
       try clear t9
       try clear n4
       try clear n5
       try clear s4
       try clear s5
       try clear B8
       try clear v0
       try clear v1
       try clear y7
       try clear y8
       try clear a6
       try clear a3
       try clear a8
       try clear a9
       try clear b0
       try clear a7
       try clear c7
       try clear b6
       try clear d3
       try clear d4
       try clear d5
       try clear c9
       try clear b7
       try clear b1
       try clear b4
       try clear b8
       try clear b5
       try clear b9
       try clear e4
       try clear l6
       try clear l8
       try clear p2
       try clear e5
       try clear l7
       try clear l9
       obtain ⟨kq,m8,rfl,HA,HJ8,a1,HB⟩:=hcut;cases kq with
       | zero=>exact absurd HA.out (by simp [Qc.j2])
       | succ y9=>
        have H:=HA.out;clear HA;simp only [Qc.j2] at H;by_cases p4:m8=true
        ·
         subst p4;replace H:=zzIt H;have H':=zzm H;clear H;go_wp2;go_roundg y9
         case measure=>have:=HK1.out;have:=HJ3.out;have:=HJ8.out;omega
         case rel=>exact ⟨(d0),(wrap64 (a0+1)),(by first|rfl|(simp;done)|(simp [*];done)),H',⟨by have:=HK1.out;have:=HJ3.out;have:=HJ8.out;omega⟩,⟨by (with_reducible repeat (first|apply Kd.S_alloc|apply Kd.S_drewN|apply Kd.S_drew));exact a1.out⟩,⟨zzh1⟩⟩
        ·
         replace p4:=Bool.eq_false_iff.mpr p4;subst p4;replace H:=zzIf H;have t1:=zzm H;clear H;go_upto_region 6 with (fail);go_cut [49] (fun D7 wc=>∃ (kq:Nat) (l4:Bool),D7 = .bool l4∧Aside0 (Qc.j3 kq l0 d0 a0 l4=some r)∧Aside0 (kq≤y9)∧Aside0 (Kd.S k42 42 wc w.heap.size (fun _=>True) u3 d0)∧Aside0 (Below w.heap.size w wc))
         case first=>
          have H:=t1.out;clear t1;by_cases p5 : 0≤a0
          ·
           rw [if_pos p5] at H;have m9:decide (0≤a0)=true:=decide_eq_true p5;clear p5
           (first|rw [m9]|(simp only [i64_w,i32_w];rw [m9])|skip);by_cases p7:a0 < (l0.length:Int)
           ·
            rw [if_pos p7] at H;have v2:decide (a0 < (l0.length:Int))=true:=decide_eq_true p7;clear p7;obtain ⟨C4,B9,H⟩:=zzG H;by_cases p8:C4=true
            ·
             subst p8;replace H:=zzIt H;obtain ⟨d1,D8,H⟩:=zzG H;by_cases p9 : 0≤d1
             ·
              rw [if_pos p9] at H;have v6:decide (0≤d1)=true:=decide_eq_true p9;clear p9;by_cases q0:d1 < (l0.length:Int)
              ·
               rw [if_pos q0] at H;have v7:decide (d1 < (l0.length:Int))=true:=decide_eq_true q0;clear q0;obtain ⟨z0,D9,H⟩:=zzG H;have H':=zzm H;clear H;have h4 : 0≤(a0:Int):=zzt;have h5:a0 < (l0.length:Int):=zzt;obtain ⟨v8,n6,n7,t2,d6,d7,d8,d9,e0,e1,g4,g5⟩:=Q6 h7.out a0 h4 h5;cases t2;replace d6:=zzx HB.out d6;replace d7:=zzx HB.out d7;replace d8:=zzx HB.out d8;replace d9:=zzx HB.out d9;replace e0:=zzx HB.out e0;replace e1:=zzx HB.out e1;have m0:=zzm g5;have m1:=zzm g4;clear g5 g4;replace h4:=eq_true h4;replace h5:=eq_true h5;go_wp2_with (first|((with_reducible refine gate_callee (f:=16) rfl ?_);refine goesL_ (some 39) rfl rfl Try.func16 (by kernel_rfl) rfl #[.agg #[.bool ((Qa l0 a0).f0),.bool ((Qa l0 a0).f1),.int .i64 ((Qa l0 a0).f2),.int .i64 ((Qa l0 a0).f3),.int .i64 ((Qa l0 a0).f4),.slice n6 ((Qa l0 a0).f5).length n7]] rfl zzM2 ?_;(with_reducible refine (Rb.calls ((Qa l0 a0).f0) ((Qa l0 a0).f1) ((Qa l0 a0).f2) ((Qa l0 a0).f3) ((Qa l0 a0).f4) _ _ ((Qa l0 a0).f5) true _ ?side1 ?side2 B9.out).mono ?_);(case side1=>exact zzcb m0 HB);(case side2=>exact m1.out);rintro e F8 ⟨rfl,hb⟩;refine ⟨_,rfl,?_⟩;have b2:=zzm (Kd.S_below (zzS a1.out) hb);have b3:=zzm (zzp zzh1 hb);clear a1 HB;have a1:=b2;have HB:=b3;clear b2 b3;(try clear hb);(try clear hb2);(try clear hk);(try clear hi))|(go_at_call 18;(with_reducible refine (Qu.calls y9 _ _ l0 a0 d1 _ ?side1 ?side2 D8.out).mono ?_);(case side1=>exact zzcb h7 HB);(case side2=>exact x9.out);rintro e w' ⟨rfl,⟨nd,rfl⟩⟩;have n8 : 0≤(d1:Int):=zzt;have n9:d1 < (l0.length:Int):=zzt;obtain ⟨A5,E0,E1,C5,j8,j9,k0,k2,k3,k4,q2,q3⟩:=Q6 h7.out d1 n8 n9;obtain rfl:v8=A5:=(by injection C5);replace j8:=zzx HB.out j8;replace j9:=zzx HB.out j9;replace k0:=zzx HB.out k0;replace k2:=zzx HB.out k2;replace k3:=zzx HB.out k3;replace k4:=zzx HB.out k4;have x0:=zzm q3;have x1:=zzm q2;clear q3 q2;replace n8:=eq_true n8;replace n9:=eq_true n9)|(go_at_call 17;(with_reducible refine (Rq.calls ((Qa l0 d1).f0) ((Qa l0 d1).f1) ((Qa l0 d1).f2) ((Qa l0 d1).f3) ((Qa l0 d1).f4) _ _ ((Qa l0 d1).f5) z0 _ ?side1 ?side2 D9.out).mono ?_);(case side1=>repeat (first|exact (Kd.C_below x0.out zzh1)|(with_reducible refine Kd.C_alloc ?_ _)|(with_reducible refine Kd.C_drewN ?_ _)|(with_reducible refine Kd.C_drew ?_)));(case side2=>exact x1.out);rintro e F9 ⟨rfl,hb⟩;have b2:=zzm (Kd.S_below (zzS a1.out) hb);have b3:=zzm (zzp zzh1 hb);clear a1 HB;have a1:=b2;have HB:=b3;clear b2 b3;(try clear hb);(try clear hb2);(try clear hk);(try clear hi)));go_meet
               case rel=>exact ⟨_,(!z0),(by first|rfl|(simp;done)|(simp [*];done)),H',⟨by have:=HK1.out;have:=HJ3.out;have:=HJ8.out;first|omega|exact Nat.le_refl _⟩,⟨by (with_reducible repeat (first|apply Kd.S_alloc|apply Kd.S_drewN|apply Kd.S_drew));exact a1.out⟩,⟨zzh1⟩⟩
              ·
               rw [if_neg q0] at H;exact absurd H (by simp)
             ·
              rw [if_neg p9] at H;exact absurd H (by simp)
            ·
             replace p8:=Bool.eq_false_iff.mpr p8;subst p8;replace H:=zzIf H;have H':=zzm H;clear H;have h4 : 0≤(a0:Int):=zzt;have h5:a0 < (l0.length:Int):=zzt;obtain ⟨v8,n6,n7,t2,d6,d7,d8,d9,e0,e1,g4,g5⟩:=Q6 h7.out a0 h4 h5;cases t2;replace d6:=zzx HB.out d6;replace d7:=zzx HB.out d7;replace d8:=zzx HB.out d8;replace d9:=zzx HB.out d9;replace e0:=zzx HB.out e0;replace e1:=zzx HB.out e1;have m0:=zzm g5;have m1:=zzm g4;clear g5 g4;replace h4:=eq_true h4;replace h5:=eq_true h5;go_wp2_with (first|((with_reducible refine gate_callee (f:=16) rfl ?_);refine goesL_ (some 39) rfl rfl Try.func16 (by kernel_rfl) rfl #[.agg #[.bool ((Qa l0 a0).f0),.bool ((Qa l0 a0).f1),.int .i64 ((Qa l0 a0).f2),.int .i64 ((Qa l0 a0).f3),.int .i64 ((Qa l0 a0).f4),.slice n6 ((Qa l0 a0).f5).length n7]] rfl zzM2 ?_;(with_reducible refine (Rb.calls ((Qa l0 a0).f0) ((Qa l0 a0).f1) ((Qa l0 a0).f2) ((Qa l0 a0).f3) ((Qa l0 a0).f4) _ _ ((Qa l0 a0).f5) false _ ?side1 ?side2 B9.out).mono ?_);(case side1=>exact zzcb m0 HB);(case side2=>exact m1.out);rintro e G0 ⟨rfl,hb⟩;refine ⟨_,rfl,?_⟩;have b2:=zzm (Kd.S_below (zzS a1.out) hb);have b3:=zzm (zzp zzh1 hb);clear a1 HB;have a1:=b2;have HB:=b3;clear b2 b3;(try clear hb);(try clear hb2);(try clear hk);(try clear hi)));go_meet
             case rel=>exact ⟨_,(false),(by first|rfl|(simp;done)|(simp [*];done)),H',⟨by have:=HK1.out;have:=HJ3.out;have:=HJ8.out;first|omega|exact Nat.le_refl _⟩,⟨by (with_reducible repeat (first|apply Kd.S_alloc|apply Kd.S_drewN|apply Kd.S_drew));exact a1.out⟩,⟨zzh1⟩⟩
           ·
            rw [if_neg p7] at H;exact absurd H (by simp)
          ·
           rw [if_neg p5] at H;exact absurd H (by simp)
         case rest=>
          clear t1;try clear c1
          try clear p1
          try clear q1
          try clear B3
          try clear B7
          try clear c2
          try clear p2
          try clear c5
          try clear h3
          try clear p6
          try clear c8
          try clear n2
          try clear l2
          try clear n3
          try clear s2
          try clear t9
          try clear n4
          try clear n5
          try clear s4
          try clear s5
          try clear E2
          try clear B8
          try clear v0
          try clear v1
          try clear y7
          try clear y8
          try clear p4
          try clear p5
          try clear m9
          try clear p7
          try clear v2
          try clear p8
          try clear p9
          try clear v6
          try clear q0
          try clear v7
          try clear a6
          try clear a3
          try clear a8
          try clear a9
          try clear b0
          try clear a7
          try clear c7
          try clear b6
          try clear d3
          try clear d4
          try clear d5
          try clear c9
          try clear b7
          try clear b1
          try clear b4
          try clear b8
          try clear b5
          try clear b9
          try clear d6
          try clear d7
          try clear d8
          try clear d9
          try clear e0
          try clear e1
          try clear j8
          try clear j9
          try clear k0
          try clear k2
          try clear k3
          try clear k4
          try clear p1
          try clear v0
          try clear e4
          try clear l6
          try clear l8
          try clear h4
          try clear n8
          try clear p2
          try clear q1
          try clear t9
          try clear v1
          try clear e5
          try clear l7
          try clear l9
          try clear h5
          try clear n9
          obtain ⟨kq,l4,rfl,HA,HJ19,a1,HB⟩:=hcut;cases kq with
          | zero=>exact absurd HA.out (by simp [Qc.j3])
          | succ t3=>
           have H:=HA.out;clear HA;simp only [Qc.j3] at H;by_cases s9:l4=true
           ·
            subst s9;replace H:=zzIt H;have H':=zzm H;clear H;go_wp2;go_roundg t3
            case measure=>have:=HK1.out;have:=HJ3.out;have:=HJ8.out;have:=HJ19.out;omega
            case rel=>exact ⟨(d0),(wrap64 (a0+1)),(by first|rfl|(simp;done)|(simp [*];done)),H',⟨by have:=HK1.out;have:=HJ3.out;have:=HJ8.out;have:=HJ19.out;omega⟩,⟨by (with_reducible repeat (first|apply Kd.S_alloc|apply Kd.S_drewN|apply Kd.S_drew));exact a1.out⟩,⟨zzh1⟩⟩
           ·
            replace s9:=Bool.eq_false_iff.mpr s9;subst s9;replace H:=zzIf H;have H':=zzm H;clear H;go_wp2;go_loopg [3,5] t3 (fun kq v3 v5 w'=>∃ (h6:List (S42)) (a5:Int),v5 = .int .i64 a5∧Aside0 (Qc.l1 kq l0 h6 a0 a5=some r)∧Aside0 (kq≤t3)∧Aside0 (Kd.S k42 42 w' w.heap.size (fun _=>True) v3 h6)∧Aside0 (Below w.heap.size w w'))
            case atStart=>exact ⟨(d0),(0),(by first|rfl|(simp;done)|(simp [*];done)),H',⟨Nat.le_refl _⟩,⟨by (with_reducible repeat (first|apply Kd.S_alloc|apply Kd.S_drewN|apply Kd.S_drew));exact a1.out⟩,⟨zzh1⟩⟩
            case round=>
             clear H';try clear c1
             try clear p1
             try clear q1
             try clear B3
             try clear B7
             try clear c2
             try clear p2
             try clear c3
             try clear c5
             try clear h3
             try clear p6
             try clear c8
             try clear n2
             try clear l2
             try clear n3
             try clear s2
             try clear t9
             try clear n4
             try clear n5
             try clear s4
             try clear s5
             try clear E2
             try clear B8
             try clear v0
             try clear v1
             try clear y7
             try clear y8
             try clear p4
             try clear p5
             try clear m9
             try clear p7
             try clear v2
             try clear p8
             try clear p9
             try clear v6
             try clear q0
             try clear v7
             try clear s9
             try clear a6
             try clear a3
             try clear a8
             try clear a9
             try clear b0
             try clear a7
             try clear c7
             try clear b6
             try clear d3
             try clear d4
             try clear d5
             try clear c9
             try clear b7
             try clear b1
             try clear b4
             try clear b8
             try clear b5
             try clear b9
             try clear d6
             try clear d7
             try clear d8
             try clear d9
             try clear e0
             try clear e1
             try clear j8
             try clear j9
             try clear k0
             try clear k2
             try clear k3
             try clear k4
             try clear p1
             try clear v0
             try clear e4
             try clear l6
             try clear l8
             try clear h4
             try clear n8
             try clear p2
             try clear p6
             try clear q1
             try clear t9
             try clear v1
             try clear e5
             try clear l7
             try clear l9
             try clear h5
             try clear n9
             obtain ⟨h6,a5,rfl,HA,HK5,a1,HB⟩:=hrel;cases gk with
             | zero=>exact absurd HA.out (by simp [Qc.l1])
             | succ k5=>
              have H:=HA.out;clear HA;simp only [Qc.l1] at H;by_cases v9 : 0≤a0
              ·
               rw [if_pos v9] at H;have E7:decide (0≤a0)=true:=decide_eq_true v9;clear v9;by_cases w1:a0 < (l0.length:Int)
               ·
                rw [if_pos w1] at H;have E8:decide (a0 < (l0.length:Int))=true:=decide_eq_true w1;clear w1;by_cases q4:a5 < (((Qa l0 a0).f5).length:Int)
                ·
                 rw [if_pos q4] at H;have A7:decide (a5 < (((Qa l0 a0).f5).length:Int))=true:=decide_eq_true q4;clear q4;by_cases w3 : 0≤a5
                 ·
                  rw [if_pos w3] at H;have E9:decide (0≤a5)=true:=decide_eq_true w3;clear w3;replace H:=zzH H;obtain ⟨⟨m2,m3,m4,k6,m5,k7⟩,z1,H⟩:=H;replace H:(if h6.length < 1759218604441 then (Qc.l1 k5 l0 (h6 ++ [(⟨m2,m3,m4,k6,m5,k7⟩:S42)]) a0 (wrap64 (a5+1))) else (none))=some r:=H;have E3:=zzm z1;clear z1;by_cases w4:h6.length < 1759218604441
                  ·
                   rw [if_pos w4] at H;have LMc38:=zzm w4;clear w4;obtain ⟨y192,hy192⟩:∃ y_:List (S42),y_=(h6 ++ [(⟨m2,m3,m4,k6,m5,k7⟩:S42)]):=⟨_,rfl⟩;replace H:(Qc.l1 k5 l0 y192 a0 (wrap64 (a5+1)))=some r:=by first|(rw [hy192];with_reducible exact H)|(have H2_:=(Option.bind_some _ _).symm.trans H;rw [hy192];with_reducible exact H2_)|(have H2_:=(Option.bind_some _ _).symm.trans H;with_reducible exact H2_)|with_reducible exact H|(rw [hy192];exact H)|exact H
                   have Ny192:=zzm hy192;clear hy192;have H':=zzm H;clear H;have k8 : 0≤(a0:Int):=zzt;have k9:a0 < (l0.length:Int):=zzt;obtain ⟨w5,z2,z3,t4,g6,g7,g8,g9,h0,e2,h1,h2⟩:=Q6 h7.out a0 k8 k9;cases t4;replace g6:=zzx HB.out g6;replace g7:=zzx HB.out g7;replace g8:=zzx HB.out g8;replace g9:=zzx HB.out g9;replace h0:=zzx HB.out h0;replace e2:=zzx HB.out e2;have x2:=zzm h2;have x3:=zzm h1;clear h2 h1;replace k8:=eq_true k8;replace k9:=eq_true k9;have t5 : 0≤(a0:Int):=zzt;have t6:a0 < (l0.length:Int):=zzt;obtain ⟨A8,E4,E5,C6,q5,q6,q7,q8,q9,m6,r0,r1⟩:=Q6 h7.out a0 t5 t6;obtain rfl:w5=A8:=(by injection C6);replace q5:=zzx HB.out q5;replace q6:=zzx HB.out q6;replace q7:=zzx HB.out q7;replace q8:=zzx HB.out q8;replace q9:=zzx HB.out q9;replace m6:=zzx HB.out m6;have x4:=zzm r1;have D1:=zzm r0;clear r1 r0;replace t5:=eq_true t5;replace t6:=eq_true t6;have ea_:=Option.some.inj (e2.symm.trans m6);injection ea_ with ea_ en_ ec_;subst ea_;subst ec_;clear en_;have t7 : 0≤(a5:Int):=zzt;have t8:a5 < (((Qa l0 a0).f5).length:Int):=zzt;obtain ⟨F0,z4,z5,z6,z7,C7,r2,r3,r4,r5,r6,r7,r8,r9,s0,s1⟩:=Qt x4.out a5 t7 t8;cases C7;replace r2:=zzx HB.out r2;replace r3:=zzx HB.out r3;replace r4:=zzx HB.out r4;replace r5:=zzx HB.out r5;replace r6:=zzx HB.out r6;replace r7:=zzx HB.out r7;have x5:=zzm r9;have x6:=zzm r8;clear r9 r8;have x7:=zzm s1;have x8:=zzm s0;clear s1 s0;replace t7:=eq_true t7;replace t8:=eq_true t8;go_wp2_with (first|((with_reducible refine gate_callee (f:=19) rfl ?_);refine goesL_ (some 69) rfl rfl Try.func19 (by kernel_rfl) rfl #[.agg #[.int .i64 ((Qb ((Qa l0 a0).f5) a5).f0),.int .i64 ((Qb ((Qa l0 a0).f5) a5).f1),.bool ((Qb ((Qa l0 a0).f5) a5).f2),.slice z4 ((Qb ((Qa l0 a0).f5) a5).f3).length z5,.bool ((Qb ((Qa l0 a0).f5) a5).f4),.slice z6 ((Qb ((Qa l0 a0).f5) a5).f5).length z7]] rfl zzM2 ?_;(with_reducible refine (Rw.calls ((Qb ((Qa l0 a0).f5) a5).f0) ((Qb ((Qa l0 a0).f5) a5).f1) ((Qb ((Qa l0 a0).f5) a5).f2) _ _ ((Qb ((Qa l0 a0).f5) a5).f3) ((Qb ((Qa l0 a0).f5) a5).f4) _ _ ((Qb ((Qa l0 a0).f5) a5).f5) m2 m3 m4 k6 m5 k7 _ ?side1 ?side2 ?side3 ?side4 E3.out).mono ?_);(case side1=>exact zzcb x5 HB);(case side2=>exact x6.out);(case side3=>exact zzcb x7 HB);(case side4=>exact x8.out);rintro e G1 ⟨F2,F3,rfl,ho0,ho1,hb⟩;refine ⟨_,rfl,?_⟩;have b2:=zzm (Kd.S_mono (Kd.S_told (Kd.S_told (Kd.S_old (zzS a1.out) hb) (Kd.R_base ho0)) (Kd.R_base ho1)) (fun _ h_=>h_.1));have b3:=zzm (Kd.R_lower ho0 (zzo zzh1));have C0:=zzm (Kd.R_lower ho1 (zzo zzh1));have C1:=zzm (zzp zzh1 hb);clear a1 HB;have a1:=b2;have n0:=b3;have n1:=C0;have HB:=C1;clear b2 b3 C0 C1;(try clear hb);(try clear hb2);(try clear hk);(try clear hi);(try clear ho0);(try clear ho1);obtain ⟨z8,z9,eo41⟩:=Kd.R_slice n0.out;subst eo41;obtain ⟨A1,A2,eo42⟩:=Kd.R_slice n1.out;subst eo42)|((with_reducible refine gate_builtin (b:=.append) (xs:=#[.tmp 60,.tmp 70]) rfl ?_);at_builtin;refine Kd.S_append k42 (w0:=w) w.heap.size rfl (.tmp 60) (.tmp 70) 24 42 (.agg #[(.int .i64 0),(.int .i64 0),(.bool false),(.slice none 0 0),(.bool false),(.slice none 0 0)]) 80 rfl Try.underlying24 info42 rfl (by decide) (by omega) u3 h6 (⟨m2,m3,m4,k6,m5,k7⟩:S42) [.int .i64 m2,.int .i64 m3,.bool m4,.slice z8 k6.length z9,.bool m5,.slice A1 k7.length A2] (fun _=>True) (fun k_=>some k_=(.slice z8 k6.length z9:Value).ownBlock∨some k_=(.slice A1 k7.length A2:Value).ownBlock) rfl rfl ?aP (fun k_ hk_=>hk_.elim (fun h_=>((Kd.R_mono (ok':=fun k_=>((fun _=>True)) k_∧some k_≠(u3:Value).ownBlock) (Kd.R_apart' (n0.out) (Kd.S_typed a1.out) (by decide)) (fun k_ hk=>⟨trivial,hk.2⟩))).1 k_ h_.symm) (fun h_=>((Kd.R_mono (ok':=fun k_=>((fun _=>True)) k_∧some k_≠(u3:Value).ownBlock) (Kd.R_apart' (n1.out) (Kd.S_typed a1.out) (by decide)) (fun k_ hk=>⟨trivial,hk.2⟩))).1 k_ h_.symm)) ?aF ?aO ?aB ?aS ?aL ?_;(case aP=>exact k42_mkM _ _ _ (⟨m2,m3,m4,k6,m5,k7⟩:S42) (Kd.R_mono (Kd.R_tight rfl (Kd.R_mono (ok':=fun k_=>((fun _=>True)) k_∧some k_≠(u3:Value).ownBlock) (Kd.R_apart' (n0.out) (Kd.S_typed a1.out) (by decide)) (fun k_ hk=>⟨trivial,hk.2⟩))) (fun _ h_=>Or.inl h_)) (Kd.R_mono (Kd.R_tight rfl (Kd.R_mono (ok':=fun k_=>((fun _=>True)) k_∧some k_≠(u3:Value).ownBlock) (Kd.R_apart' (n1.out) (Kd.S_typed a1.out) (by decide)) (fun k_ hk=>⟨trivial,hk.2⟩))) (fun _ h_=>Or.inr (h_))));(case aB=>exact zzh1);(case aF=>exact (fun _ _=>trivial));(case aO=>exact (zzS (Kd.S_mono a1.out (fun k_ hk=>⟨trivial,fun e_=>e_.elim (fun h_=>hk.1.2 h_) (fun h_=>hk.2 h_)⟩))));(case aS=>exact (zzo zzh1));(case aL=>have:=LMc38.out;omega);intro F4 G2 ho hb hg hat;rw [← Ny192.out] at ho;have b2:=zzm (hb);have b3:=zzm (ho);clear HB a1 n0 n1;have HB:=b2;have A9:=b3;clear b2 b3 ho hb hg hat));go_roundg k5
                   case measure=>have:=HK1.out;have:=HJ3.out;have:=HJ8.out;have:=HJ19.out;have:=HK5.out;omega
                   case rel=>exact ⟨(y192),(wrap64 (a5+1)),(by first|rfl|(simp;done)|(simp [*];done)),H',⟨by have:=HK1.out;have:=HJ3.out;have:=HJ8.out;have:=HJ19.out;have:=HK5.out;omega⟩,⟨by (with_reducible repeat (first|apply Kd.S_alloc|apply Kd.S_drewN|apply Kd.S_drew));exact A9.out⟩,⟨zzh1⟩⟩
                  ·
                   rw [if_neg w4] at H;exact absurd H (by simp)
                 ·
                  rw [if_neg w3] at H;exact absurd H (by simp)
                ·
                 rw [if_neg q4] at H;have A7:decide (a5 < (((Qa l0 a0).f5).length:Int))=false:=decide_eq_false q4;clear q4;have H':=zzm H;clear H;have k8 : 0≤(a0:Int):=zzt;have k9:a0 < (l0.length:Int):=zzt;obtain ⟨w5,z2,z3,t4,g6,g7,g8,g9,h0,e2,h1,h2⟩:=Q6 h7.out a0 k8 k9;cases t4;replace g6:=zzx HB.out g6;replace g7:=zzx HB.out g7;replace g8:=zzx HB.out g8;replace g9:=zzx HB.out g9;replace h0:=zzx HB.out h0;replace e2:=zzx HB.out e2;have x2:=zzm h2;have x3:=zzm h1;clear h2 h1;replace k8:=eq_true k8;replace k9:=eq_true k9;go_wp2;go_roundg k5
                 case measure=>have:=HK1.out;have:=HJ3.out;have:=HJ8.out;have:=HJ19.out;have:=HK5.out;omega
                 case rel=>exact ⟨(h6),(wrap64 (a0+1)),(by first|rfl|(simp;done)|(simp [*];done)),H',⟨by have:=HK1.out;have:=HJ3.out;have:=HJ8.out;have:=HJ19.out;have:=HK5.out;omega⟩,⟨by (with_reducible repeat (first|apply Kd.S_alloc|apply Kd.S_drewN|apply Kd.S_drew));exact a1.out⟩,⟨zzh1⟩⟩
               ·
                rw [if_neg w1] at H;exact absurd H (by simp)
              ·
               rw [if_neg v9] at H;exact absurd H (by simp)
     ·
      replace c8:=Bool.eq_false_iff.mpr c8;subst c8;replace H:=zzIf H;obtain rfl:=Option.some.inj H;go_wp2;go_ret;exact ⟨_,zzR,by (with_reducible repeat (first|apply Kd.S_alloc|apply Kd.S_drewN|apply Kd.S_drew));exact a1.out,zzh1⟩

set_option linter.unusedVariables false
set_option linter.unusedSimpArgs false
def Qz.l0:Nat→List Int→List Int→Int→Option (List Int)
 | 0,_,_,_=>none
 | k+1,x0,x3,x4=>if x4 < (x0.length:Int) then (if 0≤x4 then (if x4 < (x3.length:Int) then (Qz.l0 k x0 (x3.set (x4:Int).toNat (rd x0 x4)) (wrap64 (x4+1))) else (none)) else (none)) else (some x3)
def Qz.f (k:Nat) (l0:List Int):Option (List Int):=if 0≤(l0.length:Int) then (if ((l0.length:Int):Int).toNat≤35184372088832 then (Qz.l0 k l0 (List.replicate ((l0.length:Int):Int).toNat 0) 0) else (none)) else (none)
set_option maxHeartbeats 8000000 in
theorem Qz.calls (k:Nat) (A0:Option Addr) (c0:Nat) (l0:List Int) (r:List Int) (w:World) (b0:Kd.C (Kd.int .i64) w A0 l0.length l0) (b1:l0.length≤c0) (h:Qz.f k l0=some r) :
  Calls Try.prog 58 #[.slice A0 l0.length c0] w fun e w'=>∃ b2:Value,e = .returned (b2)∧Kd.R (Kd.int .i64) 3 w' w.heap.size (fun _=>True) b2 r∧Below w.heap.size w w':=by
 have c4:=zzm b0;have d4:=zzm b1;clear b0 b1;have HB:=zzm (Below.refl w.heap.size w);have H:(if 0≤(l0.length:Int) then (if ((l0.length:Int):Int).toNat≤35184372088832 then (Qz.l0 k l0 (List.replicate ((l0.length:Int):Int).toNat 0) 0) else (none)) else (none))=some r:=h;clear h;by_cases c2 : 0≤(l0.length:Int)
 ·
  rw [if_pos c2] at H;have b4:=eq_true c2;have b5:decide (0≤(l0.length:Int))=true:=decide_eq_true c2;clear c2;by_cases c3:((l0.length:Int):Int).toNat≤35184372088832
  ·
   rw [if_pos c3] at H;have b6:=eq_true c3;have b7:decide (((l0.length:Int):Int).toNat≤35184372088832)=true:=decide_eq_true c3;clear c3;obtain ⟨y195,hy195⟩:∃ y_:List Int,y_=(List.replicate ((l0.length:Int):Int).toNat 0):=⟨_,rfl⟩;replace H:(Qz.l0 k l0 y195 0)=some r:=by first|(rw [hy195];with_reducible exact H)|(have H2_:=(Option.bind_some _ _).symm.trans H;rw [hy195];with_reducible exact H2_)|(have H2_:=(Option.bind_some _ _).symm.trans H;with_reducible exact H2_)|with_reducible exact H|(rw [hy195];exact H)|exact H
   have Ny195:=zzm hy195;clear hy195;have H':=zzm H;clear H;go_enter Try.func58,Try.ntmps58;go_wp2_with (first|((with_reducible refine gate_dst (N:=7) rfl ?_);refine Kd.R_make (Kd.int .i64) _ 3 rfl (N:=7) rfl 40 _ _ rfl (l0.length:Int) rfl rfl Try.underlying40 (.int .i64 0) 8 info3 rfl (by decide) (by omega) 0 (ok:=fun _=>True) (okp:=fun _=>True) rfl (fun _ hk=>hk) trivial (zzt) (Nat.le_trans (Nat.mul_le_mul_right _ (zzt:(l0.length:Int).toNat≤35184372088832)) (by omega)) (Below.refl _ _) (Nat.le_refl _) ?_;intro b8 w4 ho5 hb hg_ hnew_;clear hg_ hnew_;(first|rw [← Ny195.out] at ho5|(simp only [Int.reduceToNat] at ho5;rw [← Ny195.out] at ho5));have a4:=zzm (Kd.R_lower ho5 (zzo zzh1));have a5:=zzm (zzp zzh1 hb);clear HB;have a9:=a4;have HB:=a5;clear a4 a5 hb ho5));go_loopg [4] k (fun kq v4 w'=>∃ (a1:List Int) (a0:Int),v4 = .int .i64 a0∧Aside0 (Qz.l0 kq l0 a1 a0=some r)∧Aside0 (kq≤k)∧Aside0 (Kd.R (Kd.int .i64) 3 w' w.heap.size (fun _=>True) b8 a1)∧Aside0 (Below w.heap.size w w'))
   case atStart=>exact ⟨(y195),(0),(by first|rfl|(simp;done)|(simp [*];done)),H',⟨Nat.le_refl _⟩,⟨by (with_reducible repeat (first|apply Kd.R_alloc|apply Kd.R_drewN|apply Kd.R_drew));exact a9.out⟩,⟨zzh1⟩⟩
   case round=>
    clear H';try clear c2
    try clear b4
    try clear b5
    try clear p2
    try clear c3
    try clear b6
    try clear b7
    try clear c5
    obtain ⟨a1,a0,rfl,HA,HK1,a2,HB⟩:=hrel;cases gk with
    | zero=>exact absurd HA.out (by simp [Qz.l0])
    | succ k1=>
     have H:=HA.out;clear HA;simp only [Qz.l0] at H;by_cases c6:a0 < (l0.length:Int)
     ·
      rw [if_pos c6] at H;have b9:decide (a0 < (l0.length:Int))=true:=decide_eq_true c6;clear c6;by_cases c7 : 0≤a0
      ·
       rw [if_pos c7] at H;have d2:decide (0≤a0)=true:=decide_eq_true c7;clear c7;by_cases c8:a0 < (a1.length:Int)
       ·
        rw [if_pos c8] at H;have d3:decide (a0 < (a1.length:Int))=true:=decide_eq_true c8;clear c8;obtain ⟨y199,hy199⟩:∃ y_:List Int,y_=(a1.set (a0:Int).toNat (rd l0 a0)):=⟨_,rfl⟩;replace H:(Qz.l0 k1 l0 y199 (wrap64 (a0+1)))=some r:=by first|(rw [hy199];with_reducible exact H)|(have H2_:=(Option.bind_some _ _).symm.trans H;rw [hy199];with_reducible exact H2_)|(have H2_:=(Option.bind_some _ _).symm.trans H;with_reducible exact H2_)|with_reducible exact H|(rw [hy199];exact H)|exact H
        have Ny199:=zzm hy199;clear hy199;have H':=zzm H;clear H;have a6 : 0≤(a0:Int):=zzt;have a7:a0 < (l0.length:Int):=zzt;obtain ⟨d0,c1,a3⟩:=Kd.at_int c4.out a0 a6 a7;cases c1;replace a3:=zzx HB.out a3;replace a6:=eq_true a6;replace a7:=eq_true a7;have p9 : 0≤(a0:Int):=zzt;have q9:(a0:Int) < ((a1.length:Int):Int):=zzt;obtain ⟨go9,c9,eo9,b3,gl9,cl9,HG9⟩:=Kd.R_form a2.out (by omega)
        (first|cases eo9|(injection eo9 with ea_ en_ ec_;(first|subst ea_|(injection ea_ with ea_;subst ea_));subst ec_;clear en_));have GB9:=zzm b3;have GG9:=zzm HG9;clear b3 gl9 HG9;obtain ⟨d1,hf9_0⟩:=Kd.R_celln 0 a2.out (a0:Int) p9 q9;replace p9:=eq_true p9;replace q9:=eq_true q9;have HP10:=Kd.R_putg a2.out (a0:Int) (rd l0 a0);go_wp2_with (first|((with_reducible refine gate_store (t:=3) (p:=20) rfl ?_);refine store_event (t:=3) (p:=20) (v:=?vo_w11) (w1:=(wr.setCell ⟨go9,(a0:Int).toNat,none⟩ (.int .i64 (rd l0 a0)))) ?hg ?ho ?hn ?hr ?_;(case ho=>rfl);(case hg=>rfl);(case hn=>rfl);(case hr=>first|(go_simp;done)|(go_simp;rfl));intro a8 hw;have hg:wr.grownBy a8 (some go9):=(by rw [hw];exact HP10.2);have hp_:Kd.R (Kd.int .i64) 3 a8 w.heap.size (fun _=>True) (.slice (some ⟨go9,0,none⟩) a1.length c9) y199:=(by rw [hw,Ny199.out];exact HP10.1);clear HP10;have a4:=zzm (hp_);have a5:=zzm ((by rw [hw];exact zzd (HB.out) GB9.out:Below w.heap.size w a8));clear a2 HB;have a2:=a4;have HB:=a5;clear a4 a5 hg hw hp_));go_roundg k1
        case measure=>have:=HK1.out;omega
        case rel=>exact ⟨(y199),(wrap64 (a0+1)),(by first|rfl|(simp;done)|(simp [*];done)),H',⟨by have:=HK1.out;omega⟩,⟨by (with_reducible repeat (first|apply Kd.R_alloc|apply Kd.R_drewN|apply Kd.R_drew));exact a2.out⟩,⟨zzh1⟩⟩
       ·
        rw [if_neg c8] at H;exact absurd H (by simp)
      ·
       rw [if_neg c7] at H;exact absurd H (by simp)
     ·
      rw [if_neg c6] at H;have b9:decide (a0 < (l0.length:Int))=false:=decide_eq_false c6;clear c6;obtain rfl:=Option.some.inj H;go_wp2;go_ret;exact ⟨_,zzR,by (with_reducible repeat (first|apply Kd.R_alloc|apply Kd.R_drewN|apply Kd.R_drew));exact a2.out,zzh1⟩
  ·
   rw [if_neg c3] at H;exact absurd H (by simp)
 ·
  rw [if_neg c2] at H;exact absurd H (by simp)
def Rt.f (k:Nat) (a0_0:Int) (a0_1:Int) (a0_2:Bool) (l0_3:List Int) (a0_4:Bool) (l0_5:List Int):Option (Int×Int×Bool×List Int×Bool×List Int):=(Qz.f k l0_3).bind fun t203=>((Qz.f k l0_5).bind fun t206=>(some (a0_0,a0_1,a0_2,t203,a0_4,t206)))
set_option maxHeartbeats 8000000 in
theorem Rt.calls (k:Nat) (a1:Int) (a2:Int) (a4:Bool) (b4:Option Addr) (b5:Nat) (a9:List Int) (a5:Bool) (b6:Option Addr) (b7:Nat) (b0:List Int) (r1:Int) (r2:Int) (r3:Bool) (r4:List Int) (r5:Bool) (r6:List Int) (w:World) (d6:Kd.C (Kd.int .i64) w b4 a9.length a9) (d7:a9.length≤b5) (d8:Kd.C (Kd.int .i64) w b6 b0.length b0) (d9:b0.length≤b7) (h:Rt.f k a1 a2 a4 a9 a5 b0=some (r1,r2,r3,r4,r5,r6)) :
  Calls Try.prog 46 #[.agg #[.int .i64 a1,.int .i64 a2,.bool a4,.slice b4 a9.length b5,.bool a5,.slice b6 b0.length b7]] w fun e w'=>∃ e1 e2:Value,e = .returned (.agg #[.int .i64 r1,.int .i64 r2,.bool r3,e1,.bool r5,e2])∧Kd.R (Kd.int .i64) 3 w' w.heap.size (fun k_=>some k_≠(e2:Value).ownBlock) e1 r4∧Kd.R (Kd.int .i64) 3 w' w.heap.size (fun k_=>some k_≠(e1:Value).ownBlock) e2 r6∧Below w.heap.size w w':=by
 have hu72:=Try.underlying72;have hu42:=Try.underlying42;have e3:=zzm d6;have e4:=zzm d7;clear d6 d7;have e5:=zzm d8;have e6:=zzm d9;clear d8 d9;have HB:=zzm (Below.refl w.heap.size w);have H:((Qz.f k a9).bind fun b8=>((Qz.f k b0).bind fun c5=>(some (a1,a2,a4,b8,a5,c5))))=some (r1,r2,r3,r4,r5,r6):=h;clear h;obtain ⟨b8,A2,H⟩:=zzG H;obtain ⟨c5,A3,H⟩:=zzG H;simp only [Option.some.injEq,Prod.mk.injEq] at H;obtain ⟨rfl,rfl,rfl,rfl,rfl,rfl⟩:=H;go_enter Try.func46,Try.ntmps46;go_wp2_with (first|((with_reducible refine gate_dst (N:=1) rfl ?_);refine box_event ?hg (N:=1) ?hd (cs:=#[.int .i64 a1,.int .i64 a2,.bool a4,.slice b4 a9.length b5,.bool a5,.slice b6 b0.length b7]) (t:=72) ?hr ?_;(case hd=>rfl);(case hg=>rfl);(case hr=>first|(go_simp;done)|(go_simp;rfl));intro a7 hg w4 hbox hb;have b9:=zzm (zzp zzh1 hb);have c0:=zzm (hbox);have c1:=zzm ((by rw [hg];exact (zzo zzh1):w.heap.size≤a7));have c2:=zzm ((by rw [hg];exact (zzo zzh1):w.heap.size≤a7));clear HB;have HB:=b9;have a3:=c0;have o8:=c1;have o9:=c2;clear b9 c0 c1 c2 hb hbox hg)|((with_reducible refine gate_dst (N:=2) rfl ?_);refine box_event ?hg (N:=2) ?hd (cs:=#[.int .i64 0,.int .i64 0,.bool false,.slice none 0 0,.bool false,.slice none 0 0]) (t:=42) ?hr ?_;(case hd=>rfl);(case hg=>rfl);(case hr=>first|(go_simp;done)|(go_simp;rfl));intro a0 hg w5 hbox hb;have b9:=zzm (zzh (g:=a7) (o:=.cells #[.int .i64 a1,.int .i64 a2,.bool a4,.slice b4 a9.length b5,.bool a5,.slice b6 b0.length b7] 72 (0,0)) (zzE a3.out) hb);have c0:=zzm (zzp zzh2 hb);have c1:=zzm (hbox);have c2:=zzm ((by rw [hg];exact (zzo zzh2):w.heap.size≤a0));have c6:=zzm ((by rw [hg];exact (zzo zzh2):w.heap.size≤a0));have c8:=zzm ((by rw [hg];exact Nat.ne_of_lt (blk_lt (g:=a7) (o:=.cells #[.int .i64 a1,.int .i64 a2,.bool a4,.slice b4 a9.length b5,.bool a5,.slice b6 b0.length b7] 72 (0,0)) (zzE a3.out)):a7≠a0));have d1:=zzm ((by rw [hg];exact Nat.ne_of_gt (blk_lt (g:=a7) (o:=.cells #[.int .i64 a1,.int .i64 a2,.bool a4,.slice b4 a9.length b5,.bool a5,.slice b6 b0.length b7] 72 (0,0)) (zzE a3.out)):a0≠a7));clear a3 HB;have a3:=b9;have HB:=c0;have a6:=c1;have p0:=c2;have p1:=c6;have d2:=c8;have d3:=d1;clear b9 c0 c1 c2 c6 c8 d1 hb hbox hg)|((with_reducible refine gate_dst (N:=3) rfl ?_);refine box_event ?hg (N:=3) ?hd (cs:=#[.int .i64 0,.int .i64 0,.bool false,.slice none 0 0,.bool false,.slice none 0 0]) (t:=42) ?hr ?_;(case hd=>rfl);(case hg=>rfl);(case hr=>first|(go_simp;done)|(go_simp;rfl));intro a8 hg w6 hbox hb;have b9:=zzm (zzh (g:=a7) (o:=.cells #[.int .i64 a1,.int .i64 a2,.bool a4,.slice b4 a9.length b5,.bool a5,.slice b6 b0.length b7] 72 (0,0)) (zzE a3.out) hb);have c0:=zzm (zzh (g:=a0) (o:=.cells #[.int .i64 0,.int .i64 0,.bool false,.slice none 0 0,.bool false,.slice none 0 0] 42 (0,0)) (zzE a6.out) hb);have c1:=zzm (zzp zzh2 hb);have c2:=zzm (hbox);have c6:=zzm ((by rw [hg];exact (zzo zzh2):w.heap.size≤a8));have c8:=zzm ((by rw [hg];exact (zzo zzh2):w.heap.size≤a8));have d1:=zzm ((by rw [hg];exact Nat.ne_of_lt (blk_lt (g:=a7) (o:=.cells #[.int .i64 a1,.int .i64 a2,.bool a4,.slice b4 a9.length b5,.bool a5,.slice b6 b0.length b7] 72 (0,0)) (zzE a3.out)):a7≠a8));have e7:=zzm ((by rw [hg];exact Nat.ne_of_gt (blk_lt (g:=a7) (o:=.cells #[.int .i64 a1,.int .i64 a2,.bool a4,.slice b4 a9.length b5,.bool a5,.slice b6 b0.length b7] 72 (0,0)) (zzE a3.out)):a8≠a7));have e8:=zzm ((by rw [hg];exact Nat.ne_of_lt (blk_lt (g:=a0) (o:=.cells #[.int .i64 0,.int .i64 0,.bool false,.slice none 0 0,.bool false,.slice none 0 0] 42 (0,0)) (zzE a6.out)):a0≠a8));have e9:=zzm ((by rw [hg];exact Nat.ne_of_gt (blk_lt (g:=a0) (o:=.cells #[.int .i64 0,.int .i64 0,.bool false,.slice none 0 0,.bool false,.slice none 0 0] 42 (0,0)) (zzE a6.out)):a8≠a0));clear a3 a6 HB;have a3:=b9;have a6:=c0;have HB:=c1;have b2:=c2;have p2:=c6;have p3:=c8;have b3:=d1;have d4:=e7;have b1:=e8;have d5:=e9;clear b9 c0 c1 c2 c6 c8 d1 e7 e8 e9 hb hbox hg;have p6:=d2.out;have p7:=d3.out;have p8:=b3.out;have p9:=d4.out;obtain ⟨n6,n7,n8,n9,o0,o1,o2,o3,o4,o5,o6,o7⟩:=zzc6 a3.out;have p4:=d5.out;have p5:=b1.out;obtain ⟨g0,g1,g2,g3,g4,g5,g6,g7,g8,g9,h0,h1⟩:=zzc6 b2.out)|((with_reducible refine gate_callee (f:=58) rfl ?_);refine goesL_ (some 15) rfl rfl Try.func58 (by kernel_rfl) rfl #[.slice b4 a9.length b5] rfl zzM2 ?_;(with_reducible refine (Qz.calls k _ _ a9 b8 _ ?side1 ?side2 A2.out).mono ?_);(case side1=>exact Kd.C_below e3.out zzh2);(case side2=>exact e4.out);rintro e q2 ⟨q0,rfl,ho0,hb⟩;refine ⟨_,rfl,?_⟩;have b9:=zzm (Kd.R_lower ho0 (zzo zzh2));have c0:=zzm (zzh (g:=a7) (o:=.cells #[.int .i64 a1,.int .i64 a2,.bool a4,.slice b4 a9.length b5,.bool a5,.slice b6 b0.length b7] 72 (0,0)) (by (with_reducible repeat (first|apply zzf|apply zzg|apply zze));refine zzj ?_ b3.out _;(with_reducible repeat (first|apply zzf|apply zzg|apply zze));refine zzj ?_ b3.out _;(with_reducible repeat (first|apply zzf|apply zzg|apply zze));refine zzj ?_ b3.out _;(with_reducible repeat (first|apply zzf|apply zzg|apply zze));exact a3.out) hb);have c1:=zzm (zzh (g:=a0) (o:=.cells #[.int .i64 0,.int .i64 0,.bool false,.slice none 0 0,.bool false,.slice none 0 0] 42 (0,0)) (by (with_reducible repeat (first|apply zzf|apply zzg|apply zze));refine zzj ?_ b1.out _;(with_reducible repeat (first|apply zzf|apply zzg|apply zze));refine zzj ?_ b1.out _;(with_reducible repeat (first|apply zzf|apply zzg|apply zze));refine zzj ?_ b1.out _;(with_reducible repeat (first|apply zzf|apply zzg|apply zze));exact a6.out) hb);have c2:=zzm (zzh (g:=a8) (o:=.cells #[.int .i64 a1,.int .i64 a2,.bool a4,.slice none 0 0,.bool false,.slice none 0 0] 42 (0,0)) (by (with_reducible repeat (first|apply zzf|apply zzg|apply zze));refine zzi (cs:=#[.int .i64 a1,.int .i64 a2,.bool false,.slice none 0 0,.bool false,.slice none 0 0]) ?_ 2 _ rfl;refine zzi (cs:=#[.int .i64 a1,.int .i64 0,.bool false,.slice none 0 0,.bool false,.slice none 0 0]) ?_ 1 _ rfl;refine zzi (cs:=#[.int .i64 0,.int .i64 0,.bool false,.slice none 0 0,.bool false,.slice none 0 0]) ?_ 0 _ rfl;(with_reducible repeat (first|apply zzf|apply zzg|apply zze));exact b2.out) hb);have c6:=zzm (zzp zzh2 hb);clear a3 a6 b2 HB;have c7:=b9;have a3:=c0;have a6:=c1;have b2:=c2;have HB:=c6;clear b9 c0 c1 c2 c6;(try clear hb);(try clear hb2);(try clear hk);(try clear hi);(try clear ho0);obtain ⟨c3,c4,eo13⟩:=Kd.R_slice c7.out;subst eo13;obtain ⟨h2,h3,h4,h5,h6,h7,h8,h9,j4,j5,j6,j7⟩:=zzc6 b2.out;obtain ⟨j8,j9,k0,k1,k2,k3,k4,k5,k6,k7,k8,k9⟩:=zzc6 a3.out)|((with_reducible refine gate_callee (f:=58) rfl ?_);refine goesL_ (some 22) rfl rfl Try.func58 (by kernel_rfl) rfl #[.slice b6 b0.length b7] rfl zzM2 ?_;(with_reducible refine (Qz.calls k _ _ b0 c5 _ ?side1 ?side2 A3.out).mono ?_);(case side1=>exact Kd.C_below e5.out zzh2);(case side2=>exact e6.out);rintro e q3 ⟨q1,rfl,ho0,hb⟩;refine ⟨_,rfl,?_⟩;have b9:=zzm (Kd.R_elder' (by (with_reducible repeat (first|apply Kd.R_alloc|apply Kd.R_drewN|apply Kd.R_drew));exact (Kd.R_mono (Kd.R_far (p:=⟨a8,4,none⟩) (Kd.R_far (p:=⟨a8,3,none⟩) (Kd.R_types c7.out b2.out (by decide)) (fun _ hk=>hk.2) (.slice c3 b8.length c4)) (fun _ hk=>hk.2) (.bool a5)) (fun _ h_=>h_.1))) (Kd.R_base ho0) hb);have c0:=zzm (Kd.R_lower (Kd.R_new' ho0 (Kd.R_lt (by (with_reducible repeat (first|apply Kd.R_alloc|apply Kd.R_drewN|apply Kd.R_drew));exact (Kd.R_mono (Kd.R_far (p:=⟨a8,4,none⟩) (Kd.R_far (p:=⟨a8,3,none⟩) (Kd.R_types c7.out b2.out (by decide)) (fun _ hk=>hk.2) (.slice c3 b8.length c4)) (fun _ hk=>hk.2) (.bool a5)) (fun _ h_=>h_.1))))) (zzo zzh2));have c1:=zzm (zzh (g:=a7) (o:=.cells #[.int .i64 a1,.int .i64 a2,.bool a4,.slice b4 a9.length b5,.bool a5,.slice b6 b0.length b7] 72 (0,0)) (by (with_reducible repeat (first|apply zzf|apply zzg|apply zze));refine zzj ?_ b3.out _;(with_reducible repeat (first|apply zzf|apply zzg|apply zze));refine zzj ?_ b3.out _;(with_reducible repeat (first|apply zzf|apply zzg|apply zze));exact a3.out) hb);have c2:=zzm (zzh (g:=a0) (o:=.cells #[.int .i64 0,.int .i64 0,.bool false,.slice none 0 0,.bool false,.slice none 0 0] 42 (0,0)) (by (with_reducible repeat (first|apply zzf|apply zzg|apply zze));refine zzj ?_ b1.out _;(with_reducible repeat (first|apply zzf|apply zzg|apply zze));refine zzj ?_ b1.out _;(with_reducible repeat (first|apply zzf|apply zzg|apply zze));exact a6.out) hb);have c6:=zzm (zzh (g:=a8) (o:=.cells #[.int .i64 a1,.int .i64 a2,.bool a4,.slice c3 b8.length c4,.bool a5,.slice none 0 0] 42 (0,0)) (by (with_reducible repeat (first|apply zzf|apply zzg|apply zze));refine zzi (cs:=#[.int .i64 a1,.int .i64 a2,.bool a4,.slice c3 b8.length c4,.bool false,.slice none 0 0]) ?_ 4 _ rfl;refine zzi (cs:=#[.int .i64 a1,.int .i64 a2,.bool a4,.slice none 0 0,.bool false,.slice none 0 0]) ?_ 3 _ rfl;(with_reducible repeat (first|apply zzf|apply zzg|apply zze));exact b2.out) hb);have c8:=zzm (zzp zzh2 hb);clear c7 a3 a6 b2 HB;have c7:=b9;have e0:=c0;have a3:=c1;have a6:=c2;have b2:=c6;have HB:=c8;clear b9 c0 c1 c2 c6 c8;(try clear hb);(try clear hb2);(try clear hk);(try clear hi);(try clear ho0);obtain ⟨c9,d0,eo17⟩:=Kd.R_slice e0.out;subst eo17;obtain ⟨l2,l3,l4,l5,l6,l7,l8,l9,m0,m1,m2,m3⟩:=zzc6 b2.out;obtain ⟨m4,m5,m6,m7,m8,m9,n0,n1,n2,n3,n4,n5⟩:=zzc6 a6.out));refine bodyPost_ret (results_cell_row rfl _ _ a0 42 #[.int .i64 a1,.int .i64 a2,.bool a4,.slice c3 b8.length c4,.bool a5,.slice c9 c5.length d0] (0,0) _ rfl (by (with_reducible repeat (first|apply zzf|apply zzg|apply zze));refine zzi (cs:=#[.int .i64 a1,.int .i64 a2,.bool a4,.slice c3 b8.length c4,.bool a5,.slice none 0 0]) ?_ 5 _ rfl;refine zzi (cs:=#[.int .i64 a1,.int .i64 a2,.bool a4,.slice c3 b8.length c4,.bool false,.slice none 0 0]) ?_ 4 _ rfl;refine zzi (cs:=#[.int .i64 a1,.int .i64 a2,.bool a4,.slice none 0 0,.bool false,.slice none 0 0]) ?_ 3 _ rfl;refine zzi (cs:=#[.int .i64 a1,.int .i64 a2,.bool false,.slice none 0 0,.bool false,.slice none 0 0]) ?_ 2 _ rfl;refine zzi (cs:=#[.int .i64 a1,.int .i64 0,.bool false,.slice none 0 0,.bool false,.slice none 0 0]) ?_ 1 _ rfl;refine zzi (cs:=#[.int .i64 0,.int .i64 0,.bool false,.slice none 0 0,.bool false,.slice none 0 0]) ?_ 0 _ rfl;(with_reducible repeat (first|apply zzf|apply zzg|apply zze));refine zzj ?_ b1.out _;(with_reducible repeat (first|apply zzf|apply zzg|apply zze));exact a6.out) Try.underlying42 rfl (by kernel_rfl)) rfl ?_;exact ⟨_,_,zzR,by (with_reducible repeat (first|apply Kd.R_alloc|apply Kd.R_drewN|apply Kd.R_drew));exact Kd.R_mono (Kd.R_far (p:=⟨a0,5,none⟩) (Kd.R_far (p:=⟨a0,4,none⟩) (Kd.R_far (p:=⟨a0,3,none⟩) (Kd.R_far (p:=⟨a0,2,none⟩) (Kd.R_far (p:=⟨a0,1,none⟩) (Kd.R_far (p:=⟨a0,0,none⟩) (Kd.R_far (p:=⟨a8,5,none⟩) (Kd.R_types (Kd.R_types c7.out b2.out (by decide)) a6.out (by decide)) (fun _ hk=>hk.1.2) (.slice c9 c5.length d0)) (fun _ hk=>hk.2) (.int .i64 a1)) (fun _ hk=>hk.2) (.int .i64 a2)) (fun _ hk=>hk.2) (.bool a4)) (fun _ hk=>hk.2) (.slice c3 b8.length c4)) (fun _ hk=>hk.2) (.bool a5)) (fun _ hk=>hk.2) (.slice c9 c5.length d0)) (fun _ hk=>hk.1.1.2),by (with_reducible repeat (first|apply Kd.R_alloc|apply Kd.R_drewN|apply Kd.R_drew));exact Kd.R_mono (Kd.R_far (p:=⟨a0,5,none⟩) (Kd.R_far (p:=⟨a0,4,none⟩) (Kd.R_far (p:=⟨a0,3,none⟩) (Kd.R_far (p:=⟨a0,2,none⟩) (Kd.R_far (p:=⟨a0,1,none⟩) (Kd.R_far (p:=⟨a0,0,none⟩) (Kd.R_far (p:=⟨a8,5,none⟩) (Kd.R_types (Kd.R_types e0.out b2.out (by decide)) a6.out (by decide)) (fun _ hk=>hk.1.2) (.slice c9 c5.length d0)) (fun _ hk=>hk.2) (.int .i64 a1)) (fun _ hk=>hk.2) (.int .i64 a2)) (fun _ hk=>hk.2) (.bool a4)) (fun _ hk=>hk.2) (.slice c3 b8.length c4)) (fun _ hk=>hk.2) (.bool a5)) (fun _ hk=>hk.2) (.slice c9 c5.length d0)) (fun _ hk=>hk.1.1.2),zzh3⟩

set_option linter.unusedVariables false
set_option linter.unusedSimpArgs false
def Qq.l0:Nat→List (S72)→List (S42)→Int→Option ((List (S42)))
 | 0,_,_,_=>none
 | k+1,x0,x3,x4=>if x4 < (x0.length:Int) then (if 0≤x4 then ((Rt.f k ((Qp x0 x4).f0) ((Qp x0 x4).f1) ((Qp x0 x4).f2) ((Qp x0 x4).f3) ((Qp x0 x4).f4) ((Qp x0 x4).f5)).bind fun bt213=>(if x4 < (x3.length:Int) then (Qq.l0 k x0 (x3.set (x4:Int).toNat (⟨bt213.1,bt213.2.1,bt213.2.2.1,bt213.2.2.2.1,bt213.2.2.2.2.1,bt213.2.2.2.2.2⟩:S42)) (wrap64 (x4+1))) else (none))) else (none)) else (some x3)
def Qq.f (k:Nat) (l0:List (S72)):Option ((List (S42))):=if 0≤(l0.length:Int) then (if ((l0.length:Int):Int).toNat≤3518437208883 then (Qq.l0 k l0 (List.replicate ((l0.length:Int):Int).toNat z42) 0) else (none)) else (none)
set_option maxHeartbeats 8000000 in
theorem Qq.calls (k:Nat) (A0:Option Addr) (c0:Nat) (l0:List (S72)) (r:List (S42)) (w:World) (g6:Kd.C k72 w A0 l0.length l0) (g7:l0.length≤c0) (h:Qq.f k l0=some r) :
  Calls Try.prog 31 #[.slice A0 l0.length c0] w fun e w'=>∃ g8:Value,e = .returned (g8)∧Kd.S k42 42 w' w.heap.size (fun _=>True) g8 r∧Below w.heap.size w w':=by
 have hu72:=Try.underlying72;have hu42:=Try.underlying42;have h9:=zzm g6;have l2:=zzm g7;clear g6 g7;have HB:=zzm (Below.refl w.heap.size w);have H:(if 0≤(l0.length:Int) then (if ((l0.length:Int):Int).toNat≤3518437208883 then (Qq.l0 k l0 (List.replicate ((l0.length:Int):Int).toNat z42) 0) else (none)) else (none))=some r:=h;clear h;by_cases c2 : 0≤(l0.length:Int)
 ·
  rw [if_pos c2] at H;have h2:=eq_true c2;have h3:decide (0≤(l0.length:Int))=true:=decide_eq_true c2;clear c2;by_cases c3:((l0.length:Int):Int).toNat≤3518437208883
  ·
   rw [if_pos c3] at H;have h4:=eq_true c3;have h5:decide (((l0.length:Int):Int).toNat≤3518437208883)=true:=decide_eq_true c3;clear c3;obtain ⟨y209,hy209⟩:∃ y_:List (S42),y_=(List.replicate ((l0.length:Int):Int).toNat z42):=⟨_,rfl⟩;replace H:(Qq.l0 k l0 y209 0)=some r:=by first|(rw [hy209];with_reducible exact H)|(have H2_:=(Option.bind_some _ _).symm.trans H;rw [hy209];with_reducible exact H2_)|(have H2_:=(Option.bind_some _ _).symm.trans H;with_reducible exact H2_)|with_reducible exact H|(rw [hy209];exact H)|exact H
   have Ny209:=zzm hy209;clear hy209;have H':=zzm H;clear H;go_enter Try.func31,Try.ntmps31;go_wp2_with (first|((with_reducible refine gate_dst (N:=7) rfl ?_);refine Kd.S_make k42 _ 42 rfl (N:=7) rfl 24 _ _ rfl (l0.length:Int) rfl rfl Try.underlying24 (.agg #[(.int .i64 0),(.int .i64 0),(.bool false),(.slice none 0 0),(.bool false),(.slice none 0 0)]) 80 info42 rfl (by decide) (by omega) z42 (ok:=fun _=>True) (okp:=fun _=>True) (k42_mkM _ _ _ z42 (Kd.R_nil _ _ _ _ _) (Kd.R_nil _ _ _ _ _)) (fun _ hk=>hk) trivial (zzt) (Nat.le_trans (Nat.mul_le_mul_right _ (zzt:(l0.length:Int).toNat≤3518437208883)) (by omega)) (Below.refl _ _) (Nat.le_refl _) ?_;intro h6 w4 ho5 hb hg_ hnew_;clear hg_ hnew_;(first|rw [← Ny209.out] at ho5|(simp only [Int.reduceToNat] at ho5;rw [← Ny209.out] at ho5));have b2:=zzm (Kd.S_lower ho5 (zzo zzh1));have b3:=zzm (zzp zzh1 hb);clear HB;have g5:=b2;have HB:=b3;clear b2 b3 hb ho5));go_loopg [4] k (fun kq v4 w'=>∃ (a2:List (S42)) (a0:Int),v4 = .int .i64 a0∧Aside0 (Qq.l0 kq l0 a2 a0=some r)∧Aside0 (kq≤k)∧Aside0 (Kd.S k42 42 w' w.heap.size (fun _=>True) h6 a2)∧Aside0 (Below w.heap.size w w'))
   case atStart=>exact ⟨(y209),(0),(by first|rfl|(simp;done)|(simp [*];done)),H',⟨Nat.le_refl _⟩,⟨by (with_reducible repeat (first|apply Kd.S_alloc|apply Kd.S_drewN|apply Kd.S_drew));exact g5.out⟩,⟨zzh1⟩⟩
   case round=>
    clear H';try clear c2
    try clear h2
    try clear h3
    try clear p2
    try clear c3
    try clear h4
    try clear h5
    obtain ⟨a2,a0,rfl,HA,HK1,a1,HB⟩:=hrel;cases gk with
    | zero=>exact absurd HA.out (by simp [Qq.l0])
    | succ k1=>
     have H:=HA.out;clear HA;simp only [Qq.l0] at H;by_cases c6:a0 < (l0.length:Int)
     ·
      rw [if_pos c6] at H;have h7:decide (a0 < (l0.length:Int))=true:=decide_eq_true c6;clear c6;by_cases c7 : 0≤a0
      ·
       rw [if_pos c7] at H;have k6:decide (0≤a0)=true:=decide_eq_true c7;clear c7;replace H:=zzH H;obtain ⟨⟨a6,a7,a8,b4,a9,b5⟩,g9,H⟩:=H;replace H:(if a0 < (a2.length:Int) then (Qq.l0 k1 l0 (a2.set (a0:Int).toNat (⟨a6,a7,a8,b4,a9,b5⟩:S42)) (wrap64 (a0+1))) else (none))=some r:=H;have A8:=zzm g9;clear g9;by_cases c9:a0 < (a2.length:Int)
       ·
        rw [if_pos c9] at H;have k7:decide (a0 < (a2.length:Int))=true:=decide_eq_true c9;clear c9;obtain ⟨y223,hy223⟩:∃ y_:List (S42),y_=(a2.set (a0:Int).toNat (⟨a6,a7,a8,b4,a9,b5⟩:S42)):=⟨_,rfl⟩;replace H:(Qq.l0 k1 l0 y223 (wrap64 (a0+1)))=some r:=by first|(rw [hy223];with_reducible exact H)|(have H2_:=(Option.bind_some _ _).symm.trans H;rw [hy223];with_reducible exact H2_)|(have H2_:=(Option.bind_some _ _).symm.trans H;with_reducible exact H2_)|with_reducible exact H|(rw [hy223];exact H)|exact H
        have Ny223:=zzm hy223;clear hy223;have H':=zzm H;clear H;have d4 : 0≤(a0:Int):=zzt;have d5:a0 < (l0.length:Int):=zzt;obtain ⟨k5,e0,e1,e2,e3,h8,b6,b7,b8,b9,c1,c4,c5,c8,d0,d1⟩:=at_T72 h9.out a0 d4 d5;cases h8;replace b6:=zzx HB.out b6;replace b7:=zzx HB.out b7;replace b8:=zzx HB.out b8;replace b9:=zzx HB.out b9;replace c1:=zzx HB.out c1;replace c4:=zzx HB.out c4;have d6:=zzm c8;have d7:=zzm c5;clear c8 c5;have d8:=zzm d1;have d9:=zzm d0;clear d1 d0;replace d4:=eq_true d4;replace d5:=eq_true d5;go_wp2_with (first|((with_reducible refine gate_callee (f:=46) rfl ?_);refine goesL_ (some 20) rfl rfl Try.func46 (by kernel_rfl) rfl #[.agg #[.int .i64 ((Qp l0 a0).f0),.int .i64 ((Qp l0 a0).f1),.bool ((Qp l0 a0).f2),.slice e0 ((Qp l0 a0).f3).length e1,.bool ((Qp l0 a0).f4),.slice e2 ((Qp l0 a0).f5).length e3]] rfl zzM2 ?_;(with_reducible refine (Rt.calls k1 ((Qp l0 a0).f0) ((Qp l0 a0).f1) ((Qp l0 a0).f2) _ _ ((Qp l0 a0).f3) ((Qp l0 a0).f4) _ _ ((Qp l0 a0).f5) a6 a7 a8 b4 a9 b5 _ ?side1 ?side2 ?side3 ?side4 A8.out).mono ?_);(case side1=>exact zzcb d6 HB);(case side2=>exact d7.out);(case side3=>exact zzcb d8 HB);(case side4=>exact d9.out);rintro e a3 ⟨b0,b1,rfl,ho0,ho1,hb⟩;have os_v217:∀ (W_:World) (a_:Addr) (m_:Mode),(store a_ b0 m_).run Try.prog W_=stored Try.prog W_ a_ b0 m_:=fun W_ a_ m_=>run_store _ _ _ _ _ (by first|(obtain ⟨_,_,e_⟩:=Kd.R_slice ho0;rw [e_];rfl)|(obtain ⟨_,_,e_⟩:=Kd.S_slice ho0;rw [e_];rfl));have os_v221:∀ (W_:World) (a_:Addr) (m_:Mode),(store a_ b1 m_).run Try.prog W_=stored Try.prog W_ a_ b1 m_:=fun W_ a_ m_=>run_store _ _ _ _ _ (by first|(obtain ⟨_,_,e_⟩:=Kd.R_slice ho1;rw [e_];rfl)|(obtain ⟨_,_,e_⟩:=Kd.S_slice ho1;rw [e_];rfl));refine ⟨_,rfl,?_⟩;have b2:=zzm (Kd.S_mono (Kd.S_told (Kd.S_told (Kd.S_old (zzS a1.out) hb) (Kd.R_base ho0)) (Kd.R_base ho1)) (fun _ h_=>h_.1));have b3:=zzm (Kd.R_lower ho0 (zzo zzh1));have h0:=zzm (Kd.R_lower ho1 (zzo zzh1));have h1:=zzm (zzp zzh1 hb);clear a1 HB;have a1:=b2;have d2:=b3;have d3:=h0;have HB:=h1;clear b2 b3 h0 h1;(try clear hb);(try clear hb2);(try clear hk);(try clear hi);(try clear ho0);(try clear ho1);have e4 : 0≤(a0:Int):=zzt;have e5:(a0:Int) < ((a2.length:Int):Int):=zzt;obtain ⟨go10,e6,eo10,e7,gl10,cl10,HG10⟩:=Kd.S_form a1.out (by omega);(first|cases eo10|(injection eo10 with ea_ en_ ec_;(first|subst ea_|(injection ea_ with ea_;subst ea_));subst ec_;clear en_));have GB10:=zzm e7;have GG10:=zzm HG10;clear e7 gl10 HG10;obtain ⟨_,k8,hcl10,hM10,a4,hfr10,_,_⟩:=Kd.S_elem a1.out z42 (a0:Int) e4 e5;obtain ⟨ve10_3,ve10_5,rfl,j4,j5⟩:=k42_openM hM10;have j6:a3.cell? ⟨go10,(a0:Int).toNat * 6,none⟩=some (.int .i64 ((Qb a2 a0).f0)):=a4 0 _ rfl;have j7:a3.cell? ⟨go10,(a0:Int).toNat * 6+1,none⟩=some (.int .i64 ((Qb a2 a0).f1)):=a4 1 _ rfl;have j8:a3.cell? ⟨go10,(a0:Int).toNat * 6+2,none⟩=some (.bool ((Qb a2 a0).f2)):=a4 2 _ rfl;have j9:a3.cell? ⟨go10,(a0:Int).toNat * 6+3,none⟩=some (ve10_3):=a4 3 _ rfl;have k0:a3.cell? ⟨go10,(a0:Int).toNat * 6+4,none⟩=some (.bool ((Qb a2 a0).f4)):=a4 4 _ rfl;have k2:a3.cell? ⟨go10,(a0:Int).toNat * 6+5,none⟩=some (ve10_5):=a4 5 _ rfl;have hf10_0:a3.frozen? ⟨go10,(a0:Int).toNat * 6,none⟩=false:=hfr10 0;have hf10_1:a3.frozen? ⟨go10,(a0:Int).toNat * 6+1,none⟩=false:=hfr10 1;have hf10_2:a3.frozen? ⟨go10,(a0:Int).toNat * 6+2,none⟩=false:=hfr10 2;have hf10_3:a3.frozen? ⟨go10,(a0:Int).toNat * 6+3,none⟩=false:=hfr10 3;have hf10_4:a3.frozen? ⟨go10,(a0:Int).toNat * 6+4,none⟩=false:=hfr10 4;have hf10_5:a3.frozen? ⟨go10,(a0:Int).toNat * 6+5,none⟩=false:=hfr10 5;clear hcl10 a4 hfr10 hM10;replace e4:=eq_true e4;replace e5:=eq_true e5;have n_:=zzm (Kd.S_mono (ok':=(fun k_=>some k_≠(b0:Value).ownBlock∧some k_≠(b1:Value).ownBlock)) a1.out (fun k_ hk=>⟨hk.1.2,hk.2⟩));clear a1;have a1:=n_;clear n_;have HX12:=zzm (show Kd.S k42 42 a3 w.heap.size (fun k_=>((fun _=>True)) k_∧¬ ((fun k_=>some k_=(b0:Value).ownBlock∨some k_=(b1:Value).ownBlock)) k_) (.slice (some ⟨go10,0,none⟩) a2.length e6) a2 from (zzS (Kd.S_mono a1.out (fun k_ hk=>⟨trivial,fun e_=>e_.elim (fun h_=>hk.1 h_) (fun h_=>hk.2 h_)⟩))));obtain ⟨oki12,k9,hcl12,hM12,a5,hfr12,hoki12,hH12⟩:=Kd.S_elem HX12.out z42 (a0:Int) (zzt) (by have h_:(a0:Int) < ((a2.length:Int):Int):=zzt;first|exact h_|(have e_:=(Kd.S_reads' a1.out).1;omega)|simpa using h_);obtain ⟨ve12_3,ve12_5,rfl,k3,k4⟩:=k42_openM hM12;have HP12:=Kd.S_seg hH12 (zzt) (by have h_:(a0:Int) < ((a2.length:Int):Int):=zzt;first|exact h_|(have e_:=(Kd.S_reads' a1.out).1;omega)|simpa using h_) (seg:=[.int .i64 a6,.int .i64 a7,.bool a8,b0,.bool a9,b1]) (j:=0) (show 6≤6 from by decide) (x':=(⟨a6,a7,a8,b4,a9,b5⟩:S42)) (k42_mkM _ _ _ (⟨a6,a7,a8,b4,a9,b5⟩:S42) (Kd.R_mono (Kd.R_tight rfl (Kd.R_mono (ok':=fun k_=>((fun _=>True)) k_∧k_≠go10) (Kd.R_apart' (d2.out) (Kd.S_typed a1.out) (by decide)) (fun k_ hk=>⟨trivial,fun e_=>(hk.2) (by rw [e_];rfl)⟩))) (fun _ h_=>Or.inr (Or.inl h_))) (Kd.R_mono (Kd.R_tight rfl (Kd.R_mono (ok':=fun k_=>((fun _=>True)) k_∧k_≠go10) (Kd.R_apart' (d3.out) (Kd.S_typed a1.out) (by decide)) (fun k_ hk=>⟨trivial,fun e_=>(hk.2) (by rw [e_];rfl)⟩))) (fun _ h_=>Or.inr (Or.inr (h_))))) (fun _ hk=>hk) (fun k_ hk_=>hk_.elim (fun h_=>((Kd.R_mono (ok':=fun k_=>((fun _=>True)) k_∧k_≠go10) (Kd.R_apart' (d2.out) (Kd.S_typed a1.out) (by decide)) (fun k_ hk=>⟨trivial,fun e_=>(hk.2) (by rw [e_];rfl)⟩))).1 k_ h_.symm) (fun h_=>((Kd.R_mono (ok':=fun k_=>((fun _=>True)) k_∧k_≠go10) (Kd.R_apart' (d3.out) (Kd.S_typed a1.out) (by decide)) (fun k_ hk=>⟨trivial,fun e_=>(hk.2) (by rw [e_];rfl)⟩))).1 k_ h_.symm));have e8:=a5 0 _ rfl;(try simp only [show (k42).sz=6 from rfl,Nat.mul_one,Nat.add_zero] at e8);have hf12_0:=hfr12 0;(try simp only [show (k42).sz=6 from rfl,Nat.mul_one,Nat.add_zero] at hf12_0);have e9:=a5 1 _ rfl;(try simp only [show (k42).sz=6 from rfl,Nat.mul_one,Nat.add_zero] at e9);have hf12_1:=hfr12 1;(try simp only [show (k42).sz=6 from rfl,Nat.mul_one,Nat.add_zero] at hf12_1);have g0:=a5 2 _ rfl;(try simp only [show (k42).sz=6 from rfl,Nat.mul_one,Nat.add_zero] at g0);have hf12_2:=hfr12 2;(try simp only [show (k42).sz=6 from rfl,Nat.mul_one,Nat.add_zero] at hf12_2);have g1:=a5 3 _ rfl;(try simp only [show (k42).sz=6 from rfl,Nat.mul_one,Nat.add_zero] at g1);have hf12_3:=hfr12 3;(try simp only [show (k42).sz=6 from rfl,Nat.mul_one,Nat.add_zero] at hf12_3);have g2:=a5 4 _ rfl;(try simp only [show (k42).sz=6 from rfl,Nat.mul_one,Nat.add_zero] at g2);have hf12_4:=hfr12 4;(try simp only [show (k42).sz=6 from rfl,Nat.mul_one,Nat.add_zero] at hf12_4);have g3:=a5 5 _ rfl;(try simp only [show (k42).sz=6 from rfl,Nat.mul_one,Nat.add_zero] at g3);have hf12_5:=hfr12 5;(try simp only [show (k42).sz=6 from rfl,Nat.mul_one,Nat.add_zero] at hf12_5);clear hcl12 a5 hfr12 hM12 hoki12 hH12)|((with_reducible refine gate_store (t:=42) (p:=21) rfl ?_);refine store_event (t:=42) (p:=21) (v:=?vo_w13) (w1:=((((((a3.setCell ⟨go10,(a0:Int).toNat * 6,none⟩ (.int .i64 a6)).setCell ⟨go10,(a0:Int).toNat * 6+1,none⟩ (.int .i64 a7)).setCell ⟨go10,(a0:Int).toNat * 6+2,none⟩ (.bool a8)).setCell ⟨go10,(a0:Int).toNat * 6+3,none⟩ (b0)).setCell ⟨go10,(a0:Int).toNat * 6+4,none⟩ (.bool a9)).setCell ⟨go10,(a0:Int).toNat * 6+5,none⟩ (b1))) ?hg ?ho ?hn ?hr ?_;(case ho=>rfl);(case hg=>rfl);(case hn=>rfl);(case hr=>first|(go_simp;done)|(go_simp;rfl));intro g4 hw;have hg:a3.grownBy g4 (some go10):=(by rw [hw];exact HP12.2);have hp_:Kd.S k42 42 g4 w.heap.size (fun _=>True) (.slice (some ⟨go10,0,none⟩) a2.length e6) y223:=(by rw [hw,Ny223.out];exact HP12.1);clear HP12;have b2:=zzm (hp_);have b3:=zzm ((by rw [hw];exact zzd (zzd (zzd (zzd (zzd (zzd (HB.out) GB10.out) GB10.out) GB10.out) GB10.out) GB10.out) GB10.out:Below w.heap.size w g4));clear a1 HB d2 d3;have a1:=b2;have HB:=b3;clear b2 b3 hg hw hp_));go_roundg k1
        case measure=>have:=HK1.out;omega
        case rel=>exact ⟨(y223),(wrap64 (a0+1)),(by first|rfl|(simp;done)|(simp [*];done)),H',⟨by have:=HK1.out;omega⟩,⟨by (with_reducible repeat (first|apply Kd.S_alloc|apply Kd.S_drewN|apply Kd.S_drew));exact a1.out⟩,⟨zzh1⟩⟩
       ·
        rw [if_neg c9] at H;exact absurd H (by simp)
      ·
       rw [if_neg c7] at H;exact absurd H (by simp)
     ·
      rw [if_neg c6] at H;have h7:decide (a0 < (l0.length:Int))=false:=decide_eq_false c6;clear c6;obtain rfl:=Option.some.inj H;go_wp2;go_ret;exact ⟨_,zzR,by (with_reducible repeat (first|apply Kd.S_alloc|apply Kd.S_drewN|apply Kd.S_drew));exact a1.out,zzh1⟩
  ·
   rw [if_neg c3] at H;exact absurd H (by simp)
 ·
  rw [if_neg c2] at H;exact absurd H (by simp)
def Ry.f (k:Nat) (a0_0:Bool) (a0_1:Bool) (a0_2:Int) (a0_3:Int) (a0_4:Int) (l0_5:List (S72)):Option (Bool×Bool×Int×Int×Int×(List (S42))):=(Qq.f k l0_5).bind fun t227=>(some (a0_0,a0_1,a0_2,a0_3,a0_4,t227))
set_option maxHeartbeats 8000000 in
theorem Ry.calls (k:Nat) (a0:Bool) (a2:Bool) (a3:Int) (a5:Int) (a9:Int) (b2:Option Addr) (b3:Nat) (a8:List (S72)) (r1:Bool) (r2:Bool) (r3:Int) (r4:Int) (r5:Int) (r6:List (S42)) (w:World) (d0:Kd.C k72 w b2 a8.length a8) (d1:a8.length≤b3) (h:Ry.f k a0 a2 a3 a5 a9 a8=some (r1,r2,r3,r4,r5,r6)) :
  Calls Try.prog 20 #[.agg #[.bool a0,.bool a2,.int .i64 a3,.int .i64 a5,.int .i64 a9,.slice b2 a8.length b3]] w fun e w'=>∃ d5:Value,e = .returned (.agg #[.bool r1,.bool r2,.int .i64 r3,.int .i64 r4,.int .i64 r5,d5])∧Kd.S k42 42 w' w.heap.size (fun _=>True) d5 r6∧Below w.heap.size w w':=by
 have hu36:=Try.underlying36;have hu39:=Try.underlying39;have d3:=zzm d0;have d4:=zzm d1;clear d0 d1;have HB:=zzm (Below.refl w.heap.size w);have H:((Qq.f k a8).bind fun c0=>(some (a0,a2,a3,a5,a9,c0)))=some (r1,r2,r3,r4,r5,r6):=h;clear h;obtain ⟨c0,A2,H⟩:=zzG H;simp only [Option.some.injEq,Prod.mk.injEq] at H;obtain ⟨rfl,rfl,rfl,rfl,rfl,rfl⟩:=H;go_enter Try.func20,Try.ntmps20;go_wp2_with (first|((with_reducible refine gate_dst (N:=1) rfl ?_);refine box_event ?hg (N:=1) ?hd (cs:=#[.bool a0,.bool a2,.int .i64 a3,.int .i64 a5,.int .i64 a9,.slice b2 a8.length b3]) (t:=36) ?hr ?_;(case hd=>rfl);(case hg=>rfl);(case hr=>first|(go_simp;done)|(go_simp;rfl));intro a7 hg w3 hbox hb;have b5:=zzm (zzp zzh1 hb);have b6:=zzm (hbox);have b7:=zzm ((by rw [hg];exact (zzo zzh1):w.heap.size≤a7));have b8:=zzm ((by rw [hg];exact (zzo zzh1):w.heap.size≤a7));clear HB;have HB:=b5;have a4:=b6;have l3:=b7;have l4:=b8;clear b5 b6 b7 b8 hb hbox hg)|((with_reducible refine gate_dst (N:=2) rfl ?_);refine box_event ?hg (N:=2) ?hd (cs:=#[.bool false,.bool false,.int .i64 0,.int .i64 0,.int .i64 0,.slice none 0 0]) (t:=39) ?hr ?_;(case hd=>rfl);(case hg=>rfl);(case hr=>first|(go_simp;done)|(go_simp;rfl));intro a1 hg w4 hbox hb;have b5:=zzm (zzh (g:=a7) (o:=.cells #[.bool a0,.bool a2,.int .i64 a3,.int .i64 a5,.int .i64 a9,.slice b2 a8.length b3] 36 (0,0)) (zzE a4.out) hb);have b6:=zzm (zzp zzh2 hb);have b7:=zzm (hbox);have b8:=zzm ((by rw [hg];exact (zzo zzh2):w.heap.size≤a1));have c1:=zzm ((by rw [hg];exact (zzo zzh2):w.heap.size≤a1));have c2:=zzm ((by rw [hg];exact Nat.ne_of_lt (blk_lt (g:=a7) (o:=.cells #[.bool a0,.bool a2,.int .i64 a3,.int .i64 a5,.int .i64 a9,.slice b2 a8.length b3] 36 (0,0)) (zzE a4.out)):a7≠a1));have c3:=zzm ((by rw [hg];exact Nat.ne_of_gt (blk_lt (g:=a7) (o:=.cells #[.bool a0,.bool a2,.int .i64 a3,.int .i64 a5,.int .i64 a9,.slice b2 a8.length b3] 36 (0,0)) (zzE a4.out)):a1≠a7));clear a4 HB;have a4:=b5;have HB:=b6;have b1:=b7;have l5:=b8;have l6:=c1;have c4:=c2;have c5:=c3;clear b5 b6 b7 b8 c1 c2 c3 hb hbox hg)|((with_reducible refine gate_dst (N:=3) rfl ?_);refine box_event ?hg (N:=3) ?hd (cs:=#[.bool false,.bool false,.int .i64 0,.int .i64 0,.int .i64 0,.slice none 0 0]) (t:=39) ?hr ?_;(case hd=>rfl);(case hg=>rfl);(case hr=>first|(go_simp;done)|(go_simp;rfl));intro b4 hg w5 hbox hb;have b5:=zzm (zzh (g:=a7) (o:=.cells #[.bool a0,.bool a2,.int .i64 a3,.int .i64 a5,.int .i64 a9,.slice b2 a8.length b3] 36 (0,0)) (zzE a4.out) hb);have b6:=zzm (zzh (g:=a1) (o:=.cells #[.bool false,.bool false,.int .i64 0,.int .i64 0,.int .i64 0,.slice none 0 0] 39 (0,0)) (zzE b1.out) hb);have b7:=zzm (zzp zzh2 hb);have b8:=zzm (hbox);have c1:=zzm ((by rw [hg];exact (zzo zzh2):w.heap.size≤b4));have c2:=zzm ((by rw [hg];exact (zzo zzh2):w.heap.size≤b4));have c3:=zzm ((by rw [hg];exact Nat.ne_of_lt (blk_lt (g:=a7) (o:=.cells #[.bool a0,.bool a2,.int .i64 a3,.int .i64 a5,.int .i64 a9,.slice b2 a8.length b3] 36 (0,0)) (zzE a4.out)):a7≠b4));have d6:=zzm ((by rw [hg];exact Nat.ne_of_gt (blk_lt (g:=a7) (o:=.cells #[.bool a0,.bool a2,.int .i64 a3,.int .i64 a5,.int .i64 a9,.slice b2 a8.length b3] 36 (0,0)) (zzE a4.out)):b4≠a7));have d7:=zzm ((by rw [hg];exact Nat.ne_of_lt (blk_lt (g:=a1) (o:=.cells #[.bool false,.bool false,.int .i64 0,.int .i64 0,.int .i64 0,.slice none 0 0] 39 (0,0)) (zzE b1.out)):a1≠b4));have d8:=zzm ((by rw [hg];exact Nat.ne_of_gt (blk_lt (g:=a1) (o:=.cells #[.bool false,.bool false,.int .i64 0,.int .i64 0,.int .i64 0,.slice none 0 0] 39 (0,0)) (zzE b1.out)):b4≠a1));clear a4 b1 HB;have a4:=b5;have b1:=b6;have HB:=b7;have b9:=b8;have l7:=c1;have l8:=c2;have b0:=c3;have c6:=d6;have a6:=d7;have c7:=d8;clear b5 b6 b7 b8 c1 c2 c3 d6 d7 d8 hb hbox hg;have l9:=c4.out;have m0:=c5.out;have m1:=b0.out;have m2:=c6.out;obtain ⟨j9,k0,k1,k2,k3,k4,k5,k6,k7,k8,k9,l2⟩:=zzc6 a4.out;have m3:=c7.out;have m4:=a6.out;obtain ⟨d9,e0,e1,e2,e3,e4,e5,e6,e7,e8,e9,g0⟩:=zzc6 b9.out)|((with_reducible refine gate_callee (f:=31) rfl ?_);refine goesL_ (some 21) rfl rfl Try.func31 (by kernel_rfl) rfl #[.slice b2 a8.length b3] rfl zzM2 ?_;(with_reducible refine (Qq.calls k _ _ a8 c0 _ ?side1 ?side2 A2.out).mono ?_);(case side1=>exact Kd.C_below d3.out zzh2);(case side2=>exact d4.out);rintro e m6 ⟨m5,rfl,ho0,hb⟩;refine ⟨_,rfl,?_⟩;have b5:=zzm (Kd.S_lower ho0 (zzo zzh2));have b6:=zzm (zzh (g:=a7) (o:=.cells #[.bool a0,.bool a2,.int .i64 a3,.int .i64 a5,.int .i64 a9,.slice b2 a8.length b3] 36 (0,0)) (by (with_reducible repeat (first|apply zzf|apply zzg|apply zze));refine zzj ?_ b0.out _;(with_reducible repeat (first|apply zzf|apply zzg|apply zze));refine zzj ?_ b0.out _;(with_reducible repeat (first|apply zzf|apply zzg|apply zze));refine zzj ?_ b0.out _;(with_reducible repeat (first|apply zzf|apply zzg|apply zze));refine zzj ?_ b0.out _;(with_reducible repeat (first|apply zzf|apply zzg|apply zze));refine zzj ?_ b0.out _;(with_reducible repeat (first|apply zzf|apply zzg|apply zze));exact a4.out) hb);have b7:=zzm (zzh (g:=a1) (o:=.cells #[.bool false,.bool false,.int .i64 0,.int .i64 0,.int .i64 0,.slice none 0 0] 39 (0,0)) (by (with_reducible repeat (first|apply zzf|apply zzg|apply zze));refine zzj ?_ a6.out _;(with_reducible repeat (first|apply zzf|apply zzg|apply zze));refine zzj ?_ a6.out _;(with_reducible repeat (first|apply zzf|apply zzg|apply zze));refine zzj ?_ a6.out _;(with_reducible repeat (first|apply zzf|apply zzg|apply zze));refine zzj ?_ a6.out _;(with_reducible repeat (first|apply zzf|apply zzg|apply zze));refine zzj ?_ a6.out _;(with_reducible repeat (first|apply zzf|apply zzg|apply zze));exact b1.out) hb);have b8:=zzm (zzh (g:=b4) (o:=.cells #[.bool a0,.bool a2,.int .i64 a3,.int .i64 a5,.int .i64 a9,.slice none 0 0] 39 (0,0)) (by (with_reducible repeat (first|apply zzf|apply zzg|apply zze));refine zzi (cs:=#[.bool a0,.bool a2,.int .i64 a3,.int .i64 a5,.int .i64 0,.slice none 0 0]) ?_ 4 _ rfl;refine zzi (cs:=#[.bool a0,.bool a2,.int .i64 a3,.int .i64 0,.int .i64 0,.slice none 0 0]) ?_ 3 _ rfl;refine zzi (cs:=#[.bool a0,.bool a2,.int .i64 0,.int .i64 0,.int .i64 0,.slice none 0 0]) ?_ 2 _ rfl;refine zzi (cs:=#[.bool a0,.bool false,.int .i64 0,.int .i64 0,.int .i64 0,.slice none 0 0]) ?_ 1 _ rfl;refine zzi (cs:=#[.bool false,.bool false,.int .i64 0,.int .i64 0,.int .i64 0,.slice none 0 0]) ?_ 0 _ rfl;(with_reducible repeat (first|apply zzf|apply zzg|apply zze));exact b9.out) hb);have c1:=zzm (zzp zzh2 hb);clear a4 b1 b9 HB;have d2:=b5;have a4:=b6;have b1:=b7;have b9:=b8;have HB:=c1;clear b5 b6 b7 b8 c1;(try clear hb);(try clear hb2);(try clear hk);(try clear hi);(try clear ho0);obtain ⟨c8,c9,eo12⟩:=Kd.S_slice d2.out;subst eo12;obtain ⟨g1,g2,g3,g4,g5,g6,g7,g8,g9,h0,h1,h2⟩:=zzc6 b9.out;obtain ⟨h3,h4,h5,h6,h7,h8,h9,j4,j5,j6,j7,j8⟩:=zzc6 b1.out));refine bodyPost_ret (results_cell_row rfl _ _ a1 39 #[.bool a0,.bool a2,.int .i64 a3,.int .i64 a5,.int .i64 a9,.slice c8 c0.length c9] (0,0) _ rfl (by (with_reducible repeat (first|apply zzf|apply zzg|apply zze));refine zzi (cs:=#[.bool a0,.bool a2,.int .i64 a3,.int .i64 a5,.int .i64 a9,.slice none 0 0]) ?_ 5 _ rfl;refine zzi (cs:=#[.bool a0,.bool a2,.int .i64 a3,.int .i64 a5,.int .i64 0,.slice none 0 0]) ?_ 4 _ rfl;refine zzi (cs:=#[.bool a0,.bool a2,.int .i64 a3,.int .i64 0,.int .i64 0,.slice none 0 0]) ?_ 3 _ rfl;refine zzi (cs:=#[.bool a0,.bool a2,.int .i64 0,.int .i64 0,.int .i64 0,.slice none 0 0]) ?_ 2 _ rfl;refine zzi (cs:=#[.bool a0,.bool false,.int .i64 0,.int .i64 0,.int .i64 0,.slice none 0 0]) ?_ 1 _ rfl;refine zzi (cs:=#[.bool false,.bool false,.int .i64 0,.int .i64 0,.int .i64 0,.slice none 0 0]) ?_ 0 _ rfl;(with_reducible repeat (first|apply zzf|apply zzg|apply zze));refine zzj ?_ a6.out _;(with_reducible repeat (first|apply zzf|apply zzg|apply zze));exact b1.out) Try.underlying39 rfl (by kernel_rfl)) rfl ?_;exact ⟨_,zzR,by (with_reducible repeat (first|apply Kd.S_alloc|apply Kd.S_drewN|apply Kd.S_drew));exact Kd.S_mono (Kd.S_far (p:=⟨a1,5,none⟩) (Kd.S_far (p:=⟨a1,4,none⟩) (Kd.S_far (p:=⟨a1,3,none⟩) (Kd.S_far (p:=⟨a1,2,none⟩) (Kd.S_far (p:=⟨a1,1,none⟩) (Kd.S_far (p:=⟨a1,0,none⟩) (Kd.S_far (p:=⟨b4,5,none⟩) (Kd.S_types (Kd.S_types d2.out b9.out (by decide)) b1.out (by decide)) (fun _ hk=>hk.1.2) (.slice c8 c0.length c9)) (fun _ hk=>hk.2) (.bool a0)) (fun _ hk=>hk.2) (.bool a2)) (fun _ hk=>hk.2) (.int .i64 a3)) (fun _ hk=>hk.2) (.int .i64 a5)) (fun _ hk=>hk.2) (.int .i64 a9)) (fun _ hk=>hk.2) (.slice c8 c0.length c9)) (fun _ hk=>trivial),zzh3⟩

set_option linter.unusedVariables false
set_option linter.unusedSimpArgs false
def Qh.l0:Nat→List (S36)→List (S39)→Int→Option ((List (S39)))
 | 0,_,_,_=>none
 | k+1,x0,x3,x4=>if x4 < (x0.length:Int) then (if 0≤x4 then ((Ry.f k ((Qs x0 x4).f0) ((Qs x0 x4).f1) ((Qs x0 x4).f2) ((Qs x0 x4).f3) ((Qs x0 x4).f4) ((Qs x0 x4).f5)).bind fun bt234=>(if x4 < (x3.length:Int) then (Qh.l0 k x0 (x3.set (x4:Int).toNat (⟨bt234.1,bt234.2.1,bt234.2.2.1,bt234.2.2.2.1,bt234.2.2.2.2.1,bt234.2.2.2.2.2⟩:S39)) (wrap64 (x4+1))) else (none))) else (none)) else (some x3)
def Qh.f (k:Nat) (l0:List (S36)):Option ((List (S39))):=if 0≤(l0.length:Int) then (if ((l0.length:Int):Int).toNat≤5026338869833 then (Qh.l0 k l0 (List.replicate ((l0.length:Int):Int).toNat z39) 0) else (none)) else (none)
set_option maxHeartbeats 8000000 in
theorem Qh.calls (k:Nat) (A0:Option Addr) (c0:Nat) (l0:List (S36)) (r:List (S39)) (w:World) (e8:Kd.C k36 w A0 l0.length l0) (e9:l0.length≤c0) (h:Qh.f k l0=some r) :
  Calls Try.prog 6 #[.slice A0 l0.length c0] w fun e w'=>∃ g0:Value,e = .returned (g0)∧Kd.R k39 39 w' w.heap.size (fun _=>True) g0 r∧Below w.heap.size w w':=by
 have hu36:=Try.underlying36;have hu39:=Try.underlying39;have h0:=zzm e8;have j8:=zzm e9;clear e8 e9;have HB:=zzm (Below.refl w.heap.size w);have H:(if 0≤(l0.length:Int) then (if ((l0.length:Int):Int).toNat≤5026338869833 then (Qh.l0 k l0 (List.replicate ((l0.length:Int):Int).toNat z39) 0) else (none)) else (none))=some r:=h;clear h;by_cases c2 : 0≤(l0.length:Int)
 ·
  rw [if_pos c2] at H;have g3:=eq_true c2;have g4:decide (0≤(l0.length:Int))=true:=decide_eq_true c2;clear c2;by_cases c3:((l0.length:Int):Int).toNat≤5026338869833
  ·
   rw [if_pos c3] at H;have g5:=eq_true c3;have g6:decide (((l0.length:Int):Int).toNat≤5026338869833)=true:=decide_eq_true c3;clear c3;obtain ⟨y230,hy230⟩:∃ y_:List (S39),y_=(List.replicate ((l0.length:Int):Int).toNat z39):=⟨_,rfl⟩;replace H:(Qh.l0 k l0 y230 0)=some r:=by first|(rw [hy230];with_reducible exact H)|(have H2_:=(Option.bind_some _ _).symm.trans H;rw [hy230];with_reducible exact H2_)|(have H2_:=(Option.bind_some _ _).symm.trans H;with_reducible exact H2_)|with_reducible exact H|(rw [hy230];exact H)|exact H
   have Ny230:=zzm hy230;clear hy230;have H':=zzm H;clear H;go_enter Try.func6,Try.ntmps6;go_wp2_with (first|((with_reducible refine gate_dst (N:=7) rfl ?_);refine Kd.R_make k39 _ 39 rfl (N:=7) rfl 26 _ _ rfl (l0.length:Int) rfl rfl Try.underlying26 (.agg #[(.bool false),(.bool false),(.int .i64 0),(.int .i64 0),(.int .i64 0),(.slice none 0 0)]) 56 info39 rfl (by decide) (by omega) z39 (ok:=fun _=>True) (okp:=fun _=>True) (k39_mkM _ _ _ z39 (Kd.R_nil _ _ _ _ _)) (fun _ hk=>hk) trivial (zzt) (Nat.le_trans (Nat.mul_le_mul_right _ (zzt:(l0.length:Int).toNat≤5026338869833)) (by omega)) (Below.refl _ _) (Nat.le_refl _) ?_;intro g7 w4 ho5 hb hg_ hnew_;clear hg_ hnew_;(first|rw [← Ny230.out] at ho5|(simp only [Int.reduceToNat] at ho5;rw [← Ny230.out] at ho5));have b1:=zzm (Kd.R_lower ho5 (zzo zzh1));have b2:=zzm (zzp zzh1 hb);clear HB;have e7:=b1;have HB:=b2;clear b1 b2 hb ho5));go_loopg [4] k (fun kq v4 w'=>∃ (a1:List (S39)) (a0:Int),v4 = .int .i64 a0∧Aside0 (Qh.l0 kq l0 a1 a0=some r)∧Aside0 (kq≤k)∧Aside0 (Kd.R k39 39 w' w.heap.size (fun _=>True) g7 a1)∧Aside0 (Below w.heap.size w w'))
   case atStart=>exact ⟨(y230),(0),(by first|rfl|(simp;done)|(simp [*];done)),H',⟨Nat.le_refl _⟩,⟨by (with_reducible repeat (first|apply Kd.R_alloc|apply Kd.R_drewN|apply Kd.R_drew));exact e7.out⟩,⟨zzh1⟩⟩
   case round=>
    clear H';try clear c2
    try clear g3
    try clear g4
    try clear p2
    try clear c3
    try clear g5
    try clear g6
    obtain ⟨a1,a0,rfl,HA,HK1,a2,HB⟩:=hrel;cases gk with
    | zero=>exact absurd HA.out (by simp [Qh.l0])
    | succ k1=>
     have H:=HA.out;clear HA;simp only [Qh.l0] at H;by_cases c6:a0 < (l0.length:Int)
     ·
      rw [if_pos c6] at H;have g8:decide (a0 < (l0.length:Int))=true:=decide_eq_true c6;clear c6;by_cases c7 : 0≤a0
      ·
       rw [if_pos c7] at H;have j4:decide (0≤a0)=true:=decide_eq_true c7;clear c7;replace H:=zzH H;obtain ⟨⟨a6,a7,a8,a9,b0,b3⟩,g1,H⟩:=H;replace H:(if a0 < (a1.length:Int) then (Qh.l0 k1 l0 (a1.set (a0:Int).toNat (⟨a6,a7,a8,a9,b0,b3⟩:S39)) (wrap64 (a0+1))) else (none))=some r:=H;have A8:=zzm g1;clear g1;by_cases c9:a0 < (a1.length:Int)
       ·
        rw [if_pos c9] at H;have j5:decide (a0 < (a1.length:Int))=true:=decide_eq_true c9;clear c9;obtain ⟨y242,hy242⟩:∃ y_:List (S39),y_=(a1.set (a0:Int).toNat (⟨a6,a7,a8,a9,b0,b3⟩:S39)):=⟨_,rfl⟩;replace H:(Qh.l0 k1 l0 y242 (wrap64 (a0+1)))=some r:=by first|(rw [hy242];with_reducible exact H)|(have H2_:=(Option.bind_some _ _).symm.trans H;rw [hy242];with_reducible exact H2_)|(have H2_:=(Option.bind_some _ _).symm.trans H;with_reducible exact H2_)|with_reducible exact H|(rw [hy242];exact H)|exact H
        have Ny242:=zzm hy242;clear hy242;have H':=zzm H;clear H;have c8 : 0≤(a0:Int):=zzt;have d0:a0 < (l0.length:Int):=zzt;obtain ⟨h9,d4,d5,g9,b5,b6,b7,b8,b9,c1,c4,c5⟩:=at_T36 h0.out a0 c8 d0;cases g9;replace b5:=zzx HB.out b5;replace b6:=zzx HB.out b6;replace b7:=zzx HB.out b7;replace b8:=zzx HB.out b8;replace b9:=zzx HB.out b9;replace c1:=zzx HB.out c1;have d2:=zzm c5;have d3:=zzm c4;clear c5 c4;replace c8:=eq_true c8;replace d0:=eq_true d0;go_wp2_with (first|((with_reducible refine gate_callee (f:=20) rfl ?_);refine goesL_ (some 20) rfl rfl Try.func20 (by kernel_rfl) rfl #[.agg #[.bool ((Qs l0 a0).f0),.bool ((Qs l0 a0).f1),.int .i64 ((Qs l0 a0).f2),.int .i64 ((Qs l0 a0).f3),.int .i64 ((Qs l0 a0).f4),.slice d4 ((Qs l0 a0).f5).length d5]] rfl zzM2 ?_;(with_reducible refine (Ry.calls k1 ((Qs l0 a0).f0) ((Qs l0 a0).f1) ((Qs l0 a0).f2) ((Qs l0 a0).f3) ((Qs l0 a0).f4) _ _ ((Qs l0 a0).f5) a6 a7 a8 a9 b0 b3 _ ?side1 ?side2 A8.out).mono ?_);(case side1=>exact zzcb d2 HB);(case side2=>exact d3.out);rintro e a3 ⟨b4,rfl,ho0,hb⟩;have os_v240:∀ (W_:World) (a_:Addr) (m_:Mode),(store a_ b4 m_).run Try.prog W_=stored Try.prog W_ a_ b4 m_:=fun W_ a_ m_=>run_store _ _ _ _ _ (by first|(obtain ⟨_,_,e_⟩:=Kd.R_slice ho0;rw [e_];rfl)|(obtain ⟨_,_,e_⟩:=Kd.S_slice ho0;rw [e_];rfl));refine ⟨_,rfl,?_⟩;have b1:=zzm (Kd.R_elder' (by (with_reducible repeat (first|apply Kd.R_alloc|apply Kd.R_drewN|apply Kd.R_drew));exact a2.out) (Kd.S_base ho0) hb);have b2:=zzm (Kd.S_lower ho0 (zzo zzh1));have g2:=zzm (zzp zzh1 hb);clear a2 HB;have a2:=b1;have d1:=b2;have HB:=g2;clear b1 b2 g2;(try clear hb);(try clear hb2);(try clear hk);(try clear hi);(try clear ho0);have d6 : 0≤(a0:Int):=zzt;have d7:(a0:Int) < ((a1.length:Int):Int):=zzt;obtain ⟨go10,d8,eo10,d9,gl10,cl10,HG10⟩:=Kd.R_form a2.out (by omega);(first|cases eo10|(injection eo10 with ea_ en_ ec_;(first|subst ea_|(injection ea_ with ea_;subst ea_));subst ec_;clear en_));have GB10:=zzm d9;have GG10:=zzm HG10;clear d9 gl10 HG10;obtain ⟨j6,hcl10,hM10,a5,hfr10⟩:=Kd.R_elem a2.out z39 (a0:Int) d6 d7;obtain ⟨ve10_5,rfl,h1⟩:=k39_openM hM10;have h2:a3.cell? ⟨go10,(a0:Int).toNat * 6,none⟩=some (.bool ((Qa a1 a0).f0)):=a5 0 _ rfl;have h3:a3.cell? ⟨go10,(a0:Int).toNat * 6+1,none⟩=some (.bool ((Qa a1 a0).f1)):=a5 1 _ rfl;have h4:a3.cell? ⟨go10,(a0:Int).toNat * 6+2,none⟩=some (.int .i64 ((Qa a1 a0).f2)):=a5 2 _ rfl;have h5:a3.cell? ⟨go10,(a0:Int).toNat * 6+3,none⟩=some (.int .i64 ((Qa a1 a0).f3)):=a5 3 _ rfl;have h6:a3.cell? ⟨go10,(a0:Int).toNat * 6+4,none⟩=some (.int .i64 ((Qa a1 a0).f4)):=a5 4 _ rfl;have h7:a3.cell? ⟨go10,(a0:Int).toNat * 6+5,none⟩=some (ve10_5):=a5 5 _ rfl;have hf10_0:a3.frozen? ⟨go10,(a0:Int).toNat * 6,none⟩=false:=hfr10 0;have hf10_1:a3.frozen? ⟨go10,(a0:Int).toNat * 6+1,none⟩=false:=hfr10 1;have hf10_2:a3.frozen? ⟨go10,(a0:Int).toNat * 6+2,none⟩=false:=hfr10 2;have hf10_3:a3.frozen? ⟨go10,(a0:Int).toNat * 6+3,none⟩=false:=hfr10 3;have hf10_4:a3.frozen? ⟨go10,(a0:Int).toNat * 6+4,none⟩=false:=hfr10 4;have hf10_5:a3.frozen? ⟨go10,(a0:Int).toNat * 6+5,none⟩=false:=hfr10 5;clear hcl10 a5 hfr10 hM10;replace d6:=eq_true d6;replace d7:=eq_true d7;have n_:=zzm (Kd.R_mono (ok':=(fun k_=>some k_≠(b4:Value).ownBlock)) a2.out (fun k_ hk=>hk.2));clear a2;have a2:=n_;clear n_;have HX12:=zzm (show Kd.R k39 39 a3 w.heap.size (fun _=>True) (.slice (some ⟨go10,0,none⟩) a1.length d8) a1 from (by (with_reducible repeat (first|apply Kd.R_alloc|apply Kd.R_drewN|apply Kd.R_drew));exact Kd.R_mono a2.out (fun _ hk=>trivial)));obtain ⟨j7,hcl12,hM12,a4,hfr12⟩:=Kd.R_elem HX12.out z39 (a0:Int) (zzt) (by have h_:(a0:Int) < ((a1.length:Int):Int):=zzt;first|exact h_|(have e_:=(Kd.R_reads' a2.out).1;omega)|simpa using h_);obtain ⟨ve12_5,rfl,h8⟩:=k39_openM hM12;have HP12:=Kd.R_seg HX12.out (a0:Int) (zzt) (by have h_:(a0:Int) < ((a1.length:Int):Int):=zzt;first|exact h_|(have e_:=(Kd.R_reads' a2.out).1;omega)|simpa using h_) (seg:=[.bool a6,.bool a7,.int .i64 a8,.int .i64 a9,.int .i64 b0,b4]) (j:=0) hcl12 a4 (show 6≤6 from by decide) (x':=(⟨a6,a7,a8,a9,b0,b3⟩:S39)) (k39_mkM _ _ _ (⟨a6,a7,a8,a9,b0,b3⟩:S39) (Kd.R_mono (Kd.R_apart' ((Kd.S_R d1.out)) (Kd.R_typed a2.out) (by decide)) (fun k_ hk=>⟨trivial,fun e_=>(hk.2) (by rw [e_];rfl)⟩))) (fun _ hk=>hk);have e0:=a4 0 _ rfl;(try simp only [show (k39).sz=6 from rfl,Nat.mul_one,Nat.add_zero] at e0);have hf12_0:=hfr12 0;(try simp only [show (k39).sz=6 from rfl,Nat.mul_one,Nat.add_zero] at hf12_0);have e1:=a4 1 _ rfl;(try simp only [show (k39).sz=6 from rfl,Nat.mul_one,Nat.add_zero] at e1);have hf12_1:=hfr12 1;(try simp only [show (k39).sz=6 from rfl,Nat.mul_one,Nat.add_zero] at hf12_1);have e2:=a4 2 _ rfl;(try simp only [show (k39).sz=6 from rfl,Nat.mul_one,Nat.add_zero] at e2);have hf12_2:=hfr12 2;(try simp only [show (k39).sz=6 from rfl,Nat.mul_one,Nat.add_zero] at hf12_2);have e3:=a4 3 _ rfl;(try simp only [show (k39).sz=6 from rfl,Nat.mul_one,Nat.add_zero] at e3);have hf12_3:=hfr12 3;(try simp only [show (k39).sz=6 from rfl,Nat.mul_one,Nat.add_zero] at hf12_3);have e4:=a4 4 _ rfl;(try simp only [show (k39).sz=6 from rfl,Nat.mul_one,Nat.add_zero] at e4);have hf12_4:=hfr12 4;(try simp only [show (k39).sz=6 from rfl,Nat.mul_one,Nat.add_zero] at hf12_4);have e5:=a4 5 _ rfl;(try simp only [show (k39).sz=6 from rfl,Nat.mul_one,Nat.add_zero] at e5);have hf12_5:=hfr12 5;(try simp only [show (k39).sz=6 from rfl,Nat.mul_one,Nat.add_zero] at hf12_5);clear hcl12 a4 hfr12 hM12)|((with_reducible refine gate_store (t:=39) (p:=21) rfl ?_);refine store_event (t:=39) (p:=21) (v:=?vo_w13) (w1:=((((((a3.setCell ⟨go10,(a0:Int).toNat * 6,none⟩ (.bool a6)).setCell ⟨go10,(a0:Int).toNat * 6+1,none⟩ (.bool a7)).setCell ⟨go10,(a0:Int).toNat * 6+2,none⟩ (.int .i64 a8)).setCell ⟨go10,(a0:Int).toNat * 6+3,none⟩ (.int .i64 a9)).setCell ⟨go10,(a0:Int).toNat * 6+4,none⟩ (.int .i64 b0)).setCell ⟨go10,(a0:Int).toNat * 6+5,none⟩ (b4))) ?hg ?ho ?hn ?hr ?_;(case ho=>rfl);(case hg=>rfl);(case hn=>rfl);(case hr=>first|(go_simp;done)|(go_simp;rfl));intro e6 hw;have hg:a3.grownBy e6 (some go10):=(by rw [hw];exact HP12.2);have hp_:Kd.R k39 39 e6 w.heap.size (fun _=>True) (.slice (some ⟨go10,0,none⟩) a1.length d8) y242:=(by rw [hw,Ny242.out];exact HP12.1);clear HP12;have b1:=zzm (hp_);have b2:=zzm ((by rw [hw];exact zzd (zzd (zzd (zzd (zzd (zzd (HB.out) GB10.out) GB10.out) GB10.out) GB10.out) GB10.out) GB10.out:Below w.heap.size w e6));clear a2 HB d1;have a2:=b1;have HB:=b2;clear b1 b2 hg hw hp_));go_roundg k1
        case measure=>have:=HK1.out;omega
        case rel=>exact ⟨(y242),(wrap64 (a0+1)),(by first|rfl|(simp;done)|(simp [*];done)),H',⟨by have:=HK1.out;omega⟩,⟨by (with_reducible repeat (first|apply Kd.R_alloc|apply Kd.R_drewN|apply Kd.R_drew));exact a2.out⟩,⟨zzh1⟩⟩
       ·
        rw [if_neg c9] at H;exact absurd H (by simp)
      ·
       rw [if_neg c7] at H;exact absurd H (by simp)
     ·
      rw [if_neg c6] at H;have g8:decide (a0 < (l0.length:Int))=false:=decide_eq_false c6;clear c6;obtain rfl:=Option.some.inj H;go_wp2;go_ret;exact ⟨_,zzR,by (with_reducible repeat (first|apply Kd.R_alloc|apply Kd.R_drewN|apply Kd.R_drew));exact a2.out,zzh1⟩
  ·
   rw [if_neg c3] at H;exact absurd H (by simp)
 ·
  rw [if_neg c2] at H;exact absurd H (by simp)
def Qr.f (a0:Int) (a1:Int) (a2:Int):Option (Bool):=if a0 ≥ a1 then (some (decide (a0≤a2))) else (some false)
set_option maxHeartbeats 8000000 in
theorem Qr.calls (a0:Int) (a1:Int) (a2:Int) (r:Bool) (w:World) (h:Qr.f a0 a1 a2=some r) :
  Calls Try.prog 48 #[.int .i64 a0,.int .i64 a1,.int .i64 a2] w fun e w'=>e = .returned (.bool r)∧Drawn0 w w':=by
 have H:(if a0 ≥ a1 then (some (decide (a0≤a2))) else (some false))=some r:=h;clear h;by_cases c4:a0 ≥ a1
 ·
  rw [if_pos c4] at H;have c4b0:decide (a1≤a0)=true:=decide_eq_true c4;clear c4;obtain rfl:=Option.some.inj H;go_enter Try.func48,Try.ntmps48;go_wp2;go_ret;exact ⟨by first|rfl|(simp;done)|(simp [*];done),by repeat (first|exact Drawn0.refl _|apply Drawn0.step)⟩
 ·
  rw [if_neg c4] at H;have c4b0:decide (a1≤a0)=false:=decide_eq_false c4;clear c4;obtain rfl:=Option.some.inj H;go_enter Try.func48,Try.ntmps48;go_wp2;go_ret;exact ⟨by first|rfl|(simp;done)|(simp [*];done),by repeat (first|exact Drawn0.refl _|apply Drawn0.step)⟩
def Rl.f (a0:Int):Option (Bool):=(Qr.f a0 0 254).bind fun t243=>(some t243)
set_option maxHeartbeats 8000000 in
theorem Rl.calls (a0:Int) (r:Bool) (w:World) (h:Rl.f a0=some r) :
  Calls Try.prog 47 #[.int .i64 a0] w fun e w'=>e = .returned (.bool r)∧Drawn0 w w':=by
 have H:((Qr.f a0 0 254).bind fun a1=>(some a1))=some r:=h;clear h;obtain ⟨a1,A2,H⟩:=zzG H;obtain rfl:=Option.some.inj H;go_enter Try.func47,Try.ntmps47;go_wp2_with (first|((with_reducible refine gate_callee (f:=48) rfl ?_);refine goesL_ (some 4) rfl rfl Try.func48 (by kernel_rfl) rfl #[.int .i64 a0,.int .i64 0,.int .i64 254] rfl zzM2 ?_;(with_reducible refine (Qr.calls a0 0 254 a1 _ A2.out).mono ?_);rintro e w' ⟨rfl,⟨nd,rfl⟩⟩;refine ⟨_,rfl,?_⟩));go_ret;exact ⟨by first|rfl|(simp;done)|(simp [*];done),by repeat (first|exact Drawn0.refl _|apply Drawn0.step)⟩

set_option linter.unusedVariables false
set_option linter.unusedSimpArgs false
section
variable {P:Program} {ops:Array Oper} {rest:List Oper} {o:Oper} {a:Act} {W:World} {Q:Exit→Act→World→Prop} {Kc:Act→World→Prop} {α:Type}
theorem run_make0 (t:TypeId) (x y:Operand) (ho:o.op = .makeSlice t x y) (n:Int) (hx:a.eval x = .int .i64 0) (hy:a.eval y = .int .i64 n) {e sz:Nat}
  (ht:P.underlying t=some (.slice e)) (z:Value) (bytes:Nat) (hinfo:(P.info? e).map (fun i=>(i.zero,i.size,i.bytes))=some (some z,sz,bytes)) (hb0 : 0 < bytes) (h0 : 0≤n) (hl:n.toNat * bytes≤281474976710656) :
  (execOp a.eval o).run P W = .ok (.value (.slice (some ⟨W.heap.size,0,none⟩) 0 n.toNat)) (W.alloc (.cells (madeCells z.cells (n.toNat * sz)) e)):=by
 obtain ⟨m,rfl⟩:=Int.eq_ofNat_of_zero_le h0;simp only [Int.toNat_natCast] at hl ⊢;obtain ⟨i0,hi,hzz⟩:=Option.map_eq_some_iff.1 hinfo;simp only [Prod.mk.injEq] at hzz;obtain ⟨hz0,hz1,hz2⟩:=hzz;have hm:m≤281474976710656:=Nat.le_trans (Nat.le_mul_of_pos_right _ hb0) hl;have hr:=run_make (P:=P) W t e i0 z ht hi hz0 .i64 .i64 0 (m:Int) (by omega) (by omega)
  (by
   have h3:((i0.bytes * m:Nat):Int)≤281474976710656:=by rw [hz2,Nat.mul_comm];omega
   rwa [Int.natCast_mul] at h3) (by omega)
 simp only [Int.toNat_natCast,Int.toNat_zero] at hr;rw [hz1] at hr;simp [execOp,ho,hx,hy,hr]
theorem made0_R (d:Kd α) (e base m:Nat) (z:Value) {ok:Nat→Prop} (hfresh:ok W.heap.size) (hbase:base≤W.heap.size) (hm:m≤9223372036854775807) :
  d.R e (W.alloc (.cells (madeCells z.cells (m * d.sz)) e)) base ok (.slice (some ⟨W.heap.size,0,none⟩) 0 m) []:=by
 refine ⟨fun k hk=>?_,[],?_,by simp,fun j p hj=>by simp at hj⟩
 ·
  have:W.heap.size=k:=by simpa [Value.ownBlock] using hk
  subst this;exact hfresh
 ·
  have h2:=own_take (World.ownsRow_lit (base:=base) (e:=e) (size:=d.sz) W (madeCells z.cells (m * d.sz)) m hbase (by simpa [maxLen] using hm) (by simp [size_madeCells])) (Nat.zero_le m);simpa using h2
theorem rmake0_R (d:Kd α) {w0:World} (base e:Nat) (hgd:o.guard=none) {N:Tmp} (_hd:o.dst=some N) (t:TypeId) (x y:Operand) (ho:o.op = .makeSlice t x y) (n:Int) (hx:a.eval x = .int .i64 0) (hy:a.eval y = .int .i64 n)
  (ht:P.underlying t=some (.slice e)) (z:Value) (bytes:Nat) (hinfo:(P.info? e).map (fun i=>(i.zero,i.size,i.bytes))=some (some z,d.sz,bytes)) (hs0 : 0 < d.sz) (hb0 : 0 < bytes)
  {ok:Nat→Prop} (hfresh:ok W.heap.size) (h0 : 0≤n) (hl:n.toNat * bytes≤281474976710656) (HB:Below base w0 W) (hbase:base≤W.heap.size)
  (h:∀ v1 w1,d.R e w1 base ok v1 []→Below base w0 w1→W.grownBy w1 none→(∃ b,v1.ownBlock=some b∧W.heap.size≤b)→wpList P ops Q rest (a.put o.dst v1) w1):wpList P ops Q (o::rest) a W:=
 Kd.event_run hgd (run_make0 t x y ho n hx hy ht z bytes hinfo hb0 h0 hl) (h _ _ (made0_R d e base _ z hfresh hbase (by have:=Nat.le_mul_of_pos_right n.toNat hb0;omega)) (HB.alloc hbase _) (World.grownBy_alloc W _ none) ⟨W.heap.size,by simp [Value.ownBlock],Nat.le_refl _⟩)
theorem rmake0_S (d:Kd α) {w0:World} (base e:Nat) (hgd:o.guard=none) {N:Tmp} (_hd:o.dst=some N) (t:TypeId) (x y:Operand) (ho:o.op = .makeSlice t x y) (n:Int) (hx:a.eval x = .int .i64 0) (hy:a.eval y = .int .i64 n)
  (ht:P.underlying t=some (.slice e)) (z:Value) (bytes:Nat) (hinfo:(P.info? e).map (fun i=>(i.zero,i.size,i.bytes))=some (some z,d.sz,bytes)) (hs0 : 0 < d.sz) (hb0 : 0 < bytes)
  {ok:Nat→Prop} (hfresh:ok W.heap.size) (h0 : 0≤n) (hl:n.toNat * bytes≤281474976710656) (HB:Below base w0 W) (hbase:base≤W.heap.size)
  (h:∀ v1 w1,Kd.S d e w1 base ok v1 []→Below base w0 w1→W.grownBy w1 none→(∃ b,v1.ownBlock=some b∧W.heap.size≤b)→wpList P ops Q rest (a.put o.dst v1) w1):wpList P ops Q (o::rest) a W:=
 rmake0_R (Kd.bare d) base e hgd _hd t x y ho n hx hy ht z bytes hinfo hs0 hb0 hfresh h0 hl HB hbase (fun v1 w1 hr=>h v1 w1 (Kd.S_bare (xs:=[]) hr))
end
def slices_Clone_int_int.f (l0:List Int):Option (List Int):=if l0.length < 8796093022208 then some l0 else none
set_option maxHeartbeats 8000000 in
theorem slices_Clone_int_int.calls (A0:Option Addr) (c0:Nat) (l0:List (Int)) (r:List (Int)) (w:World) (a0:Kd.C (Kd.int .i64) w A0 l0.length l0) (a1:l0.length≤c0) (h:slices_Clone_int_int.f l0=some r) :
  Calls Try.prog 55 #[.slice A0 l0.length c0] w fun e w'=>∃ a2:Value,e = .returned (a2)∧Kd.R (Kd.int .i64) 3 w' w.heap.size (fun _=>True) a2 r∧Below w.heap.size w w':=by
 unfold slices_Clone_int_int.f at h;by_cases hlt:l0.length < 8796093022208
 ·
  rw [if_pos hlt] at h;obtain rfl:=Option.some.inj h;have LM:=zzm hlt;clear hlt h;have a3:=zzm a0;have a7:=zzm a1;clear a0 a1;have HB:=zzm (Below.refl w.heap.size w);have a8:∀ (w:World) (a:Option Addr) (n c n' c' : Nat),(binOp .eql 40 (.slice a n c) (.slice none n' c')).run Try.prog w = .ok (.bool a.isNone) w:=fun w a n c n' c'=>Lib.run_eql_slice_nil w _ _ a n c n' c' Try.underlying40;cases A0 with
  | none=>
   have hl:l0 = []:=by
    cases l0 with
    | nil=>rfl
    | cons a l=>
     obtain ⟨ad,e,_⟩:=a3.out.2.2 (by simp);cases e
   subst hl;go_enter Try.func55,Try.ntmps55;go_wp2;go_ret;exact ⟨_,rfl,Kd.R_nil _ _ _ _ _,HB.out⟩
  | some ad=>
   obtain ⟨y,hy⟩:∃ y:List Int,y = []:=⟨_,rfl⟩;have Ny:=zzm hy;clear hy;go_enter Try.func55,Try.ntmps55;go_wp2_with (first
    | ((with_reducible refine gate_dst (N:=5) rfl ?_);refine Kd.R_lit (Kd.int .i64) _ 3 ?hg (N:=5) ?hd (xs:=([]:List (Int))) (inner:=[]) (ok:=fun _=>True) (okp:=fun _=>True) ?hr ?hp (fun _ hk=>hk) trivial (Below.refl _ _) (Nat.le_refl _) (by simp) ?_;(case hd=>rfl);(case hg=>rfl);(case hr=>first|(go_simp;done)|(go_simp;rfl));(case hp=>exact (Reps.none _ _));intro v1 w1 ho1 hb hg_ hnew_;clear hg_ hnew_;rw [← Ny.out] at ho1;have a4:=zzm (zzp HB.out hb);have a5:=zzm ho1;clear HB;have HB:=a4;have HO:=a5;clear a4 a5 hb ho1)
    | ((with_reducible refine gate_dst (N:=7) rfl ?_);refine Kd.R_append_rows (Kd.int .i64) (w0:=w) w.heap.size rfl (.tmp 5) (.tmp 6) 40 3 (.int .i64 0) 8 rfl Try.underlying40 info3 rfl (by decide) (by omega) v1 y l0 _ _ _ (fun _=>True) (fun _=>False) rfl rfl ?aO ?aR (fun _ _ h=>h) (fun _ h=>h.elim) ?aF ?aB ?aS ?aL ?_;(case aR=>exact (Kd.C_below a3.out HB.out));(case aB=>exact HB.out);(case aF=>exact fun _ _=>trivial);(case aO=>exact HO.out);(case aS=>exact HB.out.size);(case aL=>have:=LM.out;rw [Ny.out];simp only [List.length_nil];omega);intro v2 w2 ho2 hb2 hg2 hat2;rw [Ny.out,List.nil_append] at ho2;have a6:=zzm ho2;have HB2:=zzm hb2;clear ho2 hb2 hg2 hat2))
   go_ret;exact ⟨_,rfl,a6.out,HB2.out⟩
 ·
  rw [if_neg hlt] at h;cases h
def Rk.f (a0_0:Int) (a0_1:Int) (a0_2:Bool) (l0_3:List Int) (a0_4:Bool) (l0_5:List Int):Option (Int×Int×Bool×List Int×Bool×List Int):=(slices_Clone_int_int.f l0_3).bind fun t282=>((slices_Clone_int_int.f l0_5).bind fun t285=>(some (a0_0,a0_1,a0_2,t282,a0_4,t285)))
set_option maxHeartbeats 8000000 in
theorem Rk.calls (a2:Int) (a3:Int) (a5:Bool) (b3:Option Addr) (b4:Nat) (a7:List Int) (a8:Bool) (b1:Option Addr) (b2:Nat) (a6:List Int) (r1:Int) (r2:Int) (r3:Bool) (r4:List Int) (r5:Bool) (r6:List Int) (w:World) (c8:Kd.C (Kd.int .i64) w b3 a7.length a7) (c9:a7.length≤b4) (d0:Kd.C (Kd.int .i64) w b1 a6.length a6) (d1:a6.length≤b2) (h:Rk.f a2 a3 a5 a7 a8 a6=some (r1,r2,r3,r4,r5,r6)) :
  Calls Try.prog 41 #[.agg #[.int .i64 a2,.int .i64 a3,.bool a5,.slice b3 a7.length b4,.bool a8,.slice b1 a6.length b2]] w fun e w'=>∃ d3 d4:Value,e = .returned (.agg #[.int .i64 r1,.int .i64 r2,.bool r3,d3,.bool r5,d4])∧Kd.R (Kd.int .i64) 3 w' w.heap.size (fun k_=>some k_≠(d4:Value).ownBlock) d3 r4∧Kd.R (Kd.int .i64) 3 w' w.heap.size (fun k_=>some k_≠(d3:Value).ownBlock) d4 r6∧Below w.heap.size w w':=by
 have hu42:=Try.underlying42;have d5:=zzm c8;have d6:=zzm c9;clear c8 c9;have d7:=zzm d0;have d8:=zzm d1;clear d0 d1;have HB:=zzm (Below.refl w.heap.size w);have H:((slices_Clone_int_int.f a7).bind fun b0=>((slices_Clone_int_int.f a6).bind fun b5=>(some (a2,a3,a5,b0,a8,b5))))=some (r1,r2,r3,r4,r5,r6):=h;clear h;obtain ⟨b0,A2,H⟩:=zzG H;obtain ⟨b5,A3,H⟩:=zzG H;simp only [Option.some.injEq,Prod.mk.injEq] at H;obtain ⟨rfl,rfl,rfl,rfl,rfl,rfl⟩:=H;go_enter Try.func41,Try.ntmps41;go_wp2_with (first|((with_reducible refine gate_dst (N:=1) rfl ?_);refine box_event ?hg (N:=1) ?hd (cs:=#[.int .i64 a2,.int .i64 a3,.bool a5,.slice b3 a7.length b4,.bool a8,.slice b1 a6.length b2]) (t:=42) ?hr ?_;(case hd=>rfl);(case hg=>rfl);(case hr=>first|(go_simp;done)|(go_simp;rfl));intro a4 hg w4 hbox hb;have b6:=zzm (zzp zzh1 hb);have b7:=zzm (hbox);have b8:=zzm ((by rw [hg];exact (zzo zzh1):w.heap.size≤a4));have b9:=zzm ((by rw [hg];exact (zzo zzh1):w.heap.size≤a4));clear HB;have HB:=b6;have a1:=b7;have l5:=b8;have l6:=b9;clear b6 b7 b8 b9 hb hbox hg)|((with_reducible refine gate_dst (N:=2) rfl ?_);refine box_event ?hg (N:=2) ?hd (cs:=#[.int .i64 0,.int .i64 0,.bool false,.slice none 0 0,.bool false,.slice none 0 0]) (t:=42) ?hr ?_;(case hd=>rfl);(case hg=>rfl);(case hr=>first|(go_simp;done)|(go_simp;rfl));intro a0 hg w5 hbox hb;have b6:=zzm (zzh (g:=a4) (o:=.cells #[.int .i64 a2,.int .i64 a3,.bool a5,.slice b3 a7.length b4,.bool a8,.slice b1 a6.length b2] 42 (0,0)) (zzE a1.out) hb);have b7:=zzm (zzp zzh2 hb);have b8:=zzm (hbox);have b9:=zzm ((by rw [hg];exact (zzo zzh2):w.heap.size≤a0));have c6:=zzm ((by rw [hg];exact (zzo zzh2):w.heap.size≤a0));have d9:=zzm ((by rw [hg];exact Nat.ne_of_lt (blk_lt (g:=a4) (o:=.cells #[.int .i64 a2,.int .i64 a3,.bool a5,.slice b3 a7.length b4,.bool a8,.slice b1 a6.length b2] 42 (0,0)) (zzE a1.out)):a4≠a0));have e0:=zzm ((by rw [hg];exact Nat.ne_of_gt (blk_lt (g:=a4) (o:=.cells #[.int .i64 a2,.int .i64 a3,.bool a5,.slice b3 a7.length b4,.bool a8,.slice b1 a6.length b2] 42 (0,0)) (zzE a1.out)):a0≠a4));clear a1 HB;have a1:=b6;have HB:=b7;have a9:=b8;have l7:=b9;have l8:=c6;have c7:=d9;have c0:=e0;clear b6 b7 b8 b9 c6 d9 e0 hb hbox hg;have l9:=c7.out;have m0:=c0.out;obtain ⟨k1,k2,k3,k4,k5,k6,k7,k8,k9,l2,l3,l4⟩:=zzc6 a1.out)|((with_reducible refine gate_callee (f:=55) rfl ?_);refine goesL_ (some 5) rfl rfl Try.func55 (by kernel_rfl) rfl #[.slice b3 a7.length b4] rfl zzM2 ?_;(with_reducible refine (slices_Clone_int_int.calls _ _ a7 b0 _ ?side1 ?side2 A2.out).mono ?_);(case side1=>exact zzcb d5 HB);(case side2=>exact d6.out);rintro e w8 ⟨m1,rfl,ho0,hb⟩;refine ⟨_,rfl,?_⟩;have b6:=zzm (Kd.R_lower ho0 (zzo zzh2));have b7:=zzm (zzh (g:=a4) (o:=.cells #[.int .i64 a2,.int .i64 a3,.bool a5,.slice b3 a7.length b4,.bool a8,.slice b1 a6.length b2] 42 (0,0)) (zzE a1.out) hb);have b8:=zzm (zzh (g:=a0) (o:=.cells #[.int .i64 0,.int .i64 0,.bool false,.slice none 0 0,.bool false,.slice none 0 0] 42 (0,0)) (zzE a9.out) hb);have b9:=zzm (zzp zzh2 hb);clear a1 a9 HB;have c1:=b6;have a1:=b7;have a9:=b8;have HB:=b9;clear b6 b7 b8 b9;(try clear hb);(try clear hb2);(try clear hk);(try clear hi);(try clear ho0);obtain ⟨c2,c3,eo9⟩:=Kd.R_slice c1.out;subst eo9;obtain ⟨e1,e2,e3,e4,e5,e6,e7,e8,e9,g0,g1,g2⟩:=zzc6 a1.out)|((with_reducible refine gate_callee (f:=55) rfl ?_);refine goesL_ (some 9) rfl rfl Try.func55 (by kernel_rfl) rfl #[.slice b1 a6.length b2] rfl zzM2 ?_;(with_reducible refine (slices_Clone_int_int.calls _ _ a6 b5 _ ?side1 ?side2 A3.out).mono ?_);(case side1=>exact Kd.C_below d7.out zzh2);(case side2=>exact d8.out);rintro e m3 ⟨m2,rfl,ho0,hb⟩;refine ⟨_,rfl,?_⟩;have b6:=zzm (Kd.R_elder' (by (with_reducible repeat (first|apply Kd.R_alloc|apply Kd.R_drewN|apply Kd.R_drew));exact (Kd.R_mono (Kd.R_far (p:=⟨a4,3,none⟩) (Kd.R_types c1.out a1.out (by decide)) (fun _ hk=>hk.2) (.slice c2 b0.length c3)) (fun _ h_=>h_.1))) (Kd.R_base ho0) hb);have b7:=zzm (Kd.R_lower (Kd.R_new' ho0 (Kd.R_lt (by (with_reducible repeat (first|apply Kd.R_alloc|apply Kd.R_drewN|apply Kd.R_drew));exact (Kd.R_mono (Kd.R_far (p:=⟨a4,3,none⟩) (Kd.R_types c1.out a1.out (by decide)) (fun _ hk=>hk.2) (.slice c2 b0.length c3)) (fun _ h_=>h_.1))))) (zzo zzh2));have b8:=zzm (zzh (g:=a4) (o:=.cells #[.int .i64 a2,.int .i64 a3,.bool a5,.slice c2 b0.length c3,.bool a8,.slice b1 a6.length b2] 42 (0,0)) (by (with_reducible repeat (first|apply zzf|apply zzg|apply zze));refine zzi (cs:=#[.int .i64 a2,.int .i64 a3,.bool a5,.slice b3 a7.length b4,.bool a8,.slice b1 a6.length b2]) ?_ 3 _ rfl;(with_reducible repeat (first|apply zzf|apply zzg|apply zze));exact a1.out) hb);have b9:=zzm (zzh (g:=a0) (o:=.cells #[.int .i64 0,.int .i64 0,.bool false,.slice none 0 0,.bool false,.slice none 0 0] 42 (0,0)) (by (with_reducible repeat (first|apply zzf|apply zzg|apply zze));refine zzj ?_ c0.out _;(with_reducible repeat (first|apply zzf|apply zzg|apply zze));exact a9.out) hb);have c6:=zzm (zzp zzh2 hb);clear c1 a1 a9 HB;have c1:=b6;have d2:=b7;have a1:=b8;have a9:=b9;have HB:=c6;clear b6 b7 b8 b9 c6;(try clear hb);(try clear hb2);(try clear hk);(try clear hi);(try clear ho0);obtain ⟨c4,c5,eo12⟩:=Kd.R_slice d2.out;subst eo12;obtain ⟨g3,g4,g5,g6,g7,g8,g9,h0,h1,h2,h3,h4⟩:=zzc6 a1.out;obtain ⟨h5,h6,h7,h8,h9,j4,j5,j6,j7,j8,j9,k0⟩:=zzc6 a9.out));refine bodyPost_ret (results_cell_row rfl _ _ a0 42 #[.int .i64 a2,.int .i64 a3,.bool a5,.slice c2 b0.length c3,.bool a8,.slice c4 b5.length c5] (0,0) _ rfl (by (with_reducible repeat (first|apply zzf|apply zzg|apply zze));refine zzi (cs:=#[.int .i64 a2,.int .i64 a3,.bool a5,.slice c2 b0.length c3,.bool a8,.slice none 0 0]) ?_ 5 _ rfl;refine zzi (cs:=#[.int .i64 a2,.int .i64 a3,.bool a5,.slice c2 b0.length c3,.bool false,.slice none 0 0]) ?_ 4 _ rfl;refine zzi (cs:=#[.int .i64 a2,.int .i64 a3,.bool a5,.slice none 0 0,.bool false,.slice none 0 0]) ?_ 3 _ rfl;refine zzi (cs:=#[.int .i64 a2,.int .i64 a3,.bool false,.slice none 0 0,.bool false,.slice none 0 0]) ?_ 2 _ rfl;refine zzi (cs:=#[.int .i64 a2,.int .i64 0,.bool false,.slice none 0 0,.bool false,.slice none 0 0]) ?_ 1 _ rfl;refine zzi (cs:=#[.int .i64 0,.int .i64 0,.bool false,.slice none 0 0,.bool false,.slice none 0 0]) ?_ 0 _ rfl;(with_reducible repeat (first|apply zzf|apply zzg|apply zze));refine zzj ?_ c0.out _;(with_reducible repeat (first|apply zzf|apply zzg|apply zze));exact a9.out) Try.underlying42 rfl (by kernel_rfl)) rfl ?_;exact ⟨_,_,zzR,by (with_reducible repeat (first|apply Kd.R_alloc|apply Kd.R_drewN|apply Kd.R_drew));exact Kd.R_mono (Kd.R_far (p:=⟨a0,5,none⟩) (Kd.R_far (p:=⟨a0,4,none⟩) (Kd.R_far (p:=⟨a0,3,none⟩) (Kd.R_far (p:=⟨a0,2,none⟩) (Kd.R_far (p:=⟨a0,1,none⟩) (Kd.R_far (p:=⟨a0,0,none⟩) (Kd.R_far (p:=⟨a4,5,none⟩) (Kd.R_types (Kd.R_types c1.out a1.out (by decide)) a9.out (by decide)) (fun _ hk=>hk.1.2) (.slice c4 b5.length c5)) (fun _ hk=>hk.2) (.int .i64 a2)) (fun _ hk=>hk.2) (.int .i64 a3)) (fun _ hk=>hk.2) (.bool a5)) (fun _ hk=>hk.2) (.slice c2 b0.length c3)) (fun _ hk=>hk.2) (.bool a8)) (fun _ hk=>hk.2) (.slice c4 b5.length c5)) (fun _ hk=>hk.1.1.2),by (with_reducible repeat (first|apply Kd.R_alloc|apply Kd.R_drewN|apply Kd.R_drew));exact Kd.R_mono (Kd.R_far (p:=⟨a0,5,none⟩) (Kd.R_far (p:=⟨a0,4,none⟩) (Kd.R_far (p:=⟨a0,3,none⟩) (Kd.R_far (p:=⟨a0,2,none⟩) (Kd.R_far (p:=⟨a0,1,none⟩) (Kd.R_far (p:=⟨a0,0,none⟩) (Kd.R_far (p:=⟨a4,5,none⟩) (Kd.R_types (Kd.R_types d2.out a1.out (by decide)) a9.out (by decide)) (fun _ hk=>hk.1.2) (.slice c4 b5.length c5)) (fun _ hk=>hk.2) (.int .i64 a2)) (fun _ hk=>hk.2) (.int .i64 a3)) (fun _ hk=>hk.2) (.bool a5)) (fun _ hk=>hk.2) (.slice c2 b0.length c3)) (fun _ hk=>hk.2) (.bool a8)) (fun _ hk=>hk.2) (.slice c4 b5.length c5)) (fun _ hk=>hk.1.1.2),zzh3⟩

set_option linter.unusedVariables false
set_option linter.unusedSimpArgs false
section
def kA:Kd S42 where
 sz:=k42.sz
 E:=k42.E
 K:=k42.K
 M:=fun w base ok x cs=>∃ v3 v5:Value,cs = [.int .i64 x.f0,.int .i64 x.f1,.bool x.f2,v3,.bool x.f4,v5]∧Kd.R (Kd.int .i64) 3 w base (fun k=>ok k∧some k≠v5.ownBlock) v3 x.f3∧Kd.R (Kd.int .i64) 3 w base (fun k=>ok k∧some k≠v3.ownBlock) v5 x.f5
 K_len:=k42.K_len
 K_one:=k42.K_one
 K_below:=k42.K_below
 K_of_M:=by
  rintro w base ok x cs ⟨v3,v5,rfl,h3,h5⟩;exact k42.K_of_M (k42_mkM w base ok x (Kd.R_mono h3 fun _ h=>h.1) (Kd.R_mono h5 fun _ h=>h.1))
 M_mono:=by
  rintro w base ok ok' x cs hok ⟨v3,v5,rfl,h3,h5⟩;exact ⟨v3,v5,rfl,Kd.R_mono h3 fun k h=>⟨hok k h.1,h.2⟩,Kd.R_mono h5 fun k h=>⟨hok k h.1,h.2⟩⟩
 M_bound:=by
  rintro w base ok x cs ⟨v3,v5,rfl,h3,h5⟩;have hE:∀ q,q∈3::(Kd.int .i64).E→q∈k42.E:=by decide
  exact ⟨v3,v5,rfl,Kd.R_mono (Kd.R_bound h3) fun k h=>⟨⟨h.1.1,h.2.1,h.2.2.1,h.2.2.2.imp fun q hq=>⟨hE q hq.1,hq.2⟩⟩,h.1.2⟩,Kd.R_mono (Kd.R_bound h5) fun k h=>⟨⟨h.1.1,h.2.1,h.2.2.1,h.2.2.2.imp fun q hq=>⟨hE q hq.1,hq.2⟩⟩,h.1.2⟩⟩
 M_move:=by
  rintro w w1 base ok x cs hm ⟨v3,v5,rfl,h3,h5⟩;exact ⟨v3,v5,rfl,Kd.R_move h3 fun k h=>hm k h.1,Kd.R_move h5 fun k h=>hm k h.1⟩
 M_lower:=by
  rintro w base base' ok x cs hb ⟨v3,v5,rfl,h3,h5⟩;exact ⟨v3,v5,rfl,Kd.R_lower h3 hb,Kd.R_lower h5 hb⟩
theorem S_weakA {e base:Nat} {w:World} {ok:Nat→Prop} {v:Value} {xs:List S42} (h:Kd.S kA e w base ok v xs):Kd.S k42 e w base ok v xs:=by
 obtain ⟨f,h0,inner,ho,hr⟩:=h;refine ⟨f,h0,inner,ho,hr.imp_ (fun p cs hp=>?_)⟩;obtain ⟨v3,v5,e,h3,h5⟩:=hp;subst e;exact k42_mkM _ _ _ _ (Kd.R_mono h3 fun _ h=>h.1) (Kd.R_mono h5 fun _ h=>h.1)
theorem A_reads' {e base n c:Nat} {w:World} {ok:Nat→Prop} {A:Option Addr} {xs:List S42} (h:Kd.S kA e w base ok (.slice A n c) xs):n=xs.length∧n≤c∧Kd.C k42 w A xs.length xs:=Kd.S_reads' (S_weakA h)
theorem two_old {α β:Type} {d:Kd α} {d' : Kd β} {e e' base:Nat} {W w1:World} {ok ok2:Nat→Prop} {v v2:Value} {xs:List α} {ys:List β} (h:Kd.S d e W base ok v xs) (hb:Below W.heap.size W w1) (ho:Kd.R d' e' w1 W.heap.size ok2 v2 ys) (hl:base≤W.heap.size) :
  ∃ B1,Kd.S d e w1 base (fun k=>k < B1) v xs∧Kd.R d' e' w1 base (fun k=>B1≤k) v2 ys:=
 ⟨W.heap.size,Kd.S_mono (Kd.S_old h hb) (fun k hk=>hk.2),Kd.R_lower (Kd.R_mono (Kd.R_bound ho) (fun k hk=>hk.2.1)) hl⟩
theorem three_old {α β γ:Type} {d:Kd α} {d' : Kd β} {d2:Kd γ} {e e' e2 base:Nat} {W w1:World} {ok ok1 ok2:Nat→Prop} {v v1 v2:Value} {xs:List α} {ys:List β} {zs:List γ} (h:Kd.S d e W base ok v xs) (hx:Kd.R d' e' W base ok1 v1 ys) (hb:Below W.heap.size W w1) (ho:Kd.S d2 e2 w1 W.heap.size ok2 v2 zs) (hl:base≤W.heap.size) :
  ∃ B2,Kd.S d e w1 base (fun k=>ok k∧k < B2) v xs∧Kd.R d' e' w1 base (fun k=>ok1 k∧k < B2) v1 ys∧Kd.S d2 e2 w1 base (fun k=>B2≤k) v2 zs:=
 ⟨W.heap.size,Kd.S_old h hb,Kd.R_mono (Kd.R_below (Kd.R_bound hx) hb) (fun k hk=>⟨hk.1,hk.2.2.1⟩),Kd.S_lower (Kd.S_mono (Kd.S_bound ho) (fun k hk=>hk.2.1)) hl⟩
theorem S_of_nilA {α:Type} {d:Kd α} {e base:Nat} {w:World} {ok:Nat→Prop} {v:Value} (h:Kd.R d e w base ok v []):Kd.S d e w base ok v []:=by
 obtain ⟨h0,inner,ho,hr⟩:=h;exact ⟨fun _=>0,h0,inner,ho,hr.1,fun j p hp=>by simp at hp⟩
theorem two_app {α β:Type} {d:Kd α} {d' : Kd β} {e e' base:Nat} {W w1:World} {ok ok2:Nat→Prop} {v v2:Value} {xs:List α} {ys:List β} (h:Kd.S d e W base ok v xs) (hb:Below W.heap.size W w1) (ho:Kd.S d' e' w1 W.heap.size ok2 v2 ys) (hl:base≤W.heap.size) :
  ∃ B1,base≤B1∧(∀ k,v.ownBlock=some k→k < B1)∧Kd.S d e w1 base (fun k=>ok k∧k < B1) v xs∧Kd.S d' e' w1 base (fun k=>B1≤k) v2 ys:=
 ⟨W.heap.size,hl,Kd.S_lt h,Kd.S_old h hb,Kd.S_lower (Kd.S_mono (Kd.S_bound ho) (fun k hk=>hk.2.1)) hl⟩
open Classical in
theorem S_append_rows {α:Type} (d:Kd α) {P:Program} {ops:Array Oper} {rest:List Oper} {o:Oper} {a:Act} {Q:Exit→Act→World→Prop} {w0 W:World} (base:Nat) (hgd:o.guard=none) (s x:Operand) (t e:TypeId) (z:Value) (bytes:Nat)
  (ho:o.op = .call { callee:=.builtin .append,args:=#[s,x],argTypes:=#[t,t] })
  (ht:P.underlying t=some (.slice e)) (hinfo:(P.info? e).map (fun i=>(i.zero,i.size,i.bytes))=some (some z,d.sz,bytes)) (hz:z.cells.size=d.sz) (hs0 : 0 < d.sz) (hb0 : 0 < bytes)
  (v:Value) (xs ys:List α) (A:Option Addr) (m c:Nat) (ok okp:Nat→Prop) (hs:a.eval s=v) (hx:a.eval x = .slice A m c)
  (HO:Kd.S d e W base (fun k=>ok k∧¬ okp k) v xs) (HR:Kd.S d e W base okp (.slice A m c) ys) (hokp:∀ k,okp k→ok k∧some k≠v.ownBlock) (hfresh:∀ k,W.heap.size≤k→ok k)
  (HB:Below base w0 W) (hbase:base≤W.heap.size) (hl:(xs.length+m) * bytes≤140737488355328)
  (h:∀ v1 w1,Kd.S d e w1 base ok v1 (xs++ys)→Below base w0 w1→W.grownBy w1 v.ownBlock→(v1.ownBlock=v.ownBlock∨∃ b,v1.ownBlock=some b∧W.heap.size≤b)→wpList P ops Q rest (a.put o.dst v1) w1) :
  wpList P ops Q (o::rest) a W:=by
 obtain ⟨f1,h1⟩:=HO;obtain ⟨f2,h2⟩:=HR;obtain ⟨f3,hf3⟩:∃ f3:Nat→Nat,f3=fun k=>if okp k then f2 k+xs.length else f1 k:=⟨_,rfl⟩;have h1' : (Kd.tag f3 d).R e W base ok v xs.zipIdx:=Kd.R_mono (Kd.R_tag h1 (fun k hk _=>by rw [hf3];exact if_neg hk.2)) (fun _ hk=>hk.1);have hread:ReadsRow ((Kd.tag f3 d).M W base okp) d.sz W A m (ys.zipIdx xs.length):=by
  obtain ⟨A',c',he,_,hr⟩:=OwnRow.reads h2.2;injection he with e1 e2 _;subst e1;refine ⟨by rw [List.length_zipIdx,e2,List.length_zipIdx],by rw [e2];exact hr.2.1,fun hn=>?_⟩;obtain ⟨ad,e,hc⟩:=hr.2.2 (by rw [← e2];exact hn);refine ⟨ad,e,fun j p hj=>?_⟩;rw [List.getElem?_zipIdx] at hj;obtain ⟨y,hy,rfl⟩:=Option.map_eq_some_iff.1 hj;obtain ⟨c,hs,hM,hcell⟩:=hc j (y,j) (Kd.zip_at hy);refine ⟨c,hs,d.M_mono (fun k hk=>⟨hk.1.1,?_⟩) hM,hcell⟩;show f3 k=xs.length+j;have h3:f2 k=j:=hk.2;rw [hf3];simp only [if_pos hk.1.1,h3,Nat.add_comm]
 refine Kd.R_append_rows (Kd.tag f3 d) base hgd s x t e z bytes ho ht hinfo hz hs0 hb0 v xs.zipIdx (ys.zipIdx xs.length) A m c ok okp hs hx h1' hread (fun _ _ h=>h) hokp hfresh HB hbase (by rw [List.length_zipIdx];exact hl) ?_;intro v1 w1 hr hb hg hat;refine h v1 w1 ⟨f3,?_⟩ hb hg hat;rw [List.zipIdx_append,Nat.zero_add];exact hr
end
def Qn.l0:Nat→List (S42)→List (S42)→Int→Int→Option ((List (S42)))
 | 0,_,_,_,_=>none
 | k+1,x3,x9,x10,x11=>if x11 < x10 then (if 0≤x11 then (if x11 < (x9.length:Int) then ((Rk.f ((Qb x9 x11).f0) ((Qb x9 x11).f1) ((Qb x9 x11).f2) ((Qb x9 x11).f3) ((Qb x9 x11).f4) ((Qb x9 x11).f5)).bind fun bt293=>(if x3.length < 1759218604441 then (Qn.l0 k (x3 ++ [(⟨bt293.1,bt293.2.1,bt293.2.2.1,bt293.2.2.2.1,bt293.2.2.2.2.1,bt293.2.2.2.2.2⟩:S42)]) x9 x10 (wrap64 (x11+1))) else (none))) else (none)) else (none)) else (some x3)
def Qn.f (k:Nat) (l0:List (S42)):Option ((List (S42))):=if 0≤(l0.length:Int) then (if ((l0.length:Int):Int).toNat≤3518437208883 then (Qn.l0 k (([]:List (S42))) l0 (l0.length:Int) 0) else (none)) else (none)
set_option maxHeartbeats 8000000 in
theorem Qn.calls (k:Nat) (A0:Option Addr) (c0:Nat) (l0:List (S42)) (r:List (S42)) (w:World) (g1:Kd.C k42 w A0 l0.length l0) (g2:l0.length≤c0) (h:Qn.f k l0=some r) :
  Calls Try.prog 23 #[.slice A0 l0.length c0] w fun e w'=>∃ g3:Value,e = .returned (g3)∧Kd.S kA 42 w' w.heap.size (fun _=>True) g3 r∧Below w.heap.size w w':=by
 have hu42:=Try.underlying42;have j7:=zzm g1;have k9:=zzm g2;clear g1 g2;have HB:=zzm (Below.refl w.heap.size w);have H:(if 0≤(l0.length:Int) then (if ((l0.length:Int):Int).toNat≤3518437208883 then (Qn.l0 k (([]:List (S42))) l0 (l0.length:Int) 0) else (none)) else (none))=some r:=h;clear h;by_cases c2 : 0≤(l0.length:Int)
 ·
  rw [if_pos c2] at H;have g5:=eq_true c2;have g6:decide (0≤(l0.length:Int))=true:=decide_eq_true c2;clear c2;by_cases c3:((l0.length:Int):Int).toNat≤3518437208883
  ·
   rw [if_pos c3] at H;have g7:=eq_true c3;have g8:decide (((l0.length:Int):Int).toNat≤3518437208883)=true:=decide_eq_true c3;clear c3;obtain ⟨y288,hy288⟩:∃ y_:List (S42),y_=(([]:List (S42))):=⟨_,rfl⟩;replace H:(Qn.l0 k y288 l0 (l0.length:Int) 0)=some r:=by first|(rw [hy288];with_reducible exact H)|(have H2_:=(Option.bind_some _ _).symm.trans H;rw [hy288];with_reducible exact H2_)|(have H2_:=(Option.bind_some _ _).symm.trans H;with_reducible exact H2_)|with_reducible exact H|(rw [hy288];exact H)|exact H
   have Ny288:=zzm hy288;clear hy288;have H':=zzm H;clear H;go_enter Try.func23,Try.ntmps23;go_wp2_with (first|((with_reducible refine gate_dst (N:=8) rfl ?_);refine rmake0_S kA _ 42 rfl (N:=8) rfl 24 _ _ rfl (l0.length:Int) rfl rfl Try.underlying24 (.agg #[(.int .i64 0),(.int .i64 0),(.bool false),(.slice none 0 0),(.bool false),(.slice none 0 0)]) 80 info42 (by decide) (by omega) (ok:=fun _=>True) (trivial) (zzt) (Nat.le_trans (Nat.mul_le_mul_right _ (zzt:(l0.length:Int).toNat≤3518437208883)) (by omega)) (Below.refl _ _) (Nat.le_refl _) ?_;intro k3 w4 ho5 hb hg_ hnew_;clear hg_ hnew_;(first|rw [← Ny288.out] at ho5|(simp only [Int.reduceToNat] at ho5;rw [← Ny288.out] at ho5));have a6:=zzm (Kd.S_lower ho5 (zzo zzh1));have a7:=zzm (zzp zzh1 hb);clear HB;have e9:=a6;have HB:=a7;clear a6 a7 hb ho5));go_loopg [3,11] k (fun kq v3 j8 w'=>∃ (a8:List (S42)) (a0:Int),j8 = .int .i64 a0∧Aside0 (Qn.l0 kq a8 l0 (l0.length:Int) a0=some r)∧Aside0 (kq≤k)∧Aside0 (Kd.S kA 42 w' w.heap.size (fun _=>True) v3 a8)∧Aside0 (Below w.heap.size w w'))
   case atStart=>exact ⟨(y288),(0),(by first|rfl|(simp;done)|(simp [*];done)),H',⟨Nat.le_refl _⟩,⟨by (with_reducible repeat (first|apply Kd.S_alloc|apply Kd.S_drewN|apply Kd.S_drew));exact e9.out⟩,⟨zzh1⟩⟩
   case round=>
    clear H';try clear c2
    try clear g5
    try clear g6
    try clear p2
    try clear c3
    try clear g7
    try clear g8
    obtain ⟨a8,a0,rfl,HA,HK1,a3,HB⟩:=hrel;cases gk with
    | zero=>exact absurd HA.out (by simp [Qn.l0])
    | succ k1=>
     have H:=HA.out;clear HA;simp only [Qn.l0] at H;by_cases c6:a0 < (l0.length:Int)
     ·
      rw [if_pos c6] at H;have g9:decide (a0 < (l0.length:Int))=true:=decide_eq_true c6;clear c6;by_cases c7 : 0≤a0
      ·
       rw [if_pos c7] at H;have k4:decide (0≤a0)=true:=decide_eq_true c7;clear c7;by_cases c8:a0 < (l0.length:Int)
       ·
        rw [if_pos c8] at H;have k5:decide (a0 < (l0.length:Int))=true:=decide_eq_true c8;clear c8;replace H:=zzH H;obtain ⟨⟨b5,b6,b7,b1,b8,b2⟩,g4,H⟩:=H;replace H:(if a8.length < 1759218604441 then (Qn.l0 k1 (a8 ++ [(⟨b5,b6,b7,b1,b8,b2⟩:S42)]) l0 (l0.length:Int) (wrap64 (a0+1))) else (none))=some r:=H;have A9:=zzm g4;clear g4;by_cases e0:a8.length < 1759218604441
        ·
         rw [if_pos e0] at H;have LMc10:=zzm e0;clear e0;obtain ⟨y303,hy303⟩:∃ y_:List (S42),y_=(a8 ++ [(⟨b5,b6,b7,b1,b8,b2⟩:S42)]):=⟨_,rfl⟩;replace H:(Qn.l0 k1 y303 l0 (l0.length:Int) (wrap64 (a0+1)))=some r:=by first|(rw [hy303];with_reducible exact H)|(have H2_:=(Option.bind_some _ _).symm.trans H;rw [hy303];with_reducible exact H2_)|(have H2_:=(Option.bind_some _ _).symm.trans H;with_reducible exact H2_)|with_reducible exact H|(rw [hy303];exact H)|exact H
         have Ny303:=zzm hy303;clear hy303;have H':=zzm H;clear H;have d8 : 0≤(a0:Int):=zzt;have d9:a0 < (l0.length:Int):=zzt;obtain ⟨j9,a4,a5,a9,b0,h0,c1,c4,c5,c9,d0,d1,d2,d3,d4,d5⟩:=Qt j7.out a0 d8 d9;cases h0;replace c1:=zzx HB.out c1;replace c4:=zzx HB.out c4;replace c5:=zzx HB.out c5;replace c9:=zzx HB.out c9;replace d0:=zzx HB.out d0;replace d1:=zzx HB.out d1;have e1:=zzm d3;have e2:=zzm d2;clear d3 d2;have e3:=zzm d5;have e4:=zzm d4;clear d5 d4;replace d8:=eq_true d8;replace d9:=eq_true d9;go_wp2_with (first|((with_reducible refine gate_dst (N:=5) rfl ?_);refine box_event ?hg (N:=5) ?hd (cs:=#[.int .i64 0,.int .i64 0,.bool false,.slice none 0 0,.bool false,.slice none 0 0]) (t:=42) ?hr ?_;(case hd=>rfl);(case hg=>rfl);(case hr=>first|(go_simp;done)|(go_simp;rfl));intro a1 hg l2 hbox hb;have a6:=zzm (Kd.S_below (Kd.S_elderB (zzS a3.out) a1 (Nat.le_of_eq hg.symm)) hb);have a7:=zzm (zzp zzh1 hb);have b9:=zzm (hbox);have d6:=zzm ((by rw [hg];exact (zzo zzh1):w.heap.size≤a1));have d7:=zzm ((by rw [hg];exact (zzo zzh1):w.heap.size≤a1));clear a3 HB;have a3:=a6;have HB:=a7;have a2:=b9;have k0:=d6;have k2:=d7;clear a6 a7 b9 d6 d7 hb hbox hg;obtain ⟨h1,h2,h3,h4,h5,h6,h7,h8,h9,j4,j5,j6⟩:=zzc6 a2.out)|((with_reducible refine gate_callee (f:=41) rfl ?_);refine goesL_ (some 17) rfl rfl Try.func41 (by kernel_rfl) rfl #[.agg #[.int .i64 ((Qb l0 a0).f0),.int .i64 ((Qb l0 a0).f1),.bool ((Qb l0 a0).f2),.slice a4 ((Qb l0 a0).f3).length a5,.bool ((Qb l0 a0).f4),.slice a9 ((Qb l0 a0).f5).length b0]] rfl zzM2 ?_;(with_reducible refine (Rk.calls ((Qb l0 a0).f0) ((Qb l0 a0).f1) ((Qb l0 a0).f2) _ _ ((Qb l0 a0).f3) ((Qb l0 a0).f4) _ _ ((Qb l0 a0).f5) b5 b6 b7 b1 b8 b2 _ ?side1 ?side2 ?side3 ?side4 A9.out).mono ?_);(case side1=>exact Kd.C_below e1.out zzh2);(case side2=>exact e2.out);(case side3=>exact Kd.C_below e3.out zzh2);(case side4=>exact e4.out);rintro e l3 ⟨k6,k7,rfl,ho0,ho1,hb⟩;refine ⟨_,rfl,?_⟩;have a6:=zzm (Kd.S_mono (Kd.S_told (Kd.S_told (Kd.S_old (zzS ((Kd.S_mono (Kd.S_far (p:=⟨a1,5,none⟩) (Kd.S_far (p:=⟨a1,4,none⟩) (Kd.S_far (p:=⟨a1,3,none⟩) (Kd.S_far (p:=⟨a1,2,none⟩) (Kd.S_far (p:=⟨a1,1,none⟩) (Kd.S_far (p:=⟨a1,0,none⟩) (Kd.S_mono a3.out (fun k_ hk=>(⟨hk,hk.2⟩:_∧k_≠a1))) (fun _ hk=>hk.2) (.int .i64 ((Qb l0 a0).f0))) (fun _ hk=>hk.2) (.int .i64 ((Qb l0 a0).f1))) (fun _ hk=>hk.2) (.bool ((Qb l0 a0).f2))) (fun _ hk=>hk.2) (.slice a4 ((Qb l0 a0).f3).length a5)) (fun _ hk=>hk.2) (.bool ((Qb l0 a0).f4))) (fun _ hk=>hk.2) (.slice a9 ((Qb l0 a0).f5).length b0)) (fun _ h_=>h_.1)))) hb) (Kd.R_base ho0)) (Kd.R_base ho1)) (fun _ h_=>h_.1));have a7:=zzm (Kd.R_lower ho0 (zzo zzh2));have b9:=zzm (Kd.R_lower ho1 (zzo zzh2));have d6:=zzm (zzh (g:=a1) (o:=.cells #[.int .i64 ((Qb l0 a0).f0),.int .i64 ((Qb l0 a0).f1),.bool ((Qb l0 a0).f2),.slice a4 ((Qb l0 a0).f3).length a5,.bool ((Qb l0 a0).f4),.slice a9 ((Qb l0 a0).f5).length b0] 42 (0,0)) (by (with_reducible repeat (first|apply zzf|apply zzg|apply zze));refine zzi (cs:=#[.int .i64 ((Qb l0 a0).f0),.int .i64 ((Qb l0 a0).f1),.bool ((Qb l0 a0).f2),.slice a4 ((Qb l0 a0).f3).length a5,.bool ((Qb l0 a0).f4),.slice none 0 0]) ?_ 5 _ rfl;refine zzi (cs:=#[.int .i64 ((Qb l0 a0).f0),.int .i64 ((Qb l0 a0).f1),.bool ((Qb l0 a0).f2),.slice a4 ((Qb l0 a0).f3).length a5,.bool false,.slice none 0 0]) ?_ 4 _ rfl;refine zzi (cs:=#[.int .i64 ((Qb l0 a0).f0),.int .i64 ((Qb l0 a0).f1),.bool ((Qb l0 a0).f2),.slice none 0 0,.bool false,.slice none 0 0]) ?_ 3 _ rfl;refine zzi (cs:=#[.int .i64 ((Qb l0 a0).f0),.int .i64 ((Qb l0 a0).f1),.bool false,.slice none 0 0,.bool false,.slice none 0 0]) ?_ 2 _ rfl;refine zzi (cs:=#[.int .i64 ((Qb l0 a0).f0),.int .i64 0,.bool false,.slice none 0 0,.bool false,.slice none 0 0]) ?_ 1 _ rfl;refine zzi (cs:=#[.int .i64 0,.int .i64 0,.bool false,.slice none 0 0,.bool false,.slice none 0 0]) ?_ 0 _ rfl;(with_reducible repeat (first|apply zzf|apply zzg|apply zze));exact a2.out) hb);have d7:=zzm (zzp zzh2 hb);clear a3 a2 HB;have a3:=a6;have b3:=a7;have b4:=b9;have a2:=d6;have HB:=d7;clear a6 a7 b9 d6 d7;(try clear hb);(try clear hb2);(try clear hk);(try clear hi);(try clear ho0);(try clear ho1);obtain ⟨e5,e6,eo15⟩:=Kd.R_slice b3.out;subst eo15;obtain ⟨e7,e8,eo16⟩:=Kd.R_slice b4.out;subst eo16)|((with_reducible refine gate_builtin (b:=.append) (xs:=#[.tmp 15,.tmp 18]) rfl ?_);at_builtin;refine Kd.S_append kA (w0:=w) w.heap.size rfl (.tmp 15) (.tmp 18) 24 42 (.agg #[(.int .i64 0),(.int .i64 0),(.bool false),(.slice none 0 0),(.bool false),(.slice none 0 0)]) 80 rfl Try.underlying24 info42 rfl (by decide) (by omega) u3 a8 (⟨b5,b6,b7,b1,b8,b2⟩:S42) [.int .i64 b5,.int .i64 b6,.bool b7,.slice e5 b1.length e6,.bool b8,.slice e7 b2.length e8] (fun k_=>k_≠a1) (fun k_=>some k_=(.slice e5 b1.length e6:Value).ownBlock∨some k_=(.slice e7 b2.length e8:Value).ownBlock) rfl rfl ?aP (fun k_ hk_=>hk_.elim (fun h_=>((Kd.R_mono (ok':=fun k_=>((fun k_=>k_≠a1)) k_∧some k_≠(u3:Value).ownBlock) (Kd.R_types (Kd.R_apart' (b3.out) (Kd.S_typed a3.out) (by decide)) a2.out (by decide)) (fun k_ hk=>⟨hk.2,hk.1.2⟩))).1 k_ h_.symm) (fun h_=>((Kd.R_mono (ok':=fun k_=>((fun k_=>k_≠a1)) k_∧some k_≠(u3:Value).ownBlock) (Kd.R_types (Kd.R_apart' (b4.out) (Kd.S_typed a3.out) (by decide)) a2.out (by decide)) (fun k_ hk=>⟨hk.2,hk.1.2⟩))).1 k_ h_.symm)) ?aF ?aO ?aB ?aS ?aL ?_;(case aP=>exact (show kA.M _ _ _ (⟨b5,b6,b7,b1,b8,b2⟩:S42) _ from ⟨_,_,rfl,Kd.R_mono (Kd.R_tight rfl b3.out) (fun k_ h_=>⟨Or.inl h_,b3.out.1 k_ h_.symm⟩),Kd.R_mono (Kd.R_tight rfl b4.out) (fun k_ h_=>⟨Or.inr h_,b4.out.1 k_ h_.symm⟩)⟩));(case aB=>exact zzh2);(case aF=>exact (fun k_ hk=>Kd.freshB (g:=a1) (o:=.cells #[.int .i64 ((Qb l0 a0).f0),.int .i64 ((Qb l0 a0).f1),.bool ((Qb l0 a0).f2),.slice a4 ((Qb l0 a0).f3).length a5,.bool ((Qb l0 a0).f4),.slice a9 ((Qb l0 a0).f5).length b0] 42 (0,0)) (zzE a2.out) k_ hk));(case aO=>exact (zzS (Kd.S_mono a3.out (fun k_ hk=>⟨hk.1.1.2,fun e_=>e_.elim (fun h_=>hk.1.2 h_) (fun h_=>hk.2 h_)⟩))));(case aS=>exact (zzo zzh2));(case aL=>have:=LMc10.out;omega);intro k8 l4 ho hb hg hat;rw [← Ny303.out] at ho;have a6:=zzm (blk_grown (g:=a1) (o:=.cells #[.int .i64 ((Qb l0 a0).f0),.int .i64 ((Qb l0 a0).f1),.bool ((Qb l0 a0).f2),.slice a4 ((Qb l0 a0).f3).length a5,.bool ((Qb l0 a0).f4),.slice a9 ((Qb l0 a0).f5).length b0] 42 (0,0)) (zzE a2.out) hg (Kd.S_away a3.out (fun _ hk=>hk.1.1.2)));have a7:=zzm (hb);have b9:=zzm (ho);clear a2 HB a3 b3 b4;have a2:=a6;have HB:=a7;have g0:=b9;clear a6 a7 b9 ho hb hg hat));go_roundg k1
         case measure=>have:=HK1.out;omega
         case rel=>exact ⟨(y303),(wrap64 (a0+1)),(by first|rfl|(simp;done)|(simp [*];done)),H',⟨by have:=HK1.out;omega⟩,⟨by (with_reducible repeat (first|apply Kd.S_alloc|apply Kd.S_drewN|apply Kd.S_drew));exact Kd.S_mono g0.out (fun _ hk=>trivial)⟩,⟨zzh3⟩⟩
        ·
         rw [if_neg e0] at H;exact absurd H (by simp)
       ·
        rw [if_neg c8] at H;exact absurd H (by simp)
      ·
       rw [if_neg c7] at H;exact absurd H (by simp)
     ·
      rw [if_neg c6] at H;have g9:decide (a0 < (l0.length:Int))=false:=decide_eq_false c6;clear c6;obtain rfl:=Option.some.inj H;go_wp2;go_ret;exact ⟨_,zzR,by (with_reducible repeat (first|apply Kd.S_alloc|apply Kd.S_drewN|apply Kd.S_drew));exact a3.out,zzh1⟩
  ·
   rw [if_neg c3] at H;exact absurd H (by simp)
 ·
  rw [if_neg c2] at H;exact absurd H (by simp)

set_option linter.unusedVariables false
set_option linter.unusedSimpArgs false
def Rh.f (a0:Int) (a1:Int):Option (Bool):=(Qr.f a0 0 99999).bind fun t244=>(if t244=true then ((Qr.f a1 0 99999).bind fun t245=>(some t245)) else (some false))
set_option maxHeartbeats 8000000 in
theorem Rh.calls (a0:Int) (a1:Int) (r:Bool) (w:World) (h:Rh.f a0 a1=some r) :
  Calls Try.prog 59 #[.int .i64 a0,.int .i64 a1] w fun e w'=>e = .returned (.bool r)∧Drawn0 w w':=by
 have H:((Qr.f a0 0 99999).bind fun a2=>(if a2=true then ((Qr.f a1 0 99999).bind fun a3=>(some a3)) else (some false)))=some r:=h;clear h;obtain ⟨a2,A3,H⟩:=zzG H;by_cases c4:a2=true
 ·
  subst c4;replace H:=zzIt H;obtain ⟨a3,A5,H⟩:=zzG H;obtain rfl:=Option.some.inj H;go_enter Try.func59,Try.ntmps59;go_wp2_with (first|((with_reducible refine gate_callee (f:=48) rfl ?_);refine goesL_ (some 6) rfl rfl Try.func48 (by kernel_rfl) rfl #[.int .i64 a0,.int .i64 0,.int .i64 99999] rfl zzM2 ?_;(with_reducible refine (Qr.calls a0 0 99999 true _ A3.out).mono ?_);rintro e w' ⟨rfl,⟨nd,rfl⟩⟩;refine ⟨_,rfl,?_⟩)|(go_at_call 48;(with_reducible refine (Qr.calls a1 0 99999 a3 _ A5.out).mono ?_);rintro e w' ⟨rfl,⟨nd,rfl⟩⟩));go_ret;exact ⟨by first|rfl|(simp;done)|(simp [*];done),by repeat (first|exact Drawn0.refl _|apply Drawn0.step)⟩
 ·
  replace c4:=Bool.eq_false_iff.mpr c4;subst c4;replace H:=zzIf H;obtain rfl:=Option.some.inj H;go_enter Try.func59,Try.ntmps59;go_wp2_with (first|((with_reducible refine gate_callee (f:=48) rfl ?_);refine goesL_ (some 6) rfl rfl Try.func48 (by kernel_rfl) rfl #[.int .i64 a0,.int .i64 0,.int .i64 99999] rfl zzM2 ?_;(with_reducible refine (Qr.calls a0 0 99999 false _ A3.out).mono ?_);rintro e w' ⟨rfl,⟨nd,rfl⟩⟩;refine ⟨_,rfl,?_⟩));go_ret;exact ⟨by first|rfl|(simp;done)|(simp [*];done),by repeat (first|exact Drawn0.refl _|apply Drawn0.step)⟩
def Ru.f (a0:Int):Option (Bool):=if a0 ≥ 0 then (some (decide (a0≤255))) else (some false)
set_option maxHeartbeats 8000000 in
theorem Ru.calls (a0:Int) (r:Bool) (w:World) (h:Ru.f a0=some r) :
  Calls Try.prog 65 #[.int .i64 a0] w fun e w'=>e = .returned (.bool r)∧Drawn0 w w':=by
 have H:(if a0 ≥ 0 then (some (decide (a0≤255))) else (some false))=some r:=h;clear h;by_cases c2:a0 ≥ 0
 ·
  rw [if_pos c2] at H;have c2b0:decide (0≤a0)=true:=decide_eq_true c2;clear c2;obtain rfl:=Option.some.inj H;go_enter Try.func65,Try.ntmps65;go_wp2;go_ret;exact ⟨by first|rfl|(simp;done)|(simp [*];done),by repeat (first|exact Drawn0.refl _|apply Drawn0.step)⟩
 ·
  rw [if_neg c2] at H;have c2b0:decide (0≤a0)=false:=decide_eq_false c2;clear c2;obtain rfl:=Option.some.inj H;go_enter Try.func65,Try.ntmps65;go_wp2;go_ret;exact ⟨by first|rfl|(simp;done)|(simp [*];done),by repeat (first|exact Drawn0.refl _|apply Drawn0.step)⟩
def Q0.l0:Nat→List Int→Int→Int→Option (Bool)
 | 0,_,_,_=>none
 | k+1,x5,x6,x7=>if x7 < x6 then (if 0≤x7 then (if x7 < (x5.length:Int) then ((Ru.f (rd x5 x7)).bind fun t247=>(if t247=true then (Q0.l0 k x5 x6 (wrap64 (x7+1))) else (some false))) else (none)) else (none)) else (some true)
def Q0.f (k:Nat) (l0:List Int):Option (Bool):=Q0.l0 k l0 (l0.length:Int) 0
set_option maxHeartbeats 8000000 in
theorem Q0.calls (k:Nat) (A0:Option Addr) (c0:Nat) (l0:List Int) (r:Bool) (w:World) (a6:Kd.C (Kd.int .i64) w A0 l0.length l0) (a7:l0.length≤c0) (h:Q0.f k l0=some r) :
  Calls Try.prog 63 #[.slice A0 l0.length c0] w fun e w'=>e = .returned (.bool r)∧Drawn0 w w':=by
 have a8:=zzm a6;have b3:=zzm a7;clear a6 a7;have H:(Q0.l0 k l0 (l0.length:Int) 0)=some r:=h;clear h;have H':=zzm H;clear H;go_enter Try.func63,Try.ntmps63;go_wp2;go_loopg [7] k (fun kq v7 w'=>∃ (a0:Int),v7 = .int .i64 a0∧Aside0 (Q0.l0 kq l0 (l0.length:Int) a0=some r)∧Aside0 (kq≤k)∧Drawn0 w w')
 case atStart=>exact ⟨(0),(by first|rfl|(simp;done)|(simp [*];done)),H',⟨Nat.le_refl _⟩,by repeat (first|exact Drawn0.refl _|apply Drawn0.step)⟩
 case round=>
  clear H';obtain ⟨a0,rfl,HA,HK1,⟨m1,rfl⟩⟩:=hrel;cases gk with
  | zero=>exact absurd HA.out (by simp [Q0.l0])
  | succ k1=>
   have H:=HA.out;clear HA;simp only [Q0.l0] at H;by_cases c2:a0 < (l0.length:Int)
   ·
    rw [if_pos c2] at H;have a9:decide (a0 < (l0.length:Int))=true:=decide_eq_true c2;clear c2;by_cases c3 : 0≤a0
    ·
     rw [if_pos c3] at H;have b1:decide (0≤a0)=true:=decide_eq_true c3;clear c3;by_cases c4:a0 < (l0.length:Int)
     ·
      rw [if_pos c4] at H;have b2:decide (a0 < (l0.length:Int))=true:=decide_eq_true c4;clear c4;obtain ⟨b0,A5,H⟩:=zzG H;by_cases c6:b0=true
      ·
       subst c6;replace H:=zzIt H;have H':=zzm H;clear H;have a1 : 0≤(a0:Int):=zzt;have a2:a0 < (l0.length:Int):=zzt;obtain ⟨a5,a3,a4⟩:=Kd.at_int a8.out a0 a1 a2;cases a3;replace a1:=eq_true a1;replace a2:=eq_true a2;go_wp2_with (first|((with_reducible refine gate_callee (f:=65) rfl ?_);refine goesL_ (some 12) rfl rfl Try.func65 (by kernel_rfl) rfl #[.int .i64 (rd l0 a0)] rfl zzM2 ?_;(with_reducible refine (Ru.calls (rd l0 a0) true _ A5.out).mono ?_);rintro e w' ⟨rfl,⟨nd,rfl⟩⟩;refine ⟨_,rfl,?_⟩));go_roundg k1
       case measure=>have:=HK1.out;omega
       case rel=>exact ⟨(wrap64 (a0+1)),(by first|rfl|(simp;done)|(simp [*];done)),H',⟨by have:=HK1.out;omega⟩,by repeat (first|exact Drawn0.refl _|apply Drawn0.step)⟩
      ·
       replace c6:=Bool.eq_false_iff.mpr c6;subst c6;replace H:=zzIf H;obtain rfl:=Option.some.inj H;have a1 : 0≤(a0:Int):=zzt;have a2:a0 < (l0.length:Int):=zzt;obtain ⟨a5,a3,a4⟩:=Kd.at_int a8.out a0 a1 a2;cases a3;replace a1:=eq_true a1;replace a2:=eq_true a2;go_wp2_with (first|((with_reducible refine gate_callee (f:=65) rfl ?_);refine goesL_ (some 12) rfl rfl Try.func65 (by kernel_rfl) rfl #[.int .i64 (rd l0 a0)] rfl zzM2 ?_;(with_reducible refine (Ru.calls (rd l0 a0) false _ A5.out).mono ?_);rintro e w' ⟨rfl,⟨nd,rfl⟩⟩;refine ⟨_,rfl,?_⟩));go_ret;exact ⟨by first|rfl|(simp;done)|(simp [*];done),by repeat (first|exact Drawn0.refl _|apply Drawn0.step)⟩
     ·
      rw [if_neg c4] at H;exact absurd H (by simp)
    ·
     rw [if_neg c3] at H;exact absurd H (by simp)
   ·
    rw [if_neg c2] at H;have a9:decide (a0 < (l0.length:Int))=false:=decide_eq_false c2;clear c2;obtain rfl:=Option.some.inj H;go_wp2;go_ret;exact ⟨by first|rfl|(simp;done)|(simp [*];done),by repeat (first|exact Drawn0.refl _|apply Drawn0.step)⟩

set_option linter.unusedVariables false
set_option linter.unusedSimpArgs false
def Q8.f (k:Nat) (a0:Bool) (l1:List Int):Option (Bool):=if a0=true then (if (l1.length:Int)≤12 then ((Q0.f k l1).bind fun t248=>(some t248)) else (some false)) else (some ((l1.length:Int)==0))
set_option maxHeartbeats 8000000 in
theorem Q8.calls (k:Nat) (a0:Bool) (A1:Option Addr) (c1:Nat) (l1:List Int) (r:Bool) (w:World) (a2:Kd.C (Kd.int .i64) w A1 l1.length l1) (a3:l1.length≤c1) (h:Q8.f k a0 l1=some r) :
  Calls Try.prog 60 #[.bool a0,.slice A1 l1.length c1] w fun e w'=>e = .returned (.bool r)∧Drawn0 w w':=by
 have a6:=zzm a2;have a7:=zzm a3;clear a2 a3;have H:(if a0=true then (if (l1.length:Int)≤12 then ((Q0.f k l1).bind fun a1=>(some a1)) else (some false)) else (some ((l1.length:Int)==0)))=some r:=h;clear h;by_cases c3:a0=true
 ·
  subst c3;replace H:=zzIt H;by_cases c4:(l1.length:Int)≤12
  ·
   rw [if_pos c4] at H;have a4:decide ((l1.length:Int)≤12)=true:=decide_eq_true c4;have a5:decide (l1.length≤12)=true:=decide_eq_true (by omega);clear c4;obtain ⟨a1,A5,H⟩:=zzG H;obtain rfl:=Option.some.inj H;go_enter Try.func60,Try.ntmps60;go_wp2_with (first|(go_at_call 63;(with_reducible refine (Q0.calls k _ _ l1 a1 _ ?side1 ?side2 A5.out).mono ?_);(case side1=>repeat (first|exact a6.out|(with_reducible refine Kd.C_alloc ?_ _)|(with_reducible refine Kd.C_drewN ?_ _)|(with_reducible refine Kd.C_drew ?_)));(case side2=>exact a7.out);rintro e w' ⟨rfl,⟨nd,rfl⟩⟩));go_ret;exact ⟨by first|rfl|(simp;done)|(simp [*];done),by repeat (first|exact Drawn0.refl _|apply Drawn0.step)⟩
  ·
   rw [if_neg c4] at H;have a4:decide ((l1.length:Int)≤12)=false:=decide_eq_false c4;have a5:decide (l1.length≤12)=false:=decide_eq_false (by omega);clear c4;obtain rfl:=Option.some.inj H;go_enter Try.func60,Try.ntmps60;go_wp2;go_ret;exact ⟨by first|rfl|(simp;done)|(simp [*];done),by repeat (first|exact Drawn0.refl _|apply Drawn0.step)⟩
 ·
  replace c3:=Bool.eq_false_iff.mpr c3;subst c3;replace H:=zzIf H;obtain rfl:=Option.some.inj H;go_enter Try.func60,Try.ntmps60;go_wp2;go_ret;exact ⟨by first|rfl|(simp;done)|(simp [*];done),by repeat (first|exact Drawn0.refl _|apply Drawn0.step)⟩
def Ra.f (k:Nat) (a0_0:Int) (a0_1:Int) (a0_2:Bool) (l0_3:List Int) (a0_4:Bool) (l0_5:List Int):Option (Bool):=(Rh.f a0_0 a0_1).bind fun t250=>(if t250=true then ((Q8.f k a0_2 l0_3).bind fun t251=>(if t251=true then ((Q8.f k a0_4 l0_5).bind fun t252=>(some t252)) else (some false))) else (some false))
set_option maxHeartbeats 8000000 in
theorem Ra.calls (k:Nat) (a0:Int) (a1:Int) (a5:Bool) (b2:Option Addr) (b3:Nat) (a2:List Int) (a6:Bool) (b4:Option Addr) (b5:Nat) (a4:List Int) (r:Bool) (w:World) (b9:Kd.C (Kd.int .i64) w b2 a2.length a2) (c0:a2.length≤b3) (c1:Kd.C (Kd.int .i64) w b4 a4.length a4) (c2:a4.length≤b5) (h:Ra.f k a0 a1 a5 a2 a6 a4=some r) :
  Calls Try.prog 49 #[.agg #[.int .i64 a0,.int .i64 a1,.bool a5,.slice b2 a2.length b3,.bool a6,.slice b4 a4.length b5]] w fun e w'=>e = .returned (.bool r)∧Below w.heap.size w w':=by
 have hu42:=Try.underlying42;have c4:=zzm b9;have c6:=zzm c0;clear b9 c0;have c9:=zzm c1;have d0:=zzm c2;clear c1 c2;have HB:=zzm (Below.refl w.heap.size w);have H:((Rh.f a0 a1).bind fun b6=>(if b6=true then ((Q8.f k a5 a2).bind fun b7=>(if b7=true then ((Q8.f k a6 a4).bind fun b8=>(some b8)) else (some false))) else (some false)))=some r:=h;clear h;obtain ⟨b6,A2,H⟩:=zzG H;by_cases c3:b6=true
 ·
  subst c3;replace H:=zzIt H;obtain ⟨b7,A4,H⟩:=zzG H;by_cases c5:b7=true
  ·
   subst c5;replace H:=zzIt H;obtain ⟨b8,A6,H⟩:=zzG H;obtain rfl:=Option.some.inj H;go_enter Try.func49,Try.ntmps49;go_wp2_with (first|((with_reducible refine gate_dst (N:=1) rfl ?_);refine box_event ?hg (N:=1) ?hd (cs:=#[.int .i64 a0,.int .i64 a1,.bool a5,.slice b2 a2.length b3,.bool a6,.slice b4 a4.length b5]) (t:=42) ?hr ?_;(case hd=>rfl);(case hg=>rfl);(case hr=>first|(go_simp;done)|(go_simp;rfl));intro a3 hg w7 hbox hb;have a8:=zzm (zzp zzh1 hb);have a9:=zzm (hbox);have b0:=zzm ((by rw [hg];exact (zzo zzh1):w.heap.size≤a3));have b1:=zzm ((by rw [hg];exact (zzo zzh1):w.heap.size≤a3));clear HB;have HB:=a8;have a7:=a9;have c7:=b0;have c8:=b1;clear a8 a9 b0 b1 hb hbox hg;obtain ⟨g5,g6,g7,g8,g9,h0,h1,h2,h3,h4,h5,h6⟩:=zzc6 a7.out)|((with_reducible refine gate_callee (f:=59) rfl ?_);refine goesL_ (some 7) rfl rfl Try.func59 (by kernel_rfl) rfl #[.int .i64 a0,.int .i64 a1] rfl zzM2 ?_;(with_reducible refine (Rh.calls a0 a1 true _ A2.out).mono ?_);rintro e w' ⟨rfl,⟨nd,rfl⟩⟩;refine ⟨_,rfl,?_⟩)|(go_at_call 60;(with_reducible refine (Q8.calls k a5 _ _ a2 true _ ?side1 ?side2 A4.out).mono ?_);(case side1=>repeat (first|exact (Kd.C_below c4.out zzh2)|(with_reducible refine Kd.C_alloc ?_ _)|(with_reducible refine Kd.C_drewN ?_ _)|(with_reducible refine Kd.C_drew ?_)));(case side2=>exact c6.out);rintro e w' ⟨rfl,⟨nd,rfl⟩⟩)|(go_at_call 60;(with_reducible refine (Q8.calls k a6 _ _ a4 b8 _ ?side1 ?side2 A6.out).mono ?_);(case side1=>repeat (first|exact (Kd.C_below c9.out zzh2)|(with_reducible refine Kd.C_alloc ?_ _)|(with_reducible refine Kd.C_drewN ?_ _)|(with_reducible refine Kd.C_drew ?_)));(case side2=>exact d0.out);rintro e w' ⟨rfl,⟨nd,rfl⟩⟩));go_ret;exact ⟨zzR,zzh3⟩
  ·
   replace c5:=Bool.eq_false_iff.mpr c5;subst c5;replace H:=zzIf H;obtain rfl:=Option.some.inj H;go_enter Try.func49,Try.ntmps49;go_wp2_with (first|((with_reducible refine gate_dst (N:=1) rfl ?_);refine box_event ?hg (N:=1) ?hd (cs:=#[.int .i64 a0,.int .i64 a1,.bool a5,.slice b2 a2.length b3,.bool a6,.slice b4 a4.length b5]) (t:=42) ?hr ?_;(case hd=>rfl);(case hg=>rfl);(case hr=>first|(go_simp;done)|(go_simp;rfl));intro a3 hg w9 hbox hb;have a8:=zzm (zzp zzh1 hb);have a9:=zzm (hbox);have b0:=zzm ((by rw [hg];exact (zzo zzh1):w.heap.size≤a3));have b1:=zzm ((by rw [hg];exact (zzo zzh1):w.heap.size≤a3));clear HB;have HB:=a8;have a7:=a9;have c7:=b0;have c8:=b1;clear a8 a9 b0 b1 hb hbox hg;obtain ⟨d1,d2,d3,d4,d5,d6,d7,d8,d9,e0,e1,e2⟩:=zzc6 a7.out)|((with_reducible refine gate_callee (f:=59) rfl ?_);refine goesL_ (some 7) rfl rfl Try.func59 (by kernel_rfl) rfl #[.int .i64 a0,.int .i64 a1] rfl zzM2 ?_;(with_reducible refine (Rh.calls a0 a1 true _ A2.out).mono ?_);rintro e w' ⟨rfl,⟨nd,rfl⟩⟩;refine ⟨_,rfl,?_⟩)|(go_at_call 60;(with_reducible refine (Q8.calls k a5 _ _ a2 false _ ?side1 ?side2 A4.out).mono ?_);(case side1=>repeat (first|exact (Kd.C_below c4.out zzh2)|(with_reducible refine Kd.C_alloc ?_ _)|(with_reducible refine Kd.C_drewN ?_ _)|(with_reducible refine Kd.C_drew ?_)));(case side2=>exact c6.out);rintro e w' ⟨rfl,⟨nd,rfl⟩⟩));go_ret;exact ⟨zzR,zzh3⟩
 ·
  replace c3:=Bool.eq_false_iff.mpr c3;subst c3;replace H:=zzIf H;obtain rfl:=Option.some.inj H;go_enter Try.func49,Try.ntmps49;go_wp2_with (first|((with_reducible refine gate_dst (N:=1) rfl ?_);refine box_event ?hg (N:=1) ?hd (cs:=#[.int .i64 a0,.int .i64 a1,.bool a5,.slice b2 a2.length b3,.bool a6,.slice b4 a4.length b5]) (t:=42) ?hr ?_;(case hd=>rfl);(case hg=>rfl);(case hr=>first|(go_simp;done)|(go_simp;rfl));intro a3 hg h7 hbox hb;have a8:=zzm (zzp zzh1 hb);have a9:=zzm (hbox);have b0:=zzm ((by rw [hg];exact (zzo zzh1):w.heap.size≤a3));have b1:=zzm ((by rw [hg];exact (zzo zzh1):w.heap.size≤a3));clear HB;have HB:=a8;have a7:=a9;have c7:=b0;have c8:=b1;clear a8 a9 b0 b1 hb hbox hg;obtain ⟨e3,e4,e5,e6,e7,e8,e9,g0,g1,g2,g3,g4⟩:=zzc6 a7.out)|((with_reducible refine gate_callee (f:=59) rfl ?_);refine goesL_ (some 7) rfl rfl Try.func59 (by kernel_rfl) rfl #[.int .i64 a0,.int .i64 a1] rfl zzM2 ?_;(with_reducible refine (Rh.calls a0 a1 false _ A2.out).mono ?_);rintro e w' ⟨rfl,⟨nd,rfl⟩⟩;refine ⟨_,rfl,?_⟩));go_ret;exact ⟨zzR,zzh3⟩

set_option linter.unusedVariables false
set_option linter.unusedSimpArgs false
mutual
def Qd.j0:Nat→Bool→Bool→Int→Int→Int→List (S42)→Option (Bool)
 | 0,_,_,_,_,_,_=>none
 | k+1,x254000,x254001,x254002,x254003,x254004,x254005=>(Qr.f (x254005.length:Int) 1 6).bind fun t257=>(if t257=true then (if x254001=true then (Qd.j1 k ((x254005.length:Int) != 1) x254000 x254001 x254002 x254003 x254004 x254005) else (Qd.j1 k false x254000 x254001 x254002 x254003 x254004 x254005)) else (Qd.j1 k true x254000 x254001 x254002 x254003 x254004 x254005))
def Qd.j1:Nat→Bool→Bool→Bool→Int→Int→Int→List (S42)→Option (Bool)
 | 0,_,_,_,_,_,_,_=>none
 | k+1,x50,x254000,x254001,x254002,x254003,x254004,x254005=>if x50=true then (some false) else (Qd.l0 k x254005 (x254005.length:Int) 0 x254000 x254001 x254002 x254003 x254004 x254005)
def Qd.l0:Nat→List (S42)→Int→Int→Bool→Bool→Int→Int→Int→List (S42)→Option (Bool)
 | 0,_,_,_,_,_,_,_,_,_=>none
 | k+1,x52,x53,x54,x254000,x254001,x254002,x254003,x254004,x254005=>if x54 < x53 then (if 0≤x54 then (if x54 < (x52.length:Int) then ((Ra.f k ((Qb x52 x54).f0) ((Qb x52 x54).f1) ((Qb x52 x54).f2) ((Qb x52 x54).f3) ((Qb x52 x54).f4) ((Qb x52 x54).f5)).bind fun t260=>(if t260=true then (if x54 > 0 then (if 0≤(wrap64 (x54 - 1)) then (if (wrap64 (x54 - 1)) < (x254005.length:Int) then (if ((Qb x254005 (wrap64 (x54 - 1))).f0) ≥ ((Qb x52 x54).f0) then (some false) else (Qd.l0 k x52 x53 (wrap64 (x54+1)) x254000 x254001 x254002 x254003 x254004 x254005)) else (none)) else (none)) else (Qd.l0 k x52 x53 (wrap64 (x54+1)) x254000 x254001 x254002 x254003 x254004 x254005)) else (some false))) else (none)) else (none)) else (some true)
end
def Qd.f (k:Nat) (a0_0:Bool) (a0_1:Bool) (a0_2:Int) (a0_3:Int) (a0_4:Int) (l0_5:List (S42)):Option (Bool):=if a0_2=255 then (if a0_3=0 then (if a0_4=0 then (if a0_1=true then (some false) else (Qd.j0 k a0_0 a0_1 a0_2 a0_3 a0_4 l0_5)) else (some false)) else (some false)) else ((Rl.f a0_2).bind fun t254=>(if t254=true then ((Qr.f a0_3 0 99).bind fun t255=>(if t255=true then ((Qr.f a0_4 0 9999).bind fun t256=>(if t256=true then (Qd.j0 k a0_0 a0_1 a0_2 a0_3 a0_4 l0_5) else (some false))) else (some false))) else (some false)))
def Qd.T11:Bool×List (List Nat×List Nat):=(true,[([],[]),([0],[0]),([1],[1]),([2,1],[2]),([3],[3]),([4,3],[3,4]),([5,3,3],[3,5]),([6],[6]),([7,6],[6,7]),([6],[6]),([9,6],[6,9]),([8,10,6],[6,8,10]),([11,6],[6,11]),([12,6],[6,12]),([6],[6]),([14,6],[6,14]),([13,15,6],[6,13,15]),([6,16,3],[3,6,16]),([3,17],[3,17])])
def Qd.B11:List Nat:=[0,1,3,7,15,31,63,127,255,127,639,2047,4095,8191,127,16511,65535,131071,262143]
theorem Qd.tab11:rtab .any (opsOf Try.f32 11)=Qd.T11:=by kernel_rfl
theorem Qd.bits11:waitsOk Qd.T11.2 Qd.B11=true:=by kernel_rfl
set_option maxHeartbeats 8000000 in
theorem Qd.calls (k:Nat) (c9:Bool) (c0:Bool) (b4:Int) (b8:Int) (b9:Int) (k0:Option Addr) (d0:Nat) (a1:List (S42)) (r:Bool) (w:World) (D2:Kd.C k42 w k0 a1.length a1) (D3:a1.length≤d0) (h:Qd.f k c9 c0 b4 b8 b9 a1=some r) :
  Calls Try.prog 32 #[.agg #[.bool c9,.bool c0,.int .i64 b4,.int .i64 b8,.int .i64 b9,.slice k0 a1.length d0]] w fun e w'=>e = .returned (.bool r)∧Below w.heap.size w w':=by
 have hu39:=Try.underlying39;have hu42:=Try.underlying42;have j5:=zzm D2;have M3:=zzm D3;clear D2 D3;have HB:=zzm (Below.refl w.heap.size w);have H:(if b4=255 then (if b8=0 then (if b9=0 then (if c0=true then (some false) else (Qd.j0 k c9 c0 b4 b8 b9 a1)) else (some false)) else (some false)) else ((Rl.f b4).bind fun C7=>(if C7=true then ((Qr.f b8 0 99).bind fun C8=>(if C8=true then ((Qr.f b9 0 9999).bind fun C9=>(if C9=true then (Qd.j0 k c9 c0 b4 b8 b9 a1) else (some false))) else (some false))) else (some false))))=some r:=h;clear h;have F8:=zzm H;clear H;go_enter Try.func32,Try.ntmps32;go_upto_if 7 with (first|((with_reducible refine gate_dst (N:=1) rfl ?_);(try (refine gate_guard (by rfl) ?_;dsimp only));refine box_event ?hg (N:=1) ?hd (cs:=#[.bool c9,.bool c0,.int .i64 b4,.int .i64 b8,.int .i64 b9,.slice k0 a1.length d0]) (t:=39) ?hr ?_;(case hd=>rfl);(case hg=>rfl);(case hr=>first|(go_simp;done)|(go_simp;rfl));intro b0 hg w3 hbox hb;have b5:=zzm (zzp zzh1 hb);have b6:=zzm (hbox);have b7:=zzm ((by rw [hg];exact (zzo zzh1):w.heap.size≤b0));have g5:=zzm ((by rw [hg];exact (zzo zzh1):w.heap.size≤b0));clear HB;have HB:=b5;have a3:=b6;have M4:=b7;have M5:=g5;clear b5 b6 b7 g5 hb hbox hg;obtain ⟨t1,t2,t3,t4,t5,t6,t7,t8,t9,v0,v1,v2⟩:=zzc6 a3.out))
 (try simp only [Act.put,zzq,zzr,zzs]);go_cut [] (fun wc=>∃ (kq:Nat),Aside0 (Qd.j0 kq c9 c0 b4 b8 b9 a1=some r)∧Aside0 (kq≤k)∧Aside0 (wc.heap[b0]? = some (.cells #[.bool c9,.bool c0,.int .i64 b4,.int .i64 b8,.int .i64 b9,(.slice k0 a1.length d0)] 39 (0,0)))∧Aside0 (Below w.heap.size w wc))
 case first=>
  have H:=F8.out;clear F8;by_cases c5:b4=255
  ·
   rw [if_pos c5] at H;obtain ⟨h7,B7⟩:=zzQ c5;clear c5
   (first|rw [h7]|(simp only [i64_w,i32_w];rw [h7])|skip);by_cases c6:b8=0
   ·
    rw [if_pos c6] at H;obtain ⟨B8,B9⟩:=zzQ c6;clear c6;by_cases c7:b9=0
    ·
     rw [if_pos c7] at H;obtain ⟨C0,C1⟩:=zzQ c7;clear c7;by_cases c8:c0=true
     ·
      subst c8;replace H:=zzIt H;obtain rfl:=Option.some.inj H;obtain ⟨v3,v4,v5,v6,v7,v8,v9,w0,w1,w2,w4,w5⟩:=zzc6 a3.out;go_wp2;go_ret;exact ⟨zzR,zzh3⟩
     ·
      replace c8:=Bool.eq_false_iff.mpr c8;subst c8;replace H:=zzIf H;have H':=zzm H;clear H;obtain ⟨k1,k2,k4,k5,k6,k7,k8,k9,l2,l3,l4,l5⟩:=zzc6 a3.out;go_wp2;go_meet
      case rel=>exact ⟨_,H',⟨by first|omega|exact Nat.le_refl _⟩,⟨zzE a3.out⟩,⟨zzh3⟩⟩
    ·
     rw [if_neg c7] at H;obtain ⟨C0,C1⟩:=zzY c7;obtain rfl:=Option.some.inj H;obtain ⟨l6,l7,l8,l9,m0,m1,m2,m3,m4,m5,m6,m7⟩:=zzc6 a3.out;go_wp2;go_ret;exact ⟨zzR,zzh3⟩
   ·
    rw [if_neg c6] at H;obtain ⟨B8,B9⟩:=zzY c6;obtain rfl:=Option.some.inj H;obtain ⟨m8,m9,n0,n1,n2,n3,n4,n5,n6,n7,n8,n9⟩:=zzc6 a3.out;go_wp2;go_ret;exact ⟨zzR,zzh3⟩
  ·
   rw [if_neg c5] at H;obtain ⟨h7,B7⟩:=zzY c5
   (first|rw [h7]|(simp only [i64_w,i32_w];rw [h7])|skip);obtain ⟨C7,D4,H⟩:=zzG H;by_cases w6:C7=true
   ·
    subst w6;replace H:=zzIt H;obtain ⟨C8,F9,H⟩:=zzG H;by_cases w7:C8=true
    ·
     subst w7;replace H:=zzIt H;obtain ⟨C9,G5,H⟩:=zzG H;by_cases w8:C9=true
     ·
      subst w8;replace H:=zzIt H;have H':=zzm H;clear H;obtain ⟨o0,o1,o2,o3,o4,o5,o6,o7,o8,o9,p0,p1⟩:=zzc6 a3.out;go_wp2_with (first|((with_reducible refine gate_callee (f:=47) rfl ?_);refine goesL_ (some 22) rfl rfl Try.func47 (by kernel_rfl) rfl #[.int .i64 b4] rfl zzM2 ?_;(with_reducible refine (Rl.calls b4 true _ D4.out).mono ?_);rintro e w' ⟨rfl,⟨nd,rfl⟩⟩;refine ⟨_,rfl,?_⟩)|(go_at_call 48;(with_reducible refine (Qr.calls b8 0 99 true _ F9.out).mono ?_);rintro e w' ⟨rfl,⟨nd,rfl⟩⟩)|(go_at_call 48;(with_reducible refine (Qr.calls b9 0 9999 true _ G5.out).mono ?_);rintro e w' ⟨rfl,⟨nd,rfl⟩⟩));go_meet
      case rel=>exact ⟨_,H',⟨by first|omega|exact Nat.le_refl _⟩,⟨zzE a3.out⟩,⟨zzh3⟩⟩
     ·
      replace w8:=Bool.eq_false_iff.mpr w8;subst w8;replace H:=zzIf H;obtain rfl:=Option.some.inj H;obtain ⟨p3,p4,p5,p6,p7,p8,p9,q0,q1,q2,q3,q4⟩:=zzc6 a3.out;go_wp2_with (first|((with_reducible refine gate_callee (f:=47) rfl ?_);refine goesL_ (some 22) rfl rfl Try.func47 (by kernel_rfl) rfl #[.int .i64 b4] rfl zzM2 ?_;(with_reducible refine (Rl.calls b4 true _ D4.out).mono ?_);rintro e w' ⟨rfl,⟨nd,rfl⟩⟩;refine ⟨_,rfl,?_⟩)|(go_at_call 48;(with_reducible refine (Qr.calls b8 0 99 true _ F9.out).mono ?_);rintro e w' ⟨rfl,⟨nd,rfl⟩⟩)|(go_at_call 48;(with_reducible refine (Qr.calls b9 0 9999 false _ G5.out).mono ?_);rintro e w' ⟨rfl,⟨nd,rfl⟩⟩));go_ret;exact ⟨zzR,zzh3⟩
    ·
     replace w7:=Bool.eq_false_iff.mpr w7;subst w7;replace H:=zzIf H;obtain rfl:=Option.some.inj H;obtain ⟨q5,q6,q7,q8,q9,r0,r1,r2,r3,r4,r5,r6⟩:=zzc6 a3.out;go_wp2_with (first|((with_reducible refine gate_callee (f:=47) rfl ?_);refine goesL_ (some 22) rfl rfl Try.func47 (by kernel_rfl) rfl #[.int .i64 b4] rfl zzM2 ?_;(with_reducible refine (Rl.calls b4 true _ D4.out).mono ?_);rintro e w' ⟨rfl,⟨nd,rfl⟩⟩;refine ⟨_,rfl,?_⟩)|(go_at_call 48;(with_reducible refine (Qr.calls b8 0 99 false _ F9.out).mono ?_);rintro e w' ⟨rfl,⟨nd,rfl⟩⟩));go_ret;exact ⟨zzR,zzh3⟩
   ·
    replace w6:=Bool.eq_false_iff.mpr w6;subst w6;replace H:=zzIf H;obtain rfl:=Option.some.inj H;obtain ⟨r7,r8,r9,s0,s1,s2,s3,s4,s5,s6,s7,s8⟩:=zzc6 a3.out;go_wp2_with (first|((with_reducible refine gate_callee (f:=47) rfl ?_);refine goesL_ (some 22) rfl rfl Try.func47 (by kernel_rfl) rfl #[.int .i64 b4] rfl zzM2 ?_;(with_reducible refine (Rl.calls b4 false _ D4.out).mono ?_);rintro e w' ⟨rfl,⟨nd,rfl⟩⟩;refine ⟨_,rfl,?_⟩));go_ret;exact ⟨zzR,zzh3⟩
 case rest=>
  clear F8;try clear c1
  try clear p2
  try clear c3
  try clear c4
  try clear c5
  try clear h7
  try clear B7
  try clear c6
  try clear B8
  try clear B9
  try clear c7
  try clear C0
  try clear C1
  try clear c8
  try clear w6
  try clear w7
  try clear w8
  try clear k1
  try clear k2
  try clear k4
  try clear k5
  try clear k6
  try clear k7
  try clear l6
  try clear l7
  try clear l8
  try clear l9
  try clear m0
  try clear m1
  try clear m8
  try clear m9
  try clear n0
  try clear n1
  try clear n2
  try clear n3
  try clear o0
  try clear o1
  try clear o2
  try clear o3
  try clear o4
  try clear o5
  try clear p3
  try clear p4
  try clear p5
  try clear p6
  try clear p7
  try clear p8
  try clear q5
  try clear q6
  try clear q7
  try clear q8
  try clear q9
  try clear r0
  try clear r7
  try clear r8
  try clear r9
  try clear s0
  try clear s1
  try clear s2
  try clear t1
  try clear t2
  try clear t3
  try clear t4
  try clear t5
  try clear t6
  try clear v3
  try clear v4
  try clear v5
  try clear v6
  try clear v7
  try clear v8
  try clear k8
  try clear k9
  try clear l2
  try clear l3
  try clear l4
  try clear l5
  try clear m2
  try clear m3
  try clear m4
  try clear m5
  try clear m6
  try clear m7
  try clear n4
  try clear n5
  try clear n6
  try clear n7
  try clear n8
  try clear n9
  try clear o6
  try clear o7
  try clear o8
  try clear o9
  try clear p0
  try clear p1
  try clear p9
  try clear q0
  try clear q1
  try clear q2
  try clear q3
  try clear q4
  try clear r1
  try clear r2
  try clear r3
  try clear r4
  try clear r5
  try clear r6
  try clear s3
  try clear s4
  try clear s5
  try clear s6
  try clear s7
  try clear s8
  try clear t7
  try clear t8
  try clear t9
  try clear v0
  try clear v1
  try clear v2
  try clear v9
  try clear w0
  try clear w1
  try clear w2
  try clear w4
  try clear w5
  obtain ⟨kq,HA,HJ1,a3,HB⟩:=hcut;cases kq with
  | zero=>exact absurd HA.out (by simp [Qd.j0])
  | succ L6=>
   have H:=HA.out;clear HA;simp only [Qd.j0] at H;have D0:=zzm H;clear H;go_upto_region 6 with (fail);go_cut [50] (fun L7 wc=>∃ (kq:Nat) (j9:Bool),L7 = .bool j9∧Aside0 (Qd.j1 kq j9 c9 c0 b4 b8 b9 a1=some r)∧Aside0 (kq≤L6)∧Aside0 (wc.heap[b0]? = some (.cells #[.bool c9,.bool c0,.int .i64 b4,.int .i64 b8,.int .i64 b9,(.slice k0 a1.length d0)] 39 (0,0)))∧Aside0 (Below w.heap.size w wc))
   case first=>
    have H:=D0.out;clear D0;obtain ⟨G6,G0,H⟩:=zzG H;by_cases x3:G6=true
    ·
     subst x3;replace H:=zzIt H;by_cases x4:c0=true
     ·
      subst x4;replace H:=zzIt H;have H':=zzm H;clear H;obtain ⟨x5,x6,x7,x8,x9,y0,y1,y2,y3,y4,y5,y6⟩:=zzc6 a3.out;go_wp2_with (first|((with_reducible refine gate_callee (f:=48) rfl ?_);refine goesL_ (some 39) rfl rfl Try.func48 (by kernel_rfl) rfl #[.int .i64 (a1.length:Int),.int .i64 1,.int .i64 6] rfl zzM2 ?_;(with_reducible refine (Qr.calls (a1.length:Int) 1 6 true _ G0.out).mono ?_);rintro e w' ⟨rfl,⟨nd,rfl⟩⟩;refine ⟨_,rfl,?_⟩));go_meet
      case rel=>exact ⟨_,(((a1.length:Int) != 1)),(by first|rfl|(simp;done)|(simp [*];done)),H',⟨by have:=HJ1.out;first|omega|exact Nat.le_refl _⟩,⟨zzE a3.out⟩,⟨zzh3⟩⟩
     ·
      replace x4:=Bool.eq_false_iff.mpr x4;subst x4;replace H:=zzIf H;have H':=zzm H;clear H;obtain ⟨y7,y8,y9,z0,z1,z2,z3,z4,z5,z6,z7,z8⟩:=zzc6 a3.out;go_wp2_with (first|((with_reducible refine gate_callee (f:=48) rfl ?_);refine goesL_ (some 39) rfl rfl Try.func48 (by kernel_rfl) rfl #[.int .i64 (a1.length:Int),.int .i64 1,.int .i64 6] rfl zzM2 ?_;(with_reducible refine (Qr.calls (a1.length:Int) 1 6 true _ G0.out).mono ?_);rintro e w' ⟨rfl,⟨nd,rfl⟩⟩;refine ⟨_,rfl,?_⟩));go_meet
      case rel=>exact ⟨_,(false),(by first|rfl|(simp;done)|(simp [*];done)),H',⟨by have:=HJ1.out;first|omega|exact Nat.le_refl _⟩,⟨zzE a3.out⟩,⟨zzh3⟩⟩
    ·
     replace x3:=Bool.eq_false_iff.mpr x3;subst x3;replace H:=zzIf H;have H':=zzm H;clear H;obtain ⟨z9,A0,A1,A2,A3,A4,A5,A6,A7,A8,A9,B0⟩:=zzc6 a3.out;go_wp2_with (first|((with_reducible refine gate_callee (f:=48) rfl ?_);refine goesL_ (some 39) rfl rfl Try.func48 (by kernel_rfl) rfl #[.int .i64 (a1.length:Int),.int .i64 1,.int .i64 6] rfl zzM2 ?_;(with_reducible refine (Qr.calls (a1.length:Int) 1 6 false _ G0.out).mono ?_);rintro e w' ⟨rfl,⟨nd,rfl⟩⟩;refine ⟨_,rfl,?_⟩));go_meet
     case rel=>exact ⟨_,(true),(by first|rfl|(simp;done)|(simp [*];done)),H',⟨by have:=HJ1.out;first|omega|exact Nat.le_refl _⟩,⟨zzE a3.out⟩,⟨zzh3⟩⟩
   case rest=>
    clear D0;try clear c1
    try clear c2
    try clear p2
    try clear c3
    try clear c4
    try clear c5
    try clear h7
    try clear B7
    try clear c6
    try clear B8
    try clear B9
    try clear c7
    try clear C0
    try clear C1
    try clear c8
    try clear w6
    try clear w7
    try clear w8
    try clear x3
    try clear x4
    try clear k1
    try clear k2
    try clear k4
    try clear k5
    try clear k6
    try clear k7
    try clear l6
    try clear l7
    try clear l8
    try clear l9
    try clear m0
    try clear m1
    try clear m8
    try clear m9
    try clear n0
    try clear n1
    try clear n2
    try clear n3
    try clear o0
    try clear o1
    try clear o2
    try clear o3
    try clear o4
    try clear o5
    try clear p3
    try clear p4
    try clear p5
    try clear p6
    try clear p7
    try clear p8
    try clear q5
    try clear q6
    try clear q7
    try clear q8
    try clear q9
    try clear r0
    try clear r7
    try clear r8
    try clear r9
    try clear s0
    try clear s1
    try clear s2
    try clear x5
    try clear x6
    try clear x7
    try clear x8
    try clear x9
    try clear y0
    try clear y7
    try clear y8
    try clear y9
    try clear z0
    try clear z1
    try clear z2
    try clear z9
    try clear A0
    try clear A1
    try clear A2
    try clear A3
    try clear A4
    try clear t1
    try clear t2
    try clear t3
    try clear t4
    try clear t5
    try clear t6
    try clear v3
    try clear v4
    try clear v5
    try clear v6
    try clear v7
    try clear v8
    try clear k8
    try clear k9
    try clear l2
    try clear l3
    try clear l4
    try clear l5
    try clear m2
    try clear m3
    try clear m4
    try clear m5
    try clear m6
    try clear m7
    try clear n4
    try clear n5
    try clear n6
    try clear n7
    try clear n8
    try clear n9
    try clear o6
    try clear o7
    try clear o8
    try clear o9
    try clear p0
    try clear p1
    try clear p9
    try clear q0
    try clear q1
    try clear q2
    try clear q3
    try clear q4
    try clear r1
    try clear r2
    try clear r3
    try clear r4
    try clear r5
    try clear r6
    try clear s3
    try clear s4
    try clear s5
    try clear s6
    try clear s7
    try clear s8
    try clear y1
    try clear y2
    try clear y3
    try clear y4
    try clear y5
    try clear y6
    try clear z3
    try clear z4
    try clear z5
    try clear z6
    try clear z7
    try clear z8
    try clear A5
    try clear A6
    try clear A7
    try clear A8
    try clear A9
    try clear B0
    try clear t7
    try clear t8
    try clear t9
    try clear v0
    try clear v1
    try clear v2
    try clear v9
    try clear w0
    try clear w1
    try clear w2
    try clear w4
    try clear w5
    try clear p2
    obtain ⟨kq,j9,rfl,HA,HJ22,a3,HB⟩:=hcut;cases kq with
    | zero=>exact absurd HA.out (by simp [Qd.j1])
    | succ G1=>
     have H:=HA.out;clear HA;simp only [Qd.j1] at H;by_cases C5:j9=true
     ·
      subst C5;replace H:=zzIt H;obtain rfl:=Option.some.inj H;go_wp2;go_ret;exact ⟨zzR,zzh3⟩
     ·
      replace C5:=Bool.eq_false_iff.mpr C5;subst C5;replace H:=zzIf H;have H':=zzm H;clear H;obtain ⟨E4,E5,E6,E7,E8,E9,F0,F1,F2,F3,F4,F5⟩:=zzc6 a3.out;go_wp2;go_loopg [54] G1 (fun kq L8 w'=>∃ (a0:Int),L8 = .int .i64 a0∧Aside0 (Qd.l0 kq a1 (a1.length:Int) a0 c9 c0 b4 b8 b9 a1=some r)∧Aside0 (kq≤G1)∧Aside0 (w'.heap[b0]? = some (.cells #[.bool c9,.bool c0,.int .i64 b4,.int .i64 b8,.int .i64 b9,(.slice k0 a1.length d0)] 39 (0,0)))∧Aside0 (Below w.heap.size w w'))
      case atStart=>exact ⟨(0),(by first|rfl|(simp;done)|(simp [*];done)),H',⟨Nat.le_refl _⟩,⟨zzE a3.out⟩,⟨zzh3⟩⟩
      case round=>
       clear H';try clear c1
       try clear c2
       try clear p2
       try clear c3
       try clear c4
       try clear c5
       try clear h7
       try clear B7
       try clear c6
       try clear B8
       try clear B9
       try clear c7
       try clear C0
       try clear C1
       try clear c8
       try clear w6
       try clear w7
       try clear w8
       try clear x3
       try clear x4
       try clear C5
       try clear k1
       try clear k2
       try clear k4
       try clear k5
       try clear k6
       try clear k7
       try clear l6
       try clear l7
       try clear l8
       try clear l9
       try clear m0
       try clear m1
       try clear m8
       try clear m9
       try clear n0
       try clear n1
       try clear n2
       try clear n3
       try clear o0
       try clear o1
       try clear o2
       try clear o3
       try clear o4
       try clear o5
       try clear p3
       try clear p4
       try clear p5
       try clear p6
       try clear p7
       try clear p8
       try clear q5
       try clear q6
       try clear q7
       try clear q8
       try clear q9
       try clear r0
       try clear r7
       try clear r8
       try clear r9
       try clear s0
       try clear s1
       try clear s2
       try clear x5
       try clear x6
       try clear x7
       try clear x8
       try clear x9
       try clear y0
       try clear y7
       try clear y8
       try clear y9
       try clear z0
       try clear z1
       try clear z2
       try clear z9
       try clear A0
       try clear A1
       try clear A2
       try clear A3
       try clear A4
       try clear E4
       try clear E5
       try clear E6
       try clear E7
       try clear E8
       try clear E9
       try clear t1
       try clear t2
       try clear t3
       try clear t4
       try clear t5
       try clear t6
       try clear v3
       try clear v4
       try clear v5
       try clear v6
       try clear v7
       try clear v8
       try clear k8
       try clear k9
       try clear l2
       try clear l3
       try clear l4
       try clear l5
       try clear m2
       try clear m3
       try clear m4
       try clear m5
       try clear m6
       try clear m7
       try clear n4
       try clear n5
       try clear n6
       try clear n7
       try clear n8
       try clear n9
       try clear o6
       try clear o7
       try clear o8
       try clear o9
       try clear p0
       try clear p1
       try clear p9
       try clear q0
       try clear q1
       try clear q2
       try clear q3
       try clear q4
       try clear r1
       try clear r2
       try clear r3
       try clear r4
       try clear r5
       try clear r6
       try clear s3
       try clear s4
       try clear s5
       try clear s6
       try clear s7
       try clear s8
       try clear y1
       try clear y2
       try clear y3
       try clear y4
       try clear y5
       try clear y6
       try clear z3
       try clear z4
       try clear z5
       try clear z6
       try clear z7
       try clear z8
       try clear A5
       try clear A6
       try clear A7
       try clear A8
       try clear A9
       try clear B0
       try clear F0
       try clear F1
       try clear F2
       try clear F3
       try clear F4
       try clear F5
       try clear t7
       try clear t8
       try clear t9
       try clear v0
       try clear v1
       try clear v2
       try clear v9
       try clear w0
       try clear w1
       try clear w2
       try clear w4
       try clear w5
       try clear p2
       obtain ⟨a0,rfl,HA,HK3,a3,HB⟩:=hrel;cases gk with
       | zero=>exact absurd HA.out (by simp [Qd.l0])
       | succ k3=>
        have H:=HA.out;clear HA;simp only [Qd.l0] at H;by_cases B1:a0 < (a1.length:Int)
        ·
         rw [if_pos B1] at H;have G2:decide (a0 < (a1.length:Int))=true:=decide_eq_true B1;clear B1;by_cases D5 : 0≤a0
         ·
          rw [if_pos D5] at H;have M6:decide (0≤a0)=true:=decide_eq_true D5;clear D5;by_cases D6:a0 < (a1.length:Int)
          ·
           rw [if_pos D6] at H;have M7:decide (a0 < (a1.length:Int))=true:=decide_eq_true D6;clear D6;obtain ⟨G7,C6,H⟩:=zzG H;by_cases D7:G7=true
           ·
            subst D7;replace H:=zzIt H;by_cases B2:a0 > 0
            ·
             rw [if_pos B2] at H;have G3:decide (0 < a0)=true:=decide_eq_true B2;clear B2;obtain ⟨b3,hji38⟩:∃ j_:Int,(wrap64 (a0 - 1))=j_:=⟨_,rfl⟩;replace H:(if 0≤(b3) then (if (b3) < (a1.length:Int) then (if ((Qb a1 (b3)).f0) ≥ ((Qb a1 a0).f0) then (some false) else (Qd.l0 k3 a1 (a1.length:Int) (wrap64 (a0+1)) c9 c0 b4 b8 b9 a1)) else (none)) else (none))=some r:=by first|(rw [hji38] at H;exact H)|(simp only [hji38] at H ⊢;exact H)
             (try rw [hji38] at C6);have hji38w:(IntKind.i64.wrap (a0 - 1))=b3:=(i64_w _).trans hji38;by_cases D8 : 0≤(b3)
             ·
              rw [if_pos D8] at H;have M8:decide (0≤(b3))=true:=decide_eq_true D8;clear D8;by_cases D9:(b3) < (a1.length:Int)
              ·
               rw [if_pos D9] at H;have M9:decide ((b3) < (a1.length:Int))=true:=decide_eq_true D9;clear D9;by_cases B3:((Qb a1 (b3)).f0) ≥ ((Qb a1 a0).f0)
               ·
                rw [if_pos B3] at H;have G4:decide (((Qb a1 a0).f0)≤((Qb a1 (b3)).f0))=true:=decide_eq_true B3;clear B3;obtain rfl:=Option.some.inj H;have e9 : 0≤(a0:Int):=zzt;have g0:a0 < (a1.length:Int):=zzt;obtain ⟨a9,a6,a7,b1,b2,j6,d2,d3,d4,d5,d6,d7,d8,d9,e0,e1⟩:=Qt j5.out a0 e9 g0;cases j6;replace d2:=zzx HB.out d2;replace d3:=zzx HB.out d3;replace d4:=zzx HB.out d4;replace d5:=zzx HB.out d5;replace d6:=zzx HB.out d6;replace d7:=zzx HB.out d7;have g1:=zzm d9;have g2:=zzm d8;clear d9 d8;have g3:=zzm e1;have g4:=zzm e0;clear e1 e0;replace e9:=eq_true e9;replace g0:=eq_true g0;try go_wp2_with (first|((with_reducible refine gate_dst (N:=4) rfl ?_);(try (refine gate_guard (by rfl) ?_;dsimp only));refine box_event ?hg (N:=4) ?hd (cs:=#[.int .i64 0,.int .i64 0,.bool false,.slice none 0 0,.bool false,.slice none 0 0]) (t:=42) ?hr ?_;(case hd=>rfl);(case hg=>rfl);(case hr=>first|(go_simp;done)|(go_simp;rfl));intro a2 hg E0 hbox hb;have b5:=zzm (zzh (g:=b0) (o:=.cells #[.bool c9,.bool c0,.int .i64 b4,.int .i64 b8,.int .i64 b9,.slice (some a9) a1.length d0] 39 (0,0)) (zzE a3.out) hb);have b6:=zzm (zzp zzh2 hb);have b7:=zzm (hbox);have g5:=zzm ((by rw [hg];exact (zzo zzh2):w.heap.size≤a2));have h8:=zzm ((by rw [hg];exact (zzo zzh2):w.heap.size≤a2));have h9:=zzm ((by rw [hg];exact Nat.ne_of_lt (blk_lt (g:=b0) (o:=.cells #[.bool c9,.bool c0,.int .i64 b4,.int .i64 b8,.int .i64 b9,.slice (some a9) a1.length d0] 39 (0,0)) (zzE a3.out)):b0≠a2));have j4:=zzm ((by rw [hg];exact Nat.ne_of_gt (blk_lt (g:=b0) (o:=.cells #[.bool c9,.bool c0,.int .i64 b4,.int .i64 b8,.int .i64 b9,.slice (some a9) a1.length d0] 39 (0,0)) (zzE a3.out)):a2≠b0));clear a3 HB;have a3:=b5;have HB:=b6;have a4:=b7;have C2:=g5;have C3:=h8;have a5:=h9;have e2:=j4;clear b5 b6 b7 g5 h8 h9 j4 hb hbox hg;have N0:=e2.out;have N1:=a5.out;obtain ⟨G8,G9,H0,H1,H2,H3,H4,H5,H6,H7,H8,H9⟩:=zzc6 a4.out))
                have b5:Aside0 (((((((E0.setCell ⟨a2,0,none⟩ (.int .i64 ((Qb a1 a0).f0))).setCell ⟨a2,1,none⟩ (.int .i64 ((Qb a1 a0).f1))).setCell ⟨a2,2,none⟩ (.bool ((Qb a1 a0).f2))).setCell ⟨a2,3,none⟩ (.slice a6 ((Qb a1 a0).f3).length a7)).setCell ⟨a2,4,none⟩ (.bool ((Qb a1 a0).f4))).setCell ⟨a2,5,none⟩ (.slice b1 ((Qb a1 a0).f5).length b2)).heap[b0]? = some (.cells #[.bool c9,.bool c0,.int .i64 b4,.int .i64 b8,.int .i64 b9,.slice (some a9) a1.length d0] 39 (0,0))):=⟨by (with_reducible repeat (first|apply zzf|apply zzg|apply zze));refine zzj ?_ a5.out _;(with_reducible repeat (first|apply zzf|apply zzg|apply zze));refine zzj ?_ a5.out _;(with_reducible repeat (first|apply zzf|apply zzg|apply zze));refine zzj ?_ a5.out _;(with_reducible repeat (first|apply zzf|apply zzg|apply zze));refine zzj ?_ a5.out _;(with_reducible repeat (first|apply zzf|apply zzg|apply zze));refine zzj ?_ a5.out _;(with_reducible repeat (first|apply zzf|apply zzg|apply zze));refine zzj ?_ a5.out _;(with_reducible repeat (first|apply zzf|apply zzg|apply zze));exact a3.out⟩;have b6:Aside0 (((((((E0.setCell ⟨a2,0,none⟩ (.int .i64 ((Qb a1 a0).f0))).setCell ⟨a2,1,none⟩ (.int .i64 ((Qb a1 a0).f1))).setCell ⟨a2,2,none⟩ (.bool ((Qb a1 a0).f2))).setCell ⟨a2,3,none⟩ (.slice a6 ((Qb a1 a0).f3).length a7)).setCell ⟨a2,4,none⟩ (.bool ((Qb a1 a0).f4))).setCell ⟨a2,5,none⟩ (.slice b1 ((Qb a1 a0).f5).length b2)).heap[a2]? = some (.cells #[.int .i64 ((Qb a1 a0).f0),.int .i64 ((Qb a1 a0).f1),.bool ((Qb a1 a0).f2),.slice a6 ((Qb a1 a0).f3).length a7,.bool ((Qb a1 a0).f4),.slice b1 ((Qb a1 a0).f5).length b2] 42 (0,0))):=⟨by (with_reducible repeat (first|apply zzf|apply zzg|apply zze));refine zzi (cs:=#[.int .i64 ((Qb a1 a0).f0),.int .i64 ((Qb a1 a0).f1),.bool ((Qb a1 a0).f2),.slice a6 ((Qb a1 a0).f3).length a7,.bool ((Qb a1 a0).f4),.slice none 0 0]) ?_ 5 _ rfl;refine zzi (cs:=#[.int .i64 ((Qb a1 a0).f0),.int .i64 ((Qb a1 a0).f1),.bool ((Qb a1 a0).f2),.slice a6 ((Qb a1 a0).f3).length a7,.bool false,.slice none 0 0]) ?_ 4 _ rfl;refine zzi (cs:=#[.int .i64 ((Qb a1 a0).f0),.int .i64 ((Qb a1 a0).f1),.bool ((Qb a1 a0).f2),.slice none 0 0,.bool false,.slice none 0 0]) ?_ 3 _ rfl;refine zzi (cs:=#[.int .i64 ((Qb a1 a0).f0),.int .i64 ((Qb a1 a0).f1),.bool false,.slice none 0 0,.bool false,.slice none 0 0]) ?_ 2 _ rfl;refine zzi (cs:=#[.int .i64 ((Qb a1 a0).f0),.int .i64 0,.bool false,.slice none 0 0,.bool false,.slice none 0 0]) ?_ 1 _ rfl;refine zzi (cs:=#[.int .i64 0,.int .i64 0,.bool false,.slice none 0 0,.bool false,.slice none 0 0]) ?_ 0 _ rfl;(with_reducible repeat (first|apply zzf|apply zzg|apply zze));exact a4.out⟩;have b7:Aside0 (Below w.heap.size w ((((((E0.setCell ⟨a2,0,none⟩ (.int .i64 ((Qb a1 a0).f0))).setCell ⟨a2,1,none⟩ (.int .i64 ((Qb a1 a0).f1))).setCell ⟨a2,2,none⟩ (.bool ((Qb a1 a0).f2))).setCell ⟨a2,3,none⟩ (.slice a6 ((Qb a1 a0).f3).length a7)).setCell ⟨a2,4,none⟩ (.bool ((Qb a1 a0).f4))).setCell ⟨a2,5,none⟩ (.slice b1 ((Qb a1 a0).f5).length b2))):=⟨zzh3⟩
                (try clear a3)
                (try clear a4)
                (try clear HB);generalize ((((((E0.setCell ⟨a2,0,none⟩ (.int .i64 ((Qb a1 a0).f0))).setCell ⟨a2,1,none⟩ (.int .i64 ((Qb a1 a0).f1))).setCell ⟨a2,2,none⟩ (.bool ((Qb a1 a0).f2))).setCell ⟨a2,3,none⟩ (.slice a6 ((Qb a1 a0).f3).length a7)).setCell ⟨a2,4,none⟩ (.bool ((Qb a1 a0).f4))).setCell ⟨a2,5,none⟩ (.slice b1 ((Qb a1 a0).f5).length b2))=L9 at b5 b6 b7 ⊢;have a3:=b5;have a4:=b6;have HB:=b7;clear b5 b6 b7;have b5:=zzm (zzg a3.out);have b6:=zzm (zzg a4.out);have b7:=zzm (zzc HB.out);clear a3 a4 HB;have a3:=b5;have a4:=b6;have HB:=b7;clear b5 b6 b7;have j7 : 0≤((b3):Int):=zzt;have j8:(b3) < (a1.length:Int):=zzt;obtain ⟨C4,w9,x0,x1,x2,D1,e3,e4,e5,e6,e7,e8,g6,g7,g8,g9⟩:=Qt j5.out (b3) j7 j8;have h0:=e8;have h1:=e7;have h2:=e6;have h3:=e5;have h4:=e4;have h5:=e3;obtain rfl:a9=C4:=(by injection D1);replace e3:=zzx HB.out e3;replace e4:=zzx HB.out e4;replace e5:=zzx HB.out e5;replace e6:=zzx HB.out e6;replace e7:=zzx HB.out e7;replace e8:=zzx HB.out e8;have s9:=zzm g7;have F6:=zzm g6;clear g7 g6;have t0:=zzm g9;have F7:=zzm g8;clear g9 g8;replace j7:=eq_true j7;replace j8:=eq_true j8;refine start_ (n:=19) (S:=fun w'=>w'.cell? ⟨a2,0,none⟩=some (.int .i64 ((Qb a1 a0).f0))∧w'.cell? ⟨a2,1,none⟩=some (.int .i64 ((Qb a1 a0).f1))∧w'.cell? ⟨a2,2,none⟩=some (.bool ((Qb a1 a0).f2))∧w'.cell? ⟨a2,3,none⟩=some (.slice a6 ((Qb a1 a0).f3).length a7)∧w'.cell? ⟨a2,4,none⟩=some (.bool ((Qb a1 a0).f4))∧w'.cell? ⟨a2,5,none⟩=some (.slice b1 ((Qb a1 a0).f5).length b2)∧w'.cell? ⟨b0,0,none⟩=some (.bool c9)∧w'.cell? ⟨b0,1,none⟩=some (.bool c0)∧w'.cell? ⟨b0,2,none⟩=some (.int .i64 b4)∧w'.cell? ⟨b0,3,none⟩=some (.int .i64 b8)∧w'.cell? ⟨b0,4,none⟩=some (.int .i64 b9)∧w'.cell? ⟨b0,5,none⟩=some (.slice (some a9) a1.length d0)∧w'.cell? (a9.add (((b3)).toNat * 6))=some (.int .i64 ((Qb a1 (b3)).f0))∧w'.cell? ⟨(a9.add (((b3)).toNat * 6)).block,(a9.add (((b3)).toNat * 6)).off+1,none⟩=some (.int .i64 ((Qb a1 (b3)).f1))∧w'.cell? ⟨(a9.add (((b3)).toNat * 6)).block,(a9.add (((b3)).toNat * 6)).off+2,none⟩=some (.bool ((Qb a1 (b3)).f2))∧w'.cell? ⟨(a9.add (((b3)).toNat * 6)).block,(a9.add (((b3)).toNat * 6)).off+3,none⟩=some (.slice w9 ((Qb a1 (b3)).f3).length x0)∧w'.cell? ⟨(a9.add (((b3)).toNat * 6)).block,(a9.add (((b3)).toNat * 6)).off+4,none⟩=some (.bool ((Qb a1 (b3)).f4))∧w'.cell? ⟨(a9.add (((b3)).toNat * 6)).block,(a9.add (((b3)).toNat * 6)).off+5,none⟩=some (.slice x1 ((Qb a1 (b3)).f5).length x2)) (ds:=[]) (zzB 19 0) (by kernel_rfl) rfl rfl ⟨(zzk a4.out 0).trans rfl,(zzk a4.out 1).trans rfl,(zzk a4.out 2).trans rfl,(zzk a4.out 3).trans rfl,(zzk a4.out 4).trans rfl,(zzk a4.out 5).trans rfl,(zzk a3.out 0).trans rfl,(zzk a3.out 1).trans rfl,(zzk a3.out 2).trans rfl,(zzk a3.out 3).trans rfl,(zzk a3.out 4).trans rfl,(zzk a3.out 5).trans rfl,(zzx HB.out h5 :),(zzx HB.out h4 :),(zzx HB.out h3 :),(zzx HB.out h2 :),(zzx HB.out h1 :),(zzx HB.out h0 :)⟩ (fun d1=>?_);refine with_tabW Qd.tab11 Qd.bits11 (fun a8 h6=>?_);generalize L9.drew=N8 at a3 a4 HB s9 t0 e3 e4 e5 e6 e7 e8 d1 ⊢;refine zzT 0 59 19 1 a8 h6 d1 ?_
                refine one_ (i:=1) (N:=some 60) (zzB 19 3) rfl rfl (one_of a8.out (by kernel_rfl)) (by decide) (fun K hK=>?_);refine goes_ Try.func49 (by kernel_rfl) rfl #[.agg #[.int .i64 ((Qb a1 a0).f0),.int .i64 ((Qb a1 a0).f1),.bool ((Qb a1 a0).f2),.slice a6 ((Qb a1 a0).f3).length a7,.bool ((Qb a1 a0).f4),.slice b1 ((Qb a1 a0).f5).length b2]] (by rfl) rfl rfl zzM2 ?_;with_reducible refine (Ra.calls k3 ((Qb a1 a0).f0) ((Qb a1 a0).f1) ((Qb a1 a0).f2) _ _ ((Qb a1 a0).f3) ((Qb a1 a0).f4) _ _ ((Qb a1 a0).f5) true _ ?side1 ?side2 ?side3 ?side4 C6.out).mono ?_
                (case side1=>exact zzcb g1 HB)
                (case side2=>exact g2.out)
                (case side3=>exact zzcb g3 HB)
                (case side4=>exact g4.out);rintro e N9 ⟨rfl,hb⟩;refine ⟨_,rfl,?_⟩;have b5:=zzm (zzh (g:=b0) (o:=.cells #[.bool c9,.bool c0,.int .i64 b4,.int .i64 b8,.int .i64 b9,.slice (some a9) a1.length d0] 39 (0,0)) (zzE a3.out) hb);have b6:=zzm (zzh (g:=a2) (o:=.cells #[.int .i64 ((Qb a1 a0).f0),.int .i64 ((Qb a1 a0).f1),.bool ((Qb a1 a0).f2),.slice a6 ((Qb a1 a0).f3).length a7,.bool ((Qb a1 a0).f4),.slice b1 ((Qb a1 a0).f5).length b2] 42 (0,0)) (zzE a4.out) hb);have b7:=zzm (zzp zzh2 hb);clear a3 a4 HB;have a3:=b5;have a4:=b6;have HB:=b7;clear b5 b6 b7
                (try clear hb)
                (try clear hb2)
                (try clear hk)
                (try clear hi);refine hK.out _ _ ⟨(zzk a4.out 0).trans rfl,(zzk a4.out 1).trans rfl,(zzk a4.out 2).trans rfl,(zzk a4.out 3).trans rfl,(zzk a4.out 4).trans rfl,(zzk a4.out 5).trans rfl,(zzk a3.out 0).trans rfl,(zzk a3.out 1).trans rfl,(zzk a3.out 2).trans rfl,(zzk a3.out 3).trans rfl,(zzk a3.out 4).trans rfl,(zzk a3.out 5).trans rfl,(zzx HB.out h5 :),(zzx HB.out h4 :),(zzx HB.out h3 :),(zzx HB.out h2 :),(zzx HB.out h1 :),(zzx HB.out h0 :)⟩ (fun d1=>?_);clear hK K;refine zzO 60 ?_
                refine zzP 2 61 19 7 a8 ?_
                refine zzP 3 62 19 15 a8 ?_
                refine zzP 4 63 19 31 a8 ?_
                refine zzP 5 64 19 63 a8 ?_
                refine zzP 6 65 19 127 a8 ?_
                refine zzP 7 66 19 255 a8 ?_
                refine zzP 9 68 19 767 a8 ?_
                refine zzP 10 69 19 1791 a8 ?_
                refine zzP 14 73 19 18175 a8 ?_
                refine zzT 8 67 19 18431 a8 h6 d1 ?_
                refine zzP 11 70 19 20479 a8 ?_
                refine zzP 12 71 19 24575 a8 ?_
                refine zzT 13 72 19 32767 a8 h6 d1 ?_
                refine zzT 15 74 19 65535 a8 h6 d1 ?_
                refine zzP 16 75 19 131071 a8 ?_
                refine zzP 17 76 19 262143 a8 ?_
                refine zzP 18 77 19 524287 a8 ?_
                refine done_ (done_of a8.out (by kernel_rfl)) ?_;try go_wp2
                go_ret;exact ⟨by first|rfl|(simp [errW_none,errW_some] <;> rfl)|(simp only [← hji38];first|rfl|(simp [errW_none,errW_some] <;> rfl))|(simp [*,errW_none,errW_some] <;> rfl),zzh3⟩
               ·
                rw [if_neg B3] at H;have G4:decide (((Qb a1 a0).f0)≤((Qb a1 (b3)).f0))=false:=decide_eq_false B3;clear B3;have H':=zzm H;clear H;have e9 : 0≤(a0:Int):=zzt;have g0:a0 < (a1.length:Int):=zzt;obtain ⟨a9,a6,a7,b1,b2,j6,d2,d3,d4,d5,d6,d7,d8,d9,e0,e1⟩:=Qt j5.out a0 e9 g0;cases j6;replace d2:=zzx HB.out d2;replace d3:=zzx HB.out d3;replace d4:=zzx HB.out d4;replace d5:=zzx HB.out d5;replace d6:=zzx HB.out d6;replace d7:=zzx HB.out d7;have g1:=zzm d9;have g2:=zzm d8;clear d9 d8;have g3:=zzm e1;have g4:=zzm e0;clear e1 e0;replace e9:=eq_true e9;replace g0:=eq_true g0;try go_wp2_with (first|((with_reducible refine gate_dst (N:=4) rfl ?_);(try (refine gate_guard (by rfl) ?_;dsimp only));refine box_event ?hg (N:=4) ?hd (cs:=#[.int .i64 0,.int .i64 0,.bool false,.slice none 0 0,.bool false,.slice none 0 0]) (t:=42) ?hr ?_;(case hd=>rfl);(case hg=>rfl);(case hr=>first|(go_simp;done)|(go_simp;rfl));intro a2 hg E1 hbox hb;have b5:=zzm (zzh (g:=b0) (o:=.cells #[.bool c9,.bool c0,.int .i64 b4,.int .i64 b8,.int .i64 b9,.slice (some a9) a1.length d0] 39 (0,0)) (zzE a3.out) hb);have b6:=zzm (zzp zzh2 hb);have b7:=zzm (hbox);have g5:=zzm ((by rw [hg];exact (zzo zzh2):w.heap.size≤a2));have h8:=zzm ((by rw [hg];exact (zzo zzh2):w.heap.size≤a2));have h9:=zzm ((by rw [hg];exact Nat.ne_of_lt (blk_lt (g:=b0) (o:=.cells #[.bool c9,.bool c0,.int .i64 b4,.int .i64 b8,.int .i64 b9,.slice (some a9) a1.length d0] 39 (0,0)) (zzE a3.out)):b0≠a2));have j4:=zzm ((by rw [hg];exact Nat.ne_of_gt (blk_lt (g:=b0) (o:=.cells #[.bool c9,.bool c0,.int .i64 b4,.int .i64 b8,.int .i64 b9,.slice (some a9) a1.length d0] 39 (0,0)) (zzE a3.out)):a2≠b0));clear a3 HB;have a3:=b5;have HB:=b6;have a4:=b7;have C2:=g5;have C3:=h8;have a5:=h9;have e2:=j4;clear b5 b6 b7 g5 h8 h9 j4 hb hbox hg;have N2:=e2.out;have N3:=a5.out;obtain ⟨I0,I1,I2,I3,I4,I5,I6,I7,I8,I9,J0,J1⟩:=zzc6 a4.out))
                have b5:Aside0 (((((((E1.setCell ⟨a2,0,none⟩ (.int .i64 ((Qb a1 a0).f0))).setCell ⟨a2,1,none⟩ (.int .i64 ((Qb a1 a0).f1))).setCell ⟨a2,2,none⟩ (.bool ((Qb a1 a0).f2))).setCell ⟨a2,3,none⟩ (.slice a6 ((Qb a1 a0).f3).length a7)).setCell ⟨a2,4,none⟩ (.bool ((Qb a1 a0).f4))).setCell ⟨a2,5,none⟩ (.slice b1 ((Qb a1 a0).f5).length b2)).heap[b0]? = some (.cells #[.bool c9,.bool c0,.int .i64 b4,.int .i64 b8,.int .i64 b9,.slice (some a9) a1.length d0] 39 (0,0))):=⟨by (with_reducible repeat (first|apply zzf|apply zzg|apply zze));refine zzj ?_ a5.out _;(with_reducible repeat (first|apply zzf|apply zzg|apply zze));refine zzj ?_ a5.out _;(with_reducible repeat (first|apply zzf|apply zzg|apply zze));refine zzj ?_ a5.out _;(with_reducible repeat (first|apply zzf|apply zzg|apply zze));refine zzj ?_ a5.out _;(with_reducible repeat (first|apply zzf|apply zzg|apply zze));refine zzj ?_ a5.out _;(with_reducible repeat (first|apply zzf|apply zzg|apply zze));refine zzj ?_ a5.out _;(with_reducible repeat (first|apply zzf|apply zzg|apply zze));exact a3.out⟩;have b6:Aside0 (((((((E1.setCell ⟨a2,0,none⟩ (.int .i64 ((Qb a1 a0).f0))).setCell ⟨a2,1,none⟩ (.int .i64 ((Qb a1 a0).f1))).setCell ⟨a2,2,none⟩ (.bool ((Qb a1 a0).f2))).setCell ⟨a2,3,none⟩ (.slice a6 ((Qb a1 a0).f3).length a7)).setCell ⟨a2,4,none⟩ (.bool ((Qb a1 a0).f4))).setCell ⟨a2,5,none⟩ (.slice b1 ((Qb a1 a0).f5).length b2)).heap[a2]? = some (.cells #[.int .i64 ((Qb a1 a0).f0),.int .i64 ((Qb a1 a0).f1),.bool ((Qb a1 a0).f2),.slice a6 ((Qb a1 a0).f3).length a7,.bool ((Qb a1 a0).f4),.slice b1 ((Qb a1 a0).f5).length b2] 42 (0,0))):=⟨by (with_reducible repeat (first|apply zzf|apply zzg|apply zze));refine zzi (cs:=#[.int .i64 ((Qb a1 a0).f0),.int .i64 ((Qb a1 a0).f1),.bool ((Qb a1 a0).f2),.slice a6 ((Qb a1 a0).f3).length a7,.bool ((Qb a1 a0).f4),.slice none 0 0]) ?_ 5 _ rfl;refine zzi (cs:=#[.int .i64 ((Qb a1 a0).f0),.int .i64 ((Qb a1 a0).f1),.bool ((Qb a1 a0).f2),.slice a6 ((Qb a1 a0).f3).length a7,.bool false,.slice none 0 0]) ?_ 4 _ rfl;refine zzi (cs:=#[.int .i64 ((Qb a1 a0).f0),.int .i64 ((Qb a1 a0).f1),.bool ((Qb a1 a0).f2),.slice none 0 0,.bool false,.slice none 0 0]) ?_ 3 _ rfl;refine zzi (cs:=#[.int .i64 ((Qb a1 a0).f0),.int .i64 ((Qb a1 a0).f1),.bool false,.slice none 0 0,.bool false,.slice none 0 0]) ?_ 2 _ rfl;refine zzi (cs:=#[.int .i64 ((Qb a1 a0).f0),.int .i64 0,.bool false,.slice none 0 0,.bool false,.slice none 0 0]) ?_ 1 _ rfl;refine zzi (cs:=#[.int .i64 0,.int .i64 0,.bool false,.slice none 0 0,.bool false,.slice none 0 0]) ?_ 0 _ rfl;(with_reducible repeat (first|apply zzf|apply zzg|apply zze));exact a4.out⟩;have b7:Aside0 (Below w.heap.size w ((((((E1.setCell ⟨a2,0,none⟩ (.int .i64 ((Qb a1 a0).f0))).setCell ⟨a2,1,none⟩ (.int .i64 ((Qb a1 a0).f1))).setCell ⟨a2,2,none⟩ (.bool ((Qb a1 a0).f2))).setCell ⟨a2,3,none⟩ (.slice a6 ((Qb a1 a0).f3).length a7)).setCell ⟨a2,4,none⟩ (.bool ((Qb a1 a0).f4))).setCell ⟨a2,5,none⟩ (.slice b1 ((Qb a1 a0).f5).length b2))):=⟨zzh3⟩
                (try clear a3)
                (try clear a4)
                (try clear HB);generalize ((((((E1.setCell ⟨a2,0,none⟩ (.int .i64 ((Qb a1 a0).f0))).setCell ⟨a2,1,none⟩ (.int .i64 ((Qb a1 a0).f1))).setCell ⟨a2,2,none⟩ (.bool ((Qb a1 a0).f2))).setCell ⟨a2,3,none⟩ (.slice a6 ((Qb a1 a0).f3).length a7)).setCell ⟨a2,4,none⟩ (.bool ((Qb a1 a0).f4))).setCell ⟨a2,5,none⟩ (.slice b1 ((Qb a1 a0).f5).length b2))=M0 at b5 b6 b7 ⊢;have a3:=b5;have a4:=b6;have HB:=b7;clear b5 b6 b7;have b5:=zzm (zzg a3.out);have b6:=zzm (zzg a4.out);have b7:=zzm (zzc HB.out);clear a3 a4 HB;have a3:=b5;have a4:=b6;have HB:=b7;clear b5 b6 b7;have j7 : 0≤((b3):Int):=zzt;have j8:(b3) < (a1.length:Int):=zzt;obtain ⟨C4,w9,x0,x1,x2,D1,e3,e4,e5,e6,e7,e8,g6,g7,g8,g9⟩:=Qt j5.out (b3) j7 j8;have h0:=e8;have h1:=e7;have h2:=e6;have h3:=e5;have h4:=e4;have h5:=e3;obtain rfl:a9=C4:=(by injection D1);replace e3:=zzx HB.out e3;replace e4:=zzx HB.out e4;replace e5:=zzx HB.out e5;replace e6:=zzx HB.out e6;replace e7:=zzx HB.out e7;replace e8:=zzx HB.out e8;have s9:=zzm g7;have F6:=zzm g6;clear g7 g6;have t0:=zzm g9;have F7:=zzm g8;clear g9 g8;replace j7:=eq_true j7;replace j8:=eq_true j8;refine start_ (n:=19) (S:=fun w'=>w'.cell? ⟨a2,0,none⟩=some (.int .i64 ((Qb a1 a0).f0))∧w'.cell? ⟨a2,1,none⟩=some (.int .i64 ((Qb a1 a0).f1))∧w'.cell? ⟨a2,2,none⟩=some (.bool ((Qb a1 a0).f2))∧w'.cell? ⟨a2,3,none⟩=some (.slice a6 ((Qb a1 a0).f3).length a7)∧w'.cell? ⟨a2,4,none⟩=some (.bool ((Qb a1 a0).f4))∧w'.cell? ⟨a2,5,none⟩=some (.slice b1 ((Qb a1 a0).f5).length b2)∧w'.cell? ⟨b0,0,none⟩=some (.bool c9)∧w'.cell? ⟨b0,1,none⟩=some (.bool c0)∧w'.cell? ⟨b0,2,none⟩=some (.int .i64 b4)∧w'.cell? ⟨b0,3,none⟩=some (.int .i64 b8)∧w'.cell? ⟨b0,4,none⟩=some (.int .i64 b9)∧w'.cell? ⟨b0,5,none⟩=some (.slice (some a9) a1.length d0)∧w'.cell? (a9.add (((b3)).toNat * 6))=some (.int .i64 ((Qb a1 (b3)).f0))∧w'.cell? ⟨(a9.add (((b3)).toNat * 6)).block,(a9.add (((b3)).toNat * 6)).off+1,none⟩=some (.int .i64 ((Qb a1 (b3)).f1))∧w'.cell? ⟨(a9.add (((b3)).toNat * 6)).block,(a9.add (((b3)).toNat * 6)).off+2,none⟩=some (.bool ((Qb a1 (b3)).f2))∧w'.cell? ⟨(a9.add (((b3)).toNat * 6)).block,(a9.add (((b3)).toNat * 6)).off+3,none⟩=some (.slice w9 ((Qb a1 (b3)).f3).length x0)∧w'.cell? ⟨(a9.add (((b3)).toNat * 6)).block,(a9.add (((b3)).toNat * 6)).off+4,none⟩=some (.bool ((Qb a1 (b3)).f4))∧w'.cell? ⟨(a9.add (((b3)).toNat * 6)).block,(a9.add (((b3)).toNat * 6)).off+5,none⟩=some (.slice x1 ((Qb a1 (b3)).f5).length x2)) (ds:=[]) (zzB 19 0) (by kernel_rfl) rfl rfl ⟨(zzk a4.out 0).trans rfl,(zzk a4.out 1).trans rfl,(zzk a4.out 2).trans rfl,(zzk a4.out 3).trans rfl,(zzk a4.out 4).trans rfl,(zzk a4.out 5).trans rfl,(zzk a3.out 0).trans rfl,(zzk a3.out 1).trans rfl,(zzk a3.out 2).trans rfl,(zzk a3.out 3).trans rfl,(zzk a3.out 4).trans rfl,(zzk a3.out 5).trans rfl,(zzx HB.out h5 :),(zzx HB.out h4 :),(zzx HB.out h3 :),(zzx HB.out h2 :),(zzx HB.out h1 :),(zzx HB.out h0 :)⟩ (fun d1=>?_);refine with_tabW Qd.tab11 Qd.bits11 (fun a8 h6=>?_);generalize M0.drew=O0 at a3 a4 HB s9 t0 e3 e4 e5 e6 e7 e8 d1 ⊢;refine zzT 0 59 19 1 a8 h6 d1 ?_
                refine one_ (i:=1) (N:=some 60) (zzB 19 3) rfl rfl (one_of a8.out (by kernel_rfl)) (by decide) (fun K hK=>?_);refine goes_ Try.func49 (by kernel_rfl) rfl #[.agg #[.int .i64 ((Qb a1 a0).f0),.int .i64 ((Qb a1 a0).f1),.bool ((Qb a1 a0).f2),.slice a6 ((Qb a1 a0).f3).length a7,.bool ((Qb a1 a0).f4),.slice b1 ((Qb a1 a0).f5).length b2]] (by rfl) rfl rfl zzM2 ?_;with_reducible refine (Ra.calls k3 ((Qb a1 a0).f0) ((Qb a1 a0).f1) ((Qb a1 a0).f2) _ _ ((Qb a1 a0).f3) ((Qb a1 a0).f4) _ _ ((Qb a1 a0).f5) true _ ?side1 ?side2 ?side3 ?side4 C6.out).mono ?_
                (case side1=>exact zzcb g1 HB)
                (case side2=>exact g2.out)
                (case side3=>exact zzcb g3 HB)
                (case side4=>exact g4.out);rintro e O1 ⟨rfl,hb⟩;refine ⟨_,rfl,?_⟩;have b5:=zzm (zzh (g:=b0) (o:=.cells #[.bool c9,.bool c0,.int .i64 b4,.int .i64 b8,.int .i64 b9,.slice (some a9) a1.length d0] 39 (0,0)) (zzE a3.out) hb);have b6:=zzm (zzh (g:=a2) (o:=.cells #[.int .i64 ((Qb a1 a0).f0),.int .i64 ((Qb a1 a0).f1),.bool ((Qb a1 a0).f2),.slice a6 ((Qb a1 a0).f3).length a7,.bool ((Qb a1 a0).f4),.slice b1 ((Qb a1 a0).f5).length b2] 42 (0,0)) (zzE a4.out) hb);have b7:=zzm (zzp zzh2 hb);clear a3 a4 HB;have a3:=b5;have a4:=b6;have HB:=b7;clear b5 b6 b7
                (try clear hb)
                (try clear hb2)
                (try clear hk)
                (try clear hi);refine hK.out _ _ ⟨(zzk a4.out 0).trans rfl,(zzk a4.out 1).trans rfl,(zzk a4.out 2).trans rfl,(zzk a4.out 3).trans rfl,(zzk a4.out 4).trans rfl,(zzk a4.out 5).trans rfl,(zzk a3.out 0).trans rfl,(zzk a3.out 1).trans rfl,(zzk a3.out 2).trans rfl,(zzk a3.out 3).trans rfl,(zzk a3.out 4).trans rfl,(zzk a3.out 5).trans rfl,(zzx HB.out h5 :),(zzx HB.out h4 :),(zzx HB.out h3 :),(zzx HB.out h2 :),(zzx HB.out h1 :),(zzx HB.out h0 :)⟩ (fun d1=>?_);clear hK K;refine zzO 60 ?_
                refine zzP 2 61 19 7 a8 ?_
                refine zzP 3 62 19 15 a8 ?_
                refine zzP 4 63 19 31 a8 ?_
                refine zzP 5 64 19 63 a8 ?_
                refine zzP 6 65 19 127 a8 ?_
                refine zzP 7 66 19 255 a8 ?_
                refine zzP 9 68 19 767 a8 ?_
                refine zzP 10 69 19 1791 a8 ?_
                refine zzP 14 73 19 18175 a8 ?_
                refine zzT 8 67 19 18431 a8 h6 d1 ?_
                refine zzP 11 70 19 20479 a8 ?_
                refine zzP 12 71 19 24575 a8 ?_
                refine zzT 13 72 19 32767 a8 h6 d1 ?_
                refine zzT 15 74 19 65535 a8 h6 d1 ?_
                refine zzP 16 75 19 131071 a8 ?_
                refine zzP 17 76 19 262143 a8 ?_
                refine zzP 18 77 19 524287 a8 ?_
                refine done_ (done_of a8.out (by kernel_rfl)) ?_;try go_wp2
                go_roundg k3
                case measure=>have:=HJ1.out;have:=HJ22.out;have:=HK3.out;omega
                case rel=>exact ⟨(wrap64 (a0+1)),(by first|rfl|(simp;done)|(simp [*];done)),H',⟨by have:=HJ1.out;have:=HJ22.out;have:=HK3.out;omega⟩,⟨zzE a3.out⟩,⟨zzh3⟩⟩
              ·
               rw [if_neg D9] at H;exact absurd H (by simp)
             ·
              rw [if_neg D8] at H;exact absurd H (by simp)
            ·
             rw [if_neg B2] at H;have G3:decide (0 < a0)=false:=decide_eq_false B2;clear B2;have H':=zzm H;clear H;have e9 : 0≤(a0:Int):=zzt;have g0:a0 < (a1.length:Int):=zzt;obtain ⟨a9,a6,a7,b1,b2,j6,d2,d3,d4,d5,d6,d7,d8,d9,e0,e1⟩:=Qt j5.out a0 e9 g0;cases j6;replace d2:=zzx HB.out d2;replace d3:=zzx HB.out d3;replace d4:=zzx HB.out d4;replace d5:=zzx HB.out d5;replace d6:=zzx HB.out d6;replace d7:=zzx HB.out d7;have g1:=zzm d9;have g2:=zzm d8;clear d9 d8;have g3:=zzm e1;have g4:=zzm e0;clear e1 e0;replace e9:=eq_true e9;replace g0:=eq_true g0;try go_wp2_with (first|((with_reducible refine gate_dst (N:=4) rfl ?_);(try (refine gate_guard (by rfl) ?_;dsimp only));refine box_event ?hg (N:=4) ?hd (cs:=#[.int .i64 0,.int .i64 0,.bool false,.slice none 0 0,.bool false,.slice none 0 0]) (t:=42) ?hr ?_;(case hd=>rfl);(case hg=>rfl);(case hr=>first|(go_simp;done)|(go_simp;rfl));intro a2 hg E2 hbox hb;have b5:=zzm (zzh (g:=b0) (o:=.cells #[.bool c9,.bool c0,.int .i64 b4,.int .i64 b8,.int .i64 b9,.slice (some a9) a1.length d0] 39 (0,0)) (zzE a3.out) hb);have b6:=zzm (zzp zzh2 hb);have b7:=zzm (hbox);have g5:=zzm ((by rw [hg];exact (zzo zzh2):w.heap.size≤a2));have h8:=zzm ((by rw [hg];exact (zzo zzh2):w.heap.size≤a2));have h9:=zzm ((by rw [hg];exact Nat.ne_of_lt (blk_lt (g:=b0) (o:=.cells #[.bool c9,.bool c0,.int .i64 b4,.int .i64 b8,.int .i64 b9,.slice (some a9) a1.length d0] 39 (0,0)) (zzE a3.out)):b0≠a2));have j4:=zzm ((by rw [hg];exact Nat.ne_of_gt (blk_lt (g:=b0) (o:=.cells #[.bool c9,.bool c0,.int .i64 b4,.int .i64 b8,.int .i64 b9,.slice (some a9) a1.length d0] 39 (0,0)) (zzE a3.out)):a2≠b0));clear a3 HB;have a3:=b5;have HB:=b6;have a4:=b7;have C2:=g5;have C3:=h8;have a5:=h9;have e2:=j4;clear b5 b6 b7 g5 h8 h9 j4 hb hbox hg;have N4:=e2.out;have N5:=a5.out;obtain ⟨J2,J3,J4,J5,J6,J7,J8,J9,K0,K1,K2,K3⟩:=zzc6 a4.out))
             have b5:Aside0 (((((((E2.setCell ⟨a2,0,none⟩ (.int .i64 ((Qb a1 a0).f0))).setCell ⟨a2,1,none⟩ (.int .i64 ((Qb a1 a0).f1))).setCell ⟨a2,2,none⟩ (.bool ((Qb a1 a0).f2))).setCell ⟨a2,3,none⟩ (.slice a6 ((Qb a1 a0).f3).length a7)).setCell ⟨a2,4,none⟩ (.bool ((Qb a1 a0).f4))).setCell ⟨a2,5,none⟩ (.slice b1 ((Qb a1 a0).f5).length b2)).heap[b0]? = some (.cells #[.bool c9,.bool c0,.int .i64 b4,.int .i64 b8,.int .i64 b9,.slice (some a9) a1.length d0] 39 (0,0))):=⟨by (with_reducible repeat (first|apply zzf|apply zzg|apply zze));refine zzj ?_ a5.out _;(with_reducible repeat (first|apply zzf|apply zzg|apply zze));refine zzj ?_ a5.out _;(with_reducible repeat (first|apply zzf|apply zzg|apply zze));refine zzj ?_ a5.out _;(with_reducible repeat (first|apply zzf|apply zzg|apply zze));refine zzj ?_ a5.out _;(with_reducible repeat (first|apply zzf|apply zzg|apply zze));refine zzj ?_ a5.out _;(with_reducible repeat (first|apply zzf|apply zzg|apply zze));refine zzj ?_ a5.out _;(with_reducible repeat (first|apply zzf|apply zzg|apply zze));exact a3.out⟩;have b6:Aside0 (((((((E2.setCell ⟨a2,0,none⟩ (.int .i64 ((Qb a1 a0).f0))).setCell ⟨a2,1,none⟩ (.int .i64 ((Qb a1 a0).f1))).setCell ⟨a2,2,none⟩ (.bool ((Qb a1 a0).f2))).setCell ⟨a2,3,none⟩ (.slice a6 ((Qb a1 a0).f3).length a7)).setCell ⟨a2,4,none⟩ (.bool ((Qb a1 a0).f4))).setCell ⟨a2,5,none⟩ (.slice b1 ((Qb a1 a0).f5).length b2)).heap[a2]? = some (.cells #[.int .i64 ((Qb a1 a0).f0),.int .i64 ((Qb a1 a0).f1),.bool ((Qb a1 a0).f2),.slice a6 ((Qb a1 a0).f3).length a7,.bool ((Qb a1 a0).f4),.slice b1 ((Qb a1 a0).f5).length b2] 42 (0,0))):=⟨by (with_reducible repeat (first|apply zzf|apply zzg|apply zze));refine zzi (cs:=#[.int .i64 ((Qb a1 a0).f0),.int .i64 ((Qb a1 a0).f1),.bool ((Qb a1 a0).f2),.slice a6 ((Qb a1 a0).f3).length a7,.bool ((Qb a1 a0).f4),.slice none 0 0]) ?_ 5 _ rfl;refine zzi (cs:=#[.int .i64 ((Qb a1 a0).f0),.int .i64 ((Qb a1 a0).f1),.bool ((Qb a1 a0).f2),.slice a6 ((Qb a1 a0).f3).length a7,.bool false,.slice none 0 0]) ?_ 4 _ rfl;refine zzi (cs:=#[.int .i64 ((Qb a1 a0).f0),.int .i64 ((Qb a1 a0).f1),.bool ((Qb a1 a0).f2),.slice none 0 0,.bool false,.slice none 0 0]) ?_ 3 _ rfl;refine zzi (cs:=#[.int .i64 ((Qb a1 a0).f0),.int .i64 ((Qb a1 a0).f1),.bool false,.slice none 0 0,.bool false,.slice none 0 0]) ?_ 2 _ rfl;refine zzi (cs:=#[.int .i64 ((Qb a1 a0).f0),.int .i64 0,.bool false,.slice none 0 0,.bool false,.slice none 0 0]) ?_ 1 _ rfl;refine zzi (cs:=#[.int .i64 0,.int .i64 0,.bool false,.slice none 0 0,.bool false,.slice none 0 0]) ?_ 0 _ rfl;(with_reducible repeat (first|apply zzf|apply zzg|apply zze));exact a4.out⟩;have b7:Aside0 (Below w.heap.size w ((((((E2.setCell ⟨a2,0,none⟩ (.int .i64 ((Qb a1 a0).f0))).setCell ⟨a2,1,none⟩ (.int .i64 ((Qb a1 a0).f1))).setCell ⟨a2,2,none⟩ (.bool ((Qb a1 a0).f2))).setCell ⟨a2,3,none⟩ (.slice a6 ((Qb a1 a0).f3).length a7)).setCell ⟨a2,4,none⟩ (.bool ((Qb a1 a0).f4))).setCell ⟨a2,5,none⟩ (.slice b1 ((Qb a1 a0).f5).length b2))):=⟨zzh3⟩
             (try clear a3)
             (try clear a4)
             (try clear HB);generalize ((((((E2.setCell ⟨a2,0,none⟩ (.int .i64 ((Qb a1 a0).f0))).setCell ⟨a2,1,none⟩ (.int .i64 ((Qb a1 a0).f1))).setCell ⟨a2,2,none⟩ (.bool ((Qb a1 a0).f2))).setCell ⟨a2,3,none⟩ (.slice a6 ((Qb a1 a0).f3).length a7)).setCell ⟨a2,4,none⟩ (.bool ((Qb a1 a0).f4))).setCell ⟨a2,5,none⟩ (.slice b1 ((Qb a1 a0).f5).length b2))=M1 at b5 b6 b7 ⊢;have a3:=b5;have a4:=b6;have HB:=b7;clear b5 b6 b7;have b5:=zzm (zzg a3.out);have b6:=zzm (zzg a4.out);have b7:=zzm (zzc HB.out);clear a3 a4 HB;have a3:=b5;have a4:=b6;have HB:=b7;clear b5 b6 b7;refine start_ (n:=19) (S:=fun w'=>w'.cell? ⟨a2,0,none⟩=some (.int .i64 ((Qb a1 a0).f0))∧w'.cell? ⟨a2,1,none⟩=some (.int .i64 ((Qb a1 a0).f1))∧w'.cell? ⟨a2,2,none⟩=some (.bool ((Qb a1 a0).f2))∧w'.cell? ⟨a2,3,none⟩=some (.slice a6 ((Qb a1 a0).f3).length a7)∧w'.cell? ⟨a2,4,none⟩=some (.bool ((Qb a1 a0).f4))∧w'.cell? ⟨a2,5,none⟩=some (.slice b1 ((Qb a1 a0).f5).length b2)) (ds:=[]) (zzB 19 0) (by kernel_rfl) rfl rfl ⟨(zzk a4.out 0).trans rfl,(zzk a4.out 1).trans rfl,(zzk a4.out 2).trans rfl,(zzk a4.out 3).trans rfl,(zzk a4.out 4).trans rfl,(zzk a4.out 5).trans rfl⟩ (fun d1=>?_);refine with_tabW Qd.tab11 Qd.bits11 (fun a8 h6=>?_);generalize M1.drew=O2 at a3 a4 HB d1 ⊢;refine zzT 0 59 19 1 a8 h6 d1 ?_
             refine one_ (i:=1) (N:=some 60) (zzB 19 3) rfl rfl (one_of a8.out (by kernel_rfl)) (by decide) (fun K hK=>?_);refine goes_ Try.func49 (by kernel_rfl) rfl #[.agg #[.int .i64 ((Qb a1 a0).f0),.int .i64 ((Qb a1 a0).f1),.bool ((Qb a1 a0).f2),.slice a6 ((Qb a1 a0).f3).length a7,.bool ((Qb a1 a0).f4),.slice b1 ((Qb a1 a0).f5).length b2]] (by rfl) rfl rfl zzM2 ?_;with_reducible refine (Ra.calls k3 ((Qb a1 a0).f0) ((Qb a1 a0).f1) ((Qb a1 a0).f2) _ _ ((Qb a1 a0).f3) ((Qb a1 a0).f4) _ _ ((Qb a1 a0).f5) true _ ?side1 ?side2 ?side3 ?side4 C6.out).mono ?_
             (case side1=>exact zzcb g1 HB)
             (case side2=>exact g2.out)
             (case side3=>exact zzcb g3 HB)
             (case side4=>exact g4.out);rintro e O3 ⟨rfl,hb⟩;refine ⟨_,rfl,?_⟩;have b5:=zzm (zzh (g:=b0) (o:=.cells #[.bool c9,.bool c0,.int .i64 b4,.int .i64 b8,.int .i64 b9,.slice (some a9) a1.length d0] 39 (0,0)) (zzE a3.out) hb);have b6:=zzm (zzh (g:=a2) (o:=.cells #[.int .i64 ((Qb a1 a0).f0),.int .i64 ((Qb a1 a0).f1),.bool ((Qb a1 a0).f2),.slice a6 ((Qb a1 a0).f3).length a7,.bool ((Qb a1 a0).f4),.slice b1 ((Qb a1 a0).f5).length b2] 42 (0,0)) (zzE a4.out) hb);have b7:=zzm (zzp zzh2 hb);clear a3 a4 HB;have a3:=b5;have a4:=b6;have HB:=b7;clear b5 b6 b7
             (try clear hb)
             (try clear hb2)
             (try clear hk)
             (try clear hi);refine hK.out _ _ ⟨(zzk a4.out 0).trans rfl,(zzk a4.out 1).trans rfl,(zzk a4.out 2).trans rfl,(zzk a4.out 3).trans rfl,(zzk a4.out 4).trans rfl,(zzk a4.out 5).trans rfl⟩ (fun d1=>?_);clear hK K;refine zzO 60 ?_
             refine zzP 2 61 19 7 a8 ?_
             refine zzP 3 62 19 15 a8 ?_
             refine zzP 4 63 19 31 a8 ?_
             refine zzP 5 64 19 63 a8 ?_
             refine zzP 6 65 19 127 a8 ?_
             refine zzU 7 66 19 255 a8 ?_
             refine zzU 8 67 19 511 a8 ?_
             refine zzU 9 68 19 1023 a8 ?_
             refine zzU 10 69 19 2047 a8 ?_
             refine zzU 11 70 19 4095 a8 ?_
             refine zzU 12 71 19 8191 a8 ?_
             refine zzU 13 72 19 16383 a8 ?_
             refine zzU 14 73 19 32767 a8 ?_
             refine zzU 15 74 19 65535 a8 ?_
             refine zzU 16 75 19 131071 a8 ?_
             refine zzP 17 76 19 262143 a8 ?_
             refine zzP 18 77 19 524287 a8 ?_
             refine done_ (done_of a8.out (by kernel_rfl)) ?_;try go_wp2
             go_roundg k3
             case measure=>have:=HJ1.out;have:=HJ22.out;have:=HK3.out;omega
             case rel=>exact ⟨(wrap64 (a0+1)),(by first|rfl|(simp;done)|(simp [*];done)),H',⟨by have:=HJ1.out;have:=HJ22.out;have:=HK3.out;omega⟩,⟨zzE a3.out⟩,⟨zzh3⟩⟩
           ·
            replace D7:=Bool.eq_false_iff.mpr D7;subst D7;replace H:=zzIf H;obtain rfl:=Option.some.inj H;have e9 : 0≤(a0:Int):=zzt;have g0:a0 < (a1.length:Int):=zzt;obtain ⟨a9,a6,a7,b1,b2,j6,d2,d3,d4,d5,d6,d7,d8,d9,e0,e1⟩:=Qt j5.out a0 e9 g0;cases j6;replace d2:=zzx HB.out d2;replace d3:=zzx HB.out d3;replace d4:=zzx HB.out d4;replace d5:=zzx HB.out d5;replace d6:=zzx HB.out d6;replace d7:=zzx HB.out d7;have g1:=zzm d9;have g2:=zzm d8;clear d9 d8;have g3:=zzm e1;have g4:=zzm e0;clear e1 e0;replace e9:=eq_true e9;replace g0:=eq_true g0;try go_wp2_with (first|((with_reducible refine gate_dst (N:=4) rfl ?_);(try (refine gate_guard (by rfl) ?_;dsimp only));refine box_event ?hg (N:=4) ?hd (cs:=#[.int .i64 0,.int .i64 0,.bool false,.slice none 0 0,.bool false,.slice none 0 0]) (t:=42) ?hr ?_;(case hd=>rfl);(case hg=>rfl);(case hr=>first|(go_simp;done)|(go_simp;rfl));intro a2 hg E3 hbox hb;have b5:=zzm (zzh (g:=b0) (o:=.cells #[.bool c9,.bool c0,.int .i64 b4,.int .i64 b8,.int .i64 b9,.slice (some a9) a1.length d0] 39 (0,0)) (zzE a3.out) hb);have b6:=zzm (zzp zzh2 hb);have b7:=zzm (hbox);have g5:=zzm ((by rw [hg];exact (zzo zzh2):w.heap.size≤a2));have h8:=zzm ((by rw [hg];exact (zzo zzh2):w.heap.size≤a2));have h9:=zzm ((by rw [hg];exact Nat.ne_of_lt (blk_lt (g:=b0) (o:=.cells #[.bool c9,.bool c0,.int .i64 b4,.int .i64 b8,.int .i64 b9,.slice (some a9) a1.length d0] 39 (0,0)) (zzE a3.out)):b0≠a2));have j4:=zzm ((by rw [hg];exact Nat.ne_of_gt (blk_lt (g:=b0) (o:=.cells #[.bool c9,.bool c0,.int .i64 b4,.int .i64 b8,.int .i64 b9,.slice (some a9) a1.length d0] 39 (0,0)) (zzE a3.out)):a2≠b0));clear a3 HB;have a3:=b5;have HB:=b6;have a4:=b7;have C2:=g5;have C3:=h8;have a5:=h9;have e2:=j4;clear b5 b6 b7 g5 h8 h9 j4 hb hbox hg;have N6:=e2.out;have N7:=a5.out;obtain ⟨K4,K5,K6,K7,K8,K9,L0,L1,L2,L3,L4,L5⟩:=zzc6 a4.out))
            have b5:Aside0 (((((((E3.setCell ⟨a2,0,none⟩ (.int .i64 ((Qb a1 a0).f0))).setCell ⟨a2,1,none⟩ (.int .i64 ((Qb a1 a0).f1))).setCell ⟨a2,2,none⟩ (.bool ((Qb a1 a0).f2))).setCell ⟨a2,3,none⟩ (.slice a6 ((Qb a1 a0).f3).length a7)).setCell ⟨a2,4,none⟩ (.bool ((Qb a1 a0).f4))).setCell ⟨a2,5,none⟩ (.slice b1 ((Qb a1 a0).f5).length b2)).heap[b0]? = some (.cells #[.bool c9,.bool c0,.int .i64 b4,.int .i64 b8,.int .i64 b9,.slice (some a9) a1.length d0] 39 (0,0))):=⟨by (with_reducible repeat (first|apply zzf|apply zzg|apply zze));refine zzj ?_ a5.out _;(with_reducible repeat (first|apply zzf|apply zzg|apply zze));refine zzj ?_ a5.out _;(with_reducible repeat (first|apply zzf|apply zzg|apply zze));refine zzj ?_ a5.out _;(with_reducible repeat (first|apply zzf|apply zzg|apply zze));refine zzj ?_ a5.out _;(with_reducible repeat (first|apply zzf|apply zzg|apply zze));refine zzj ?_ a5.out _;(with_reducible repeat (first|apply zzf|apply zzg|apply zze));refine zzj ?_ a5.out _;(with_reducible repeat (first|apply zzf|apply zzg|apply zze));exact a3.out⟩;have b6:Aside0 (((((((E3.setCell ⟨a2,0,none⟩ (.int .i64 ((Qb a1 a0).f0))).setCell ⟨a2,1,none⟩ (.int .i64 ((Qb a1 a0).f1))).setCell ⟨a2,2,none⟩ (.bool ((Qb a1 a0).f2))).setCell ⟨a2,3,none⟩ (.slice a6 ((Qb a1 a0).f3).length a7)).setCell ⟨a2,4,none⟩ (.bool ((Qb a1 a0).f4))).setCell ⟨a2,5,none⟩ (.slice b1 ((Qb a1 a0).f5).length b2)).heap[a2]? = some (.cells #[.int .i64 ((Qb a1 a0).f0),.int .i64 ((Qb a1 a0).f1),.bool ((Qb a1 a0).f2),.slice a6 ((Qb a1 a0).f3).length a7,.bool ((Qb a1 a0).f4),.slice b1 ((Qb a1 a0).f5).length b2] 42 (0,0))):=⟨by (with_reducible repeat (first|apply zzf|apply zzg|apply zze));refine zzi (cs:=#[.int .i64 ((Qb a1 a0).f0),.int .i64 ((Qb a1 a0).f1),.bool ((Qb a1 a0).f2),.slice a6 ((Qb a1 a0).f3).length a7,.bool ((Qb a1 a0).f4),.slice none 0 0]) ?_ 5 _ rfl;refine zzi (cs:=#[.int .i64 ((Qb a1 a0).f0),.int .i64 ((Qb a1 a0).f1),.bool ((Qb a1 a0).f2),.slice a6 ((Qb a1 a0).f3).length a7,.bool false,.slice none 0 0]) ?_ 4 _ rfl;refine zzi (cs:=#[.int .i64 ((Qb a1 a0).f0),.int .i64 ((Qb a1 a0).f1),.bool ((Qb a1 a0).f2),.slice none 0 0,.bool false,.slice none 0 0]) ?_ 3 _ rfl;refine zzi (cs:=#[.int .i64 ((Qb a1 a0).f0),.int .i64 ((Qb a1 a0).f1),.bool false,.slice none 0 0,.bool false,.slice none 0 0]) ?_ 2 _ rfl;refine zzi (cs:=#[.int .i64 ((Qb a1 a0).f0),.int .i64 0,.bool false,.slice none 0 0,.bool false,.slice none 0 0]) ?_ 1 _ rfl;refine zzi (cs:=#[.int .i64 0,.int .i64 0,.bool false,.slice none 0 0,.bool false,.slice none 0 0]) ?_ 0 _ rfl;(with_reducible repeat (first|apply zzf|apply zzg|apply zze));exact a4.out⟩;have b7:Aside0 (Below w.heap.size w ((((((E3.setCell ⟨a2,0,none⟩ (.int .i64 ((Qb a1 a0).f0))).setCell ⟨a2,1,none⟩ (.int .i64 ((Qb a1 a0).f1))).setCell ⟨a2,2,none⟩ (.bool ((Qb a1 a0).f2))).setCell ⟨a2,3,none⟩ (.slice a6 ((Qb a1 a0).f3).length a7)).setCell ⟨a2,4,none⟩ (.bool ((Qb a1 a0).f4))).setCell ⟨a2,5,none⟩ (.slice b1 ((Qb a1 a0).f5).length b2))):=⟨zzh3⟩
            (try clear a3)
            (try clear a4)
            (try clear HB);generalize ((((((E3.setCell ⟨a2,0,none⟩ (.int .i64 ((Qb a1 a0).f0))).setCell ⟨a2,1,none⟩ (.int .i64 ((Qb a1 a0).f1))).setCell ⟨a2,2,none⟩ (.bool ((Qb a1 a0).f2))).setCell ⟨a2,3,none⟩ (.slice a6 ((Qb a1 a0).f3).length a7)).setCell ⟨a2,4,none⟩ (.bool ((Qb a1 a0).f4))).setCell ⟨a2,5,none⟩ (.slice b1 ((Qb a1 a0).f5).length b2))=M2 at b5 b6 b7 ⊢;have a3:=b5;have a4:=b6;have HB:=b7;clear b5 b6 b7;have b5:=zzm (zzg a3.out);have b6:=zzm (zzg a4.out);have b7:=zzm (zzc HB.out);clear a3 a4 HB;have a3:=b5;have a4:=b6;have HB:=b7;clear b5 b6 b7;refine start_ (n:=19) (S:=fun w'=>w'.cell? ⟨a2,0,none⟩=some (.int .i64 ((Qb a1 a0).f0))∧w'.cell? ⟨a2,1,none⟩=some (.int .i64 ((Qb a1 a0).f1))∧w'.cell? ⟨a2,2,none⟩=some (.bool ((Qb a1 a0).f2))∧w'.cell? ⟨a2,3,none⟩=some (.slice a6 ((Qb a1 a0).f3).length a7)∧w'.cell? ⟨a2,4,none⟩=some (.bool ((Qb a1 a0).f4))∧w'.cell? ⟨a2,5,none⟩=some (.slice b1 ((Qb a1 a0).f5).length b2)) (ds:=[]) (zzB 19 0) (by kernel_rfl) rfl rfl ⟨(zzk a4.out 0).trans rfl,(zzk a4.out 1).trans rfl,(zzk a4.out 2).trans rfl,(zzk a4.out 3).trans rfl,(zzk a4.out 4).trans rfl,(zzk a4.out 5).trans rfl⟩ (fun d1=>?_);refine with_tabW Qd.tab11 Qd.bits11 (fun a8 h6=>?_);generalize M2.drew=O4 at a3 a4 HB d1 ⊢;refine zzT 0 59 19 1 a8 h6 d1 ?_
            refine one_ (i:=1) (N:=some 60) (zzB 19 3) rfl rfl (one_of a8.out (by kernel_rfl)) (by decide) (fun K hK=>?_);refine goes_ Try.func49 (by kernel_rfl) rfl #[.agg #[.int .i64 ((Qb a1 a0).f0),.int .i64 ((Qb a1 a0).f1),.bool ((Qb a1 a0).f2),.slice a6 ((Qb a1 a0).f3).length a7,.bool ((Qb a1 a0).f4),.slice b1 ((Qb a1 a0).f5).length b2]] (by rfl) rfl rfl zzM2 ?_;with_reducible refine (Ra.calls k3 ((Qb a1 a0).f0) ((Qb a1 a0).f1) ((Qb a1 a0).f2) _ _ ((Qb a1 a0).f3) ((Qb a1 a0).f4) _ _ ((Qb a1 a0).f5) false _ ?side1 ?side2 ?side3 ?side4 C6.out).mono ?_
            (case side1=>exact zzcb g1 HB)
            (case side2=>exact g2.out)
            (case side3=>exact zzcb g3 HB)
            (case side4=>exact g4.out);rintro e O5 ⟨rfl,hb⟩;refine ⟨_,rfl,?_⟩;have b5:=zzm (zzh (g:=b0) (o:=.cells #[.bool c9,.bool c0,.int .i64 b4,.int .i64 b8,.int .i64 b9,.slice (some a9) a1.length d0] 39 (0,0)) (zzE a3.out) hb);have b6:=zzm (zzh (g:=a2) (o:=.cells #[.int .i64 ((Qb a1 a0).f0),.int .i64 ((Qb a1 a0).f1),.bool ((Qb a1 a0).f2),.slice a6 ((Qb a1 a0).f3).length a7,.bool ((Qb a1 a0).f4),.slice b1 ((Qb a1 a0).f5).length b2] 42 (0,0)) (zzE a4.out) hb);have b7:=zzm (zzp zzh2 hb);clear a3 a4 HB;have a3:=b5;have a4:=b6;have HB:=b7;clear b5 b6 b7
            (try clear hb)
            (try clear hb2)
            (try clear hk)
            (try clear hi);refine hK.out _ _ ⟨(zzk a4.out 0).trans rfl,(zzk a4.out 1).trans rfl,(zzk a4.out 2).trans rfl,(zzk a4.out 3).trans rfl,(zzk a4.out 4).trans rfl,(zzk a4.out 5).trans rfl⟩ (fun d1=>?_);clear hK K;refine zzO 60 ?_
            refine zzP 2 61 19 7 a8 ?_
            refine zzP 3 62 19 15 a8 ?_
            refine zzU 4 63 19 31 a8 ?_
            refine zzU 5 64 19 63 a8 ?_
            refine zzU 6 65 19 127 a8 ?_
            refine zzU 7 66 19 255 a8 ?_
            refine zzU 8 67 19 511 a8 ?_
            refine zzU 9 68 19 1023 a8 ?_
            refine zzU 10 69 19 2047 a8 ?_
            refine zzU 11 70 19 4095 a8 ?_
            refine zzU 12 71 19 8191 a8 ?_
            refine zzU 13 72 19 16383 a8 ?_
            refine zzU 14 73 19 32767 a8 ?_
            refine zzU 15 74 19 65535 a8 ?_
            refine zzU 16 75 19 131071 a8 ?_
            refine zzU 17 76 19 262143 a8 ?_
            refine zzP 18 77 19 524287 a8 ?_
            refine done_ (done_of a8.out (by kernel_rfl)) ?_;try go_wp2
            go_ret;exact ⟨zzR,zzh3⟩
          ·
           rw [if_neg D6] at H;exact absurd H (by simp)
         ·
          rw [if_neg D5] at H;exact absurd H (by simp)
        ·
         rw [if_neg B1] at H;have G2:decide (a0 < (a1.length:Int))=false:=decide_eq_false B1;clear B1;obtain rfl:=Option.some.inj H;go_wp2;go_ret;exact ⟨zzR,zzh3⟩
end Go.Proofs.Ytmloblepcbimkaa.T
