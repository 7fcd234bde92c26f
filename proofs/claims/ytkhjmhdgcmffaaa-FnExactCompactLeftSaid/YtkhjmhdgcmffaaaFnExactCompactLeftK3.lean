/- The law FnExactCompactLeft holds (part 4 of 6; merged by pack2.py). -/
import Derived.Deep.Slices
import Derived.ChangeArms
import Derived.ProofKit
import Derived.Test.YtkhjmhdgcmffaaaFnExactCompactLeftK2
set_option maxRecDepth 1000000
open List (setIfInBounds_toArray set_cons_zero set_cons_succ map_toArray map_cons map_nil length_drop length_take)
namespace Go.Proofs.Ytkhjmhdgcmffaaa.X
open Go.RowKit Go.Proofs.YtkhjmhdgcmffaaaW.PrintWords Go.Proofs.YtkhjmhdgcmffaaaW.PrintLast Go.Proofs.YtkhjmhdgcmffaaaW.PrintMore

set_option linter.unusedVariables false
set_option linter.unusedSimpArgs false
mutual
def Qd.l0:Nat→List (S34)→Bool→List (S34)→Int→Option ((List (S34)))
 | 0,_,_,_,_=>none
 | k+1,x0,x1,x5,x6=>if x6 < (x0.length:Int) then (if 0≤x6 then (Qd.l1 k x0 x1 x5 x6 (([]:List (S30))) 0 ((Qa x0 x6).f0) ((Qa x0 x6).f1) ((Qa x0 x6).f2) ((Qa x0 x6).f3) ((Qa x0 x6).f4) ((Qa x0 x6).f5)) else (none)) else (some x5)
def Qd.l1:Nat→List (S34)→Bool→List (S34)→Int→List (S30)→Int→Bool→Bool→Int→Int→Int→List (S30)→Option ((List (S34)))
 | 0,_,_,_,_,_,_,_,_,_,_,_,_=>none
 | k+1,x0,x1,x5,x6,x8,x9,x422000,x422001,x422002,x422003,x422004,x422005=>if x9 < (x422005.length:Int) then (if 0≤x9 then ((Rq.f k x0 x422000 x422001 x422002 x422003 x422004 x422005 ((Qb x422005 x9).f0) ((Qb x422005 x9).f1) ((Qb x422005 x9).f2) ((Qb x422005 x9).f3) ((Qb x422005 x9).f4) ((Qb x422005 x9).f5) x1).bind fun t429=>(if t429=true then ((Rv.f ((Qb x422005 x9).f0) ((Qb x422005 x9).f1) ((Qb x422005 x9).f2) ((Qb x422005 x9).f3) ((Qb x422005 x9).f4) ((Qb x422005 x9).f5)).bind fun bt431=>(if x8.length < 1759218604441 then (Qd.l1 k x0 x1 x5 x6 (x8 ++ [(⟨bt431.1,bt431.2.1,bt431.2.2.1,bt431.2.2.2.1,bt431.2.2.2.2.1,bt431.2.2.2.2.2⟩:S30)]) (wrap64 (x9+1)) x422000 x422001 x422002 x422003 x422004 x422005) else (none))) else (Qd.l1 k x0 x1 x5 x6 x8 (wrap64 (x9+1)) x422000 x422001 x422002 x422003 x422004 x422005))) else (none)) else (if (x8.length:Int) > 0 then (if x5.length < 2513169434916 then (Qd.l0 k x0 x1 (x5 ++ [(⟨x422000,x422001,x422002,x422003,x422004,x8⟩:S34)]) (wrap64 (x6+1))) else (none)) else (Qd.l0 k x0 x1 x5 (wrap64 (x6+1))))
end
def Qd.f (k:Nat) (l0:List (S34)) (a1:Bool):Option ((List (S34))):=Qd.l0 k l0 a1 (([]:List (S34))) 0
def Qd.T10:Bool×List (List Nat×List Nat):=(true,[([],[]),([],[]),([],[]),([2],[2]),([],[]),([3,4],[3,4]),([5],[5]),([],[]),([0,1,6,7],[0,1,6,7])])
def Qd.B10:List Nat:=[0,0,0,4,0,28,60,0,255]
theorem Qd.tab10:rtab .any (opsOf Try.f48 10)=Qd.T10:=by kernel_rfl
theorem Qd.bits10:waitsOk Qd.T10.2 Qd.B10=true:=by kernel_rfl
set_option maxHeartbeats 8000000 in
theorem Qd.calls (k:Nat) (A0:Option Addr) (c0:Nat) (l0:List (S34)) (a1:Bool) (r:List (S34)) (w:World) (p6:Kd.C k34 w A0 l0.length l0) (p7:l0.length≤c0) (h:Qd.f k l0 a1=some r) :
  Calls Try.prog 48 #[.slice A0 l0.length c0,.bool a1] w fun e w'=>∃ p8:Value,e = .returned (p8)∧Kd.R k34 34 w' w.heap.size (fun _=>True) p8 r∧Below w.heap.size w w':=by
 have hu34:=Try.underlying34;have hu30:=Try.underlying30;have m7:=zzm p6;have p9:=zzm p7;clear p6 p7;have HB:=zzm (Below.refl w.heap.size w);have H:(Qd.l0 k l0 a1 (([]:List (S34))) 0)=some r:=h;clear h;obtain ⟨y417,hy417⟩:∃ y_:List (S34),y_=(([]:List (S34))):=⟨_,rfl⟩;replace H:(Qd.l0 k l0 a1 y417 0)=some r:=by first|(rw [hy417];with_reducible exact H)|(have H2_:=(Option.bind_some _ _).symm.trans H;rw [hy417];with_reducible exact H2_)|(have H2_:=(Option.bind_some _ _).symm.trans H;with_reducible exact H2_)|with_reducible exact H|(rw [hy417];exact H)|exact H
 have Ny417:=zzm hy417;clear hy417;have H':=zzm H;clear H;go_enter Try.func48,Try.ntmps48;go_wp2_with (first|((with_reducible refine gate_dst (N:=10) rfl ?_);refine Kd.R_lit k34 _ 34 ?hg (N:=10) ?hd (xs:=([]:List (S34))) (inner:=[]) (ok:=fun _=>True) (okp:=fun _=>True) ?hr ?hp (fun _ hk=>hk) trivial (Below.refl _ _) (Nat.le_refl _) (by simp) ?_;(case hd=>rfl);(case hg=>rfl);(case hr=>first|(go_simp;done)|(go_simp;rfl));(case hp=>exact (Reps.none _ _));intro A5 w3 ho4 hb hg_ hnew_;clear hg_ hnew_;(first|rw [← Ny417.out] at ho4|(simp only [Int.reduceToNat] at ho4;rw [← Ny417.out] at ho4));have a9:=zzm (Kd.R_lower ho4 (zzo zzh1));have b0:=zzm (zzp zzh1 hb);clear HB;have o6:=a9;have HB:=b0;clear a9 b0 hb ho4));go_loopg [5,6] k (fun kq v5 v6 w'=>∃ (c3:List (S34)) (a0:Int),v6 = .int .i64 a0∧Aside0 (Qd.l0 kq l0 a1 c3 a0=some r)∧Aside0 (kq≤k)∧Aside0 (Kd.R k34 34 w' w.heap.size (fun _=>True) v5 c3)∧Aside0 (Below w.heap.size w w'))
 case atStart=>exact ⟨(y417),(0),(by first|rfl|(simp;done)|(simp [*];done)),H',⟨Nat.le_refl _⟩,⟨by (with_reducible repeat (first|apply Kd.R_alloc|apply Kd.R_drewN|apply Kd.R_drew));exact o6.out⟩,⟨zzh1⟩⟩
 case round=>
  clear H';try clear p2
  try clear c4
  obtain ⟨c3,a0,rfl,HA,HK1,a6,HB⟩:=hrel;cases gk with
  | zero=>exact absurd HA.out (by simp [Qd.l0])
  | succ k1=>
   have H:=HA.out;clear HA;simp only [Qd.l0] at H;by_cases c5:a0 < (l0.length:Int)
   ·
    rw [if_pos c5] at H;have m8:decide (a0 < (l0.length:Int))=true:=decide_eq_true c5;clear c5;by_cases c6 : 0≤a0
    ·
     rw [if_pos c6] at H;have q2:decide (0≤a0)=true:=decide_eq_true c6;clear c6;obtain ⟨y422,hy422⟩:∃ y_:List (S30),y_=(([]:List (S30))):=⟨_,rfl⟩;replace H:(Qd.l1 k1 l0 a1 c3 a0 y422 0 ((Qa l0 a0).f0) ((Qa l0 a0).f1) ((Qa l0 a0).f2) ((Qa l0 a0).f3) ((Qa l0 a0).f4) ((Qa l0 a0).f5))=some r:=by first|(rw [hy422];with_reducible exact H)|(have H2_:=(Option.bind_some _ _).symm.trans H;rw [hy422];with_reducible exact H2_)|(have H2_:=(Option.bind_some _ _).symm.trans H;with_reducible exact H2_)|with_reducible exact H|(rw [hy422];exact H)|exact H
     have Ny422:=zzm hy422;clear hy422;have H':=zzm H;clear H;have k5 : 0≤(a0:Int):=zzt;have k6:a0 < (l0.length:Int):=zzt;obtain ⟨l7,g0,b3,q3,g1,g2,g3,g4,g5,g6,h8,h9⟩:=Q2 m7.out a0 k5 k6;cases q3;replace g1:=zzx HB.out g1;replace g2:=zzx HB.out g2;replace g3:=zzx HB.out g3;replace g4:=zzx HB.out g4;replace g5:=zzx HB.out g5;replace g6:=zzx HB.out g6;have c9:=zzm h9;have j2:=zzm h8;clear h9 h8;replace k5:=eq_true k5;replace k6:=eq_true k6;go_wp2_with (first|((with_reducible refine gate_dst (N:=7) rfl ?_);refine box_event ?hg (N:=7) ?hd (cs:=#[.bool false,.bool false,.int .i64 0,.int .i64 0,.int .i64 0,.slice none 0 0]) (t:=34) ?hr ?_;(case hd=>rfl);(case hg=>rfl);(case hr=>first|(go_simp;done)|(go_simp;rfl));intro a4 hg w7 hbox hb;have a9:=zzm (Kd.R_below (Kd.R_elderB (by (with_reducible repeat (first|apply Kd.R_alloc|apply Kd.R_drewN|apply Kd.R_drew));exact a6.out) a4 (Nat.le_of_eq hg.symm)) hb);have b0:=zzm (zzp zzh1 hb);have b1:=zzm (hbox);have b2:=zzm ((by rw [hg];exact (zzo zzh1):w.heap.size≤a4));have k7:=zzm ((by rw [hg];exact (zzo zzh1):w.heap.size≤a4));clear a6 HB;have a6:=a9;have HB:=b0;have a3:=b1;have A2:=b2;have A3:=k7;clear a9 b0 b1 b2 k7 hb hbox hg;obtain ⟨m9,n0,n1,n2,n3,n4,n5,n6,n7,n8,n9,o0⟩:=zzc6 a3.out)|((with_reducible refine gate_dst (N:=21) rfl ?_);refine Kd.S_lit k30 _ 30 ?hg (N:=21) ?hd (xs:=([]:List (S30))) (inner:=[]) (ok:=fun _=>True) (okp:=fun _=>True) ?hr ?hp (fun _ hk=>hk) trivial (Below.refl _ _) (Nat.le_refl _) (by simp) ?_;(case hd=>rfl);(case hg=>rfl);(case hr=>first|(go_simp;done)|(go_simp;rfl));(case hp=>exact (Reps.none _ _));intro A6 w9 ho10 hb hg_ hnew_;clear hg_ hnew_;(first|rw [← Ny422.out] at ho10|(simp only [Int.reduceToNat] at ho10;rw [← Ny422.out] at ho10));have a9:=zzm (Kd.R_elder' (by (with_reducible repeat (first|apply Kd.R_alloc|apply Kd.R_drewN|apply Kd.R_drew));exact (Kd.R_mono (Kd.R_far (p:=⟨a4,5,none⟩) (Kd.R_far (p:=⟨a4,4,none⟩) (Kd.R_far (p:=⟨a4,3,none⟩) (Kd.R_far (p:=⟨a4,2,none⟩) (Kd.R_far (p:=⟨a4,1,none⟩) (Kd.R_far (p:=⟨a4,0,none⟩) (Kd.R_mono a6.out (fun k_ hk=>(⟨hk,hk.2⟩:_∧k_≠a4))) (fun _ hk=>hk.2) (.bool ((Qa l0 a0).f0))) (fun _ hk=>hk.2) (.bool ((Qa l0 a0).f1))) (fun _ hk=>hk.2) (.int .i64 ((Qa l0 a0).f2))) (fun _ hk=>hk.2) (.int .i64 ((Qa l0 a0).f3))) (fun _ hk=>hk.2) (.int .i64 ((Qa l0 a0).f4))) (fun _ hk=>hk.2) (.slice g0 ((Qa l0 a0).f5).length b3)) (fun _ h_=>h_.1))) (Kd.S_base ho10) hb);have b0:=zzm (Kd.S_lower ho10 (zzo zzh2));have b1:=zzm (zzh (g:=a4) (o:=.cells #[.bool ((Qa l0 a0).f0),.bool ((Qa l0 a0).f1),.int .i64 ((Qa l0 a0).f2),.int .i64 ((Qa l0 a0).f3),.int .i64 ((Qa l0 a0).f4),.slice g0 ((Qa l0 a0).f5).length b3] 34 (0,0)) (by (with_reducible repeat (first|apply zzf|apply zzg|apply zze));refine zzi (cs:=#[.bool ((Qa l0 a0).f0),.bool ((Qa l0 a0).f1),.int .i64 ((Qa l0 a0).f2),.int .i64 ((Qa l0 a0).f3),.int .i64 ((Qa l0 a0).f4),.slice none 0 0]) ?_ 5 _ rfl;refine zzi (cs:=#[.bool ((Qa l0 a0).f0),.bool ((Qa l0 a0).f1),.int .i64 ((Qa l0 a0).f2),.int .i64 ((Qa l0 a0).f3),.int .i64 0,.slice none 0 0]) ?_ 4 _ rfl;refine zzi (cs:=#[.bool ((Qa l0 a0).f0),.bool ((Qa l0 a0).f1),.int .i64 ((Qa l0 a0).f2),.int .i64 0,.int .i64 0,.slice none 0 0]) ?_ 3 _ rfl;refine zzi (cs:=#[.bool ((Qa l0 a0).f0),.bool ((Qa l0 a0).f1),.int .i64 0,.int .i64 0,.int .i64 0,.slice none 0 0]) ?_ 2 _ rfl;refine zzi (cs:=#[.bool ((Qa l0 a0).f0),.bool false,.int .i64 0,.int .i64 0,.int .i64 0,.slice none 0 0]) ?_ 1 _ rfl;refine zzi (cs:=#[.bool false,.bool false,.int .i64 0,.int .i64 0,.int .i64 0,.slice none 0 0]) ?_ 0 _ rfl;(with_reducible repeat (first|apply zzf|apply zzg|apply zze));exact a3.out) hb);have b2:=zzm (zzp zzh2 hb);clear a6 a3 HB;have a6:=a9;have o7:=b0;have a3:=b1;have HB:=b2;clear a9 b0 b1 b2 hb ho10));go_loopg [8,9] k1 (fun kq v8 v9 w'=>∃ (a8:List (S30)) (a2:Int),v9 = .int .i64 a2∧Aside0 (Qd.l1 kq l0 a1 c3 a0 a8 a2 ((Qa l0 a0).f0) ((Qa l0 a0).f1) ((Qa l0 a0).f2) ((Qa l0 a0).f3) ((Qa l0 a0).f4) ((Qa l0 a0).f5)=some r)∧Aside0 (kq≤k1)∧Aside0 (Kd.R k34 34 w' w.heap.size (fun k_=>some k_≠(v8:Value).ownBlock∧k_≠a4) u5 c3)∧Aside0 (Kd.S k30 30 w' w.heap.size (fun _=>True) v8 a8)∧Aside0 (w'.heap[a4]? = some (.cells #[.bool ((Qa l0 a0).f0),.bool ((Qa l0 a0).f1),.int .i64 ((Qa l0 a0).f2),.int .i64 ((Qa l0 a0).f3),.int .i64 ((Qa l0 a0).f4),(.slice g0 ((Qa l0 a0).f5).length b3)] 34 (0,0)))∧Aside0 (Below w.heap.size w w'))
     case atStart=>exact ⟨(y422),(0),(by first|rfl|(simp;done)|(simp [*];done)),H',⟨Nat.le_refl _⟩,⟨by (with_reducible repeat (first|apply Kd.R_alloc|apply Kd.R_drewN|apply Kd.R_drew));exact Kd.R_mono a6.out (fun _ hk=>⟨hk.2,hk.1.2⟩)⟩,⟨by (with_reducible repeat (first|apply Kd.S_alloc|apply Kd.S_drewN|apply Kd.S_drew));exact o7.out⟩,⟨zzE a3.out⟩,⟨zzh3⟩⟩
     case round=>
      clear H';try clear p2
      try clear c4
      try clear p4
      try clear q4
      try clear B1
      try clear c5
      try clear m8
      try clear c6
      try clear q2
      try clear m9
      try clear n0
      try clear n1
      try clear n2
      try clear n3
      try clear n4
      try clear n5
      try clear n6
      try clear n7
      try clear n8
      try clear n9
      try clear o0
      try clear g1
      try clear g2
      try clear g3
      try clear g4
      try clear g5
      try clear g6
      try clear p2
      try clear k5
      try clear k6
      obtain ⟨a8,a2,rfl,HA,HK2,a6,a7,a3,HB⟩:=hrel;cases gk with
      | zero=>exact absurd HA.out (by simp [Qd.l1])
      | succ k2=>
       have H:=HA.out;clear HA;simp only [Qd.l1] at H;by_cases j3:a2 < (((Qa l0 a0).f5).length:Int)
       ·
        rw [if_pos j3] at H;have o8:decide (a2 < (((Qa l0 a0).f5).length:Int))=true:=decide_eq_true j3;clear j3;by_cases l8 : 0≤a2
        ·
         rw [if_pos l8] at H;have A4:decide (0≤a2)=true:=decide_eq_true l8;clear l8;obtain ⟨q5,q0,H⟩:=zzG H;by_cases l9:q5=true
         ·
          subst l9;replace H:=zzIt H;replace H:=zzH H;obtain ⟨⟨g7,g8,g9,e2,h0,e3⟩,o1,H⟩:=H;replace H:(if a8.length < 1759218604441 then (Qd.l1 k2 l0 a1 c3 a0 (a8 ++ [(⟨g7,g8,g9,e2,h0,e3⟩:S30)]) (wrap64 (a2+1)) ((Qa l0 a0).f0) ((Qa l0 a0).f1) ((Qa l0 a0).f2) ((Qa l0 a0).f3) ((Qa l0 a0).f4) ((Qa l0 a0).f5)) else (none))=some r:=H;have A1:=zzm o1;clear o1;by_cases m0:a8.length < 1759218604441
          ·
           rw [if_pos m0] at H;have LMc16:=zzm m0;clear m0;obtain ⟨y441,hy441⟩:∃ y_:List (S30),y_=(a8 ++ [(⟨g7,g8,g9,e2,h0,e3⟩:S30)]):=⟨_,rfl⟩;replace H:(Qd.l1 k2 l0 a1 c3 a0 y441 (wrap64 (a2+1)) ((Qa l0 a0).f0) ((Qa l0 a0).f1) ((Qa l0 a0).f2) ((Qa l0 a0).f3) ((Qa l0 a0).f4) ((Qa l0 a0).f5))=some r:=by first|(rw [hy441];with_reducible exact H)|(have H2_:=(Option.bind_some _ _).symm.trans H;rw [hy441];with_reducible exact H2_)|(have H2_:=(Option.bind_some _ _).symm.trans H;with_reducible exact H2_)|with_reducible exact H|(rw [hy441];exact H)|exact H
           have Ny441:=zzm hy441;clear hy441;have H':=zzm H;clear H;obtain ⟨q9,r0,r1,r2,r3,r4,r5,r6,r7,r8,r9,s0⟩:=zzc6 a3.out;try go_wp2
           have a9:=zzm (Kd.R_drew a6.out);have b0:=zzm (Kd.S_drew a7.out);have b1:=zzm (zzg a3.out);have b2:=zzm (zzc HB.out);clear a6 a7 a3 HB;have a6:=a9;have a7:=b0;have a3:=b1;have HB:=b2;clear a9 b0 b1 b2;have e8 : 0≤(a2:Int):=zzt;have e9:a2 < (((Qa l0 a0).f5).length:Int):=zzt;obtain ⟨a5,e4,e5,e6,e7,k8,b4,b5,b6,b7,b8,b9,d0,d1,d2,d3⟩:=Q5 c9.out a2 e8 e9;have c7:=b9;have d4:=b8;have c8:=b7;have d5:=b6;have d6:=b5;have d7:=b4;cases k8;replace b4:=zzx HB.out b4;replace b5:=zzx HB.out b5;replace b6:=zzx HB.out b6;replace b7:=zzx HB.out b7;replace b8:=zzx HB.out b8;replace b9:=zzx HB.out b9;have d8:=zzm d1;have h1:=zzm d0;clear d1 d0;have d9:=zzm d3;have h2:=zzm d2;clear d3 d2;replace e8:=eq_true e8;replace e9:=eq_true e9;refine start_ (n:=9) (S:=fun w'=>w'.cell? ⟨a4,0,none⟩=some (.bool ((Qa l0 a0).f0))∧w'.cell? ⟨a4,1,none⟩=some (.bool ((Qa l0 a0).f1))∧w'.cell? ⟨a4,2,none⟩=some (.int .i64 ((Qa l0 a0).f2))∧w'.cell? ⟨a4,3,none⟩=some (.int .i64 ((Qa l0 a0).f3))∧w'.cell? ⟨a4,4,none⟩=some (.int .i64 ((Qa l0 a0).f4))∧w'.cell? ⟨a4,5,none⟩=some (.slice (some a5) ((Qa l0 a0).f5).length b3)∧w'.cell? (a5.add ((a2).toNat * 6))=some (.int .i64 ((Qb ((Qa l0 a0).f5) a2).f0))∧w'.cell? ⟨(a5.add ((a2).toNat * 6)).block,(a5.add ((a2).toNat * 6)).off+1,none⟩=some (.int .i64 ((Qb ((Qa l0 a0).f5) a2).f1))∧w'.cell? ⟨(a5.add ((a2).toNat * 6)).block,(a5.add ((a2).toNat * 6)).off+2,none⟩=some (.bool ((Qb ((Qa l0 a0).f5) a2).f2))∧w'.cell? ⟨(a5.add ((a2).toNat * 6)).block,(a5.add ((a2).toNat * 6)).off+3,none⟩=some (.slice e4 ((Qb ((Qa l0 a0).f5) a2).f3).length e5)∧w'.cell? ⟨(a5.add ((a2).toNat * 6)).block,(a5.add ((a2).toNat * 6)).off+4,none⟩=some (.bool ((Qb ((Qa l0 a0).f5) a2).f4))∧w'.cell? ⟨(a5.add ((a2).toNat * 6)).block,(a5.add ((a2).toNat * 6)).off+5,none⟩=some (.slice e6 ((Qb ((Qa l0 a0).f5) a2).f5).length e7)) (ds:=[]) (zzB 9 0) (by kernel_rfl) rfl rfl ⟨(zzk a3.out 0).trans rfl,(zzk a3.out 1).trans rfl,(zzk a3.out 2).trans rfl,(zzk a3.out 3).trans rfl,(zzk a3.out 4).trans rfl,(zzk a3.out 5).trans rfl,(zzx HB.out d7),(zzx HB.out d6),(zzx HB.out d5),(zzx HB.out c8),(zzx HB.out d4),(zzx HB.out c7)⟩ (fun c2=>?_);refine with_tabW Qd.tab10 Qd.bits10 (fun c1 h7=>?_);generalize wr.drew=B2 at a6 a7 a3 HB d8 d9 b4 b5 b6 b7 b8 b9 c2 ⊢;refine zzP 0 29 9 1 c1 ?_
           refine zzP 2 31 9 5 c1 ?_
           refine zzP 4 33 9 21 c1 ?_
           refine zzP 7 36 9 149 c1 ?_
           refine zzT 1 30 9 151 c1 h7 c2 ?_
           refine zzT 3 32 9 159 c1 h7 c2 ?_
           refine zzP 5 34 9 191 c1 ?_
           refine zzT 6 35 9 255 c1 h7 c2 ?_
           refine one_ (i:=8) (N:=some 37) (zzB 9 511) rfl rfl (one_of c1.out (by kernel_rfl)) (by decide) (fun K hK=>?_);refine goes_ Try.func44 (by kernel_rfl) rfl #[.slice (some l7) l0.length c0,.agg #[.bool ((Qa l0 a0).f0),.bool ((Qa l0 a0).f1),.int .i64 ((Qa l0 a0).f2),.int .i64 ((Qa l0 a0).f3),.int .i64 ((Qa l0 a0).f4),.slice (some a5) ((Qa l0 a0).f5).length b3],.agg #[.int .i64 ((Qb ((Qa l0 a0).f5) a2).f0),.int .i64 ((Qb ((Qa l0 a0).f5) a2).f1),.bool ((Qb ((Qa l0 a0).f5) a2).f2),.slice e4 ((Qb ((Qa l0 a0).f5) a2).f3).length e5,.bool ((Qb ((Qa l0 a0).f5) a2).f4),.slice e6 ((Qb ((Qa l0 a0).f5) a2).f5).length e7],.bool a1] (by rfl) rfl rfl zzM2 ?_;with_reducible refine (Rq.calls k2 _ _ l0 ((Qa l0 a0).f0) ((Qa l0 a0).f1) ((Qa l0 a0).f2) ((Qa l0 a0).f3) ((Qa l0 a0).f4) _ _ ((Qa l0 a0).f5) ((Qb ((Qa l0 a0).f5) a2).f0) ((Qb ((Qa l0 a0).f5) a2).f1) ((Qb ((Qa l0 a0).f5) a2).f2) _ _ ((Qb ((Qa l0 a0).f5) a2).f3) ((Qb ((Qa l0 a0).f5) a2).f4) _ _ ((Qb ((Qa l0 a0).f5) a2).f5) a1 true _ ?side1 ?side2 ?side3 ?side4 ?side5 ?side6 ?side7 ?side8 q0.out).mono ?_
           (case side1=>exact zzcb m7 HB)
           (case side2=>exact p9.out)
           (case side3=>exact zzcb c9 HB)
           (case side4=>exact j2.out)
           (case side5=>exact zzcb d8 HB)
           (case side6=>exact h1.out)
           (case side7=>exact zzcb d9 HB)
           (case side8=>exact h2.out);rintro e B3 ⟨rfl,hb⟩;refine ⟨_,rfl,?_⟩;have a9:=zzm (Kd.R_below (by (with_reducible repeat (first|apply Kd.R_alloc|apply Kd.R_drewN|apply Kd.R_drew));exact a6.out) hb);have b0:=zzm (Kd.S_below (zzS a7.out) hb);have b1:=zzm (zzh (g:=a4) (o:=.cells #[.bool ((Qa l0 a0).f0),.bool ((Qa l0 a0).f1),.int .i64 ((Qa l0 a0).f2),.int .i64 ((Qa l0 a0).f3),.int .i64 ((Qa l0 a0).f4),.slice (some a5) ((Qa l0 a0).f5).length b3] 34 (0,0)) (zzE a3.out) hb);have b2:=zzm (zzp zzh2 hb);clear a6 a7 a3 HB;have a6:=a9;have a7:=b0;have a3:=b1;have HB:=b2;clear a9 b0 b1 b2
           (try clear hb)
           (try clear hb2)
           (try clear hk)
           (try clear hi);refine hK.out _ _ ⟨(zzk a3.out 0).trans rfl,(zzk a3.out 1).trans rfl,(zzk a3.out 2).trans rfl,(zzk a3.out 3).trans rfl,(zzk a3.out 4).trans rfl,(zzk a3.out 5).trans rfl,(zzx HB.out d7),(zzx HB.out d6),(zzx HB.out d5),(zzx HB.out c8),(zzx HB.out d4),(zzx HB.out c7)⟩ (fun c2=>?_);clear hK K;refine zzO 37 ?_
           refine done_ (done_of c1.out (by kernel_rfl)) ?_;obtain ⟨s1,s2,s3,s4,s5,s6,s7,s8,s9,t0,t1,t2⟩:=zzc6 a3.out;have k9 : 0≤(a2:Int):=zzt;have l2:a2 < (((Qa l0 a0).f5).length:Int):=zzt;obtain ⟨o9,o2,o3,o4,o5,q6,j4,j5,j6,h3,j7,h4,j8,j9,k0,k3⟩:=Q5 c9.out a2 k9 l2;obtain rfl:a5=o9:=(by injection q6)
           (try (have ea_:=Option.some.inj (h3.symm.trans c8);injection ea_ with ea_ en_ ec_;subst ea_;subst ec_;clear en_))
           (try (have ea_:=Option.some.inj (h4.symm.trans c7);injection ea_ with ea_ en_ ec_;subst ea_;subst ec_;clear en_));replace j4:=zzx HB.out j4;replace j5:=zzx HB.out j5;replace j6:=zzx HB.out j6;replace h3:=zzx HB.out h3;replace j7:=zzx HB.out j7;replace h4:=zzx HB.out h4;have m3:=zzm j9;have m4:=zzm j8;clear j9 j8;have m5:=zzm k3;have m6:=zzm k0;clear k3 k0;replace k9:=eq_true k9;replace l2:=eq_true l2;try go_wp2_with (first|((with_reducible refine gate_callee (f:=45) rfl ?_);refine goesL_ (some 44) rfl rfl Try.func45 (by kernel_rfl) rfl #[.agg #[.int .i64 ((Qb ((Qa l0 a0).f5) a2).f0),.int .i64 ((Qb ((Qa l0 a0).f5) a2).f1),.bool ((Qb ((Qa l0 a0).f5) a2).f2),.slice o2 ((Qb ((Qa l0 a0).f5) a2).f3).length o3,.bool ((Qb ((Qa l0 a0).f5) a2).f4),.slice o4 ((Qb ((Qa l0 a0).f5) a2).f5).length o5]] rfl zzM2 ?_;(with_reducible refine (Rv.calls ((Qb ((Qa l0 a0).f5) a2).f0) ((Qb ((Qa l0 a0).f5) a2).f1) ((Qb ((Qa l0 a0).f5) a2).f2) _ _ ((Qb ((Qa l0 a0).f5) a2).f3) ((Qb ((Qa l0 a0).f5) a2).f4) _ _ ((Qb ((Qa l0 a0).f5) a2).f5) g7 g8 g9 e2 h0 e3 _ ?side1 ?side2 ?side3 ?side4 A1.out).mono ?_);(case side1=>exact zzcb m3 HB);(case side2=>exact m4.out);(case side3=>exact zzcb m5 HB);(case side4=>exact m6.out);rintro e B5 ⟨A7,A8,rfl,ho0,ho1,hb⟩;refine ⟨_,rfl,?_⟩;have a9:=zzm (Kd.R_mono (Kd.R_told (Kd.R_told (Kd.R_old (by (with_reducible repeat (first|apply Kd.R_alloc|apply Kd.R_drewN|apply Kd.R_drew));exact a6.out) hb) (Kd.R_base ho0)) (Kd.R_base ho1)) (fun _ h_=>h_.1));have b0:=zzm (Kd.S_mono (Kd.S_told (Kd.S_told (Kd.S_old (zzS a7.out) hb) (Kd.R_base ho0)) (Kd.R_base ho1)) (fun _ h_=>h_.1));have b1:=zzm (Kd.R_lower ho0 (zzo zzh2));have b2:=zzm (Kd.R_lower ho1 (zzo zzh2));have k7:=zzm (zzh (g:=a4) (o:=.cells #[.bool ((Qa l0 a0).f0),.bool ((Qa l0 a0).f1),.int .i64 ((Qa l0 a0).f2),.int .i64 ((Qa l0 a0).f3),.int .i64 ((Qa l0 a0).f4),.slice (some a5) ((Qa l0 a0).f5).length b3] 34 (0,0)) (zzE a3.out) hb);have q1:=zzm (zzp zzh2 hb);clear a6 a7 a3 HB;have a6:=a9;have a7:=b0;have h5:=b1;have h6:=b2;have a3:=k7;have HB:=q1;clear a9 b0 b1 b2 k7 q1;(try clear hb);(try clear hb2);(try clear hk);(try clear hi);(try clear ho0);(try clear ho1);obtain ⟨l3,l4,eo23⟩:=Kd.R_slice h5.out;subst eo23;obtain ⟨l5,l6,eo24⟩:=Kd.R_slice h6.out;subst eo24)|((with_reducible refine gate_builtin (b:=.append) (xs:=#[.tmp 38,.tmp 45]) rfl ?_);at_builtin;refine Kd.S_append k30 (w0:=w) w.heap.size rfl (.tmp 38) (.tmp 45) 25 30 (.agg #[(.int .i64 0),(.int .i64 0),(.bool false),(.slice none 0 0),(.bool false),(.slice none 0 0)]) 80 rfl Try.underlying25 info30 rfl (by decide) (by omega) u8 a8 (⟨g7,g8,g9,e2,h0,e3⟩:S30) [.int .i64 g7,.int .i64 g8,.bool g9,.slice l3 e2.length l4,.bool h0,.slice l5 e3.length l6] (fun _=>True) (fun k_=>some k_=(.slice l3 e2.length l4:Value).ownBlock∨some k_=(.slice l5 e3.length l6:Value).ownBlock) rfl rfl ?aP (fun k_ hk_=>hk_.elim (fun h_=>((Kd.R_mono (ok':=fun k_=>((fun _=>True)) k_∧some k_≠(u8:Value).ownBlock) (Kd.R_apart' (h5.out) (Kd.S_typed a7.out) (by decide)) (fun k_ hk=>⟨trivial,hk.2⟩))).1 k_ h_.symm) (fun h_=>((Kd.R_mono (ok':=fun k_=>((fun _=>True)) k_∧some k_≠(u8:Value).ownBlock) (Kd.R_apart' (h6.out) (Kd.S_typed a7.out) (by decide)) (fun k_ hk=>⟨trivial,hk.2⟩))).1 k_ h_.symm)) ?aF ?aO ?aB ?aS ?aL ?_;(case aP=>exact k30_mkM _ _ _ (⟨g7,g8,g9,e2,h0,e3⟩:S30) (Kd.R_mono (Kd.R_tight rfl (Kd.R_mono (ok':=fun k_=>((fun _=>True)) k_∧some k_≠(u8:Value).ownBlock) (Kd.R_apart' (h5.out) (Kd.S_typed a7.out) (by decide)) (fun k_ hk=>⟨trivial,hk.2⟩))) (fun _ h_=>Or.inl h_)) (Kd.R_mono (Kd.R_tight rfl (Kd.R_mono (ok':=fun k_=>((fun _=>True)) k_∧some k_≠(u8:Value).ownBlock) (Kd.R_apart' (h6.out) (Kd.S_typed a7.out) (by decide)) (fun k_ hk=>⟨trivial,hk.2⟩))) (fun _ h_=>Or.inr (h_))));(case aB=>exact zzh2);(case aF=>exact (fun _ _=>trivial));(case aO=>exact (zzS (Kd.S_mono a7.out (fun k_ hk=>⟨trivial,fun e_=>e_.elim (fun h_=>hk.1.2 h_) (fun h_=>hk.2 h_)⟩))));(case aS=>exact (zzo zzh2));(case aL=>have:=LMc16.out;omega);intro A9 B7 ho hb hg hat;rw [← Ny441.out] at ho;have a9:=zzm (Kd.R_after (ok:=(fun k_=>some k_≠(.slice l3 e2.length l4:Value).ownBlock∧some k_≠(.slice l5 e3.length l6:Value).ownBlock∧k_≠a4)) (by (with_reducible repeat (first|apply Kd.R_alloc|apply Kd.R_drewN|apply Kd.R_drew));exact Kd.R_mono a6.out (fun _ hk=>⟨⟨hk.1.2,⟨hk.2,hk.1.1.2⟩⟩,hk.1.1.1⟩)) hg hat);have b0:=zzm (blk_grown (g:=a4) (o:=.cells #[.bool ((Qa l0 a0).f0),.bool ((Qa l0 a0).f1),.int .i64 ((Qa l0 a0).f2),.int .i64 ((Qa l0 a0).f3),.int .i64 ((Qa l0 a0).f4),.slice (some a5) ((Qa l0 a0).f5).length b3] 34 (0,0)) (zzE a3.out) hg (Kd.S_ne a7.out a3.out (by decide)));have b1:=zzm (hb);have b2:=zzm (ho);clear a6 a3 HB a7 h5 h6;have a6:=a9;have a3:=b0;have HB:=b1;have p0:=b2;clear a9 b0 b1 b2 ho hb hg hat))
           go_roundg k2
           case measure=>have:=HK1.out;have:=HK2.out;omega
           case rel=>exact ⟨(y441),(wrap64 (a2+1)),(by first|rfl|(simp;done)|(simp [*];done)),H',⟨by have:=HK1.out;have:=HK2.out;omega⟩,⟨by (with_reducible repeat (first|apply Kd.R_alloc|apply Kd.R_drewN|apply Kd.R_drew));exact Kd.R_mono a6.out (fun _ hk=>⟨hk.2,hk.1.2.2⟩)⟩,⟨by (with_reducible repeat (first|apply Kd.S_alloc|apply Kd.S_drewN|apply Kd.S_drew));exact p0.out⟩,⟨zzE a3.out⟩,⟨zzh3⟩⟩
          ·
           rw [if_neg m0] at H;exact absurd H (by simp)
         ·
          replace l9:=Bool.eq_false_iff.mpr l9;subst l9;replace H:=zzIf H;have H':=zzm H;clear H;obtain ⟨t3,t4,t5,t6,t7,t8,t9,v0,v1,v2,v3,v4⟩:=zzc6 a3.out;try go_wp2
          have a9:=zzm (Kd.R_drew a6.out);have b0:=zzm (Kd.S_drew a7.out);have b1:=zzm (zzg a3.out);have b2:=zzm (zzc HB.out);clear a6 a7 a3 HB;have a6:=a9;have a7:=b0;have a3:=b1;have HB:=b2;clear a9 b0 b1 b2;have e8 : 0≤(a2:Int):=zzt;have e9:a2 < (((Qa l0 a0).f5).length:Int):=zzt;obtain ⟨a5,e4,e5,e6,e7,k8,b4,b5,b6,b7,b8,b9,d0,d1,d2,d3⟩:=Q5 c9.out a2 e8 e9;have c7:=b9;have d4:=b8;have c8:=b7;have d5:=b6;have d6:=b5;have d7:=b4;cases k8;replace b4:=zzx HB.out b4;replace b5:=zzx HB.out b5;replace b6:=zzx HB.out b6;replace b7:=zzx HB.out b7;replace b8:=zzx HB.out b8;replace b9:=zzx HB.out b9;have d8:=zzm d1;have h1:=zzm d0;clear d1 d0;have d9:=zzm d3;have h2:=zzm d2;clear d3 d2;replace e8:=eq_true e8;replace e9:=eq_true e9;refine start_ (n:=9) (S:=fun w'=>w'.cell? ⟨a4,0,none⟩=some (.bool ((Qa l0 a0).f0))∧w'.cell? ⟨a4,1,none⟩=some (.bool ((Qa l0 a0).f1))∧w'.cell? ⟨a4,2,none⟩=some (.int .i64 ((Qa l0 a0).f2))∧w'.cell? ⟨a4,3,none⟩=some (.int .i64 ((Qa l0 a0).f3))∧w'.cell? ⟨a4,4,none⟩=some (.int .i64 ((Qa l0 a0).f4))∧w'.cell? ⟨a4,5,none⟩=some (.slice (some a5) ((Qa l0 a0).f5).length b3)∧w'.cell? (a5.add ((a2).toNat * 6))=some (.int .i64 ((Qb ((Qa l0 a0).f5) a2).f0))∧w'.cell? ⟨(a5.add ((a2).toNat * 6)).block,(a5.add ((a2).toNat * 6)).off+1,none⟩=some (.int .i64 ((Qb ((Qa l0 a0).f5) a2).f1))∧w'.cell? ⟨(a5.add ((a2).toNat * 6)).block,(a5.add ((a2).toNat * 6)).off+2,none⟩=some (.bool ((Qb ((Qa l0 a0).f5) a2).f2))∧w'.cell? ⟨(a5.add ((a2).toNat * 6)).block,(a5.add ((a2).toNat * 6)).off+3,none⟩=some (.slice e4 ((Qb ((Qa l0 a0).f5) a2).f3).length e5)∧w'.cell? ⟨(a5.add ((a2).toNat * 6)).block,(a5.add ((a2).toNat * 6)).off+4,none⟩=some (.bool ((Qb ((Qa l0 a0).f5) a2).f4))∧w'.cell? ⟨(a5.add ((a2).toNat * 6)).block,(a5.add ((a2).toNat * 6)).off+5,none⟩=some (.slice e6 ((Qb ((Qa l0 a0).f5) a2).f5).length e7)) (ds:=[]) (zzB 9 0) (by kernel_rfl) rfl rfl ⟨(zzk a3.out 0).trans rfl,(zzk a3.out 1).trans rfl,(zzk a3.out 2).trans rfl,(zzk a3.out 3).trans rfl,(zzk a3.out 4).trans rfl,(zzk a3.out 5).trans rfl,(zzx HB.out d7),(zzx HB.out d6),(zzx HB.out d5),(zzx HB.out c8),(zzx HB.out d4),(zzx HB.out c7)⟩ (fun c2=>?_);refine with_tabW Qd.tab10 Qd.bits10 (fun c1 h7=>?_);generalize wr.drew=B8 at a6 a7 a3 HB d8 d9 b4 b5 b6 b7 b8 b9 c2 ⊢;refine zzP 0 29 9 1 c1 ?_
          refine zzP 2 31 9 5 c1 ?_
          refine zzP 4 33 9 21 c1 ?_
          refine zzP 7 36 9 149 c1 ?_
          refine zzT 1 30 9 151 c1 h7 c2 ?_
          refine zzT 3 32 9 159 c1 h7 c2 ?_
          refine zzP 5 34 9 191 c1 ?_
          refine zzT 6 35 9 255 c1 h7 c2 ?_
          refine one_ (i:=8) (N:=some 37) (zzB 9 511) rfl rfl (one_of c1.out (by kernel_rfl)) (by decide) (fun K hK=>?_);refine goes_ Try.func44 (by kernel_rfl) rfl #[.slice (some l7) l0.length c0,.agg #[.bool ((Qa l0 a0).f0),.bool ((Qa l0 a0).f1),.int .i64 ((Qa l0 a0).f2),.int .i64 ((Qa l0 a0).f3),.int .i64 ((Qa l0 a0).f4),.slice (some a5) ((Qa l0 a0).f5).length b3],.agg #[.int .i64 ((Qb ((Qa l0 a0).f5) a2).f0),.int .i64 ((Qb ((Qa l0 a0).f5) a2).f1),.bool ((Qb ((Qa l0 a0).f5) a2).f2),.slice e4 ((Qb ((Qa l0 a0).f5) a2).f3).length e5,.bool ((Qb ((Qa l0 a0).f5) a2).f4),.slice e6 ((Qb ((Qa l0 a0).f5) a2).f5).length e7],.bool a1] (by rfl) rfl rfl zzM2 ?_;with_reducible refine (Rq.calls k2 _ _ l0 ((Qa l0 a0).f0) ((Qa l0 a0).f1) ((Qa l0 a0).f2) ((Qa l0 a0).f3) ((Qa l0 a0).f4) _ _ ((Qa l0 a0).f5) ((Qb ((Qa l0 a0).f5) a2).f0) ((Qb ((Qa l0 a0).f5) a2).f1) ((Qb ((Qa l0 a0).f5) a2).f2) _ _ ((Qb ((Qa l0 a0).f5) a2).f3) ((Qb ((Qa l0 a0).f5) a2).f4) _ _ ((Qb ((Qa l0 a0).f5) a2).f5) a1 false _ ?side1 ?side2 ?side3 ?side4 ?side5 ?side6 ?side7 ?side8 q0.out).mono ?_
          (case side1=>exact zzcb m7 HB)
          (case side2=>exact p9.out)
          (case side3=>exact zzcb c9 HB)
          (case side4=>exact j2.out)
          (case side5=>exact zzcb d8 HB)
          (case side6=>exact h1.out)
          (case side7=>exact zzcb d9 HB)
          (case side8=>exact h2.out);rintro e B9 ⟨rfl,hb⟩;refine ⟨_,rfl,?_⟩;have a9:=zzm (Kd.R_below (by (with_reducible repeat (first|apply Kd.R_alloc|apply Kd.R_drewN|apply Kd.R_drew));exact a6.out) hb);have b0:=zzm (Kd.S_below (zzS a7.out) hb);have b1:=zzm (zzh (g:=a4) (o:=.cells #[.bool ((Qa l0 a0).f0),.bool ((Qa l0 a0).f1),.int .i64 ((Qa l0 a0).f2),.int .i64 ((Qa l0 a0).f3),.int .i64 ((Qa l0 a0).f4),.slice (some a5) ((Qa l0 a0).f5).length b3] 34 (0,0)) (zzE a3.out) hb);have b2:=zzm (zzp zzh2 hb);clear a6 a7 a3 HB;have a6:=a9;have a7:=b0;have a3:=b1;have HB:=b2;clear a9 b0 b1 b2
          (try clear hb)
          (try clear hb2)
          (try clear hk)
          (try clear hi);refine hK.out _ _ ⟨(zzk a3.out 0).trans rfl,(zzk a3.out 1).trans rfl,(zzk a3.out 2).trans rfl,(zzk a3.out 3).trans rfl,(zzk a3.out 4).trans rfl,(zzk a3.out 5).trans rfl,(zzx HB.out d7),(zzx HB.out d6),(zzx HB.out d5),(zzx HB.out c8),(zzx HB.out d4),(zzx HB.out c7)⟩ (fun c2=>?_);clear hK K;refine zzO 37 ?_
          refine done_ (done_of c1.out (by kernel_rfl)) ?_;try go_wp2
          go_roundg k2
          case measure=>have:=HK1.out;have:=HK2.out;omega
          case rel=>exact ⟨(a8),(wrap64 (a2+1)),(by first|rfl|(simp;done)|(simp [*];done)),H',⟨by have:=HK1.out;have:=HK2.out;omega⟩,⟨by (with_reducible repeat (first|apply Kd.R_alloc|apply Kd.R_drewN|apply Kd.R_drew));exact a6.out⟩,⟨by (with_reducible repeat (first|apply Kd.S_alloc|apply Kd.S_drewN|apply Kd.S_drew));exact a7.out⟩,⟨zzE a3.out⟩,⟨zzh3⟩⟩
        ·
         rw [if_neg l8] at H;exact absurd H (by simp)
       ·
        rw [if_neg j3] at H;have o8:decide (a2 < (((Qa l0 a0).f5).length:Int))=false:=decide_eq_false j3;clear j3;by_cases k4:(a8.length:Int) > 0
        ·
         rw [if_pos k4] at H;have p1:decide (0 < (a8.length:Int))=true:=decide_eq_true k4;have p3:decide (0 < a8.length)=true:=decide_eq_true (by omega);clear k4;by_cases m1:c3.length < 2513169434916
         ·
          rw [if_pos m1] at H;have LMc29:=zzm m1;clear m1;obtain ⟨y425,hy425⟩:∃ y_:List (S34),y_=(c3 ++ [(⟨((Qa l0 a0).f0),((Qa l0 a0).f1),((Qa l0 a0).f2),((Qa l0 a0).f3),((Qa l0 a0).f4),a8⟩:S34)]):=⟨_,rfl⟩;replace H:(Qd.l0 k2 l0 a1 y425 (wrap64 (a0+1)))=some r:=by first|(rw [hy425];with_reducible exact H)|(have H2_:=(Option.bind_some _ _).symm.trans H;rw [hy425];with_reducible exact H2_)|(have H2_:=(Option.bind_some _ _).symm.trans H;with_reducible exact H2_)|with_reducible exact H|(rw [hy425];exact H)|exact H
          have Ny425:=zzm hy425;clear hy425;have H':=zzm H;clear H;obtain ⟨v7,w2,w4,w5,w6,w8,x0,x1,x2,x3,x4,x5⟩:=zzc6 a3.out;obtain ⟨e0,e1,eo31⟩:=Kd.S_slice a7.out;subst eo31;go_wp2_with (first|((with_reducible refine gate_store (t:=25) (p:=48) rfl ?_);refine store_event (t:=25) (p:=48) (v:=?vo_w32) (w1:=(wr.setCell ⟨a4,5,none⟩ (.slice e0 a8.length e1))) ?hg ?ho ?hn ?hr ?_;(case ho=>rfl);(case hg=>rfl);(case hn=>rfl);(case hr=>first|(go_simp;done)|(go_simp;rfl));intro m2 hw;have a9:Aside0 (Kd.R k34 34 m2 w.heap.size (fun k_=>some k_≠(.slice e0 a8.length e1:Value).ownBlock∧k_≠a4) u5 c3):=⟨(by rw [hw];exact (by (with_reducible repeat (first|apply Kd.R_alloc|apply Kd.R_drewN|apply Kd.R_drew));exact Kd.R_mono (Kd.R_far (p:=⟨a4,5,none⟩) (Kd.R_mono a6.out (fun k_ hk=>(⟨hk,hk.2⟩:_∧k_≠a4))) (fun _ hk=>hk.2) (.slice e0 a8.length e1)) (fun _ hk=>⟨hk.1.1,hk.1.2⟩)))⟩;have b0:Aside0 (Kd.S k30 30 m2 w.heap.size (fun _=>True) (.slice e0 a8.length e1) a8):=⟨(by rw [hw];exact (zzS (Kd.S_mono (Kd.S_far (p:=⟨a4,5,none⟩) (Kd.S_types a7.out a3.out (by decide)) (fun _ hk=>hk.2) (.slice e0 a8.length e1)) (fun _ hk=>trivial))))⟩;have b1:Aside0 (m2.heap[a4]? = some (.cells #[.bool ((Qa l0 a0).f0),.bool ((Qa l0 a0).f1),.int .i64 ((Qa l0 a0).f2),.int .i64 ((Qa l0 a0).f3),.int .i64 ((Qa l0 a0).f4),.slice e0 a8.length e1] 34 (0,0))):=⟨(by rw [hw];exact (by (with_reducible repeat (first|apply zzf|apply zzg|apply zze));refine zzi (cs:=#[.bool ((Qa l0 a0).f0),.bool ((Qa l0 a0).f1),.int .i64 ((Qa l0 a0).f2),.int .i64 ((Qa l0 a0).f3),.int .i64 ((Qa l0 a0).f4),.slice g0 ((Qa l0 a0).f5).length b3]) ?_ 5 _ rfl;(with_reducible repeat (first|apply zzf|apply zzg|apply zze));exact a3.out))⟩;have b2:Aside0 (Below w.heap.size w m2):=⟨(by rw [hw];exact zzh2)⟩;clear hw a6 a7 a3 HB;have a6:=a9;have a7:=b0;have a3:=b1;have HB:=b2;clear a9 b0 b1 b2;obtain ⟨x6,x7,x8,x9,y0,y1,y2,y3,y4,y5,y6,y7⟩:=zzc6 a3.out)|((with_reducible refine gate_builtin (b:=.append) (xs:=#[.tmp 52,.tmp 54]) rfl ?_);at_builtin;refine Kd.R_append k34 (w0:=w) w.heap.size rfl (.tmp 52) (.tmp 54) 23 34 (.agg #[(.bool false),(.bool false),(.int .i64 0),(.int .i64 0),(.int .i64 0),(.slice none 0 0)]) 56 rfl Try.underlying23 info34 rfl (by decide) (by omega) u5 c3 (⟨((Qa l0 a0).f0),((Qa l0 a0).f1),((Qa l0 a0).f2),((Qa l0 a0).f3),((Qa l0 a0).f4),a8⟩:S34) [.bool ((Qa l0 a0).f0),.bool ((Qa l0 a0).f1),.int .i64 ((Qa l0 a0).f2),.int .i64 ((Qa l0 a0).f3),.int .i64 ((Qa l0 a0).f4),.slice e0 a8.length e1] (fun k_=>k_≠a4) (fun k_=>((fun k_=>k_≠a4)) k_∧some k_≠(u5:Value).ownBlock) rfl rfl ?aP (fun _ hk=>hk) ?aF ?aO ?aB ?aS ?aL ?_;(case aP=>exact k34_mkM _ _ _ (⟨((Qa l0 a0).f0),((Qa l0 a0).f1),((Qa l0 a0).f2),((Qa l0 a0).f3),((Qa l0 a0).f4),a8⟩:S34) (Kd.R_mono (Kd.R_types (Kd.R_apart' ((Kd.S_R a7.out)) (Kd.R_typed a6.out) (by decide)) a3.out (by decide)) (fun k_ hk=>⟨hk.2,hk.1.2⟩)));(case aB=>exact zzh2);(case aF=>exact (fun k_ hk=>Kd.freshB (g:=a4) (o:=.cells #[.bool ((Qa l0 a0).f0),.bool ((Qa l0 a0).f1),.int .i64 ((Qa l0 a0).f2),.int .i64 ((Qa l0 a0).f3),.int .i64 ((Qa l0 a0).f4),.slice e0 a8.length e1] 34 (0,0)) (zzE a3.out) k_ hk));(case aO=>exact (by (with_reducible repeat (first|apply Kd.R_alloc|apply Kd.R_drewN|apply Kd.R_drew));exact Kd.R_mono a6.out (fun _ hk=>hk.2)));(case aS=>exact (zzo zzh2));(case aL=>have:=LMc29.out;omega);intro B0 C0 ho hb hg hat;rw [← Ny425.out] at ho;have a9:=zzm (blk_grown (g:=a4) (o:=.cells #[.bool ((Qa l0 a0).f0),.bool ((Qa l0 a0).f1),.int .i64 ((Qa l0 a0).f2),.int .i64 ((Qa l0 a0).f3),.int .i64 ((Qa l0 a0).f4),.slice e0 a8.length e1] 34 (0,0)) (zzE a3.out) hg (Kd.R_away a6.out (fun _ hk=>hk.2)));have b0:=zzm (hb);have b1:=zzm (ho);clear a3 HB a6 a7;have a3:=a9;have HB:=b0;have p5:=b1;clear a9 b0 b1 ho hb hg hat));go_roundg k2
          case measure=>have:=HK1.out;have:=HK2.out;omega
          case rel=>exact ⟨(y425),(wrap64 (a0+1)),(by first|rfl|(simp;done)|(simp [*];done)),H',⟨by have:=HK1.out;have:=HK2.out;omega⟩,⟨by (with_reducible repeat (first|apply Kd.R_alloc|apply Kd.R_drewN|apply Kd.R_drew));exact Kd.R_mono p5.out (fun _ hk=>trivial)⟩,⟨zzh3⟩⟩
         ·
          rw [if_neg m1] at H;exact absurd H (by simp)
        ·
         rw [if_neg k4] at H;have p1:decide (0 < (a8.length:Int))=false:=decide_eq_false k4;have p3:decide (0 < a8.length)=false:=decide_eq_false (by omega);clear k4;have H':=zzm H;clear H;obtain ⟨y8,y9,z0,z1,z2,z3,z4,z5,z6,z7,z8,z9⟩:=zzc6 a3.out;obtain ⟨q7,q8,eo36⟩:=Kd.S_slice a7.out;subst eo36;go_wp2;go_roundg k2
         case measure=>have:=HK1.out;have:=HK2.out;omega
         case rel=>exact ⟨(c3),(wrap64 (a0+1)),(by first|rfl|(simp;done)|(simp [*];done)),H',⟨by have:=HK1.out;have:=HK2.out;omega⟩,⟨by (with_reducible repeat (first|apply Kd.R_alloc|apply Kd.R_drewN|apply Kd.R_drew));exact Kd.R_mono (Kd.R_far (p:=⟨a4,5,none⟩) (Kd.R_mono a6.out (fun k_ hk=>(⟨hk,hk.2⟩:_∧k_≠a4))) (fun _ hk=>hk.2) (.slice q7 a8.length q8)) (fun _ hk=>trivial)⟩,⟨zzh3⟩⟩
    ·
     rw [if_neg c6] at H;exact absurd H (by simp)
   ·
    rw [if_neg c5] at H;have m8:decide (a0 < (l0.length:Int))=false:=decide_eq_false c5;clear c5;obtain rfl:=Option.some.inj H;go_wp2;go_ret;exact ⟨_,zzR,by (with_reducible repeat (first|apply Kd.R_alloc|apply Kd.R_drewN|apply Kd.R_drew));exact a6.out,zzh1⟩

set_option linter.unusedVariables false
set_option linter.unusedSimpArgs false
def Ra.f (l0:List Int) (a1:Int):Option (Int):=if (wrap64 (a1 - (l0.length:Int))) < 0 then (some (-1)) else (some (wrap64 (a1 - (l0.length:Int))))
set_option maxHeartbeats 8000000 in
theorem Ra.calls (A0:Option Addr) (c0:Nat) (l0:List Int) (a1:Int) (r:Int) (w:World) (a0:Kd.C (Kd.int .i64) w A0 l0.length l0) (a2:l0.length≤c0) (h:Ra.f l0 a1=some r) :
  Calls Try.prog 99 #[.slice A0 l0.length c0,.int .i64 a1] w fun e w'=>e = .returned (.int .i64 r)∧Drawn0 w w':=by
 have a4:=zzm a0;have a5:=zzm a2;clear a0 a2;have H:(if (wrap64 (a1 - (l0.length:Int))) < 0 then (some (-1)) else (some (wrap64 (a1 - (l0.length:Int)))))=some r:=h;clear h;by_cases c3:(wrap64 (a1 - (l0.length:Int))) < 0
 ·
  rw [if_pos c3] at H;have a3:decide ((wrap64 (a1 - (l0.length:Int))) < 0)=true:=decide_eq_true c3;clear c3;obtain rfl:=Option.some.inj H;go_enter Try.func99,Try.ntmps99;go_wp2;go_ret;exact ⟨by first|rfl|(simp;done)|(simp [*];done),by repeat (first|exact Drawn0.refl _|apply Drawn0.step)⟩
 ·
  rw [if_neg c3] at H;have a3:decide ((wrap64 (a1 - (l0.length:Int))) < 0)=false:=decide_eq_false c3;clear c3;obtain rfl:=Option.some.inj H;go_enter Try.func99,Try.ntmps99;go_wp2;go_ret;exact ⟨by first|rfl|(simp;done)|(simp [*];done),by repeat (first|exact Drawn0.refl _|apply Drawn0.step)⟩
def Rm.f (a0_0:Int) (a0_1:Int) (a0_2:Bool) (l0_3:List Int) (a0_4:Bool) (l0_5:List Int) (a1:Int):Option (Int):=(Ra.f l0_3 a1).bind fun t479=>(if t479 < 0 then (some (-1)) else ((Ra.f l0_5 t479).bind fun t480=>(if t480 < 0 then (some (-1)) else (some t480))))
set_option maxHeartbeats 8000000 in
theorem Rm.calls (b5:Int) (b6:Int) (b7:Bool) (a5:Option Addr) (a6:Nat) (a0:List Int) (b8:Bool) (a8:Option Addr) (a9:Nat) (a2:List Int) (a1:Int) (r:Int) (w:World) (c1:Kd.C (Kd.int .i64) w a5 a0.length a0) (c2:a0.length≤a6) (c3:Kd.C (Kd.int .i64) w a8 a2.length a2) (c5:a2.length≤a9) (h:Rm.f b5 b6 b7 a0 b8 a2 a1=some r) :
  Calls Try.prog 93 #[.agg #[.int .i64 b5,.int .i64 b6,.bool b7,.slice a5 a0.length a6,.bool b8,.slice a8 a2.length a9],.int .i64 a1] w fun e w'=>e = .returned (.int .i64 r)∧Below w.heap.size w w':=by
 have hu108:=Try.underlying108;have b9:=zzm c1;have c0:=zzm c2;clear c1 c2;have c6:=zzm c3;have c7:=zzm c5;clear c3 c5;have HB:=zzm (Below.refl w.heap.size w);have H:((Ra.f a0 a1).bind fun a3=>(if a3 < 0 then (some (-1)) else ((Ra.f a2 a3).bind fun a7=>(if a7 < 0 then (some (-1)) else (some a7)))))=some r:=h;clear h;obtain ⟨a3,A3,H⟩:=zzG H;by_cases c4:a3 < 0
 ·
  rw [if_pos c4] at H;have d1:decide (a3 < 0)=true:=decide_eq_true c4;clear c4;obtain rfl:=Option.some.inj H;go_enter Try.func93,Try.ntmps93;go_wp2_with (first|((with_reducible refine gate_dst (N:=2) rfl ?_);refine box_event ?hg (N:=2) ?hd (cs:=#[.int .i64 b5,.int .i64 b6,.bool b7,.slice a5 a0.length a6,.bool b8,.slice a8 a2.length a9]) (t:=108) ?hr ?_;(case hd=>rfl);(case hg=>rfl);(case hr=>first|(go_simp;done)|(go_simp;rfl));intro a4 hg w5 hbox hb;have b1:=zzm (zzp zzh1 hb);have b2:=zzm (hbox);have b3:=zzm ((by rw [hg];exact (zzo zzh1):w.heap.size≤a4));have b4:=zzm ((by rw [hg];exact (zzo zzh1):w.heap.size≤a4));clear HB;have HB:=b1;have b0:=b2;have c9:=b3;have d0:=b4;clear b1 b2 b3 b4 hb hbox hg;obtain ⟨g7,g8,g9,h0,h1,h2,h3,h4,h5,h6,h7,h8⟩:=zzc6 b0.out)|((with_reducible refine gate_callee (f:=99) rfl ?_);refine goesL_ (some 8) rfl rfl Try.func99 (by kernel_rfl) rfl #[.slice a5 a0.length a6,.int .i64 a1] rfl zzM2 ?_;(with_reducible refine (Ra.calls _ _ a0 a1 a3 _ ?side1 ?side2 A3.out).mono ?_);(case side1=>exact zzcb b9 HB);(case side2=>exact c0.out);rintro e w' ⟨rfl,⟨nd,rfl⟩⟩;refine ⟨_,rfl,?_⟩));go_ret;exact ⟨zzR,zzh3⟩
 ·
  rw [if_neg c4] at H;have d1:decide (a3 < 0)=false:=decide_eq_false c4;clear c4;obtain ⟨a7,A7,H⟩:=zzG H;by_cases c8:a7 < 0
  ·
   rw [if_pos c8] at H;have d2:decide (a7 < 0)=true:=decide_eq_true c8;clear c8;obtain rfl:=Option.some.inj H;go_enter Try.func93,Try.ntmps93;go_wp2_with (first|((with_reducible refine gate_dst (N:=2) rfl ?_);refine box_event ?hg (N:=2) ?hd (cs:=#[.int .i64 b5,.int .i64 b6,.bool b7,.slice a5 a0.length a6,.bool b8,.slice a8 a2.length a9]) (t:=108) ?hr ?_;(case hd=>rfl);(case hg=>rfl);(case hr=>first|(go_simp;done)|(go_simp;rfl));intro a4 hg w9 hbox hb;have b1:=zzm (zzp zzh1 hb);have b2:=zzm (hbox);have b3:=zzm ((by rw [hg];exact (zzo zzh1):w.heap.size≤a4));have b4:=zzm ((by rw [hg];exact (zzo zzh1):w.heap.size≤a4));clear HB;have HB:=b1;have b0:=b2;have c9:=b3;have d0:=b4;clear b1 b2 b3 b4 hb hbox hg;obtain ⟨d3,d4,d5,d6,d7,d8,d9,e0,e1,e2,e3,e4⟩:=zzc6 b0.out)|((with_reducible refine gate_callee (f:=99) rfl ?_);refine goesL_ (some 8) rfl rfl Try.func99 (by kernel_rfl) rfl #[.slice a5 a0.length a6,.int .i64 a1] rfl zzM2 ?_;(with_reducible refine (Ra.calls _ _ a0 a1 a3 _ ?side1 ?side2 A3.out).mono ?_);(case side1=>exact zzcb b9 HB);(case side2=>exact c0.out);rintro e w' ⟨rfl,⟨nd,rfl⟩⟩;refine ⟨_,rfl,?_⟩)|((with_reducible refine gate_callee (f:=99) rfl ?_);refine goesL_ (some 14) rfl rfl Try.func99 (by kernel_rfl) rfl #[.slice a8 a2.length a9,.int .i64 a3] rfl zzM2 ?_;(with_reducible refine (Ra.calls _ _ a2 a3 a7 _ ?side1 ?side2 A7.out).mono ?_);(case side1=>repeat (first|exact (Kd.C_below c6.out zzh2)|(with_reducible refine Kd.C_alloc ?_ _)|(with_reducible refine Kd.C_drewN ?_ _)|(with_reducible refine Kd.C_drew ?_)));(case side2=>exact c7.out);rintro e w' ⟨rfl,⟨nd,rfl⟩⟩;refine ⟨_,rfl,?_⟩));go_ret;exact ⟨zzR,zzh3⟩
  ·
   rw [if_neg c8] at H;have d2:decide (a7 < 0)=false:=decide_eq_false c8;clear c8;obtain rfl:=Option.some.inj H;go_enter Try.func93,Try.ntmps93;go_wp2_with (first|((with_reducible refine gate_dst (N:=2) rfl ?_);refine box_event ?hg (N:=2) ?hd (cs:=#[.int .i64 b5,.int .i64 b6,.bool b7,.slice a5 a0.length a6,.bool b8,.slice a8 a2.length a9]) (t:=108) ?hr ?_;(case hd=>rfl);(case hg=>rfl);(case hr=>first|(go_simp;done)|(go_simp;rfl));intro a4 hg h9 hbox hb;have b1:=zzm (zzp zzh1 hb);have b2:=zzm (hbox);have b3:=zzm ((by rw [hg];exact (zzo zzh1):w.heap.size≤a4));have b4:=zzm ((by rw [hg];exact (zzo zzh1):w.heap.size≤a4));clear HB;have HB:=b1;have b0:=b2;have c9:=b3;have d0:=b4;clear b1 b2 b3 b4 hb hbox hg;obtain ⟨e5,e6,e7,e8,e9,g0,g1,g2,g3,g4,g5,g6⟩:=zzc6 b0.out)|((with_reducible refine gate_callee (f:=99) rfl ?_);refine goesL_ (some 8) rfl rfl Try.func99 (by kernel_rfl) rfl #[.slice a5 a0.length a6,.int .i64 a1] rfl zzM2 ?_;(with_reducible refine (Ra.calls _ _ a0 a1 a3 _ ?side1 ?side2 A3.out).mono ?_);(case side1=>exact zzcb b9 HB);(case side2=>exact c0.out);rintro e w' ⟨rfl,⟨nd,rfl⟩⟩;refine ⟨_,rfl,?_⟩)|((with_reducible refine gate_callee (f:=99) rfl ?_);refine goesL_ (some 14) rfl rfl Try.func99 (by kernel_rfl) rfl #[.slice a8 a2.length a9,.int .i64 a3] rfl zzM2 ?_;(with_reducible refine (Ra.calls _ _ a2 a3 a7 _ ?side1 ?side2 A7.out).mono ?_);(case side1=>repeat (first|exact (Kd.C_below c6.out zzh2)|(with_reducible refine Kd.C_alloc ?_ _)|(with_reducible refine Kd.C_drewN ?_ _)|(with_reducible refine Kd.C_drew ?_)));(case side2=>exact c7.out);rintro e w' ⟨rfl,⟨nd,rfl⟩⟩;refine ⟨_,rfl,?_⟩));go_ret;exact ⟨zzR,zzh3⟩

set_option linter.unusedVariables false
set_option linter.unusedSimpArgs false
def Qu.l0:Nat→List (S108)→Int→Int→Option (Int)
 | 0,_,_,_=>none
 | k+1,x0,x1,x5=>if x5 < (x0.length:Int) then (if 0≤x5 then ((Rm.f ((Qm x0 x5).f0) ((Qm x0 x5).f1) ((Qm x0 x5).f2) ((Qm x0 x5).f3) ((Qm x0 x5).f4) ((Qm x0 x5).f5) x1).bind fun t482=>(if t482 < 0 then (some (-1)) else (Qu.l0 k x0 t482 (wrap64 (x5+1))))) else (none)) else (some x1)
def Qu.f (k:Nat) (l0:List (S108)) (a1:Int):Option (Int):=if (wrap64 (a1 - (l0.length:Int))) < 0 then (some (-1)) else (Qu.l0 k l0 (wrap64 (a1 - (l0.length:Int))) 0)
set_option maxHeartbeats 8000000 in
theorem Qu.calls (k:Nat) (A0:Option Addr) (c0:Nat) (l0:List (S108)) (a1:Int) (r:Int) (w:World) (d3:Kd.C k108 w A0 l0.length l0) (d4:l0.length≤c0) (h:Qu.f k l0 a1=some r) :
  Calls Try.prog 80 #[.slice A0 l0.length c0,.int .i64 a1] w fun e w'=>e = .returned (.int .i64 r)∧Below w.heap.size w w':=by
 have hu108:=Try.underlying108;have d5:=zzm d3;have d9:=zzm d4;clear d3 d4;have HB:=zzm (Below.refl w.heap.size w);have H:(if (wrap64 (a1 - (l0.length:Int))) < 0 then (some (-1)) else (Qu.l0 k l0 (wrap64 (a1 - (l0.length:Int))) 0))=some r:=h;clear h;by_cases c3:(wrap64 (a1 - (l0.length:Int))) < 0
 ·
  rw [if_pos c3] at H;have d1:decide ((wrap64 (a1 - (l0.length:Int))) < 0)=true:=decide_eq_true c3;clear c3;obtain rfl:=Option.some.inj H;go_enter Try.func80,Try.ntmps80;go_wp2;go_ret;exact ⟨zzR,zzh1⟩
 ·
  rw [if_neg c3] at H;have d1:decide ((wrap64 (a1 - (l0.length:Int))) < 0)=false:=decide_eq_false c3;clear c3;have H':=zzm H;clear H;go_enter Try.func80,Try.ntmps80;go_wp2;go_loopg [1,5] k (fun kq v1 v5 w'=>∃ (b2:Int) (a0:Int),v1 = .int .i64 b2∧v5 = .int .i64 a0∧Aside0 (Qu.l0 kq l0 b2 a0=some r)∧Aside0 (kq≤k)∧Aside0 (Below w.heap.size w w'))
  case atStart=>exact ⟨(wrap64 (a1 - (l0.length:Int))),(0),(by first|rfl|(simp;done)|(simp [*];done)),(by first|rfl|(simp;done)|(simp [*];done)),H',⟨Nat.le_refl _⟩,⟨zzh1⟩⟩
  case round=>
   clear H';try clear p2
   try clear c3
   try clear d1
   obtain ⟨b2,a0,rfl,rfl,HA,HK1,HB⟩:=hrel;cases gk with
   | zero=>exact absurd HA.out (by simp [Qu.l0])
   | succ k1=>
    have H:=HA.out;clear HA;simp only [Qu.l0] at H;by_cases c4:a0 < (l0.length:Int)
    ·
     rw [if_pos c4] at H;have d6:decide (a0 < (l0.length:Int))=true:=decide_eq_true c4;clear c4;by_cases c5 : 0≤a0
     ·
      rw [if_pos c5] at H;have d8:decide (0≤a0)=true:=decide_eq_true c5;clear c5;obtain ⟨b5,A6,H⟩:=zzG H;by_cases c7:b5 < 0
      ·
       rw [if_pos c7] at H;have d7:decide (b5 < 0)=true:=decide_eq_true c7;clear c7;obtain rfl:=Option.some.inj H;have b3 : 0≤(a0:Int):=zzt;have b4:a0 < (l0.length:Int):=zzt;obtain ⟨d2,c1,c2,c6,c8,d0,a2,a3,a4,a5,a6,a7,a8,a9,b0,b1⟩:=at_T108 d5.out a0 b3 b4;cases d0;replace a2:=zzx HB.out a2;replace a3:=zzx HB.out a3;replace a4:=zzx HB.out a4;replace a5:=zzx HB.out a5;replace a6:=zzx HB.out a6;replace a7:=zzx HB.out a7;have b6:=zzm a9;have b7:=zzm a8;clear a9 a8;have b8:=zzm b1;have b9:=zzm b0;clear b1 b0;replace b3:=eq_true b3;replace b4:=eq_true b4;go_wp2_with (first|((with_reducible refine gate_callee (f:=93) rfl ?_);refine goesL_ (some 23) rfl rfl Try.func93 (by kernel_rfl) rfl #[.agg #[.int .i64 ((Qm l0 a0).f0),.int .i64 ((Qm l0 a0).f1),.bool ((Qm l0 a0).f2),.slice c1 ((Qm l0 a0).f3).length c2,.bool ((Qm l0 a0).f4),.slice c6 ((Qm l0 a0).f5).length c8],.int .i64 b2] rfl zzM2 ?_;(with_reducible refine (Rm.calls ((Qm l0 a0).f0) ((Qm l0 a0).f1) ((Qm l0 a0).f2) _ _ ((Qm l0 a0).f3) ((Qm l0 a0).f4) _ _ ((Qm l0 a0).f5) b2 b5 _ ?side1 ?side2 ?side3 ?side4 A6.out).mono ?_);(case side1=>exact zzcb b6 HB);(case side2=>exact b7.out);(case side3=>exact zzcb b8 HB);(case side4=>exact b9.out);rintro e w8 ⟨rfl,hb⟩;refine ⟨_,rfl,?_⟩;have c9:=zzm (zzp zzh1 hb);clear HB;have HB:=c9;clear c9;(try clear hb);(try clear hb2);(try clear hk);(try clear hi)));go_ret;exact ⟨zzR,zzh1⟩
      ·
       rw [if_neg c7] at H;have d7:decide (b5 < 0)=false:=decide_eq_false c7;clear c7;have H':=zzm H;clear H;have b3 : 0≤(a0:Int):=zzt;have b4:a0 < (l0.length:Int):=zzt;obtain ⟨d2,c1,c2,c6,c8,d0,a2,a3,a4,a5,a6,a7,a8,a9,b0,b1⟩:=at_T108 d5.out a0 b3 b4;cases d0;replace a2:=zzx HB.out a2;replace a3:=zzx HB.out a3;replace a4:=zzx HB.out a4;replace a5:=zzx HB.out a5;replace a6:=zzx HB.out a6;replace a7:=zzx HB.out a7;have b6:=zzm a9;have b7:=zzm a8;clear a9 a8;have b8:=zzm b1;have b9:=zzm b0;clear b1 b0;replace b3:=eq_true b3;replace b4:=eq_true b4;go_wp2_with (first|((with_reducible refine gate_callee (f:=93) rfl ?_);refine goesL_ (some 23) rfl rfl Try.func93 (by kernel_rfl) rfl #[.agg #[.int .i64 ((Qm l0 a0).f0),.int .i64 ((Qm l0 a0).f1),.bool ((Qm l0 a0).f2),.slice c1 ((Qm l0 a0).f3).length c2,.bool ((Qm l0 a0).f4),.slice c6 ((Qm l0 a0).f5).length c8],.int .i64 b2] rfl zzM2 ?_;(with_reducible refine (Rm.calls ((Qm l0 a0).f0) ((Qm l0 a0).f1) ((Qm l0 a0).f2) _ _ ((Qm l0 a0).f3) ((Qm l0 a0).f4) _ _ ((Qm l0 a0).f5) b2 b5 _ ?side1 ?side2 ?side3 ?side4 A6.out).mono ?_);(case side1=>exact zzcb b6 HB);(case side2=>exact b7.out);(case side3=>exact zzcb b8 HB);(case side4=>exact b9.out);rintro e w9 ⟨rfl,hb⟩;refine ⟨_,rfl,?_⟩;have c9:=zzm (zzp zzh1 hb);clear HB;have HB:=c9;clear c9;(try clear hb);(try clear hb2);(try clear hk);(try clear hi)));go_roundg k1
       case measure=>have:=HK1.out;omega
       case rel=>exact ⟨(b5),(wrap64 (a0+1)),(by first|rfl|(simp;done)|(simp [*];done)),(by first|rfl|(simp;done)|(simp [*];done)),H',⟨by have:=HK1.out;omega⟩,⟨zzh1⟩⟩
     ·
      rw [if_neg c5] at H;exact absurd H (by simp)
    ·
     rw [if_neg c4] at H;have d6:decide (a0 < (l0.length:Int))=false:=decide_eq_false c4;clear c4;obtain rfl:=Option.some.inj H;go_wp2;go_ret;exact ⟨zzR,zzh1⟩
def Ro.f (k:Nat) (a0_0:Bool) (a0_1:Bool) (a0_2:Int) (a0_3:Int) (a0_4:Int) (l0_5:List (S108)) (a1:Int):Option (Int):=(Qu.f k l0_5 a1).bind fun t484=>(if t484 < 0 then (some (-1)) else (some t484))
set_option maxHeartbeats 8000000 in
theorem Ro.calls (k:Nat) (a9:Bool) (b0:Bool) (b1:Int) (b2:Int) (b3:Int) (a4:Option Addr) (a5:Nat) (a0:List (S108)) (a1:Int) (r:Int) (w:World) (b6:Kd.C k108 w a4 a0.length a0) (b7:a0.length≤a5) (h:Ro.f k a9 b0 b1 b2 b3 a0 a1=some r) :
  Calls Try.prog 59 #[.agg #[.bool a9,.bool b0,.int .i64 b1,.int .i64 b2,.int .i64 b3,.slice a4 a0.length a5],.int .i64 a1] w fun e w'=>e = .returned (.int .i64 r)∧Below w.heap.size w w':=by
 have hu73:=Try.underlying73;have b8:=zzm b6;have b9:=zzm b7;clear b6 b7;have HB:=zzm (Below.refl w.heap.size w);have H:((Qu.f k a0 a1).bind fun a6=>(if a6 < 0 then (some (-1)) else (some a6)))=some r:=h;clear h;obtain ⟨a6,A3,H⟩:=zzG H;by_cases c4:a6 < 0
 ·
  rw [if_pos c4] at H;have c2:decide (a6 < 0)=true:=decide_eq_true c4;clear c4;obtain rfl:=Option.some.inj H;go_enter Try.func59,Try.ntmps59;go_wp2_with (first|((with_reducible refine gate_dst (N:=2) rfl ?_);refine box_event ?hg (N:=2) ?hd (cs:=#[.bool a9,.bool b0,.int .i64 b1,.int .i64 b2,.int .i64 b3,.slice a4 a0.length a5]) (t:=73) ?hr ?_;(case hd=>rfl);(case hg=>rfl);(case hr=>first|(go_simp;done)|(go_simp;rfl));intro a3 hg w5 hbox hb;have a7:=zzm (zzp zzh1 hb);have a8:=zzm (hbox);have b4:=zzm ((by rw [hg];exact (zzo zzh1):w.heap.size≤a3));have b5:=zzm ((by rw [hg];exact (zzo zzh1):w.heap.size≤a3));clear HB;have HB:=a7;have a2:=a8;have c0:=b4;have c1:=b5;clear a7 a8 b4 b5 hb hbox hg;obtain ⟨c3,c5,c6,c7,c8,c9,d0,d1,d2,d3,d4,d5⟩:=zzc6 a2.out)|((with_reducible refine gate_callee (f:=80) rfl ?_);refine goesL_ (some 8) rfl rfl Try.func80 (by kernel_rfl) rfl #[.slice a4 a0.length a5,.int .i64 a1] rfl zzM2 ?_;(with_reducible refine (Qu.calls k _ _ a0 a1 a6 _ ?side1 ?side2 A3.out).mono ?_);(case side1=>exact zzcb b8 HB);(case side2=>exact b9.out);rintro e w7 ⟨rfl,hb⟩;refine ⟨_,rfl,?_⟩;have a7:=zzm (zzh (g:=a3) (o:=.cells #[.bool a9,.bool b0,.int .i64 b1,.int .i64 b2,.int .i64 b3,.slice a4 a0.length a5] 73 (0,0)) (zzE a2.out) hb);have a8:=zzm (zzp zzh2 hb);clear a2 HB;have a2:=a7;have HB:=a8;clear a7 a8;(try clear hb);(try clear hb2);(try clear hk);(try clear hi)));go_ret;exact ⟨zzR,zzh3⟩
 ·
  rw [if_neg c4] at H;have c2:decide (a6 < 0)=false:=decide_eq_false c4;clear c4;obtain rfl:=Option.some.inj H;go_enter Try.func59,Try.ntmps59;go_wp2_with (first|((with_reducible refine gate_dst (N:=2) rfl ?_);refine box_event ?hg (N:=2) ?hd (cs:=#[.bool a9,.bool b0,.int .i64 b1,.int .i64 b2,.int .i64 b3,.slice a4 a0.length a5]) (t:=73) ?hr ?_;(case hd=>rfl);(case hg=>rfl);(case hr=>first|(go_simp;done)|(go_simp;rfl));intro a3 hg w8 hbox hb;have a7:=zzm (zzp zzh1 hb);have a8:=zzm (hbox);have b4:=zzm ((by rw [hg];exact (zzo zzh1):w.heap.size≤a3));have b5:=zzm ((by rw [hg];exact (zzo zzh1):w.heap.size≤a3));clear HB;have HB:=a7;have a2:=a8;have c0:=b4;have c1:=b5;clear a7 a8 b4 b5 hb hbox hg;obtain ⟨d6,d7,d8,d9,e0,e1,e2,e3,e4,e5,e6,e7⟩:=zzc6 a2.out)|((with_reducible refine gate_callee (f:=80) rfl ?_);refine goesL_ (some 8) rfl rfl Try.func80 (by kernel_rfl) rfl #[.slice a4 a0.length a5,.int .i64 a1] rfl zzM2 ?_;(with_reducible refine (Qu.calls k _ _ a0 a1 a6 _ ?side1 ?side2 A3.out).mono ?_);(case side1=>exact zzcb b8 HB);(case side2=>exact b9.out);rintro e e8 ⟨rfl,hb⟩;refine ⟨_,rfl,?_⟩;have a7:=zzm (zzh (g:=a3) (o:=.cells #[.bool a9,.bool b0,.int .i64 b1,.int .i64 b2,.int .i64 b3,.slice a4 a0.length a5] 73 (0,0)) (zzE a2.out) hb);have a8:=zzm (zzp zzh2 hb);clear a2 HB;have a2:=a7;have HB:=a8;clear a7 a8;(try clear hb);(try clear hb2);(try clear hk);(try clear hi)));go_ret;exact ⟨zzR,zzh3⟩

set_option linter.unusedVariables false
set_option linter.unusedSimpArgs false
def Qt.l0:Nat→List (S73)→Int→Int→Option (Int)
 | 0,_,_,_=>none
 | k+1,x0,x1,x5=>if x5 < (x0.length:Int) then (if 0≤x5 then ((Ro.f k ((Qr x0 x5).f0) ((Qr x0 x5).f1) ((Qr x0 x5).f2) ((Qr x0 x5).f3) ((Qr x0 x5).f4) ((Qr x0 x5).f5) x1).bind fun t486=>(if t486 < 0 then (some (-1)) else (Qt.l0 k x0 t486 (wrap64 (x5+1))))) else (none)) else (some x1)
def Qt.f (k:Nat) (l0:List (S73)) (a1:Int):Option (Int):=if (wrap64 (a1 - (l0.length:Int))) < 0 then (some (-1)) else (Qt.l0 k l0 (wrap64 (a1 - (l0.length:Int))) 0)
set_option maxHeartbeats 8000000 in
theorem Qt.calls (k:Nat) (A0:Option Addr) (c0:Nat) (l0:List (S73)) (a1:Int) (r:Int) (w:World) (c6:Kd.C k73 w A0 l0.length l0) (c8:l0.length≤c0) (h:Qt.f k l0 a1=some r) :
  Calls Try.prog 30 #[.slice A0 l0.length c0,.int .i64 a1] w fun e w'=>e = .returned (.int .i64 r)∧Below w.heap.size w w':=by
 have hu73:=Try.underlying73;have c9:=zzm c6;have d3:=zzm c8;clear c6 c8;have HB:=zzm (Below.refl w.heap.size w);have H:(if (wrap64 (a1 - (l0.length:Int))) < 0 then (some (-1)) else (Qt.l0 k l0 (wrap64 (a1 - (l0.length:Int))) 0))=some r:=h;clear h;by_cases c3:(wrap64 (a1 - (l0.length:Int))) < 0
 ·
  rw [if_pos c3] at H;have c1:decide ((wrap64 (a1 - (l0.length:Int))) < 0)=true:=decide_eq_true c3;clear c3;obtain rfl:=Option.some.inj H;go_enter Try.func30,Try.ntmps30;go_wp2;go_ret;exact ⟨zzR,zzh1⟩
 ·
  rw [if_neg c3] at H;have c1:decide ((wrap64 (a1 - (l0.length:Int))) < 0)=false:=decide_eq_false c3;clear c3;have H':=zzm H;clear H;go_enter Try.func30,Try.ntmps30;go_wp2;go_loopg [1,5] k (fun kq v1 v5 w'=>∃ (b0:Int) (a0:Int),v1 = .int .i64 b0∧v5 = .int .i64 a0∧Aside0 (Qt.l0 kq l0 b0 a0=some r)∧Aside0 (kq≤k)∧Aside0 (Below w.heap.size w w'))
  case atStart=>exact ⟨(wrap64 (a1 - (l0.length:Int))),(0),(by first|rfl|(simp;done)|(simp [*];done)),(by first|rfl|(simp;done)|(simp [*];done)),H',⟨Nat.le_refl _⟩,⟨zzh1⟩⟩
  case round=>
   clear H';try clear p2
   try clear c3
   try clear c1
   obtain ⟨b0,a0,rfl,rfl,HA,HK1,HB⟩:=hrel;cases gk with
   | zero=>exact absurd HA.out (by simp [Qt.l0])
   | succ k1=>
    have H:=HA.out;clear HA;simp only [Qt.l0] at H;by_cases c4:a0 < (l0.length:Int)
    ·
     rw [if_pos c4] at H;have d0:decide (a0 < (l0.length:Int))=true:=decide_eq_true c4;clear c4;by_cases c5 : 0≤a0
     ·
      rw [if_pos c5] at H;have d2:decide (0≤a0)=true:=decide_eq_true c5;clear c5;obtain ⟨b3,A6,H⟩:=zzG H;by_cases c7:b3 < 0
      ·
       rw [if_pos c7] at H;have d1:decide (b3 < 0)=true:=decide_eq_true c7;clear c7;obtain rfl:=Option.some.inj H;have b1 : 0≤(a0:Int):=zzt;have b2:a0 < (l0.length:Int):=zzt;obtain ⟨c2,b6,b7,b9,a2,a3,a4,a5,a6,a7,a8,a9⟩:=at_T73 c9.out a0 b1 b2;cases b9;replace a2:=zzx HB.out a2;replace a3:=zzx HB.out a3;replace a4:=zzx HB.out a4;replace a5:=zzx HB.out a5;replace a6:=zzx HB.out a6;replace a7:=zzx HB.out a7;have b4:=zzm a9;have b5:=zzm a8;clear a9 a8;replace b1:=eq_true b1;replace b2:=eq_true b2;go_wp2_with (first|((with_reducible refine gate_callee (f:=59) rfl ?_);refine goesL_ (some 23) rfl rfl Try.func59 (by kernel_rfl) rfl #[.agg #[.bool ((Qr l0 a0).f0),.bool ((Qr l0 a0).f1),.int .i64 ((Qr l0 a0).f2),.int .i64 ((Qr l0 a0).f3),.int .i64 ((Qr l0 a0).f4),.slice b6 ((Qr l0 a0).f5).length b7],.int .i64 b0] rfl zzM2 ?_;(with_reducible refine (Ro.calls k1 ((Qr l0 a0).f0) ((Qr l0 a0).f1) ((Qr l0 a0).f2) ((Qr l0 a0).f3) ((Qr l0 a0).f4) _ _ ((Qr l0 a0).f5) b0 b3 _ ?side1 ?side2 A6.out).mono ?_);(case side1=>exact zzcb b4 HB);(case side2=>exact b5.out);rintro e w8 ⟨rfl,hb⟩;refine ⟨_,rfl,?_⟩;have b8:=zzm (zzp zzh1 hb);clear HB;have HB:=b8;clear b8;(try clear hb);(try clear hb2);(try clear hk);(try clear hi)));go_ret;exact ⟨zzR,zzh1⟩
      ·
       rw [if_neg c7] at H;have d1:decide (b3 < 0)=false:=decide_eq_false c7;clear c7;have H':=zzm H;clear H;have b1 : 0≤(a0:Int):=zzt;have b2:a0 < (l0.length:Int):=zzt;obtain ⟨c2,b6,b7,b9,a2,a3,a4,a5,a6,a7,a8,a9⟩:=at_T73 c9.out a0 b1 b2;cases b9;replace a2:=zzx HB.out a2;replace a3:=zzx HB.out a3;replace a4:=zzx HB.out a4;replace a5:=zzx HB.out a5;replace a6:=zzx HB.out a6;replace a7:=zzx HB.out a7;have b4:=zzm a9;have b5:=zzm a8;clear a9 a8;replace b1:=eq_true b1;replace b2:=eq_true b2;go_wp2_with (first|((with_reducible refine gate_callee (f:=59) rfl ?_);refine goesL_ (some 23) rfl rfl Try.func59 (by kernel_rfl) rfl #[.agg #[.bool ((Qr l0 a0).f0),.bool ((Qr l0 a0).f1),.int .i64 ((Qr l0 a0).f2),.int .i64 ((Qr l0 a0).f3),.int .i64 ((Qr l0 a0).f4),.slice b6 ((Qr l0 a0).f5).length b7],.int .i64 b0] rfl zzM2 ?_;(with_reducible refine (Ro.calls k1 ((Qr l0 a0).f0) ((Qr l0 a0).f1) ((Qr l0 a0).f2) ((Qr l0 a0).f3) ((Qr l0 a0).f4) _ _ ((Qr l0 a0).f5) b0 b3 _ ?side1 ?side2 A6.out).mono ?_);(case side1=>exact zzcb b4 HB);(case side2=>exact b5.out);rintro e w9 ⟨rfl,hb⟩;refine ⟨_,rfl,?_⟩;have b8:=zzm (zzp zzh1 hb);clear HB;have HB:=b8;clear b8;(try clear hb);(try clear hb2);(try clear hk);(try clear hi)));go_roundg k1
       case measure=>have:=HK1.out;omega
       case rel=>exact ⟨(b3),(wrap64 (a0+1)),(by first|rfl|(simp;done)|(simp [*];done)),(by first|rfl|(simp;done)|(simp [*];done)),H',⟨by have:=HK1.out;omega⟩,⟨zzh1⟩⟩
     ·
      rw [if_neg c5] at H;exact absurd H (by simp)
    ·
     rw [if_neg c4] at H;have d0:decide (a0 < (l0.length:Int))=false:=decide_eq_false c4;clear c4;obtain rfl:=Option.some.inj H;go_wp2;go_ret;exact ⟨zzR,zzh1⟩

set_option linter.unusedVariables false
set_option linter.unusedSimpArgs false
def Qy.l0:Nat→List Int→List Int→Int→Option (List Int)
 | 0,_,_,_=>none
 | k+1,x0,x3,x4=>if x4 < (x0.length:Int) then (if 0≤x4 then (if x4 < (x3.length:Int) then (Qy.l0 k x0 (x3.set (x4:Int).toNat (rd x0 x4)) (wrap64 (x4+1))) else (none)) else (none)) else (some x3)
def Qy.f (k:Nat) (l0:List Int):Option (List Int):=if 0≤(l0.length:Int) then (if ((l0.length:Int):Int).toNat≤35184372088832 then (Qy.l0 k l0 (List.replicate ((l0.length:Int):Int).toNat 0) 0) else (none)) else (none)
set_option maxHeartbeats 8000000 in
theorem Qy.calls (k:Nat) (A0:Option Addr) (c0:Nat) (l0:List Int) (r:List Int) (w:World) (b0:Kd.C (Kd.int .i64) w A0 l0.length l0) (b1:l0.length≤c0) (h:Qy.f k l0=some r) :
  Calls Try.prog 100 #[.slice A0 l0.length c0] w fun e w'=>∃ b2:Value,e = .returned (b2)∧Kd.R (Kd.int .i64) 3 w' w.heap.size (fun _=>True) b2 r∧Below w.heap.size w w':=by
 have c5:=zzm b0;have d4:=zzm b1;clear b0 b1;have HB:=zzm (Below.refl w.heap.size w);have H:(if 0≤(l0.length:Int) then (if ((l0.length:Int):Int).toNat≤35184372088832 then (Qy.l0 k l0 (List.replicate ((l0.length:Int):Int).toNat 0) 0) else (none)) else (none))=some r:=h;clear h;by_cases c2 : 0≤(l0.length:Int)
 ·
  rw [if_pos c2] at H;have b4:=eq_true c2;have b5:decide (0≤(l0.length:Int))=true:=decide_eq_true c2;clear c2;by_cases c3:((l0.length:Int):Int).toNat≤35184372088832
  ·
   rw [if_pos c3] at H;have b6:=eq_true c3;have b7:decide (((l0.length:Int):Int).toNat≤35184372088832)=true:=decide_eq_true c3;clear c3;obtain ⟨y487,hy487⟩:∃ y_:List Int,y_=(List.replicate ((l0.length:Int):Int).toNat 0):=⟨_,rfl⟩;replace H:(Qy.l0 k l0 y487 0)=some r:=by first|(rw [hy487];with_reducible exact H)|(have H2_:=(Option.bind_some _ _).symm.trans H;rw [hy487];with_reducible exact H2_)|(have H2_:=(Option.bind_some _ _).symm.trans H;with_reducible exact H2_)|with_reducible exact H|(rw [hy487];exact H)|exact H
   have Ny487:=zzm hy487;clear hy487;have H':=zzm H;clear H;go_enter Try.func100,Try.ntmps100;go_wp2_with (first|((with_reducible refine gate_dst (N:=7) rfl ?_);refine Kd.R_make (Kd.int .i64) _ 3 rfl (N:=7) rfl 28 _ _ rfl (l0.length:Int) rfl rfl Try.underlying28 (.int .i64 0) 8 info3 rfl (by decide) (by omega) 0 (ok:=fun _=>True) (okp:=fun _=>True) rfl (fun _ hk=>hk) trivial (zzt) (Nat.le_trans (Nat.mul_le_mul_right _ (zzt:(l0.length:Int).toNat≤35184372088832)) (by omega)) (Below.refl _ _) (Nat.le_refl _) ?_;intro b8 w4 ho5 hb hg_ hnew_;clear hg_ hnew_;(first|rw [← Ny487.out] at ho5|(simp only [Int.reduceToNat] at ho5;rw [← Ny487.out] at ho5));have a4:=zzm (Kd.R_lower ho5 (zzo zzh1));have a5:=zzm (zzp zzh1 hb);clear HB;have a9:=a4;have HB:=a5;clear a4 a5 hb ho5));go_loopg [4] k (fun kq v4 w'=>∃ (a1:List Int) (a0:Int),v4 = .int .i64 a0∧Aside0 (Qy.l0 kq l0 a1 a0=some r)∧Aside0 (kq≤k)∧Aside0 (Kd.R (Kd.int .i64) 3 w' w.heap.size (fun _=>True) b8 a1)∧Aside0 (Below w.heap.size w w'))
   case atStart=>exact ⟨(y487),(0),(by first|rfl|(simp;done)|(simp [*];done)),H',⟨Nat.le_refl _⟩,⟨by (with_reducible repeat (first|apply Kd.R_alloc|apply Kd.R_drewN|apply Kd.R_drew));exact a9.out⟩,⟨zzh1⟩⟩
   case round=>
    clear H';try clear c1
    try clear c2
    try clear b4
    try clear b5
    try clear p2
    try clear c3
    try clear b6
    try clear b7
    obtain ⟨a1,a0,rfl,HA,HK1,a2,HB⟩:=hrel;cases gk with
    | zero=>exact absurd HA.out (by simp [Qy.l0])
    | succ k1=>
     have H:=HA.out;clear HA;simp only [Qy.l0] at H;by_cases c6:a0 < (l0.length:Int)
     ·
      rw [if_pos c6] at H;have b9:decide (a0 < (l0.length:Int))=true:=decide_eq_true c6;clear c6;by_cases c7 : 0≤a0
      ·
       rw [if_pos c7] at H;have d2:decide (0≤a0)=true:=decide_eq_true c7;clear c7;by_cases c8:a0 < (a1.length:Int)
       ·
        rw [if_pos c8] at H;have d3:decide (a0 < (a1.length:Int))=true:=decide_eq_true c8;clear c8;obtain ⟨y491,hy491⟩:∃ y_:List Int,y_=(a1.set (a0:Int).toNat (rd l0 a0)):=⟨_,rfl⟩;replace H:(Qy.l0 k1 l0 y491 (wrap64 (a0+1)))=some r:=by first|(rw [hy491];with_reducible exact H)|(have H2_:=(Option.bind_some _ _).symm.trans H;rw [hy491];with_reducible exact H2_)|(have H2_:=(Option.bind_some _ _).symm.trans H;with_reducible exact H2_)|with_reducible exact H|(rw [hy491];exact H)|exact H
        have Ny491:=zzm hy491;clear hy491;have H':=zzm H;clear H;have a6 : 0≤(a0:Int):=zzt;have a7:a0 < (l0.length:Int):=zzt;obtain ⟨d0,c4,a3⟩:=Kd.at_int c5.out a0 a6 a7;cases c4;replace a3:=zzx HB.out a3;replace a6:=eq_true a6;replace a7:=eq_true a7;have p9 : 0≤(a0:Int):=zzt;have q9:(a0:Int) < ((a1.length:Int):Int):=zzt;obtain ⟨go9,c9,eo9,b3,gl9,cl9,HG9⟩:=Kd.R_form a2.out (by omega)
        (first|cases eo9|(injection eo9 with ea_ en_ ec_;(first|subst ea_|(injection ea_ with ea_;subst ea_));subst ec_;clear en_));have GB9:=zzm b3;have GG9:=zzm HG9;clear b3 gl9 HG9;obtain ⟨d1,hf9_0⟩:=Kd.R_celln 0 a2.out (a0:Int) p9 q9;replace p9:=eq_true p9;replace q9:=eq_true q9;have HP10:=Kd.R_putg a2.out (a0:Int) (rd l0 a0);go_wp2_with (first|((with_reducible refine gate_store (t:=3) (p:=20) rfl ?_);refine store_event (t:=3) (p:=20) (v:=?vo_w11) (w1:=(wr.setCell ⟨go9,(a0:Int).toNat,none⟩ (.int .i64 (rd l0 a0)))) ?hg ?ho ?hn ?hr ?_;(case ho=>rfl);(case hg=>rfl);(case hn=>rfl);(case hr=>first|(go_simp;done)|(go_simp;rfl));intro a8 hw;have hg:wr.grownBy a8 (some go9):=(by rw [hw];exact HP10.2);have hp_:Kd.R (Kd.int .i64) 3 a8 w.heap.size (fun _=>True) (.slice (some ⟨go9,0,none⟩) a1.length c9) y491:=(by rw [hw,Ny491.out];exact HP10.1);clear HP10;have a4:=zzm (hp_);have a5:=zzm ((by rw [hw];exact zzd (HB.out) GB9.out:Below w.heap.size w a8));clear a2 HB;have a2:=a4;have HB:=a5;clear a4 a5 hg hw hp_));go_roundg k1
        case measure=>have:=HK1.out;omega
        case rel=>exact ⟨(y491),(wrap64 (a0+1)),(by first|rfl|(simp;done)|(simp [*];done)),H',⟨by have:=HK1.out;omega⟩,⟨by (with_reducible repeat (first|apply Kd.R_alloc|apply Kd.R_drewN|apply Kd.R_drew));exact a2.out⟩,⟨zzh1⟩⟩
       ·
        rw [if_neg c8] at H;exact absurd H (by simp)
      ·
       rw [if_neg c7] at H;exact absurd H (by simp)
     ·
      rw [if_neg c6] at H;have b9:decide (a0 < (l0.length:Int))=false:=decide_eq_false c6;clear c6;obtain rfl:=Option.some.inj H;go_wp2;go_ret;exact ⟨_,zzR,by (with_reducible repeat (first|apply Kd.R_alloc|apply Kd.R_drewN|apply Kd.R_drew));exact a2.out,zzh1⟩
  ·
   rw [if_neg c3] at H;exact absurd H (by simp)
 ·
  rw [if_neg c2] at H;exact absurd H (by simp)
def Rs.f (k:Nat) (a0_0:Int) (a0_1:Int) (a0_2:Bool) (l0_3:List Int) (a0_4:Bool) (l0_5:List Int):Option (Int×Int×Bool×List Int×Bool×List Int):=(Qy.f k l0_3).bind fun t495=>((Qy.f k l0_5).bind fun t498=>(some (a0_0,a0_1,a0_2,t495,a0_4,t498)))
set_option maxHeartbeats 8000000 in
theorem Rs.calls (k:Nat) (a1:Int) (a2:Int) (a4:Bool) (b4:Option Addr) (b5:Nat) (a9:List Int) (a5:Bool) (b6:Option Addr) (b7:Nat) (b0:List Int) (r1:Int) (r2:Int) (r3:Bool) (r4:List Int) (r5:Bool) (r6:List Int) (w:World) (d6:Kd.C (Kd.int .i64) w b4 a9.length a9) (d7:a9.length≤b5) (d8:Kd.C (Kd.int .i64) w b6 b0.length b0) (d9:b0.length≤b7) (h:Rs.f k a1 a2 a4 a9 a5 b0=some (r1,r2,r3,r4,r5,r6)) :
  Calls Try.prog 94 #[.agg #[.int .i64 a1,.int .i64 a2,.bool a4,.slice b4 a9.length b5,.bool a5,.slice b6 b0.length b7]] w fun e w'=>∃ e1 e2:Value,e = .returned (.agg #[.int .i64 r1,.int .i64 r2,.bool r3,e1,.bool r5,e2])∧Kd.R (Kd.int .i64) 3 w' w.heap.size (fun k_=>some k_≠(e2:Value).ownBlock) e1 r4∧Kd.R (Kd.int .i64) 3 w' w.heap.size (fun k_=>some k_≠(e1:Value).ownBlock) e2 r6∧Below w.heap.size w w':=by
 have hu108:=Try.underlying108;have hu30:=Try.underlying30;have e3:=zzm d6;have e4:=zzm d7;clear d6 d7;have e5:=zzm d8;have e6:=zzm d9;clear d8 d9;have HB:=zzm (Below.refl w.heap.size w);have H:((Qy.f k a9).bind fun b8=>((Qy.f k b0).bind fun c5=>(some (a1,a2,a4,b8,a5,c5))))=some (r1,r2,r3,r4,r5,r6):=h;clear h;obtain ⟨b8,A2,H⟩:=zzG H;obtain ⟨c5,A3,H⟩:=zzG H;simp only [Option.some.injEq,Prod.mk.injEq] at H;obtain ⟨rfl,rfl,rfl,rfl,rfl,rfl⟩:=H;go_enter Try.func94,Try.ntmps94;go_wp2_with (first|((with_reducible refine gate_dst (N:=1) rfl ?_);refine box_event ?hg (N:=1) ?hd (cs:=#[.int .i64 a1,.int .i64 a2,.bool a4,.slice b4 a9.length b5,.bool a5,.slice b6 b0.length b7]) (t:=108) ?hr ?_;(case hd=>rfl);(case hg=>rfl);(case hr=>first|(go_simp;done)|(go_simp;rfl));intro a7 hg w4 hbox hb;have b9:=zzm (zzp zzh1 hb);have c0:=zzm (hbox);have c1:=zzm ((by rw [hg];exact (zzo zzh1):w.heap.size≤a7));have c2:=zzm ((by rw [hg];exact (zzo zzh1):w.heap.size≤a7));clear HB;have HB:=b9;have a3:=c0;have o6:=c1;have o7:=c2;clear b9 c0 c1 c2 hb hbox hg)|((with_reducible refine gate_dst (N:=2) rfl ?_);refine box_event ?hg (N:=2) ?hd (cs:=#[.int .i64 0,.int .i64 0,.bool false,.slice none 0 0,.bool false,.slice none 0 0]) (t:=30) ?hr ?_;(case hd=>rfl);(case hg=>rfl);(case hr=>first|(go_simp;done)|(go_simp;rfl));intro a0 hg w5 hbox hb;have b9:=zzm (zzh (g:=a7) (o:=.cells #[.int .i64 a1,.int .i64 a2,.bool a4,.slice b4 a9.length b5,.bool a5,.slice b6 b0.length b7] 108 (0,0)) (zzE a3.out) hb);have c0:=zzm (zzp zzh2 hb);have c1:=zzm (hbox);have c2:=zzm ((by rw [hg];exact (zzo zzh2):w.heap.size≤a0));have c6:=zzm ((by rw [hg];exact (zzo zzh2):w.heap.size≤a0));have c8:=zzm ((by rw [hg];exact Nat.ne_of_lt (blk_lt (g:=a7) (o:=.cells #[.int .i64 a1,.int .i64 a2,.bool a4,.slice b4 a9.length b5,.bool a5,.slice b6 b0.length b7] 108 (0,0)) (zzE a3.out)):a7≠a0));have d1:=zzm ((by rw [hg];exact Nat.ne_of_gt (blk_lt (g:=a7) (o:=.cells #[.int .i64 a1,.int .i64 a2,.bool a4,.slice b4 a9.length b5,.bool a5,.slice b6 b0.length b7] 108 (0,0)) (zzE a3.out)):a0≠a7));clear a3 HB;have a3:=b9;have HB:=c0;have a6:=c1;have o8:=c2;have o9:=c6;have d2:=c8;have d3:=d1;clear b9 c0 c1 c2 c6 c8 d1 hb hbox hg)|((with_reducible refine gate_dst (N:=3) rfl ?_);refine box_event ?hg (N:=3) ?hd (cs:=#[.int .i64 0,.int .i64 0,.bool false,.slice none 0 0,.bool false,.slice none 0 0]) (t:=30) ?hr ?_;(case hd=>rfl);(case hg=>rfl);(case hr=>first|(go_simp;done)|(go_simp;rfl));intro a8 hg w6 hbox hb;have b9:=zzm (zzh (g:=a7) (o:=.cells #[.int .i64 a1,.int .i64 a2,.bool a4,.slice b4 a9.length b5,.bool a5,.slice b6 b0.length b7] 108 (0,0)) (zzE a3.out) hb);have c0:=zzm (zzh (g:=a0) (o:=.cells #[.int .i64 0,.int .i64 0,.bool false,.slice none 0 0,.bool false,.slice none 0 0] 30 (0,0)) (zzE a6.out) hb);have c1:=zzm (zzp zzh2 hb);have c2:=zzm (hbox);have c6:=zzm ((by rw [hg];exact (zzo zzh2):w.heap.size≤a8));have c8:=zzm ((by rw [hg];exact (zzo zzh2):w.heap.size≤a8));have d1:=zzm ((by rw [hg];exact Nat.ne_of_lt (blk_lt (g:=a7) (o:=.cells #[.int .i64 a1,.int .i64 a2,.bool a4,.slice b4 a9.length b5,.bool a5,.slice b6 b0.length b7] 108 (0,0)) (zzE a3.out)):a7≠a8));have e7:=zzm ((by rw [hg];exact Nat.ne_of_gt (blk_lt (g:=a7) (o:=.cells #[.int .i64 a1,.int .i64 a2,.bool a4,.slice b4 a9.length b5,.bool a5,.slice b6 b0.length b7] 108 (0,0)) (zzE a3.out)):a8≠a7));have e8:=zzm ((by rw [hg];exact Nat.ne_of_lt (blk_lt (g:=a0) (o:=.cells #[.int .i64 0,.int .i64 0,.bool false,.slice none 0 0,.bool false,.slice none 0 0] 30 (0,0)) (zzE a6.out)):a0≠a8));have e9:=zzm ((by rw [hg];exact Nat.ne_of_gt (blk_lt (g:=a0) (o:=.cells #[.int .i64 0,.int .i64 0,.bool false,.slice none 0 0,.bool false,.slice none 0 0] 30 (0,0)) (zzE a6.out)):a8≠a0));clear a3 a6 HB;have a3:=b9;have a6:=c0;have HB:=c1;have b2:=c2;have p0:=c6;have p1:=c8;have b3:=d1;have d4:=e7;have b1:=e8;have d5:=e9;clear b9 c0 c1 c2 c6 c8 d1 e7 e8 e9 hb hbox hg;have p4:=d2.out;have p5:=d3.out;have p6:=b3.out;have p7:=d4.out;obtain ⟨n4,n5,n6,n7,n8,n9,o0,o1,o2,o3,o4,o5⟩:=zzc6 a3.out;have p2:=d5.out;have p3:=b1.out;obtain ⟨g0,g1,g2,g3,g4,g5,g6,g7,g8,g9,h0,h1⟩:=zzc6 b2.out)|((with_reducible refine gate_callee (f:=100) rfl ?_);refine goesL_ (some 15) rfl rfl Try.func100 (by kernel_rfl) rfl #[.slice b4 a9.length b5] rfl zzM2 ?_;(with_reducible refine (Qy.calls k _ _ a9 b8 _ ?side1 ?side2 A2.out).mono ?_);(case side1=>exact Kd.C_below e3.out zzh2);(case side2=>exact e4.out);rintro e q0 ⟨p8,rfl,ho0,hb⟩;refine ⟨_,rfl,?_⟩;have b9:=zzm (Kd.R_lower ho0 (zzo zzh2));have c0:=zzm (zzh (g:=a7) (o:=.cells #[.int .i64 a1,.int .i64 a2,.bool a4,.slice b4 a9.length b5,.bool a5,.slice b6 b0.length b7] 108 (0,0)) (by (with_reducible repeat (first|apply zzf|apply zzg|apply zze));refine zzj ?_ b3.out _;(with_reducible repeat (first|apply zzf|apply zzg|apply zze));refine zzj ?_ b3.out _;(with_reducible repeat (first|apply zzf|apply zzg|apply zze));refine zzj ?_ b3.out _;(with_reducible repeat (first|apply zzf|apply zzg|apply zze));exact a3.out) hb);have c1:=zzm (zzh (g:=a0) (o:=.cells #[.int .i64 0,.int .i64 0,.bool false,.slice none 0 0,.bool false,.slice none 0 0] 30 (0,0)) (by (with_reducible repeat (first|apply zzf|apply zzg|apply zze));refine zzj ?_ b1.out _;(with_reducible repeat (first|apply zzf|apply zzg|apply zze));refine zzj ?_ b1.out _;(with_reducible repeat (first|apply zzf|apply zzg|apply zze));refine zzj ?_ b1.out _;(with_reducible repeat (first|apply zzf|apply zzg|apply zze));exact a6.out) hb);have c2:=zzm (zzh (g:=a8) (o:=.cells #[.int .i64 a1,.int .i64 a2,.bool a4,.slice none 0 0,.bool false,.slice none 0 0] 30 (0,0)) (by (with_reducible repeat (first|apply zzf|apply zzg|apply zze));refine zzi (cs:=#[.int .i64 a1,.int .i64 a2,.bool false,.slice none 0 0,.bool false,.slice none 0 0]) ?_ 2 _ rfl;refine zzi (cs:=#[.int .i64 a1,.int .i64 0,.bool false,.slice none 0 0,.bool false,.slice none 0 0]) ?_ 1 _ rfl;refine zzi (cs:=#[.int .i64 0,.int .i64 0,.bool false,.slice none 0 0,.bool false,.slice none 0 0]) ?_ 0 _ rfl;(with_reducible repeat (first|apply zzf|apply zzg|apply zze));exact b2.out) hb);have c6:=zzm (zzp zzh2 hb);clear a3 a6 b2 HB;have c7:=b9;have a3:=c0;have a6:=c1;have b2:=c2;have HB:=c6;clear b9 c0 c1 c2 c6;(try clear hb);(try clear hb2);(try clear hk);(try clear hi);(try clear ho0);obtain ⟨c3,c4,eo13⟩:=Kd.R_slice c7.out;subst eo13;obtain ⟨h2,h3,h4,h5,h6,h7,h8,h9,j2,j3,j4,j5⟩:=zzc6 b2.out;obtain ⟨j6,j7,j8,j9,k0,k1,k2,k3,k4,k5,k6,k7⟩:=zzc6 a3.out)|((with_reducible refine gate_callee (f:=100) rfl ?_);refine goesL_ (some 22) rfl rfl Try.func100 (by kernel_rfl) rfl #[.slice b6 b0.length b7] rfl zzM2 ?_;(with_reducible refine (Qy.calls k _ _ b0 c5 _ ?side1 ?side2 A3.out).mono ?_);(case side1=>exact Kd.C_below e5.out zzh2);(case side2=>exact e6.out);rintro e q1 ⟨p9,rfl,ho0,hb⟩;refine ⟨_,rfl,?_⟩;have b9:=zzm (Kd.R_elder' (by (with_reducible repeat (first|apply Kd.R_alloc|apply Kd.R_drewN|apply Kd.R_drew));exact (Kd.R_mono (Kd.R_far (p:=⟨a8,4,none⟩) (Kd.R_far (p:=⟨a8,3,none⟩) (Kd.R_types c7.out b2.out (by decide)) (fun _ hk=>hk.2) (.slice c3 b8.length c4)) (fun _ hk=>hk.2) (.bool a5)) (fun _ h_=>h_.1))) (Kd.R_base ho0) hb);have c0:=zzm (Kd.R_lower (Kd.R_new' ho0 (Kd.R_lt (by (with_reducible repeat (first|apply Kd.R_alloc|apply Kd.R_drewN|apply Kd.R_drew));exact (Kd.R_mono (Kd.R_far (p:=⟨a8,4,none⟩) (Kd.R_far (p:=⟨a8,3,none⟩) (Kd.R_types c7.out b2.out (by decide)) (fun _ hk=>hk.2) (.slice c3 b8.length c4)) (fun _ hk=>hk.2) (.bool a5)) (fun _ h_=>h_.1))))) (zzo zzh2));have c1:=zzm (zzh (g:=a7) (o:=.cells #[.int .i64 a1,.int .i64 a2,.bool a4,.slice b4 a9.length b5,.bool a5,.slice b6 b0.length b7] 108 (0,0)) (by (with_reducible repeat (first|apply zzf|apply zzg|apply zze));refine zzj ?_ b3.out _;(with_reducible repeat (first|apply zzf|apply zzg|apply zze));refine zzj ?_ b3.out _;(with_reducible repeat (first|apply zzf|apply zzg|apply zze));exact a3.out) hb);have c2:=zzm (zzh (g:=a0) (o:=.cells #[.int .i64 0,.int .i64 0,.bool false,.slice none 0 0,.bool false,.slice none 0 0] 30 (0,0)) (by (with_reducible repeat (first|apply zzf|apply zzg|apply zze));refine zzj ?_ b1.out _;(with_reducible repeat (first|apply zzf|apply zzg|apply zze));refine zzj ?_ b1.out _;(with_reducible repeat (first|apply zzf|apply zzg|apply zze));exact a6.out) hb);have c6:=zzm (zzh (g:=a8) (o:=.cells #[.int .i64 a1,.int .i64 a2,.bool a4,.slice c3 b8.length c4,.bool a5,.slice none 0 0] 30 (0,0)) (by (with_reducible repeat (first|apply zzf|apply zzg|apply zze));refine zzi (cs:=#[.int .i64 a1,.int .i64 a2,.bool a4,.slice c3 b8.length c4,.bool false,.slice none 0 0]) ?_ 4 _ rfl;refine zzi (cs:=#[.int .i64 a1,.int .i64 a2,.bool a4,.slice none 0 0,.bool false,.slice none 0 0]) ?_ 3 _ rfl;(with_reducible repeat (first|apply zzf|apply zzg|apply zze));exact b2.out) hb);have c8:=zzm (zzp zzh2 hb);clear c7 a3 a6 b2 HB;have c7:=b9;have e0:=c0;have a3:=c1;have a6:=c2;have b2:=c6;have HB:=c8;clear b9 c0 c1 c2 c6 c8;(try clear hb);(try clear hb2);(try clear hk);(try clear hi);(try clear ho0);obtain ⟨c9,d0,eo17⟩:=Kd.R_slice e0.out;subst eo17;obtain ⟨k8,k9,l2,l3,l4,l5,l6,l7,l8,l9,m0,m1⟩:=zzc6 b2.out;obtain ⟨m2,m3,m4,m5,m6,m7,m8,m9,n0,n1,n2,n3⟩:=zzc6 a6.out));refine bodyPost_ret (results_cell_row rfl _ _ a0 30 #[.int .i64 a1,.int .i64 a2,.bool a4,.slice c3 b8.length c4,.bool a5,.slice c9 c5.length d0] (0,0) _ rfl (by (with_reducible repeat (first|apply zzf|apply zzg|apply zze));refine zzi (cs:=#[.int .i64 a1,.int .i64 a2,.bool a4,.slice c3 b8.length c4,.bool a5,.slice none 0 0]) ?_ 5 _ rfl;refine zzi (cs:=#[.int .i64 a1,.int .i64 a2,.bool a4,.slice c3 b8.length c4,.bool false,.slice none 0 0]) ?_ 4 _ rfl;refine zzi (cs:=#[.int .i64 a1,.int .i64 a2,.bool a4,.slice none 0 0,.bool false,.slice none 0 0]) ?_ 3 _ rfl;refine zzi (cs:=#[.int .i64 a1,.int .i64 a2,.bool false,.slice none 0 0,.bool false,.slice none 0 0]) ?_ 2 _ rfl;refine zzi (cs:=#[.int .i64 a1,.int .i64 0,.bool false,.slice none 0 0,.bool false,.slice none 0 0]) ?_ 1 _ rfl;refine zzi (cs:=#[.int .i64 0,.int .i64 0,.bool false,.slice none 0 0,.bool false,.slice none 0 0]) ?_ 0 _ rfl;(with_reducible repeat (first|apply zzf|apply zzg|apply zze));refine zzj ?_ b1.out _;(with_reducible repeat (first|apply zzf|apply zzg|apply zze));exact a6.out) Try.underlying30 rfl (by kernel_rfl)) rfl ?_;exact ⟨_,_,zzR,by (with_reducible repeat (first|apply Kd.R_alloc|apply Kd.R_drewN|apply Kd.R_drew));exact Kd.R_mono (Kd.R_far (p:=⟨a0,5,none⟩) (Kd.R_far (p:=⟨a0,4,none⟩) (Kd.R_far (p:=⟨a0,3,none⟩) (Kd.R_far (p:=⟨a0,2,none⟩) (Kd.R_far (p:=⟨a0,1,none⟩) (Kd.R_far (p:=⟨a0,0,none⟩) (Kd.R_far (p:=⟨a8,5,none⟩) (Kd.R_types (Kd.R_types c7.out b2.out (by decide)) a6.out (by decide)) (fun _ hk=>hk.1.2) (.slice c9 c5.length d0)) (fun _ hk=>hk.2) (.int .i64 a1)) (fun _ hk=>hk.2) (.int .i64 a2)) (fun _ hk=>hk.2) (.bool a4)) (fun _ hk=>hk.2) (.slice c3 b8.length c4)) (fun _ hk=>hk.2) (.bool a5)) (fun _ hk=>hk.2) (.slice c9 c5.length d0)) (fun _ hk=>hk.1.1.2),by (with_reducible repeat (first|apply Kd.R_alloc|apply Kd.R_drewN|apply Kd.R_drew));exact Kd.R_mono (Kd.R_far (p:=⟨a0,5,none⟩) (Kd.R_far (p:=⟨a0,4,none⟩) (Kd.R_far (p:=⟨a0,3,none⟩) (Kd.R_far (p:=⟨a0,2,none⟩) (Kd.R_far (p:=⟨a0,1,none⟩) (Kd.R_far (p:=⟨a0,0,none⟩) (Kd.R_far (p:=⟨a8,5,none⟩) (Kd.R_types (Kd.R_types e0.out b2.out (by decide)) a6.out (by decide)) (fun _ hk=>hk.1.2) (.slice c9 c5.length d0)) (fun _ hk=>hk.2) (.int .i64 a1)) (fun _ hk=>hk.2) (.int .i64 a2)) (fun _ hk=>hk.2) (.bool a4)) (fun _ hk=>hk.2) (.slice c3 b8.length c4)) (fun _ hk=>hk.2) (.bool a5)) (fun _ hk=>hk.2) (.slice c9 c5.length d0)) (fun _ hk=>hk.1.1.2),zzh3⟩

set_option linter.unusedVariables false
set_option linter.unusedSimpArgs false
def Qq.l0:Nat→List (S108)→List (S30)→Int→Option ((List (S30)))
 | 0,_,_,_=>none
 | k+1,x0,x3,x4=>if x4 < (x0.length:Int) then (if 0≤x4 then ((Rs.f k ((Qm x0 x4).f0) ((Qm x0 x4).f1) ((Qm x0 x4).f2) ((Qm x0 x4).f3) ((Qm x0 x4).f4) ((Qm x0 x4).f5)).bind fun bt505=>(if x4 < (x3.length:Int) then (Qq.l0 k x0 (x3.set (x4:Int).toNat (⟨bt505.1,bt505.2.1,bt505.2.2.1,bt505.2.2.2.1,bt505.2.2.2.2.1,bt505.2.2.2.2.2⟩:S30)) (wrap64 (x4+1))) else (none))) else (none)) else (some x3)
def Qq.f (k:Nat) (l0:List (S108)):Option ((List (S30))):=if 0≤(l0.length:Int) then (if ((l0.length:Int):Int).toNat≤3518437208883 then (Qq.l0 k l0 (List.replicate ((l0.length:Int):Int).toNat z30) 0) else (none)) else (none)
set_option maxHeartbeats 8000000 in
theorem Qq.calls (k:Nat) (A0:Option Addr) (c0:Nat) (l0:List (S108)) (r:List (S30)) (w:World) (g6:Kd.C k108 w A0 l0.length l0) (g7:l0.length≤c0) (h:Qq.f k l0=some r) :
  Calls Try.prog 81 #[.slice A0 l0.length c0] w fun e w'=>∃ g8:Value,e = .returned (g8)∧Kd.S k30 30 w' w.heap.size (fun _=>True) g8 r∧Below w.heap.size w w':=by
 have hu108:=Try.underlying108;have hu30:=Try.underlying30;have h9:=zzm g6;have k8:=zzm g7;clear g6 g7;have HB:=zzm (Below.refl w.heap.size w);have H:(if 0≤(l0.length:Int) then (if ((l0.length:Int):Int).toNat≤3518437208883 then (Qq.l0 k l0 (List.replicate ((l0.length:Int):Int).toNat z30) 0) else (none)) else (none))=some r:=h;clear h;by_cases c2 : 0≤(l0.length:Int)
 ·
  rw [if_pos c2] at H;have h2:=eq_true c2;have h3:decide (0≤(l0.length:Int))=true:=decide_eq_true c2;clear c2;by_cases c3:((l0.length:Int):Int).toNat≤3518437208883
  ·
   rw [if_pos c3] at H;have h4:=eq_true c3;have h5:decide (((l0.length:Int):Int).toNat≤3518437208883)=true:=decide_eq_true c3;clear c3;obtain ⟨y501,hy501⟩:∃ y_:List (S30),y_=(List.replicate ((l0.length:Int):Int).toNat z30):=⟨_,rfl⟩;replace H:(Qq.l0 k l0 y501 0)=some r:=by first|(rw [hy501];with_reducible exact H)|(have H2_:=(Option.bind_some _ _).symm.trans H;rw [hy501];with_reducible exact H2_)|(have H2_:=(Option.bind_some _ _).symm.trans H;with_reducible exact H2_)|with_reducible exact H|(rw [hy501];exact H)|exact H
   have Ny501:=zzm hy501;clear hy501;have H':=zzm H;clear H;go_enter Try.func81,Try.ntmps81;go_wp2_with (first|((with_reducible refine gate_dst (N:=7) rfl ?_);refine Kd.S_make k30 _ 30 rfl (N:=7) rfl 25 _ _ rfl (l0.length:Int) rfl rfl Try.underlying25 (.agg #[(.int .i64 0),(.int .i64 0),(.bool false),(.slice none 0 0),(.bool false),(.slice none 0 0)]) 80 info30 rfl (by decide) (by omega) z30 (ok:=fun _=>True) (okp:=fun _=>True) (k30_mkM _ _ _ z30 (Kd.R_nil _ _ _ _ _) (Kd.R_nil _ _ _ _ _)) (fun _ hk=>hk) trivial (zzt) (Nat.le_trans (Nat.mul_le_mul_right _ (zzt:(l0.length:Int).toNat≤3518437208883)) (by omega)) (Below.refl _ _) (Nat.le_refl _) ?_;intro h6 w4 ho5 hb hg_ hnew_;clear hg_ hnew_;(first|rw [← Ny501.out] at ho5|(simp only [Int.reduceToNat] at ho5;rw [← Ny501.out] at ho5));have b2:=zzm (Kd.S_lower ho5 (zzo zzh1));have b3:=zzm (zzp zzh1 hb);clear HB;have g5:=b2;have HB:=b3;clear b2 b3 hb ho5));go_loopg [4] k (fun kq v4 w'=>∃ (a2:List (S30)) (a0:Int),v4 = .int .i64 a0∧Aside0 (Qq.l0 kq l0 a2 a0=some r)∧Aside0 (kq≤k)∧Aside0 (Kd.S k30 30 w' w.heap.size (fun _=>True) h6 a2)∧Aside0 (Below w.heap.size w w'))
   case atStart=>exact ⟨(y501),(0),(by first|rfl|(simp;done)|(simp [*];done)),H',⟨Nat.le_refl _⟩,⟨by (with_reducible repeat (first|apply Kd.S_alloc|apply Kd.S_drewN|apply Kd.S_drew));exact g5.out⟩,⟨zzh1⟩⟩
   case round=>
    clear H';try clear c2
    try clear h2
    try clear h3
    try clear p2
    try clear c3
    try clear h4
    try clear h5
    obtain ⟨a2,a0,rfl,HA,HK1,a1,HB⟩:=hrel;cases gk with
    | zero=>exact absurd HA.out (by simp [Qq.l0])
    | succ k1=>
     have H:=HA.out;clear HA;simp only [Qq.l0] at H;by_cases c6:a0 < (l0.length:Int)
     ·
      rw [if_pos c6] at H;have h7:decide (a0 < (l0.length:Int))=true:=decide_eq_true c6;clear c6;by_cases c7 : 0≤a0
      ·
       rw [if_pos c7] at H;have k4:decide (0≤a0)=true:=decide_eq_true c7;clear c7;replace H:=zzH H;obtain ⟨⟨a6,a7,a8,b4,a9,b5⟩,g9,H⟩:=H;replace H:(if a0 < (a2.length:Int) then (Qq.l0 k1 l0 (a2.set (a0:Int).toNat (⟨a6,a7,a8,b4,a9,b5⟩:S30)) (wrap64 (a0+1))) else (none))=some r:=H;have A8:=zzm g9;clear g9;by_cases c9:a0 < (a2.length:Int)
       ·
        rw [if_pos c9] at H;have k5:decide (a0 < (a2.length:Int))=true:=decide_eq_true c9;clear c9;obtain ⟨y515,hy515⟩:∃ y_:List (S30),y_=(a2.set (a0:Int).toNat (⟨a6,a7,a8,b4,a9,b5⟩:S30)):=⟨_,rfl⟩;replace H:(Qq.l0 k1 l0 y515 (wrap64 (a0+1)))=some r:=by first|(rw [hy515];with_reducible exact H)|(have H2_:=(Option.bind_some _ _).symm.trans H;rw [hy515];with_reducible exact H2_)|(have H2_:=(Option.bind_some _ _).symm.trans H;with_reducible exact H2_)|with_reducible exact H|(rw [hy515];exact H)|exact H
        have Ny515:=zzm hy515;clear hy515;have H':=zzm H;clear H;have d4 : 0≤(a0:Int):=zzt;have d5:a0 < (l0.length:Int):=zzt;obtain ⟨k3,e0,e1,e2,e3,h8,b6,b7,b8,b9,c1,c4,c5,c8,d0,d1⟩:=at_T108 h9.out a0 d4 d5;cases h8;replace b6:=zzx HB.out b6;replace b7:=zzx HB.out b7;replace b8:=zzx HB.out b8;replace b9:=zzx HB.out b9;replace c1:=zzx HB.out c1;replace c4:=zzx HB.out c4;have d6:=zzm c8;have d7:=zzm c5;clear c8 c5;have d8:=zzm d1;have d9:=zzm d0;clear d1 d0;replace d4:=eq_true d4;replace d5:=eq_true d5;go_wp2_with (first|((with_reducible refine gate_callee (f:=94) rfl ?_);refine goesL_ (some 20) rfl rfl Try.func94 (by kernel_rfl) rfl #[.agg #[.int .i64 ((Qm l0 a0).f0),.int .i64 ((Qm l0 a0).f1),.bool ((Qm l0 a0).f2),.slice e0 ((Qm l0 a0).f3).length e1,.bool ((Qm l0 a0).f4),.slice e2 ((Qm l0 a0).f5).length e3]] rfl zzM2 ?_;(with_reducible refine (Rs.calls k1 ((Qm l0 a0).f0) ((Qm l0 a0).f1) ((Qm l0 a0).f2) _ _ ((Qm l0 a0).f3) ((Qm l0 a0).f4) _ _ ((Qm l0 a0).f5) a6 a7 a8 b4 a9 b5 _ ?side1 ?side2 ?side3 ?side4 A8.out).mono ?_);(case side1=>exact zzcb d6 HB);(case side2=>exact d7.out);(case side3=>exact zzcb d8 HB);(case side4=>exact d9.out);rintro e a3 ⟨b0,b1,rfl,ho0,ho1,hb⟩;have os_v509:∀ (W_:World) (a_:Addr) (m_:Mode),(store a_ b0 m_).run Try.prog W_=stored Try.prog W_ a_ b0 m_:=fun W_ a_ m_=>run_store _ _ _ _ _ (by first|(obtain ⟨_,_,e_⟩:=Kd.R_slice ho0;rw [e_];rfl)|(obtain ⟨_,_,e_⟩:=Kd.S_slice ho0;rw [e_];rfl));have os_v513:∀ (W_:World) (a_:Addr) (m_:Mode),(store a_ b1 m_).run Try.prog W_=stored Try.prog W_ a_ b1 m_:=fun W_ a_ m_=>run_store _ _ _ _ _ (by first|(obtain ⟨_,_,e_⟩:=Kd.R_slice ho1;rw [e_];rfl)|(obtain ⟨_,_,e_⟩:=Kd.S_slice ho1;rw [e_];rfl));refine ⟨_,rfl,?_⟩;have b2:=zzm (Kd.S_mono (Kd.S_told (Kd.S_told (Kd.S_old (zzS a1.out) hb) (Kd.R_base ho0)) (Kd.R_base ho1)) (fun _ h_=>h_.1));have b3:=zzm (Kd.R_lower ho0 (zzo zzh1));have h0:=zzm (Kd.R_lower ho1 (zzo zzh1));have h1:=zzm (zzp zzh1 hb);clear a1 HB;have a1:=b2;have d2:=b3;have d3:=h0;have HB:=h1;clear b2 b3 h0 h1;(try clear hb);(try clear hb2);(try clear hk);(try clear hi);(try clear ho0);(try clear ho1);have e4 : 0≤(a0:Int):=zzt;have e5:(a0:Int) < ((a2.length:Int):Int):=zzt;obtain ⟨go10,e6,eo10,e7,gl10,cl10,HG10⟩:=Kd.S_form a1.out (by omega);(first|cases eo10|(injection eo10 with ea_ en_ ec_;(first|subst ea_|(injection ea_ with ea_;subst ea_));subst ec_;clear en_));have GB10:=zzm e7;have GG10:=zzm HG10;clear e7 gl10 HG10;obtain ⟨_,k6,hcl10,hM10,a4,hfr10,_,_⟩:=Kd.S_elem a1.out z30 (a0:Int) e4 e5;obtain ⟨ve10_3,ve10_5,rfl,j2,j3⟩:=k30_openM hM10;have j4:a3.cell? ⟨go10,(a0:Int).toNat * 6,none⟩=some (.int .i64 ((Qb a2 a0).f0)):=a4 0 _ rfl;have j5:a3.cell? ⟨go10,(a0:Int).toNat * 6+1,none⟩=some (.int .i64 ((Qb a2 a0).f1)):=a4 1 _ rfl;have j6:a3.cell? ⟨go10,(a0:Int).toNat * 6+2,none⟩=some (.bool ((Qb a2 a0).f2)):=a4 2 _ rfl;have j7:a3.cell? ⟨go10,(a0:Int).toNat * 6+3,none⟩=some (ve10_3):=a4 3 _ rfl;have j8:a3.cell? ⟨go10,(a0:Int).toNat * 6+4,none⟩=some (.bool ((Qb a2 a0).f4)):=a4 4 _ rfl;have j9:a3.cell? ⟨go10,(a0:Int).toNat * 6+5,none⟩=some (ve10_5):=a4 5 _ rfl;have hf10_0:a3.frozen? ⟨go10,(a0:Int).toNat * 6,none⟩=false:=hfr10 0;have hf10_1:a3.frozen? ⟨go10,(a0:Int).toNat * 6+1,none⟩=false:=hfr10 1;have hf10_2:a3.frozen? ⟨go10,(a0:Int).toNat * 6+2,none⟩=false:=hfr10 2;have hf10_3:a3.frozen? ⟨go10,(a0:Int).toNat * 6+3,none⟩=false:=hfr10 3;have hf10_4:a3.frozen? ⟨go10,(a0:Int).toNat * 6+4,none⟩=false:=hfr10 4;have hf10_5:a3.frozen? ⟨go10,(a0:Int).toNat * 6+5,none⟩=false:=hfr10 5;clear hcl10 a4 hfr10 hM10;replace e4:=eq_true e4;replace e5:=eq_true e5;have n_:=zzm (Kd.S_mono (ok':=(fun k_=>some k_≠(b0:Value).ownBlock∧some k_≠(b1:Value).ownBlock)) a1.out (fun k_ hk=>⟨hk.1.2,hk.2⟩));clear a1;have a1:=n_;clear n_;have HX12:=zzm (show Kd.S k30 30 a3 w.heap.size (fun k_=>((fun _=>True)) k_∧¬ ((fun k_=>some k_=(b0:Value).ownBlock∨some k_=(b1:Value).ownBlock)) k_) (.slice (some ⟨go10,0,none⟩) a2.length e6) a2 from (zzS (Kd.S_mono a1.out (fun k_ hk=>⟨trivial,fun e_=>e_.elim (fun h_=>hk.1 h_) (fun h_=>hk.2 h_)⟩))));obtain ⟨oki12,k7,hcl12,hM12,a5,hfr12,hoki12,hH12⟩:=Kd.S_elem HX12.out z30 (a0:Int) (zzt) (by have h_:(a0:Int) < ((a2.length:Int):Int):=zzt;first|exact h_|(have e_:=(Kd.S_reads' a1.out).1;omega)|simpa using h_);obtain ⟨ve12_3,ve12_5,rfl,k0,k2⟩:=k30_openM hM12;have HP12:=Kd.S_seg hH12 (zzt) (by have h_:(a0:Int) < ((a2.length:Int):Int):=zzt;first|exact h_|(have e_:=(Kd.S_reads' a1.out).1;omega)|simpa using h_) (seg:=[.int .i64 a6,.int .i64 a7,.bool a8,b0,.bool a9,b1]) (j:=0) (show 6≤6 from by decide) (x':=(⟨a6,a7,a8,b4,a9,b5⟩:S30)) (k30_mkM _ _ _ (⟨a6,a7,a8,b4,a9,b5⟩:S30) (Kd.R_mono (Kd.R_tight rfl (Kd.R_mono (ok':=fun k_=>((fun _=>True)) k_∧k_≠go10) (Kd.R_apart' (d2.out) (Kd.S_typed a1.out) (by decide)) (fun k_ hk=>⟨trivial,fun e_=>(hk.2) (by rw [e_];rfl)⟩))) (fun _ h_=>Or.inr (Or.inl h_))) (Kd.R_mono (Kd.R_tight rfl (Kd.R_mono (ok':=fun k_=>((fun _=>True)) k_∧k_≠go10) (Kd.R_apart' (d3.out) (Kd.S_typed a1.out) (by decide)) (fun k_ hk=>⟨trivial,fun e_=>(hk.2) (by rw [e_];rfl)⟩))) (fun _ h_=>Or.inr (Or.inr (h_))))) (fun _ hk=>hk) (fun k_ hk_=>hk_.elim (fun h_=>((Kd.R_mono (ok':=fun k_=>((fun _=>True)) k_∧k_≠go10) (Kd.R_apart' (d2.out) (Kd.S_typed a1.out) (by decide)) (fun k_ hk=>⟨trivial,fun e_=>(hk.2) (by rw [e_];rfl)⟩))).1 k_ h_.symm) (fun h_=>((Kd.R_mono (ok':=fun k_=>((fun _=>True)) k_∧k_≠go10) (Kd.R_apart' (d3.out) (Kd.S_typed a1.out) (by decide)) (fun k_ hk=>⟨trivial,fun e_=>(hk.2) (by rw [e_];rfl)⟩))).1 k_ h_.symm));have e8:=a5 0 _ rfl;(try simp only [show (k30).sz=6 from rfl,Nat.mul_one,Nat.add_zero] at e8);have hf12_0:=hfr12 0;(try simp only [show (k30).sz=6 from rfl,Nat.mul_one,Nat.add_zero] at hf12_0);have e9:=a5 1 _ rfl;(try simp only [show (k30).sz=6 from rfl,Nat.mul_one,Nat.add_zero] at e9);have hf12_1:=hfr12 1;(try simp only [show (k30).sz=6 from rfl,Nat.mul_one,Nat.add_zero] at hf12_1);have g0:=a5 2 _ rfl;(try simp only [show (k30).sz=6 from rfl,Nat.mul_one,Nat.add_zero] at g0);have hf12_2:=hfr12 2;(try simp only [show (k30).sz=6 from rfl,Nat.mul_one,Nat.add_zero] at hf12_2);have g1:=a5 3 _ rfl;(try simp only [show (k30).sz=6 from rfl,Nat.mul_one,Nat.add_zero] at g1);have hf12_3:=hfr12 3;(try simp only [show (k30).sz=6 from rfl,Nat.mul_one,Nat.add_zero] at hf12_3);have g2:=a5 4 _ rfl;(try simp only [show (k30).sz=6 from rfl,Nat.mul_one,Nat.add_zero] at g2);have hf12_4:=hfr12 4;(try simp only [show (k30).sz=6 from rfl,Nat.mul_one,Nat.add_zero] at hf12_4);have g3:=a5 5 _ rfl;(try simp only [show (k30).sz=6 from rfl,Nat.mul_one,Nat.add_zero] at g3);have hf12_5:=hfr12 5;(try simp only [show (k30).sz=6 from rfl,Nat.mul_one,Nat.add_zero] at hf12_5);clear hcl12 a5 hfr12 hM12 hoki12 hH12)|((with_reducible refine gate_store (t:=30) (p:=21) rfl ?_);refine store_event (t:=30) (p:=21) (v:=?vo_w13) (w1:=((((((a3.setCell ⟨go10,(a0:Int).toNat * 6,none⟩ (.int .i64 a6)).setCell ⟨go10,(a0:Int).toNat * 6+1,none⟩ (.int .i64 a7)).setCell ⟨go10,(a0:Int).toNat * 6+2,none⟩ (.bool a8)).setCell ⟨go10,(a0:Int).toNat * 6+3,none⟩ (b0)).setCell ⟨go10,(a0:Int).toNat * 6+4,none⟩ (.bool a9)).setCell ⟨go10,(a0:Int).toNat * 6+5,none⟩ (b1))) ?hg ?ho ?hn ?hr ?_;(case ho=>rfl);(case hg=>rfl);(case hn=>rfl);(case hr=>first|(go_simp;done)|(go_simp;rfl));intro g4 hw;have hg:a3.grownBy g4 (some go10):=(by rw [hw];exact HP12.2);have hp_:Kd.S k30 30 g4 w.heap.size (fun _=>True) (.slice (some ⟨go10,0,none⟩) a2.length e6) y515:=(by rw [hw,Ny515.out];exact HP12.1);clear HP12;have b2:=zzm (hp_);have b3:=zzm ((by rw [hw];exact zzd (zzd (zzd (zzd (zzd (zzd (HB.out) GB10.out) GB10.out) GB10.out) GB10.out) GB10.out) GB10.out:Below w.heap.size w g4));clear a1 HB d2 d3;have a1:=b2;have HB:=b3;clear b2 b3 hg hw hp_));go_roundg k1
        case measure=>have:=HK1.out;omega
        case rel=>exact ⟨(y515),(wrap64 (a0+1)),(by first|rfl|(simp;done)|(simp [*];done)),H',⟨by have:=HK1.out;omega⟩,⟨by (with_reducible repeat (first|apply Kd.S_alloc|apply Kd.S_drewN|apply Kd.S_drew));exact a1.out⟩,⟨zzh1⟩⟩
       ·
        rw [if_neg c9] at H;exact absurd H (by simp)
      ·
       rw [if_neg c7] at H;exact absurd H (by simp)
     ·
      rw [if_neg c6] at H;have h7:decide (a0 < (l0.length:Int))=false:=decide_eq_false c6;clear c6;obtain rfl:=Option.some.inj H;go_wp2;go_ret;exact ⟨_,zzR,by (with_reducible repeat (first|apply Kd.S_alloc|apply Kd.S_drewN|apply Kd.S_drew));exact a1.out,zzh1⟩
  ·
   rw [if_neg c3] at H;exact absurd H (by simp)
 ·
  rw [if_neg c2] at H;exact absurd H (by simp)
def Ru.f (k:Nat) (a0_0:Bool) (a0_1:Bool) (a0_2:Int) (a0_3:Int) (a0_4:Int) (l0_5:List (S108)):Option (Bool×Bool×Int×Int×Int×(List (S30))):=(Qq.f k l0_5).bind fun t519=>(some (a0_0,a0_1,a0_2,a0_3,a0_4,t519))
set_option maxHeartbeats 8000000 in
theorem Ru.calls (k:Nat) (a0:Bool) (a2:Bool) (a3:Int) (a5:Int) (a9:Int) (b2:Option Addr) (b3:Nat) (a8:List (S108)) (r1:Bool) (r2:Bool) (r3:Int) (r4:Int) (r5:Int) (r6:List (S30)) (w:World) (d0:Kd.C k108 w b2 a8.length a8) (d1:a8.length≤b3) (h:Ru.f k a0 a2 a3 a5 a9 a8=some (r1,r2,r3,r4,r5,r6)) :
  Calls Try.prog 60 #[.agg #[.bool a0,.bool a2,.int .i64 a3,.int .i64 a5,.int .i64 a9,.slice b2 a8.length b3]] w fun e w'=>∃ d5:Value,e = .returned (.agg #[.bool r1,.bool r2,.int .i64 r3,.int .i64 r4,.int .i64 r5,d5])∧Kd.S k30 30 w' w.heap.size (fun _=>True) d5 r6∧Below w.heap.size w w':=by
 have hu73:=Try.underlying73;have hu34:=Try.underlying34;have d3:=zzm d0;have d4:=zzm d1;clear d0 d1;have HB:=zzm (Below.refl w.heap.size w);have H:((Qq.f k a8).bind fun c0=>(some (a0,a2,a3,a5,a9,c0)))=some (r1,r2,r3,r4,r5,r6):=h;clear h;obtain ⟨c0,A2,H⟩:=zzG H;simp only [Option.some.injEq,Prod.mk.injEq] at H;obtain ⟨rfl,rfl,rfl,rfl,rfl,rfl⟩:=H;go_enter Try.func60,Try.ntmps60;go_wp2_with (first|((with_reducible refine gate_dst (N:=1) rfl ?_);refine box_event ?hg (N:=1) ?hd (cs:=#[.bool a0,.bool a2,.int .i64 a3,.int .i64 a5,.int .i64 a9,.slice b2 a8.length b3]) (t:=73) ?hr ?_;(case hd=>rfl);(case hg=>rfl);(case hr=>first|(go_simp;done)|(go_simp;rfl));intro a7 hg w3 hbox hb;have b5:=zzm (zzp zzh1 hb);have b6:=zzm (hbox);have b7:=zzm ((by rw [hg];exact (zzo zzh1):w.heap.size≤a7));have b8:=zzm ((by rw [hg];exact (zzo zzh1):w.heap.size≤a7));clear HB;have HB:=b5;have a4:=b6;have k9:=b7;have l2:=b8;clear b5 b6 b7 b8 hb hbox hg)|((with_reducible refine gate_dst (N:=2) rfl ?_);refine box_event ?hg (N:=2) ?hd (cs:=#[.bool false,.bool false,.int .i64 0,.int .i64 0,.int .i64 0,.slice none 0 0]) (t:=34) ?hr ?_;(case hd=>rfl);(case hg=>rfl);(case hr=>first|(go_simp;done)|(go_simp;rfl));intro a1 hg w4 hbox hb;have b5:=zzm (zzh (g:=a7) (o:=.cells #[.bool a0,.bool a2,.int .i64 a3,.int .i64 a5,.int .i64 a9,.slice b2 a8.length b3] 73 (0,0)) (zzE a4.out) hb);have b6:=zzm (zzp zzh2 hb);have b7:=zzm (hbox);have b8:=zzm ((by rw [hg];exact (zzo zzh2):w.heap.size≤a1));have c1:=zzm ((by rw [hg];exact (zzo zzh2):w.heap.size≤a1));have c2:=zzm ((by rw [hg];exact Nat.ne_of_lt (blk_lt (g:=a7) (o:=.cells #[.bool a0,.bool a2,.int .i64 a3,.int .i64 a5,.int .i64 a9,.slice b2 a8.length b3] 73 (0,0)) (zzE a4.out)):a7≠a1));have c3:=zzm ((by rw [hg];exact Nat.ne_of_gt (blk_lt (g:=a7) (o:=.cells #[.bool a0,.bool a2,.int .i64 a3,.int .i64 a5,.int .i64 a9,.slice b2 a8.length b3] 73 (0,0)) (zzE a4.out)):a1≠a7));clear a4 HB;have a4:=b5;have HB:=b6;have b1:=b7;have l3:=b8;have l4:=c1;have c4:=c2;have c5:=c3;clear b5 b6 b7 b8 c1 c2 c3 hb hbox hg)|((with_reducible refine gate_dst (N:=3) rfl ?_);refine box_event ?hg (N:=3) ?hd (cs:=#[.bool false,.bool false,.int .i64 0,.int .i64 0,.int .i64 0,.slice none 0 0]) (t:=34) ?hr ?_;(case hd=>rfl);(case hg=>rfl);(case hr=>first|(go_simp;done)|(go_simp;rfl));intro b4 hg w5 hbox hb;have b5:=zzm (zzh (g:=a7) (o:=.cells #[.bool a0,.bool a2,.int .i64 a3,.int .i64 a5,.int .i64 a9,.slice b2 a8.length b3] 73 (0,0)) (zzE a4.out) hb);have b6:=zzm (zzh (g:=a1) (o:=.cells #[.bool false,.bool false,.int .i64 0,.int .i64 0,.int .i64 0,.slice none 0 0] 34 (0,0)) (zzE b1.out) hb);have b7:=zzm (zzp zzh2 hb);have b8:=zzm (hbox);have c1:=zzm ((by rw [hg];exact (zzo zzh2):w.heap.size≤b4));have c2:=zzm ((by rw [hg];exact (zzo zzh2):w.heap.size≤b4));have c3:=zzm ((by rw [hg];exact Nat.ne_of_lt (blk_lt (g:=a7) (o:=.cells #[.bool a0,.bool a2,.int .i64 a3,.int .i64 a5,.int .i64 a9,.slice b2 a8.length b3] 73 (0,0)) (zzE a4.out)):a7≠b4));have d6:=zzm ((by rw [hg];exact Nat.ne_of_gt (blk_lt (g:=a7) (o:=.cells #[.bool a0,.bool a2,.int .i64 a3,.int .i64 a5,.int .i64 a9,.slice b2 a8.length b3] 73 (0,0)) (zzE a4.out)):b4≠a7));have d7:=zzm ((by rw [hg];exact Nat.ne_of_lt (blk_lt (g:=a1) (o:=.cells #[.bool false,.bool false,.int .i64 0,.int .i64 0,.int .i64 0,.slice none 0 0] 34 (0,0)) (zzE b1.out)):a1≠b4));have d8:=zzm ((by rw [hg];exact Nat.ne_of_gt (blk_lt (g:=a1) (o:=.cells #[.bool false,.bool false,.int .i64 0,.int .i64 0,.int .i64 0,.slice none 0 0] 34 (0,0)) (zzE b1.out)):b4≠a1));clear a4 b1 HB;have a4:=b5;have b1:=b6;have HB:=b7;have b9:=b8;have l5:=c1;have l6:=c2;have b0:=c3;have c6:=d6;have a6:=d7;have c7:=d8;clear b5 b6 b7 b8 c1 c2 c3 d6 d7 d8 hb hbox hg;have l7:=c4.out;have l8:=c5.out;have l9:=b0.out;have m0:=c6.out;obtain ⟨j7,j8,j9,k0,k1,k2,k3,k4,k5,k6,k7,k8⟩:=zzc6 a4.out;have m1:=c7.out;have m2:=a6.out;obtain ⟨d9,e0,e1,e2,e3,e4,e5,e6,e7,e8,e9,g0⟩:=zzc6 b9.out)|((with_reducible refine gate_callee (f:=81) rfl ?_);refine goesL_ (some 21) rfl rfl Try.func81 (by kernel_rfl) rfl #[.slice b2 a8.length b3] rfl zzM2 ?_;(with_reducible refine (Qq.calls k _ _ a8 c0 _ ?side1 ?side2 A2.out).mono ?_);(case side1=>exact Kd.C_below d3.out zzh2);(case side2=>exact d4.out);rintro e m4 ⟨m3,rfl,ho0,hb⟩;refine ⟨_,rfl,?_⟩;have b5:=zzm (Kd.S_lower ho0 (zzo zzh2));have b6:=zzm (zzh (g:=a7) (o:=.cells #[.bool a0,.bool a2,.int .i64 a3,.int .i64 a5,.int .i64 a9,.slice b2 a8.length b3] 73 (0,0)) (by (with_reducible repeat (first|apply zzf|apply zzg|apply zze));refine zzj ?_ b0.out _;(with_reducible repeat (first|apply zzf|apply zzg|apply zze));refine zzj ?_ b0.out _;(with_reducible repeat (first|apply zzf|apply zzg|apply zze));refine zzj ?_ b0.out _;(with_reducible repeat (first|apply zzf|apply zzg|apply zze));refine zzj ?_ b0.out _;(with_reducible repeat (first|apply zzf|apply zzg|apply zze));refine zzj ?_ b0.out _;(with_reducible repeat (first|apply zzf|apply zzg|apply zze));exact a4.out) hb);have b7:=zzm (zzh (g:=a1) (o:=.cells #[.bool false,.bool false,.int .i64 0,.int .i64 0,.int .i64 0,.slice none 0 0] 34 (0,0)) (by (with_reducible repeat (first|apply zzf|apply zzg|apply zze));refine zzj ?_ a6.out _;(with_reducible repeat (first|apply zzf|apply zzg|apply zze));refine zzj ?_ a6.out _;(with_reducible repeat (first|apply zzf|apply zzg|apply zze));refine zzj ?_ a6.out _;(with_reducible repeat (first|apply zzf|apply zzg|apply zze));refine zzj ?_ a6.out _;(with_reducible repeat (first|apply zzf|apply zzg|apply zze));refine zzj ?_ a6.out _;(with_reducible repeat (first|apply zzf|apply zzg|apply zze));exact b1.out) hb);have b8:=zzm (zzh (g:=b4) (o:=.cells #[.bool a0,.bool a2,.int .i64 a3,.int .i64 a5,.int .i64 a9,.slice none 0 0] 34 (0,0)) (by (with_reducible repeat (first|apply zzf|apply zzg|apply zze));refine zzi (cs:=#[.bool a0,.bool a2,.int .i64 a3,.int .i64 a5,.int .i64 0,.slice none 0 0]) ?_ 4 _ rfl;refine zzi (cs:=#[.bool a0,.bool a2,.int .i64 a3,.int .i64 0,.int .i64 0,.slice none 0 0]) ?_ 3 _ rfl;refine zzi (cs:=#[.bool a0,.bool a2,.int .i64 0,.int .i64 0,.int .i64 0,.slice none 0 0]) ?_ 2 _ rfl;refine zzi (cs:=#[.bool a0,.bool false,.int .i64 0,.int .i64 0,.int .i64 0,.slice none 0 0]) ?_ 1 _ rfl;refine zzi (cs:=#[.bool false,.bool false,.int .i64 0,.int .i64 0,.int .i64 0,.slice none 0 0]) ?_ 0 _ rfl;(with_reducible repeat (first|apply zzf|apply zzg|apply zze));exact b9.out) hb);have c1:=zzm (zzp zzh2 hb);clear a4 b1 b9 HB;have d2:=b5;have a4:=b6;have b1:=b7;have b9:=b8;have HB:=c1;clear b5 b6 b7 b8 c1;(try clear hb);(try clear hb2);(try clear hk);(try clear hi);(try clear ho0);obtain ⟨c8,c9,eo12⟩:=Kd.S_slice d2.out;subst eo12;obtain ⟨g1,g2,g3,g4,g5,g6,g7,g8,g9,h0,h1,h2⟩:=zzc6 b9.out;obtain ⟨h3,h4,h5,h6,h7,h8,h9,j2,j3,j4,j5,j6⟩:=zzc6 b1.out));refine bodyPost_ret (results_cell_row rfl _ _ a1 34 #[.bool a0,.bool a2,.int .i64 a3,.int .i64 a5,.int .i64 a9,.slice c8 c0.length c9] (0,0) _ rfl (by (with_reducible repeat (first|apply zzf|apply zzg|apply zze));refine zzi (cs:=#[.bool a0,.bool a2,.int .i64 a3,.int .i64 a5,.int .i64 a9,.slice none 0 0]) ?_ 5 _ rfl;refine zzi (cs:=#[.bool a0,.bool a2,.int .i64 a3,.int .i64 a5,.int .i64 0,.slice none 0 0]) ?_ 4 _ rfl;refine zzi (cs:=#[.bool a0,.bool a2,.int .i64 a3,.int .i64 0,.int .i64 0,.slice none 0 0]) ?_ 3 _ rfl;refine zzi (cs:=#[.bool a0,.bool a2,.int .i64 0,.int .i64 0,.int .i64 0,.slice none 0 0]) ?_ 2 _ rfl;refine zzi (cs:=#[.bool a0,.bool false,.int .i64 0,.int .i64 0,.int .i64 0,.slice none 0 0]) ?_ 1 _ rfl;refine zzi (cs:=#[.bool false,.bool false,.int .i64 0,.int .i64 0,.int .i64 0,.slice none 0 0]) ?_ 0 _ rfl;(with_reducible repeat (first|apply zzf|apply zzg|apply zze));refine zzj ?_ a6.out _;(with_reducible repeat (first|apply zzf|apply zzg|apply zze));exact b1.out) Try.underlying34 rfl (by kernel_rfl)) rfl ?_;exact ⟨_,zzR,by (with_reducible repeat (first|apply Kd.S_alloc|apply Kd.S_drewN|apply Kd.S_drew));exact Kd.S_mono (Kd.S_far (p:=⟨a1,5,none⟩) (Kd.S_far (p:=⟨a1,4,none⟩) (Kd.S_far (p:=⟨a1,3,none⟩) (Kd.S_far (p:=⟨a1,2,none⟩) (Kd.S_far (p:=⟨a1,1,none⟩) (Kd.S_far (p:=⟨a1,0,none⟩) (Kd.S_far (p:=⟨b4,5,none⟩) (Kd.S_types (Kd.S_types d2.out b9.out (by decide)) b1.out (by decide)) (fun _ hk=>hk.1.2) (.slice c8 c0.length c9)) (fun _ hk=>hk.2) (.bool a0)) (fun _ hk=>hk.2) (.bool a2)) (fun _ hk=>hk.2) (.int .i64 a3)) (fun _ hk=>hk.2) (.int .i64 a5)) (fun _ hk=>hk.2) (.int .i64 a9)) (fun _ hk=>hk.2) (.slice c8 c0.length c9)) (fun _ hk=>trivial),zzh3⟩

set_option linter.unusedVariables false
set_option linter.unusedSimpArgs false
def Qj.l0:Nat→List (S73)→List (S34)→Int→Option ((List (S34)))
 | 0,_,_,_=>none
 | k+1,x0,x3,x4=>if x4 < (x0.length:Int) then (if 0≤x4 then ((Ru.f k ((Qr x0 x4).f0) ((Qr x0 x4).f1) ((Qr x0 x4).f2) ((Qr x0 x4).f3) ((Qr x0 x4).f4) ((Qr x0 x4).f5)).bind fun bt526=>(if x4 < (x3.length:Int) then (Qj.l0 k x0 (x3.set (x4:Int).toNat (⟨bt526.1,bt526.2.1,bt526.2.2.1,bt526.2.2.2.1,bt526.2.2.2.2.1,bt526.2.2.2.2.2⟩:S34)) (wrap64 (x4+1))) else (none))) else (none)) else (some x3)
def Qj.f (k:Nat) (l0:List (S73)):Option ((List (S34))):=if 0≤(l0.length:Int) then (if ((l0.length:Int):Int).toNat≤5026338869833 then (Qj.l0 k l0 (List.replicate ((l0.length:Int):Int).toNat z34) 0) else (none)) else (none)
set_option maxHeartbeats 8000000 in
theorem Qj.calls (k:Nat) (A0:Option Addr) (c0:Nat) (l0:List (S73)) (r:List (S34)) (w:World) (e8:Kd.C k73 w A0 l0.length l0) (e9:l0.length≤c0) (h:Qj.f k l0=some r) :
  Calls Try.prog 31 #[.slice A0 l0.length c0] w fun e w'=>∃ g0:Value,e = .returned (g0)∧Kd.R k34 34 w' w.heap.size (fun _=>True) g0 r∧Below w.heap.size w w':=by
 have hu73:=Try.underlying73;have hu34:=Try.underlying34;have h0:=zzm e8;have j6:=zzm e9;clear e8 e9;have HB:=zzm (Below.refl w.heap.size w);have H:(if 0≤(l0.length:Int) then (if ((l0.length:Int):Int).toNat≤5026338869833 then (Qj.l0 k l0 (List.replicate ((l0.length:Int):Int).toNat z34) 0) else (none)) else (none))=some r:=h;clear h;by_cases c2 : 0≤(l0.length:Int)
 ·
  rw [if_pos c2] at H;have g3:=eq_true c2;have g4:decide (0≤(l0.length:Int))=true:=decide_eq_true c2;clear c2;by_cases c3:((l0.length:Int):Int).toNat≤5026338869833
  ·
   rw [if_pos c3] at H;have g5:=eq_true c3;have g6:decide (((l0.length:Int):Int).toNat≤5026338869833)=true:=decide_eq_true c3;clear c3;obtain ⟨y522,hy522⟩:∃ y_:List (S34),y_=(List.replicate ((l0.length:Int):Int).toNat z34):=⟨_,rfl⟩;replace H:(Qj.l0 k l0 y522 0)=some r:=by first|(rw [hy522];with_reducible exact H)|(have H2_:=(Option.bind_some _ _).symm.trans H;rw [hy522];with_reducible exact H2_)|(have H2_:=(Option.bind_some _ _).symm.trans H;with_reducible exact H2_)|with_reducible exact H|(rw [hy522];exact H)|exact H
   have Ny522:=zzm hy522;clear hy522;have H':=zzm H;clear H;go_enter Try.func31,Try.ntmps31;go_wp2_with (first|((with_reducible refine gate_dst (N:=7) rfl ?_);refine Kd.R_make k34 _ 34 rfl (N:=7) rfl 23 _ _ rfl (l0.length:Int) rfl rfl Try.underlying23 (.agg #[(.bool false),(.bool false),(.int .i64 0),(.int .i64 0),(.int .i64 0),(.slice none 0 0)]) 56 info34 rfl (by decide) (by omega) z34 (ok:=fun _=>True) (okp:=fun _=>True) (k34_mkM _ _ _ z34 (Kd.R_nil _ _ _ _ _)) (fun _ hk=>hk) trivial (zzt) (Nat.le_trans (Nat.mul_le_mul_right _ (zzt:(l0.length:Int).toNat≤5026338869833)) (by omega)) (Below.refl _ _) (Nat.le_refl _) ?_;intro g7 w4 ho5 hb hg_ hnew_;clear hg_ hnew_;(first|rw [← Ny522.out] at ho5|(simp only [Int.reduceToNat] at ho5;rw [← Ny522.out] at ho5));have b1:=zzm (Kd.R_lower ho5 (zzo zzh1));have b2:=zzm (zzp zzh1 hb);clear HB;have e7:=b1;have HB:=b2;clear b1 b2 hb ho5));go_loopg [4] k (fun kq v4 w'=>∃ (a1:List (S34)) (a0:Int),v4 = .int .i64 a0∧Aside0 (Qj.l0 kq l0 a1 a0=some r)∧Aside0 (kq≤k)∧Aside0 (Kd.R k34 34 w' w.heap.size (fun _=>True) g7 a1)∧Aside0 (Below w.heap.size w w'))
   case atStart=>exact ⟨(y522),(0),(by first|rfl|(simp;done)|(simp [*];done)),H',⟨Nat.le_refl _⟩,⟨by (with_reducible repeat (first|apply Kd.R_alloc|apply Kd.R_drewN|apply Kd.R_drew));exact e7.out⟩,⟨zzh1⟩⟩
   case round=>
    clear H';try clear c2
    try clear g3
    try clear g4
    try clear p2
    try clear c3
    try clear g5
    try clear g6
    obtain ⟨a1,a0,rfl,HA,HK1,a2,HB⟩:=hrel;cases gk with
    | zero=>exact absurd HA.out (by simp [Qj.l0])
    | succ k1=>
     have H:=HA.out;clear HA;simp only [Qj.l0] at H;by_cases c6:a0 < (l0.length:Int)
     ·
      rw [if_pos c6] at H;have g8:decide (a0 < (l0.length:Int))=true:=decide_eq_true c6;clear c6;by_cases c7 : 0≤a0
      ·
       rw [if_pos c7] at H;have j2:decide (0≤a0)=true:=decide_eq_true c7;clear c7;replace H:=zzH H;obtain ⟨⟨a6,a7,a8,a9,b0,b3⟩,g1,H⟩:=H;replace H:(if a0 < (a1.length:Int) then (Qj.l0 k1 l0 (a1.set (a0:Int).toNat (⟨a6,a7,a8,a9,b0,b3⟩:S34)) (wrap64 (a0+1))) else (none))=some r:=H;have A8:=zzm g1;clear g1;by_cases c9:a0 < (a1.length:Int)
       ·
        rw [if_pos c9] at H;have j3:decide (a0 < (a1.length:Int))=true:=decide_eq_true c9;clear c9;obtain ⟨y534,hy534⟩:∃ y_:List (S34),y_=(a1.set (a0:Int).toNat (⟨a6,a7,a8,a9,b0,b3⟩:S34)):=⟨_,rfl⟩;replace H:(Qj.l0 k1 l0 y534 (wrap64 (a0+1)))=some r:=by first|(rw [hy534];with_reducible exact H)|(have H2_:=(Option.bind_some _ _).symm.trans H;rw [hy534];with_reducible exact H2_)|(have H2_:=(Option.bind_some _ _).symm.trans H;with_reducible exact H2_)|with_reducible exact H|(rw [hy534];exact H)|exact H
        have Ny534:=zzm hy534;clear hy534;have H':=zzm H;clear H;have c8 : 0≤(a0:Int):=zzt;have d0:a0 < (l0.length:Int):=zzt;obtain ⟨h9,d4,d5,g9,b5,b6,b7,b8,b9,c1,c4,c5⟩:=at_T73 h0.out a0 c8 d0;cases g9;replace b5:=zzx HB.out b5;replace b6:=zzx HB.out b6;replace b7:=zzx HB.out b7;replace b8:=zzx HB.out b8;replace b9:=zzx HB.out b9;replace c1:=zzx HB.out c1;have d2:=zzm c5;have d3:=zzm c4;clear c5 c4;replace c8:=eq_true c8;replace d0:=eq_true d0;go_wp2_with (first|((with_reducible refine gate_callee (f:=60) rfl ?_);refine goesL_ (some 20) rfl rfl Try.func60 (by kernel_rfl) rfl #[.agg #[.bool ((Qr l0 a0).f0),.bool ((Qr l0 a0).f1),.int .i64 ((Qr l0 a0).f2),.int .i64 ((Qr l0 a0).f3),.int .i64 ((Qr l0 a0).f4),.slice d4 ((Qr l0 a0).f5).length d5]] rfl zzM2 ?_;(with_reducible refine (Ru.calls k1 ((Qr l0 a0).f0) ((Qr l0 a0).f1) ((Qr l0 a0).f2) ((Qr l0 a0).f3) ((Qr l0 a0).f4) _ _ ((Qr l0 a0).f5) a6 a7 a8 a9 b0 b3 _ ?side1 ?side2 A8.out).mono ?_);(case side1=>exact zzcb d2 HB);(case side2=>exact d3.out);rintro e a3 ⟨b4,rfl,ho0,hb⟩;have os_v532:∀ (W_:World) (a_:Addr) (m_:Mode),(store a_ b4 m_).run Try.prog W_=stored Try.prog W_ a_ b4 m_:=fun W_ a_ m_=>run_store _ _ _ _ _ (by first|(obtain ⟨_,_,e_⟩:=Kd.R_slice ho0;rw [e_];rfl)|(obtain ⟨_,_,e_⟩:=Kd.S_slice ho0;rw [e_];rfl));refine ⟨_,rfl,?_⟩;have b1:=zzm (Kd.R_elder' (by (with_reducible repeat (first|apply Kd.R_alloc|apply Kd.R_drewN|apply Kd.R_drew));exact a2.out) (Kd.S_base ho0) hb);have b2:=zzm (Kd.S_lower ho0 (zzo zzh1));have g2:=zzm (zzp zzh1 hb);clear a2 HB;have a2:=b1;have d1:=b2;have HB:=g2;clear b1 b2 g2;(try clear hb);(try clear hb2);(try clear hk);(try clear hi);(try clear ho0);have d6 : 0≤(a0:Int):=zzt;have d7:(a0:Int) < ((a1.length:Int):Int):=zzt;obtain ⟨go10,d8,eo10,d9,gl10,cl10,HG10⟩:=Kd.R_form a2.out (by omega);(first|cases eo10|(injection eo10 with ea_ en_ ec_;(first|subst ea_|(injection ea_ with ea_;subst ea_));subst ec_;clear en_));have GB10:=zzm d9;have GG10:=zzm HG10;clear d9 gl10 HG10;obtain ⟨j4,hcl10,hM10,a5,hfr10⟩:=Kd.R_elem a2.out z34 (a0:Int) d6 d7;obtain ⟨ve10_5,rfl,h1⟩:=k34_openM hM10;have h2:a3.cell? ⟨go10,(a0:Int).toNat * 6,none⟩=some (.bool ((Qa a1 a0).f0)):=a5 0 _ rfl;have h3:a3.cell? ⟨go10,(a0:Int).toNat * 6+1,none⟩=some (.bool ((Qa a1 a0).f1)):=a5 1 _ rfl;have h4:a3.cell? ⟨go10,(a0:Int).toNat * 6+2,none⟩=some (.int .i64 ((Qa a1 a0).f2)):=a5 2 _ rfl;have h5:a3.cell? ⟨go10,(a0:Int).toNat * 6+3,none⟩=some (.int .i64 ((Qa a1 a0).f3)):=a5 3 _ rfl;have h6:a3.cell? ⟨go10,(a0:Int).toNat * 6+4,none⟩=some (.int .i64 ((Qa a1 a0).f4)):=a5 4 _ rfl;have h7:a3.cell? ⟨go10,(a0:Int).toNat * 6+5,none⟩=some (ve10_5):=a5 5 _ rfl;have hf10_0:a3.frozen? ⟨go10,(a0:Int).toNat * 6,none⟩=false:=hfr10 0;have hf10_1:a3.frozen? ⟨go10,(a0:Int).toNat * 6+1,none⟩=false:=hfr10 1;have hf10_2:a3.frozen? ⟨go10,(a0:Int).toNat * 6+2,none⟩=false:=hfr10 2;have hf10_3:a3.frozen? ⟨go10,(a0:Int).toNat * 6+3,none⟩=false:=hfr10 3;have hf10_4:a3.frozen? ⟨go10,(a0:Int).toNat * 6+4,none⟩=false:=hfr10 4;have hf10_5:a3.frozen? ⟨go10,(a0:Int).toNat * 6+5,none⟩=false:=hfr10 5;clear hcl10 a5 hfr10 hM10;replace d6:=eq_true d6;replace d7:=eq_true d7;have n_:=zzm (Kd.R_mono (ok':=(fun k_=>some k_≠(b4:Value).ownBlock)) a2.out (fun k_ hk=>hk.2));clear a2;have a2:=n_;clear n_;have HX12:=zzm (show Kd.R k34 34 a3 w.heap.size (fun _=>True) (.slice (some ⟨go10,0,none⟩) a1.length d8) a1 from (by (with_reducible repeat (first|apply Kd.R_alloc|apply Kd.R_drewN|apply Kd.R_drew));exact Kd.R_mono a2.out (fun _ hk=>trivial)));obtain ⟨j5,hcl12,hM12,a4,hfr12⟩:=Kd.R_elem HX12.out z34 (a0:Int) (zzt) (by have h_:(a0:Int) < ((a1.length:Int):Int):=zzt;first|exact h_|(have e_:=(Kd.R_reads' a2.out).1;omega)|simpa using h_);obtain ⟨ve12_5,rfl,h8⟩:=k34_openM hM12;have HP12:=Kd.R_seg HX12.out (a0:Int) (zzt) (by have h_:(a0:Int) < ((a1.length:Int):Int):=zzt;first|exact h_|(have e_:=(Kd.R_reads' a2.out).1;omega)|simpa using h_) (seg:=[.bool a6,.bool a7,.int .i64 a8,.int .i64 a9,.int .i64 b0,b4]) (j:=0) hcl12 a4 (show 6≤6 from by decide) (x':=(⟨a6,a7,a8,a9,b0,b3⟩:S34)) (k34_mkM _ _ _ (⟨a6,a7,a8,a9,b0,b3⟩:S34) (Kd.R_mono (Kd.R_apart' ((Kd.S_R d1.out)) (Kd.R_typed a2.out) (by decide)) (fun k_ hk=>⟨trivial,fun e_=>(hk.2) (by rw [e_];rfl)⟩))) (fun _ hk=>hk);have e0:=a4 0 _ rfl;(try simp only [show (k34).sz=6 from rfl,Nat.mul_one,Nat.add_zero] at e0);have hf12_0:=hfr12 0;(try simp only [show (k34).sz=6 from rfl,Nat.mul_one,Nat.add_zero] at hf12_0);have e1:=a4 1 _ rfl;(try simp only [show (k34).sz=6 from rfl,Nat.mul_one,Nat.add_zero] at e1);have hf12_1:=hfr12 1;(try simp only [show (k34).sz=6 from rfl,Nat.mul_one,Nat.add_zero] at hf12_1);have e2:=a4 2 _ rfl;(try simp only [show (k34).sz=6 from rfl,Nat.mul_one,Nat.add_zero] at e2);have hf12_2:=hfr12 2;(try simp only [show (k34).sz=6 from rfl,Nat.mul_one,Nat.add_zero] at hf12_2);have e3:=a4 3 _ rfl;(try simp only [show (k34).sz=6 from rfl,Nat.mul_one,Nat.add_zero] at e3);have hf12_3:=hfr12 3;(try simp only [show (k34).sz=6 from rfl,Nat.mul_one,Nat.add_zero] at hf12_3);have e4:=a4 4 _ rfl;(try simp only [show (k34).sz=6 from rfl,Nat.mul_one,Nat.add_zero] at e4);have hf12_4:=hfr12 4;(try simp only [show (k34).sz=6 from rfl,Nat.mul_one,Nat.add_zero] at hf12_4);have e5:=a4 5 _ rfl;(try simp only [show (k34).sz=6 from rfl,Nat.mul_one,Nat.add_zero] at e5);have hf12_5:=hfr12 5;(try simp only [show (k34).sz=6 from rfl,Nat.mul_one,Nat.add_zero] at hf12_5);clear hcl12 a4 hfr12 hM12)|((with_reducible refine gate_store (t:=34) (p:=21) rfl ?_);refine store_event (t:=34) (p:=21) (v:=?vo_w13) (w1:=((((((a3.setCell ⟨go10,(a0:Int).toNat * 6,none⟩ (.bool a6)).setCell ⟨go10,(a0:Int).toNat * 6+1,none⟩ (.bool a7)).setCell ⟨go10,(a0:Int).toNat * 6+2,none⟩ (.int .i64 a8)).setCell ⟨go10,(a0:Int).toNat * 6+3,none⟩ (.int .i64 a9)).setCell ⟨go10,(a0:Int).toNat * 6+4,none⟩ (.int .i64 b0)).setCell ⟨go10,(a0:Int).toNat * 6+5,none⟩ (b4))) ?hg ?ho ?hn ?hr ?_;(case ho=>rfl);(case hg=>rfl);(case hn=>rfl);(case hr=>first|(go_simp;done)|(go_simp;rfl));intro e6 hw;have hg:a3.grownBy e6 (some go10):=(by rw [hw];exact HP12.2);have hp_:Kd.R k34 34 e6 w.heap.size (fun _=>True) (.slice (some ⟨go10,0,none⟩) a1.length d8) y534:=(by rw [hw,Ny534.out];exact HP12.1);clear HP12;have b1:=zzm (hp_);have b2:=zzm ((by rw [hw];exact zzd (zzd (zzd (zzd (zzd (zzd (HB.out) GB10.out) GB10.out) GB10.out) GB10.out) GB10.out) GB10.out:Below w.heap.size w e6));clear a2 HB d1;have a2:=b1;have HB:=b2;clear b1 b2 hg hw hp_));go_roundg k1
        case measure=>have:=HK1.out;omega
        case rel=>exact ⟨(y534),(wrap64 (a0+1)),(by first|rfl|(simp;done)|(simp [*];done)),H',⟨by have:=HK1.out;omega⟩,⟨by (with_reducible repeat (first|apply Kd.R_alloc|apply Kd.R_drewN|apply Kd.R_drew));exact a2.out⟩,⟨zzh1⟩⟩
       ·
        rw [if_neg c9] at H;exact absurd H (by simp)
      ·
       rw [if_neg c7] at H;exact absurd H (by simp)
     ·
      rw [if_neg c6] at H;have g8:decide (a0 < (l0.length:Int))=false:=decide_eq_false c6;clear c6;obtain rfl:=Option.some.inj H;go_wp2;go_ret;exact ⟨_,zzR,by (with_reducible repeat (first|apply Kd.R_alloc|apply Kd.R_drewN|apply Kd.R_drew));exact a2.out,zzh1⟩
  ·
   rw [if_neg c3] at H;exact absurd H (by simp)
 ·
  rw [if_neg c2] at H;exact absurd H (by simp)

set_option linter.unusedVariables false
set_option linter.unusedSimpArgs false
def Qv.l0:Nat→List Int→List Int→Int→Option (Bool)
 | 0,_,_,_=>none
 | k+1,x0,x1,x5=>if x5 < (x0.length:Int) then (if 0≤x5 then (if x5 < (x1.length:Int) then (if (rd x0 x5)=(rd x1 x5) then (Qv.l0 k x0 x1 (wrap64 (x5+1))) else (some false)) else (none)) else (none)) else (some true)
def Qv.f (k:Nat) (l0:List Int) (l1:List Int):Option (Bool):=if (l0.length:Int)=(l1.length:Int) then (Qv.l0 k l0 l1 0) else (some false)
set_option maxHeartbeats 8000000 in
theorem Qv.calls (k:Nat) (A0:Option Addr) (c0:Nat) (l0:List Int) (A1:Option Addr) (c1:Nat) (l1:List Int) (r:Bool) (w:World) (b4:Kd.C (Kd.int .i64) w A0 l0.length l0) (b5:l0.length≤c0) (b6:Kd.C (Kd.int .i64) w A1 l1.length l1) (b7:l1.length≤c1) (h:Qv.f k l0 l1=some r) :
  Calls Try.prog 82 #[.slice A0 l0.length c0,.slice A1 l1.length c1] w fun e w'=>e = .returned (.bool r)∧Drawn0 w w':=by
 have b8:=zzm b4;have d2:=zzm b5;clear b4 b5;have b9:=zzm b6;have d3:=zzm b7;clear b6 b7;have H:(if (l0.length:Int)=(l1.length:Int) then (Qv.l0 k l0 l1 0) else (some false))=some r:=h;clear h;by_cases c3:(l0.length:Int)=(l1.length:Int)
 ·
  rw [if_pos c3] at H;obtain ⟨a9,b0⟩:=zzQ c3;have b1:(l0.length==l1.length)=true:=by first|simpa using c3|(simp at c3 ⊢;omega)
  clear c3;have H':=zzm H;clear H;go_enter Try.func82,Try.ntmps82;go_wp2;repeat (go_quiet (fail);try go_wp2)
  go_loopg [5] k (fun kq v5 w'=>∃ (a0:Int),v5 = .int .i64 a0∧Aside0 (Qv.l0 kq l0 l1 a0=some r)∧Aside0 (kq≤k)∧Drawn0 w w')
  case atStart=>exact ⟨(0),(by first|rfl|(simp;done)|(simp [*];done)),H',⟨Nat.le_refl _⟩,by repeat (first|exact Drawn0.refl _|apply Drawn0.step)⟩
  case round=>
   clear H';try clear c1
   try clear p2
   try clear c3
   try clear a9
   try clear b0
   try clear b1
   obtain ⟨a0,rfl,HA,HK1,⟨m1,rfl⟩⟩:=hrel;cases gk with
   | zero=>exact absurd HA.out (by simp [Qv.l0])
   | succ k1=>
    have H:=HA.out;clear HA;simp only [Qv.l0] at H;by_cases c4:a0 < (l0.length:Int)
    ·
     rw [if_pos c4] at H;have c2:decide (a0 < (l0.length:Int))=true:=decide_eq_true c4;clear c4;by_cases c5 : 0≤a0
     ·
      rw [if_pos c5] at H;have d0:decide (0≤a0)=true:=decide_eq_true c5;clear c5;by_cases c6:a0 < (l1.length:Int)
      ·
       rw [if_pos c6] at H;have d1:decide (a0 < (l1.length:Int))=true:=decide_eq_true c6;clear c6;by_cases c7:(rd l0 a0)=(rd l1 a0)
       ·
        rw [if_pos c7] at H;obtain ⟨c8,c9⟩:=zzQ c7;clear c7;have H':=zzm H;clear H;have a1 : 0≤(a0:Int):=zzt;have a2:a0 < (l0.length:Int):=zzt;obtain ⟨b2,a5,a7⟩:=Kd.at_int b8.out a0 a1 a2;cases a5;replace a1:=eq_true a1;replace a2:=eq_true a2;have a3 : 0≤(a0:Int):=zzt;have a4:a0 < (l1.length:Int):=zzt;obtain ⟨b3,a6,a8⟩:=Kd.at_int b9.out a0 a3 a4;cases a6;replace a3:=eq_true a3;replace a4:=eq_true a4;go_wp2;repeat (go_quiet (fail);try go_wp2)
        go_roundg k1
        case measure=>have:=HK1.out;omega
        case rel=>exact ⟨(wrap64 (a0+1)),(by first|rfl|(simp;done)|(simp [*];done)),H',⟨by have:=HK1.out;omega⟩,by repeat (first|exact Drawn0.refl _|apply Drawn0.step)⟩
       ·
        rw [if_neg c7] at H;obtain ⟨c8,c9⟩:=zzY c7;obtain rfl:=Option.some.inj H;have a1 : 0≤(a0:Int):=zzt;have a2:a0 < (l0.length:Int):=zzt;obtain ⟨b2,a5,a7⟩:=Kd.at_int b8.out a0 a1 a2;cases a5;replace a1:=eq_true a1;replace a2:=eq_true a2;have a3 : 0≤(a0:Int):=zzt;have a4:a0 < (l1.length:Int):=zzt;obtain ⟨b3,a6,a8⟩:=Kd.at_int b9.out a0 a3 a4;cases a6;replace a3:=eq_true a3;replace a4:=eq_true a4;go_wp2;repeat (go_quiet (fail);try go_wp2)
        go_ret;exact ⟨by first|rfl|(simp;done)|(simp [*];done),by repeat (first|exact Drawn0.refl _|apply Drawn0.step)⟩
      ·
       rw [if_neg c6] at H;exact absurd H (by simp)
     ·
      rw [if_neg c5] at H;exact absurd H (by simp)
    ·
     rw [if_neg c4] at H;have c2:decide (a0 < (l0.length:Int))=false:=decide_eq_false c4;clear c4;obtain rfl:=Option.some.inj H;go_wp2;repeat (go_quiet (fail);try go_wp2)
     go_ret;exact ⟨by first|rfl|(simp;done)|(simp [*];done),by repeat (first|exact Drawn0.refl _|apply Drawn0.step)⟩
 ·
  rw [if_neg c3] at H;obtain ⟨a9,b0⟩:=zzY c3;have b1:(l0.length==l1.length)=false:=by first|simpa using c3|(simp at c3 ⊢;omega)
  obtain rfl:=Option.some.inj H;go_enter Try.func82,Try.ntmps82;go_wp2;repeat (go_quiet (fail);try go_wp2)
  go_ret;exact ⟨by first|rfl|(simp;done)|(simp [*];done),by repeat (first|exact Drawn0.refl _|apply Drawn0.step)⟩

set_option linter.unusedVariables false
set_option linter.unusedSimpArgs false
def Rn.f (k:Nat) (a0_0:Int) (a0_1:Int) (a0_2:Bool) (l0_3:List Int) (a0_4:Bool) (l0_5:List Int) (a1_0:Int) (a1_1:Int) (a1_2:Bool) (l1_3:List Int) (a1_4:Bool) (l1_5:List Int):Option (Bool):=if a0_0=a1_0 then (if a0_1=a1_1 then (if (a0_2 != a1_2)=true then (some false) else ((Qv.f k l0_3 l1_3).bind fun t539=>(if t539=true then (if (a0_4 != a1_4)=true then (some false) else ((Qv.f k l0_5 l1_5).bind fun t540=>(if t540=true then (some true) else (some false)))) else (some false)))) else (some false)) else (some false)
set_option maxHeartbeats 8000000 in
theorem Rn.calls (k:Nat) (a9:Int) (b0:Int) (a4:Bool) (a7:Option Addr) (a8:Nat) (a3:List Int) (a5:Bool) (b1:Option Addr) (b2:Nat) (a6:List Int) (d2:Int) (d3:Int) (c0:Bool) (d0:Option Addr) (d1:Nat) (b9:List Int) (c1:Bool) (d4:Option Addr) (d5:Nat) (c2:List Int) (r:Bool) (w:World) (e7:Kd.C (Kd.int .i64) w a7 a3.length a3) (e8:a3.length≤a8) (e9:Kd.C (Kd.int .i64) w b1 a6.length a6) (g0:a6.length≤b2) (g1:Kd.C (Kd.int .i64) w d0 b9.length b9) (g2:b9.length≤d1) (g3:Kd.C (Kd.int .i64) w d4 c2.length c2) (g4:c2.length≤d5) (h:Rn.f k a9 b0 a4 a3 a5 a6 d2 d3 c0 b9 c1 c2=some r) :
  Calls Try.prog 62 #[.agg #[.int .i64 a9,.int .i64 b0,.bool a4,.slice a7 a3.length a8,.bool a5,.slice b1 a6.length b2],.agg #[.int .i64 d2,.int .i64 d3,.bool c0,.slice d0 b9.length d1,.bool c1,.slice d4 c2.length d5]] w fun e w'=>e = .returned (.bool r)∧Below w.heap.size w w':=by
 have hu30:=Try.underlying30;have e1:=zzm e7;have e2:=zzm e8;clear e7 e8;have g5:=zzm e9;have g6:=zzm g0;clear e9 g0;have e3:=zzm g1;have e4:=zzm g2;clear g1 g2;have g7:=zzm g3;have g8:=zzm g4;clear g3 g4;have HB:=zzm (Below.refl w.heap.size w);have H:(if a9=d2 then (if b0=d3 then (if (a4 != c0)=true then (some false) else ((Qv.f k a3 b9).bind fun e5=>(if e5=true then (if (a5 != c1)=true then (some false) else ((Qv.f k a6 c2).bind fun e6=>(if e6=true then (some true) else (some false)))) else (some false)))) else (some false)) else (some false))=some r:=h;clear h;by_cases c3:a9=d2
 ·
  rw [if_pos c3] at H;obtain ⟨h6,h7⟩:=zzQ c3;clear c3;by_cases c4:b0=d3
  ·
   rw [if_pos c4] at H;obtain ⟨h8,h9⟩:=zzQ c4;clear c4;by_cases c5:(a4 != c0)=true
   ·
    rw [if_pos c5] at H;have j2:(a4 != c0)=true:=c5
    (try (have j3:decide (a4=c0)=false:=by simpa using c5))
    (try (have j4:(a4==c0)=false:=by simpa using c5))
    (try (have D2:¬ (a4=c0):=by simpa using c5));clear c5;obtain rfl:=Option.some.inj H;go_enter Try.func62,Try.ntmps62;go_wp2_with (first|((with_reducible refine gate_dst (N:=2) rfl ?_);refine box_event ?hg (N:=2) ?hd (cs:=#[.int .i64 a9,.int .i64 b0,.bool a4,.slice a7 a3.length a8,.bool a5,.slice b1 a6.length b2]) (t:=30) ?hr ?_;(case hd=>rfl);(case hg=>rfl);(case hr=>first|(go_simp;done)|(go_simp;rfl));intro a0 hg w6 hbox hb;have b3:=zzm (zzp zzh1 hb);have b4:=zzm (hbox);have b5:=zzm ((by rw [hg];exact (zzo zzh1):w.heap.size≤a0));have b6:=zzm ((by rw [hg];exact (zzo zzh1):w.heap.size≤a0));clear HB;have HB:=b3;have a1:=b4;have d7:=b5;have d8:=b6;clear b3 b4 b5 b6 hb hbox hg)|((with_reducible refine gate_dst (N:=3) rfl ?_);refine box_event ?hg (N:=3) ?hd (cs:=#[.int .i64 d2,.int .i64 d3,.bool c0,.slice d0 b9.length d1,.bool c1,.slice d4 c2.length d5]) (t:=30) ?hr ?_;(case hd=>rfl);(case hg=>rfl);(case hr=>first|(go_simp;done)|(go_simp;rfl));intro a2 hg w7 hbox hb;have b3:=zzm (zzh (g:=a0) (o:=.cells #[.int .i64 a9,.int .i64 b0,.bool a4,.slice a7 a3.length a8,.bool a5,.slice b1 a6.length b2] 30 (0,0)) (zzE a1.out) hb);have b4:=zzm (zzp zzh2 hb);have b5:=zzm (hbox);have b6:=zzm ((by rw [hg];exact (zzo zzh2):w.heap.size≤a2));have c7:=zzm ((by rw [hg];exact (zzo zzh2):w.heap.size≤a2));have c8:=zzm ((by rw [hg];exact Nat.ne_of_lt (blk_lt (g:=a0) (o:=.cells #[.int .i64 a9,.int .i64 b0,.bool a4,.slice a7 a3.length a8,.bool a5,.slice b1 a6.length b2] 30 (0,0)) (zzE a1.out)):a0≠a2));have c9:=zzm ((by rw [hg];exact Nat.ne_of_gt (blk_lt (g:=a0) (o:=.cells #[.int .i64 a9,.int .i64 b0,.bool a4,.slice a7 a3.length a8,.bool a5,.slice b1 a6.length b2] 30 (0,0)) (zzE a1.out)):a2≠a0));clear a1 HB;have a1:=b3;have HB:=b4;have c6:=b5;have d9:=b6;have e0:=c7;have b7:=c8;have b8:=c9;clear b3 b4 b5 b6 c7 c8 c9 hb hbox hg;have D3:=b7.out;have D4:=b8.out;obtain ⟨A5,A6,A7,A8,A9,B0,B1,B2,B3,B5,B7,B8⟩:=zzc6 a1.out;obtain ⟨j5,j6,j7,j8,j9,k0,k1,k2,k3,k4,k5,k6⟩:=zzc6 c6.out));go_ret;exact ⟨zzR,zzh3⟩
   ·
    rw [if_neg c5] at H;have j2:(a4 != c0)=false:=by simpa using c5
    (try (have j3:decide (a4=c0)=true:=by simpa using c5))
    (try (have j4:(a4==c0)=true:=by simpa using c5));clear c5;obtain ⟨e5,g9,H⟩:=zzG H;by_cases h0:e5=true
    ·
     subst h0;replace H:=zzIt H;by_cases d6:(a5 != c1)=true
     ·
      rw [if_pos d6] at H;have h2:(a5 != c1)=true:=d6
      (try (have h3:decide (a5=c1)=false:=by simpa using d6))
      (try (have h4:(a5==c1)=false:=by simpa using d6))
      (try (have B9:¬ (a5=c1):=by simpa using d6));clear d6;obtain rfl:=Option.some.inj H;go_enter Try.func62,Try.ntmps62;go_wp2_with (first|((with_reducible refine gate_dst (N:=2) rfl ?_);refine box_event ?hg (N:=2) ?hd (cs:=#[.int .i64 a9,.int .i64 b0,.bool a4,.slice a7 a3.length a8,.bool a5,.slice b1 a6.length b2]) (t:=30) ?hr ?_;(case hd=>rfl);(case hg=>rfl);(case hr=>first|(go_simp;done)|(go_simp;rfl));intro a0 hg D5 hbox hb;have b3:=zzm (zzp zzh1 hb);have b4:=zzm (hbox);have b5:=zzm ((by rw [hg];exact (zzo zzh1):w.heap.size≤a0));have b6:=zzm ((by rw [hg];exact (zzo zzh1):w.heap.size≤a0));clear HB;have HB:=b3;have a1:=b4;have d7:=b5;have d8:=b6;clear b3 b4 b5 b6 hb hbox hg)|((with_reducible refine gate_dst (N:=3) rfl ?_);refine box_event ?hg (N:=3) ?hd (cs:=#[.int .i64 d2,.int .i64 d3,.bool c0,.slice d0 b9.length d1,.bool c1,.slice d4 c2.length d5]) (t:=30) ?hr ?_;(case hd=>rfl);(case hg=>rfl);(case hr=>first|(go_simp;done)|(go_simp;rfl));intro a2 hg D6 hbox hb;have b3:=zzm (zzh (g:=a0) (o:=.cells #[.int .i64 a9,.int .i64 b0,.bool a4,.slice a7 a3.length a8,.bool a5,.slice b1 a6.length b2] 30 (0,0)) (zzE a1.out) hb);have b4:=zzm (zzp zzh2 hb);have b5:=zzm (hbox);have b6:=zzm ((by rw [hg];exact (zzo zzh2):w.heap.size≤a2));have c7:=zzm ((by rw [hg];exact (zzo zzh2):w.heap.size≤a2));have c8:=zzm ((by rw [hg];exact Nat.ne_of_lt (blk_lt (g:=a0) (o:=.cells #[.int .i64 a9,.int .i64 b0,.bool a4,.slice a7 a3.length a8,.bool a5,.slice b1 a6.length b2] 30 (0,0)) (zzE a1.out)):a0≠a2));have c9:=zzm ((by rw [hg];exact Nat.ne_of_gt (blk_lt (g:=a0) (o:=.cells #[.int .i64 a9,.int .i64 b0,.bool a4,.slice a7 a3.length a8,.bool a5,.slice b1 a6.length b2] 30 (0,0)) (zzE a1.out)):a2≠a0));clear a1 HB;have a1:=b3;have HB:=b4;have c6:=b5;have d9:=b6;have e0:=c7;have b7:=c8;have b8:=c9;clear b3 b4 b5 b6 c7 c8 c9 hb hbox hg;have C0:=b7.out;have C1:=b8.out;obtain ⟨k7,k8,k9,l2,l3,l4,l5,l6,l7,l8,l9,m0⟩:=zzc6 a1.out;obtain ⟨m1,m2,m3,m4,m5,m6,m7,m8,m9,n0,n1,n2⟩:=zzc6 c6.out)|((with_reducible refine gate_callee (f:=82) rfl ?_);refine goesL_ (some 24) rfl rfl Try.func82 (by kernel_rfl) rfl #[.slice a7 a3.length a8,.slice d0 b9.length d1] rfl zzM2 ?_;(with_reducible refine (Qv.calls k _ _ a3 _ _ b9 true _ ?side1 ?side2 ?side3 ?side4 g9.out).mono ?_);(case side1=>exact zzcb e1 HB);(case side2=>exact e2.out);(case side3=>exact zzcb e3 HB);(case side4=>exact e4.out);rintro e w' ⟨rfl,⟨nd,rfl⟩⟩;refine ⟨_,rfl,?_⟩));go_ret;exact ⟨zzR,zzh3⟩
     ·
      rw [if_neg d6] at H;have h2:(a5 != c1)=false:=by simpa using d6
      (try (have h3:decide (a5=c1)=true:=by simpa using d6))
      (try (have h4:(a5==c1)=true:=by simpa using d6));clear d6;obtain ⟨e6,h5,H⟩:=zzG H;by_cases h1:e6=true
      ·
       subst h1;replace H:=zzIt H;obtain rfl:=Option.some.inj H;go_enter Try.func62,Try.ntmps62;go_wp2_with (first|((with_reducible refine gate_dst (N:=2) rfl ?_);refine box_event ?hg (N:=2) ?hd (cs:=#[.int .i64 a9,.int .i64 b0,.bool a4,.slice a7 a3.length a8,.bool a5,.slice b1 a6.length b2]) (t:=30) ?hr ?_;(case hd=>rfl);(case hg=>rfl);(case hr=>first|(go_simp;done)|(go_simp;rfl));intro a0 hg D7 hbox hb;have b3:=zzm (zzp zzh1 hb);have b4:=zzm (hbox);have b5:=zzm ((by rw [hg];exact (zzo zzh1):w.heap.size≤a0));have b6:=zzm ((by rw [hg];exact (zzo zzh1):w.heap.size≤a0));clear HB;have HB:=b3;have a1:=b4;have d7:=b5;have d8:=b6;clear b3 b4 b5 b6 hb hbox hg)|((with_reducible refine gate_dst (N:=3) rfl ?_);refine box_event ?hg (N:=3) ?hd (cs:=#[.int .i64 d2,.int .i64 d3,.bool c0,.slice d0 b9.length d1,.bool c1,.slice d4 c2.length d5]) (t:=30) ?hr ?_;(case hd=>rfl);(case hg=>rfl);(case hr=>first|(go_simp;done)|(go_simp;rfl));intro a2 hg D8 hbox hb;have b3:=zzm (zzh (g:=a0) (o:=.cells #[.int .i64 a9,.int .i64 b0,.bool a4,.slice a7 a3.length a8,.bool a5,.slice b1 a6.length b2] 30 (0,0)) (zzE a1.out) hb);have b4:=zzm (zzp zzh2 hb);have b5:=zzm (hbox);have b6:=zzm ((by rw [hg];exact (zzo zzh2):w.heap.size≤a2));have c7:=zzm ((by rw [hg];exact (zzo zzh2):w.heap.size≤a2));have c8:=zzm ((by rw [hg];exact Nat.ne_of_lt (blk_lt (g:=a0) (o:=.cells #[.int .i64 a9,.int .i64 b0,.bool a4,.slice a7 a3.length a8,.bool a5,.slice b1 a6.length b2] 30 (0,0)) (zzE a1.out)):a0≠a2));have c9:=zzm ((by rw [hg];exact Nat.ne_of_gt (blk_lt (g:=a0) (o:=.cells #[.int .i64 a9,.int .i64 b0,.bool a4,.slice a7 a3.length a8,.bool a5,.slice b1 a6.length b2] 30 (0,0)) (zzE a1.out)):a2≠a0));clear a1 HB;have a1:=b3;have HB:=b4;have c6:=b5;have d9:=b6;have e0:=c7;have b7:=c8;have b8:=c9;clear b3 b4 b5 b6 c7 c8 c9 hb hbox hg;have C2:=b7.out;have C3:=b8.out;obtain ⟨n3,n4,n5,n6,n7,n8,n9,o0,o1,o2,o3,o4⟩:=zzc6 a1.out;obtain ⟨o5,o6,o7,o8,o9,p0,p1,p2,p3,p4,p5,p6⟩:=zzc6 c6.out)|((with_reducible refine gate_callee (f:=82) rfl ?_);refine goesL_ (some 24) rfl rfl Try.func82 (by kernel_rfl) rfl #[.slice a7 a3.length a8,.slice d0 b9.length d1] rfl zzM2 ?_;(with_reducible refine (Qv.calls k _ _ a3 _ _ b9 true _ ?side1 ?side2 ?side3 ?side4 g9.out).mono ?_);(case side1=>exact zzcb e1 HB);(case side2=>exact e2.out);(case side3=>exact zzcb e3 HB);(case side4=>exact e4.out);rintro e w' ⟨rfl,⟨nd,rfl⟩⟩;refine ⟨_,rfl,?_⟩)|((with_reducible refine gate_callee (f:=82) rfl ?_);refine goesL_ (some 35) rfl rfl Try.func82 (by kernel_rfl) rfl #[.slice b1 a6.length b2,.slice d4 c2.length d5] rfl zzM2 ?_;(with_reducible refine (Qv.calls k _ _ a6 _ _ c2 true _ ?side1 ?side2 ?side3 ?side4 h5.out).mono ?_);(case side1=>repeat (first|exact (Kd.C_below g5.out zzh2)|(with_reducible refine Kd.C_alloc ?_ _)|(with_reducible refine Kd.C_drewN ?_ _)|(with_reducible refine Kd.C_drew ?_)));(case side2=>exact g6.out);(case side3=>repeat (first|exact (Kd.C_below g7.out zzh2)|(with_reducible refine Kd.C_alloc ?_ _)|(with_reducible refine Kd.C_drewN ?_ _)|(with_reducible refine Kd.C_drew ?_)));(case side4=>exact g8.out);rintro e w' ⟨rfl,⟨nd,rfl⟩⟩;refine ⟨_,rfl,?_⟩));go_ret;exact ⟨zzR,zzh3⟩
      ·
       replace h1:=Bool.eq_false_iff.mpr h1;subst h1;replace H:=zzIf H;obtain rfl:=Option.some.inj H;go_enter Try.func62,Try.ntmps62;go_wp2_with (first|((with_reducible refine gate_dst (N:=2) rfl ?_);refine box_event ?hg (N:=2) ?hd (cs:=#[.int .i64 a9,.int .i64 b0,.bool a4,.slice a7 a3.length a8,.bool a5,.slice b1 a6.length b2]) (t:=30) ?hr ?_;(case hd=>rfl);(case hg=>rfl);(case hr=>first|(go_simp;done)|(go_simp;rfl));intro a0 hg D9 hbox hb;have b3:=zzm (zzp zzh1 hb);have b4:=zzm (hbox);have b5:=zzm ((by rw [hg];exact (zzo zzh1):w.heap.size≤a0));have b6:=zzm ((by rw [hg];exact (zzo zzh1):w.heap.size≤a0));clear HB;have HB:=b3;have a1:=b4;have d7:=b5;have d8:=b6;clear b3 b4 b5 b6 hb hbox hg)|((with_reducible refine gate_dst (N:=3) rfl ?_);refine box_event ?hg (N:=3) ?hd (cs:=#[.int .i64 d2,.int .i64 d3,.bool c0,.slice d0 b9.length d1,.bool c1,.slice d4 c2.length d5]) (t:=30) ?hr ?_;(case hd=>rfl);(case hg=>rfl);(case hr=>first|(go_simp;done)|(go_simp;rfl));intro a2 hg E0 hbox hb;have b3:=zzm (zzh (g:=a0) (o:=.cells #[.int .i64 a9,.int .i64 b0,.bool a4,.slice a7 a3.length a8,.bool a5,.slice b1 a6.length b2] 30 (0,0)) (zzE a1.out) hb);have b4:=zzm (zzp zzh2 hb);have b5:=zzm (hbox);have b6:=zzm ((by rw [hg];exact (zzo zzh2):w.heap.size≤a2));have c7:=zzm ((by rw [hg];exact (zzo zzh2):w.heap.size≤a2));have c8:=zzm ((by rw [hg];exact Nat.ne_of_lt (blk_lt (g:=a0) (o:=.cells #[.int .i64 a9,.int .i64 b0,.bool a4,.slice a7 a3.length a8,.bool a5,.slice b1 a6.length b2] 30 (0,0)) (zzE a1.out)):a0≠a2));have c9:=zzm ((by rw [hg];exact Nat.ne_of_gt (blk_lt (g:=a0) (o:=.cells #[.int .i64 a9,.int .i64 b0,.bool a4,.slice a7 a3.length a8,.bool a5,.slice b1 a6.length b2] 30 (0,0)) (zzE a1.out)):a2≠a0));clear a1 HB;have a1:=b3;have HB:=b4;have c6:=b5;have d9:=b6;have e0:=c7;have b7:=c8;have b8:=c9;clear b3 b4 b5 b6 c7 c8 c9 hb hbox hg;have C4:=b7.out;have C5:=b8.out;obtain ⟨p7,p8,p9,q0,q1,q2,q3,q4,q5,q6,q7,q8⟩:=zzc6 a1.out;obtain ⟨q9,r0,r1,r2,r3,r4,r5,r6,r7,r8,r9,s0⟩:=zzc6 c6.out)|((with_reducible refine gate_callee (f:=82) rfl ?_);refine goesL_ (some 24) rfl rfl Try.func82 (by kernel_rfl) rfl #[.slice a7 a3.length a8,.slice d0 b9.length d1] rfl zzM2 ?_;(with_reducible refine (Qv.calls k _ _ a3 _ _ b9 true _ ?side1 ?side2 ?side3 ?side4 g9.out).mono ?_);(case side1=>exact zzcb e1 HB);(case side2=>exact e2.out);(case side3=>exact zzcb e3 HB);(case side4=>exact e4.out);rintro e w' ⟨rfl,⟨nd,rfl⟩⟩;refine ⟨_,rfl,?_⟩)|((with_reducible refine gate_callee (f:=82) rfl ?_);refine goesL_ (some 35) rfl rfl Try.func82 (by kernel_rfl) rfl #[.slice b1 a6.length b2,.slice d4 c2.length d5] rfl zzM2 ?_;(with_reducible refine (Qv.calls k _ _ a6 _ _ c2 false _ ?side1 ?side2 ?side3 ?side4 h5.out).mono ?_);(case side1=>repeat (first|exact (Kd.C_below g5.out zzh2)|(with_reducible refine Kd.C_alloc ?_ _)|(with_reducible refine Kd.C_drewN ?_ _)|(with_reducible refine Kd.C_drew ?_)));(case side2=>exact g6.out);(case side3=>repeat (first|exact (Kd.C_below g7.out zzh2)|(with_reducible refine Kd.C_alloc ?_ _)|(with_reducible refine Kd.C_drewN ?_ _)|(with_reducible refine Kd.C_drew ?_)));(case side4=>exact g8.out);rintro e w' ⟨rfl,⟨nd,rfl⟩⟩;refine ⟨_,rfl,?_⟩));go_ret;exact ⟨zzR,zzh3⟩
    ·
     replace h0:=Bool.eq_false_iff.mpr h0;subst h0;replace H:=zzIf H;obtain rfl:=Option.some.inj H;go_enter Try.func62,Try.ntmps62;go_wp2_with (first|((with_reducible refine gate_dst (N:=2) rfl ?_);refine box_event ?hg (N:=2) ?hd (cs:=#[.int .i64 a9,.int .i64 b0,.bool a4,.slice a7 a3.length a8,.bool a5,.slice b1 a6.length b2]) (t:=30) ?hr ?_;(case hd=>rfl);(case hg=>rfl);(case hr=>first|(go_simp;done)|(go_simp;rfl));intro a0 hg E1 hbox hb;have b3:=zzm (zzp zzh1 hb);have b4:=zzm (hbox);have b5:=zzm ((by rw [hg];exact (zzo zzh1):w.heap.size≤a0));have b6:=zzm ((by rw [hg];exact (zzo zzh1):w.heap.size≤a0));clear HB;have HB:=b3;have a1:=b4;have d7:=b5;have d8:=b6;clear b3 b4 b5 b6 hb hbox hg)|((with_reducible refine gate_dst (N:=3) rfl ?_);refine box_event ?hg (N:=3) ?hd (cs:=#[.int .i64 d2,.int .i64 d3,.bool c0,.slice d0 b9.length d1,.bool c1,.slice d4 c2.length d5]) (t:=30) ?hr ?_;(case hd=>rfl);(case hg=>rfl);(case hr=>first|(go_simp;done)|(go_simp;rfl));intro a2 hg E2 hbox hb;have b3:=zzm (zzh (g:=a0) (o:=.cells #[.int .i64 a9,.int .i64 b0,.bool a4,.slice a7 a3.length a8,.bool a5,.slice b1 a6.length b2] 30 (0,0)) (zzE a1.out) hb);have b4:=zzm (zzp zzh2 hb);have b5:=zzm (hbox);have b6:=zzm ((by rw [hg];exact (zzo zzh2):w.heap.size≤a2));have c7:=zzm ((by rw [hg];exact (zzo zzh2):w.heap.size≤a2));have c8:=zzm ((by rw [hg];exact Nat.ne_of_lt (blk_lt (g:=a0) (o:=.cells #[.int .i64 a9,.int .i64 b0,.bool a4,.slice a7 a3.length a8,.bool a5,.slice b1 a6.length b2] 30 (0,0)) (zzE a1.out)):a0≠a2));have c9:=zzm ((by rw [hg];exact Nat.ne_of_gt (blk_lt (g:=a0) (o:=.cells #[.int .i64 a9,.int .i64 b0,.bool a4,.slice a7 a3.length a8,.bool a5,.slice b1 a6.length b2] 30 (0,0)) (zzE a1.out)):a2≠a0));clear a1 HB;have a1:=b3;have HB:=b4;have c6:=b5;have d9:=b6;have e0:=c7;have b7:=c8;have b8:=c9;clear b3 b4 b5 b6 c7 c8 c9 hb hbox hg;have C6:=b7.out;have C7:=b8.out;obtain ⟨s1,s2,s3,s4,s5,s6,s7,s8,s9,t0,t1,t2⟩:=zzc6 a1.out;obtain ⟨t3,t4,t5,t6,t7,t8,t9,v0,v1,v2,v3,v4⟩:=zzc6 c6.out)|((with_reducible refine gate_callee (f:=82) rfl ?_);refine goesL_ (some 24) rfl rfl Try.func82 (by kernel_rfl) rfl #[.slice a7 a3.length a8,.slice d0 b9.length d1] rfl zzM2 ?_;(with_reducible refine (Qv.calls k _ _ a3 _ _ b9 false _ ?side1 ?side2 ?side3 ?side4 g9.out).mono ?_);(case side1=>exact zzcb e1 HB);(case side2=>exact e2.out);(case side3=>exact zzcb e3 HB);(case side4=>exact e4.out);rintro e w' ⟨rfl,⟨nd,rfl⟩⟩;refine ⟨_,rfl,?_⟩));go_ret;exact ⟨zzR,zzh3⟩
  ·
   rw [if_neg c4] at H;obtain ⟨h8,h9⟩:=zzY c4;obtain rfl:=Option.some.inj H;go_enter Try.func62,Try.ntmps62;go_wp2_with (first|((with_reducible refine gate_dst (N:=2) rfl ?_);refine box_event ?hg (N:=2) ?hd (cs:=#[.int .i64 a9,.int .i64 b0,.bool a4,.slice a7 a3.length a8,.bool a5,.slice b1 a6.length b2]) (t:=30) ?hr ?_;(case hd=>rfl);(case hg=>rfl);(case hr=>first|(go_simp;done)|(go_simp;rfl));intro a0 hg E3 hbox hb;have b3:=zzm (zzp zzh1 hb);have b4:=zzm (hbox);have b5:=zzm ((by rw [hg];exact (zzo zzh1):w.heap.size≤a0));have b6:=zzm ((by rw [hg];exact (zzo zzh1):w.heap.size≤a0));clear HB;have HB:=b3;have a1:=b4;have d7:=b5;have d8:=b6;clear b3 b4 b5 b6 hb hbox hg)|((with_reducible refine gate_dst (N:=3) rfl ?_);refine box_event ?hg (N:=3) ?hd (cs:=#[.int .i64 d2,.int .i64 d3,.bool c0,.slice d0 b9.length d1,.bool c1,.slice d4 c2.length d5]) (t:=30) ?hr ?_;(case hd=>rfl);(case hg=>rfl);(case hr=>first|(go_simp;done)|(go_simp;rfl));intro a2 hg E4 hbox hb;have b3:=zzm (zzh (g:=a0) (o:=.cells #[.int .i64 a9,.int .i64 b0,.bool a4,.slice a7 a3.length a8,.bool a5,.slice b1 a6.length b2] 30 (0,0)) (zzE a1.out) hb);have b4:=zzm (zzp zzh2 hb);have b5:=zzm (hbox);have b6:=zzm ((by rw [hg];exact (zzo zzh2):w.heap.size≤a2));have c7:=zzm ((by rw [hg];exact (zzo zzh2):w.heap.size≤a2));have c8:=zzm ((by rw [hg];exact Nat.ne_of_lt (blk_lt (g:=a0) (o:=.cells #[.int .i64 a9,.int .i64 b0,.bool a4,.slice a7 a3.length a8,.bool a5,.slice b1 a6.length b2] 30 (0,0)) (zzE a1.out)):a0≠a2));have c9:=zzm ((by rw [hg];exact Nat.ne_of_gt (blk_lt (g:=a0) (o:=.cells #[.int .i64 a9,.int .i64 b0,.bool a4,.slice a7 a3.length a8,.bool a5,.slice b1 a6.length b2] 30 (0,0)) (zzE a1.out)):a2≠a0));clear a1 HB;have a1:=b3;have HB:=b4;have c6:=b5;have d9:=b6;have e0:=c7;have b7:=c8;have b8:=c9;clear b3 b4 b5 b6 c7 c8 c9 hb hbox hg;have C8:=b7.out;have C9:=b8.out;obtain ⟨v5,v6,v7,v8,v9,w0,w1,w2,w3,w4,w5,w8⟩:=zzc6 a1.out;obtain ⟨w9,x0,x1,x2,x3,x4,x5,x6,x7,x8,x9,y0⟩:=zzc6 c6.out));go_ret;exact ⟨zzR,zzh3⟩
 ·
  rw [if_neg c3] at H;obtain ⟨h6,h7⟩:=zzY c3;obtain rfl:=Option.some.inj H;go_enter Try.func62,Try.ntmps62;go_wp2_with (first|((with_reducible refine gate_dst (N:=2) rfl ?_);refine box_event ?hg (N:=2) ?hd (cs:=#[.int .i64 a9,.int .i64 b0,.bool a4,.slice a7 a3.length a8,.bool a5,.slice b1 a6.length b2]) (t:=30) ?hr ?_;(case hd=>rfl);(case hg=>rfl);(case hr=>first|(go_simp;done)|(go_simp;rfl));intro a0 hg E5 hbox hb;have b3:=zzm (zzp zzh1 hb);have b4:=zzm (hbox);have b5:=zzm ((by rw [hg];exact (zzo zzh1):w.heap.size≤a0));have b6:=zzm ((by rw [hg];exact (zzo zzh1):w.heap.size≤a0));clear HB;have HB:=b3;have a1:=b4;have d7:=b5;have d8:=b6;clear b3 b4 b5 b6 hb hbox hg)|((with_reducible refine gate_dst (N:=3) rfl ?_);refine box_event ?hg (N:=3) ?hd (cs:=#[.int .i64 d2,.int .i64 d3,.bool c0,.slice d0 b9.length d1,.bool c1,.slice d4 c2.length d5]) (t:=30) ?hr ?_;(case hd=>rfl);(case hg=>rfl);(case hr=>first|(go_simp;done)|(go_simp;rfl));intro a2 hg E6 hbox hb;have b3:=zzm (zzh (g:=a0) (o:=.cells #[.int .i64 a9,.int .i64 b0,.bool a4,.slice a7 a3.length a8,.bool a5,.slice b1 a6.length b2] 30 (0,0)) (zzE a1.out) hb);have b4:=zzm (zzp zzh2 hb);have b5:=zzm (hbox);have b6:=zzm ((by rw [hg];exact (zzo zzh2):w.heap.size≤a2));have c7:=zzm ((by rw [hg];exact (zzo zzh2):w.heap.size≤a2));have c8:=zzm ((by rw [hg];exact Nat.ne_of_lt (blk_lt (g:=a0) (o:=.cells #[.int .i64 a9,.int .i64 b0,.bool a4,.slice a7 a3.length a8,.bool a5,.slice b1 a6.length b2] 30 (0,0)) (zzE a1.out)):a0≠a2));have c9:=zzm ((by rw [hg];exact Nat.ne_of_gt (blk_lt (g:=a0) (o:=.cells #[.int .i64 a9,.int .i64 b0,.bool a4,.slice a7 a3.length a8,.bool a5,.slice b1 a6.length b2] 30 (0,0)) (zzE a1.out)):a2≠a0));clear a1 HB;have a1:=b3;have HB:=b4;have c6:=b5;have d9:=b6;have e0:=c7;have b7:=c8;have b8:=c9;clear b3 b4 b5 b6 c7 c8 c9 hb hbox hg;have D0:=b7.out;have D1:=b8.out;obtain ⟨y1,y2,y3,y4,y5,y6,y7,y8,y9,z0,z1,z2⟩:=zzc6 a1.out;obtain ⟨z3,z4,z5,z6,z7,z8,z9,A0,A1,A2,A3,A4⟩:=zzc6 c6.out));go_ret;exact ⟨zzR,zzh3⟩

set_option linter.unusedVariables false
set_option linter.unusedSimpArgs false
def Qi.l0:Nat→List (S30)→List (S30)→Int→Option (Bool)
 | 0,_,_,_=>none
 | k+1,x0,x1,x5=>if x5 < (x0.length:Int) then (if 0≤x5 then (if x5 < (x1.length:Int) then ((Rn.f k ((Qb x0 x5).f0) ((Qb x0 x5).f1) ((Qb x0 x5).f2) ((Qb x0 x5).f3) ((Qb x0 x5).f4) ((Qb x0 x5).f5) ((Qb x1 x5).f0) ((Qb x1 x5).f1) ((Qb x1 x5).f2) ((Qb x1 x5).f3) ((Qb x1 x5).f4) ((Qb x1 x5).f5)).bind fun t543=>(if t543=true then (Qi.l0 k x0 x1 (wrap64 (x5+1))) else (some false))) else (none)) else (none)) else (some true)
def Qi.f (k:Nat) (l0:List (S30)) (l1:List (S30)):Option (Bool):=if (l0.length:Int)=(l1.length:Int) then (Qi.l0 k l0 l1 0) else (some false)
def Qi.T6:Bool×List (List Nat×List Nat):=(true,[([],[]),([],[]),([0,1],[0,1]),([2],[2]),([],[]),([],[]),([4,5],[4,5]),([6],[6]),([3,7],[3,7]),([8],[8])])
def Qi.B6:List Nat:=[0,0,3,7,0,0,48,112,255,511]
theorem Qi.tab6:rtab .any (opsOf Try.f33 6)=Qi.T6:=by kernel_rfl
theorem Qi.bits6:waitsOk Qi.T6.2 Qi.B6=true:=by kernel_rfl
set_option maxHeartbeats 8000000 in
theorem Qi.calls (k:Nat) (A0:Option Addr) (c0:Nat) (l0:List (S30)) (A1:Option Addr) (c1:Nat) (l1:List (S30)) (r:Bool) (w:World) (j3:Kd.C k30 w A0 l0.length l0) (j4:l0.length≤c0) (j5:Kd.C k30 w A1 l1.length l1) (j6:l1.length≤c1) (h:Qi.f k l0 l1=some r) :
  Calls Try.prog 33 #[.slice A0 l0.length c0,.slice A1 l1.length c1] w fun e w'=>e = .returned (.bool r)∧Below w.heap.size w w':=by
 have hu30:=Try.underlying30;have j7:=zzm j3;have k4:=zzm j4;clear j3 j4;have j8:=zzm j5;have k5:=zzm j6;clear j5 j6;have HB:=zzm (Below.refl w.heap.size w);have H:(if (l0.length:Int)=(l1.length:Int) then (Qi.l0 k l0 l1 0) else (some false))=some r:=h;clear h;by_cases c3:(l0.length:Int)=(l1.length:Int)
 ·
  rw [if_pos c3] at H;obtain ⟨h8,h9⟩:=zzQ c3;have j2:(l0.length==l1.length)=true:=by first|simpa using c3|(simp at c3 ⊢;omega)
  clear c3;have H':=zzm H;clear H;go_enter Try.func33,Try.ntmps33;go_wp2;go_loopg [5] k (fun kq v5 w'=>∃ (a0:Int),v5 = .int .i64 a0∧Aside0 (Qi.l0 kq l0 l1 a0=some r)∧Aside0 (kq≤k)∧Aside0 (Below w.heap.size w w'))
  case atStart=>exact ⟨(0),(by first|rfl|(simp;done)|(simp [*];done)),H',⟨Nat.le_refl _⟩,⟨zzh1⟩⟩
  case round=>
   clear H';try clear c1
   try clear p2
   try clear c3
   try clear h8
   try clear h9
   try clear j2
   obtain ⟨a0,rfl,HA,HK1,HB⟩:=hrel;cases gk with
   | zero=>exact absurd HA.out (by simp [Qi.l0])
   | succ k1=>
    have H:=HA.out;clear HA;simp only [Qi.l0] at H;by_cases c4:a0 < (l0.length:Int)
    ·
     rw [if_pos c4] at H;have j9:decide (a0 < (l0.length:Int))=true:=decide_eq_true c4;clear c4;by_cases c5 : 0≤a0
     ·
      rw [if_pos c5] at H;have k2:decide (0≤a0)=true:=decide_eq_true c5;clear c5;by_cases c6:a0 < (l1.length:Int)
      ·
       rw [if_pos c6] at H;have k3:decide (a0 < (l1.length:Int))=true:=decide_eq_true c6;clear c6;obtain ⟨k0,A7,H⟩:=zzG H;by_cases c8:k0=true
       ·
        subst c8;replace H:=zzIt H;have H':=zzm H;clear H;try go_wp2
        have e8:=zzm (zzc HB.out);clear HB;have HB:=e8;clear e8;have g7 : 0≤(a0:Int):=zzt;have g8:a0 < (l0.length:Int):=zzt;obtain ⟨a1,e9,g0,g1,g2,h6,a4,a5,a6,a7,a8,a9,b7,b8,b9,c2⟩:=Q5 j7.out a0 g7 g8;have c7:=a9;have c9:=a8;have d0:=a7;have d1:=a6;have d2:=a5;have d3:=a4;cases h6;replace a4:=zzx HB.out a4;replace a5:=zzx HB.out a5;replace a6:=zzx HB.out a6;replace a7:=zzx HB.out a7;replace a8:=zzx HB.out a8;replace a9:=zzx HB.out a9;have d4:=zzm b8;have h1:=zzm b7;clear b8 b7;have d5:=zzm c2;have h2:=zzm b9;clear c2 b9;replace g7:=eq_true g7;replace g8:=eq_true g8;have g9 : 0≤(a0:Int):=zzt;have h0:a0 < (l1.length:Int):=zzt;obtain ⟨a2,g3,g4,g5,g6,h7,b0,b1,b2,b3,b4,b5,d6,d7,d8,d9⟩:=Q5 j8.out a0 g9 h0;have e0:=b5;have e1:=b4;have e2:=b3;have e3:=b2;have e4:=b1;have e5:=b0;cases h7;replace b0:=zzx HB.out b0;replace b1:=zzx HB.out b1;replace b2:=zzx HB.out b2;replace b3:=zzx HB.out b3;replace b4:=zzx HB.out b4;replace b5:=zzx HB.out b5;have e6:=zzm d7;have h3:=zzm d6;clear d7 d6;have e7:=zzm d9;have h4:=zzm d8;clear d9 d8;replace g9:=eq_true g9;replace h0:=eq_true h0;refine start_ (n:=10) (S:=fun w'=>w'.cell? (a1.add ((a0).toNat * 6))=some (.int .i64 ((Qb l0 a0).f0))∧w'.cell? ⟨(a1.add ((a0).toNat * 6)).block,(a1.add ((a0).toNat * 6)).off+1,none⟩=some (.int .i64 ((Qb l0 a0).f1))∧w'.cell? ⟨(a1.add ((a0).toNat * 6)).block,(a1.add ((a0).toNat * 6)).off+2,none⟩=some (.bool ((Qb l0 a0).f2))∧w'.cell? ⟨(a1.add ((a0).toNat * 6)).block,(a1.add ((a0).toNat * 6)).off+3,none⟩=some (.slice e9 ((Qb l0 a0).f3).length g0)∧w'.cell? ⟨(a1.add ((a0).toNat * 6)).block,(a1.add ((a0).toNat * 6)).off+4,none⟩=some (.bool ((Qb l0 a0).f4))∧w'.cell? ⟨(a1.add ((a0).toNat * 6)).block,(a1.add ((a0).toNat * 6)).off+5,none⟩=some (.slice g1 ((Qb l0 a0).f5).length g2)∧w'.cell? (a2.add ((a0).toNat * 6))=some (.int .i64 ((Qb l1 a0).f0))∧w'.cell? ⟨(a2.add ((a0).toNat * 6)).block,(a2.add ((a0).toNat * 6)).off+1,none⟩=some (.int .i64 ((Qb l1 a0).f1))∧w'.cell? ⟨(a2.add ((a0).toNat * 6)).block,(a2.add ((a0).toNat * 6)).off+2,none⟩=some (.bool ((Qb l1 a0).f2))∧w'.cell? ⟨(a2.add ((a0).toNat * 6)).block,(a2.add ((a0).toNat * 6)).off+3,none⟩=some (.slice g3 ((Qb l1 a0).f3).length g4)∧w'.cell? ⟨(a2.add ((a0).toNat * 6)).block,(a2.add ((a0).toNat * 6)).off+4,none⟩=some (.bool ((Qb l1 a0).f4))∧w'.cell? ⟨(a2.add ((a0).toNat * 6)).block,(a2.add ((a0).toNat * 6)).off+5,none⟩=some (.slice g5 ((Qb l1 a0).f5).length g6)) (ds:=[]) (zzB 10 0) (by kernel_rfl) rfl rfl ⟨(zzx HB.out d3),(zzx HB.out d2),(zzx HB.out d1),(zzx HB.out d0),(zzx HB.out c9),(zzx HB.out c7),(zzx HB.out e5),(zzx HB.out e4),(zzx HB.out e3),(zzx HB.out e2),(zzx HB.out e1),(zzx HB.out e0)⟩ (fun b6=>?_);refine with_tabW Qi.tab6 Qi.bits6 (fun a3 h5=>?_);generalize wr.drew=w9 at HB d4 d5 e6 e7 a4 a5 a6 a7 a8 a9 b0 b1 b2 b3 b4 b5 b6 ⊢;refine zzP 0 17 10 1 a3 ?_
        refine zzP 1 18 10 3 a3 ?_
        refine zzP 2 19 10 7 a3 ?_
        refine zzP 4 21 10 23 a3 ?_
        refine zzP 5 22 10 55 a3 ?_
        refine zzP 6 23 10 119 a3 ?_
        refine zzT 3 20 10 127 a3 h5 b6 ?_
        refine zzT 7 24 10 255 a3 h5 b6 ?_
        refine one_ (i:=8) (N:=some 25) (zzB 10 511) rfl rfl (one_of a3.out (by kernel_rfl)) (by decide) (fun K hK=>?_);refine goes_ Try.func62 (by kernel_rfl) rfl #[.agg #[.int .i64 ((Qb l0 a0).f0),.int .i64 ((Qb l0 a0).f1),.bool ((Qb l0 a0).f2),.slice e9 ((Qb l0 a0).f3).length g0,.bool ((Qb l0 a0).f4),.slice g1 ((Qb l0 a0).f5).length g2],.agg #[.int .i64 ((Qb l1 a0).f0),.int .i64 ((Qb l1 a0).f1),.bool ((Qb l1 a0).f2),.slice g3 ((Qb l1 a0).f3).length g4,.bool ((Qb l1 a0).f4),.slice g5 ((Qb l1 a0).f5).length g6]] (by rfl) rfl rfl zzM2 ?_;with_reducible refine (Rn.calls k1 ((Qb l0 a0).f0) ((Qb l0 a0).f1) ((Qb l0 a0).f2) _ _ ((Qb l0 a0).f3) ((Qb l0 a0).f4) _ _ ((Qb l0 a0).f5) ((Qb l1 a0).f0) ((Qb l1 a0).f1) ((Qb l1 a0).f2) _ _ ((Qb l1 a0).f3) ((Qb l1 a0).f4) _ _ ((Qb l1 a0).f5) true _ ?side1 ?side2 ?side3 ?side4 ?side5 ?side6 ?side7 ?side8 A7.out).mono ?_
        (case side1=>exact zzcb d4 HB)
        (case side2=>exact h1.out)
        (case side3=>exact zzcb d5 HB)
        (case side4=>exact h2.out)
        (case side5=>exact zzcb e6 HB)
        (case side6=>exact h3.out)
        (case side7=>exact zzcb e7 HB)
        (case side8=>exact h4.out);rintro e k6 ⟨rfl,hb⟩;refine ⟨_,rfl,?_⟩;have e8:=zzm (zzp zzh1 hb);clear HB;have HB:=e8;clear e8
        (try clear hb)
        (try clear hb2)
        (try clear hk)
        (try clear hi);refine hK.out _ _ ⟨(zzx HB.out d3),(zzx HB.out d2),(zzx HB.out d1),(zzx HB.out d0),(zzx HB.out c9),(zzx HB.out c7),(zzx HB.out e5),(zzx HB.out e4),(zzx HB.out e3),(zzx HB.out e2),(zzx HB.out e1),(zzx HB.out e0)⟩ (fun b6=>?_);clear hK K;refine zzO 25 ?_
        refine zzP 9 26 10 1023 a3 ?_
        refine done_ (done_of a3.out (by kernel_rfl)) ?_;try go_wp2
        go_roundg k1
        case measure=>have:=HK1.out;omega
        case rel=>exact ⟨(wrap64 (a0+1)),(by first|rfl|(simp;done)|(simp [*];done)),H',⟨by have:=HK1.out;omega⟩,⟨zzh1⟩⟩
       ·
        replace c8:=Bool.eq_false_iff.mpr c8;subst c8;replace H:=zzIf H;obtain rfl:=Option.some.inj H;try go_wp2
        have e8:=zzm (zzc HB.out);clear HB;have HB:=e8;clear e8;have g7 : 0≤(a0:Int):=zzt;have g8:a0 < (l0.length:Int):=zzt;obtain ⟨a1,e9,g0,g1,g2,h6,a4,a5,a6,a7,a8,a9,b7,b8,b9,c2⟩:=Q5 j7.out a0 g7 g8;have c7:=a9;have c9:=a8;have d0:=a7;have d1:=a6;have d2:=a5;have d3:=a4;cases h6;replace a4:=zzx HB.out a4;replace a5:=zzx HB.out a5;replace a6:=zzx HB.out a6;replace a7:=zzx HB.out a7;replace a8:=zzx HB.out a8;replace a9:=zzx HB.out a9;have d4:=zzm b8;have h1:=zzm b7;clear b8 b7;have d5:=zzm c2;have h2:=zzm b9;clear c2 b9;replace g7:=eq_true g7;replace g8:=eq_true g8;have g9 : 0≤(a0:Int):=zzt;have h0:a0 < (l1.length:Int):=zzt;obtain ⟨a2,g3,g4,g5,g6,h7,b0,b1,b2,b3,b4,b5,d6,d7,d8,d9⟩:=Q5 j8.out a0 g9 h0;have e0:=b5;have e1:=b4;have e2:=b3;have e3:=b2;have e4:=b1;have e5:=b0;cases h7;replace b0:=zzx HB.out b0;replace b1:=zzx HB.out b1;replace b2:=zzx HB.out b2;replace b3:=zzx HB.out b3;replace b4:=zzx HB.out b4;replace b5:=zzx HB.out b5;have e6:=zzm d7;have h3:=zzm d6;clear d7 d6;have e7:=zzm d9;have h4:=zzm d8;clear d9 d8;replace g9:=eq_true g9;replace h0:=eq_true h0;refine start_ (n:=10) (S:=fun w'=>w'.cell? (a1.add ((a0).toNat * 6))=some (.int .i64 ((Qb l0 a0).f0))∧w'.cell? ⟨(a1.add ((a0).toNat * 6)).block,(a1.add ((a0).toNat * 6)).off+1,none⟩=some (.int .i64 ((Qb l0 a0).f1))∧w'.cell? ⟨(a1.add ((a0).toNat * 6)).block,(a1.add ((a0).toNat * 6)).off+2,none⟩=some (.bool ((Qb l0 a0).f2))∧w'.cell? ⟨(a1.add ((a0).toNat * 6)).block,(a1.add ((a0).toNat * 6)).off+3,none⟩=some (.slice e9 ((Qb l0 a0).f3).length g0)∧w'.cell? ⟨(a1.add ((a0).toNat * 6)).block,(a1.add ((a0).toNat * 6)).off+4,none⟩=some (.bool ((Qb l0 a0).f4))∧w'.cell? ⟨(a1.add ((a0).toNat * 6)).block,(a1.add ((a0).toNat * 6)).off+5,none⟩=some (.slice g1 ((Qb l0 a0).f5).length g2)∧w'.cell? (a2.add ((a0).toNat * 6))=some (.int .i64 ((Qb l1 a0).f0))∧w'.cell? ⟨(a2.add ((a0).toNat * 6)).block,(a2.add ((a0).toNat * 6)).off+1,none⟩=some (.int .i64 ((Qb l1 a0).f1))∧w'.cell? ⟨(a2.add ((a0).toNat * 6)).block,(a2.add ((a0).toNat * 6)).off+2,none⟩=some (.bool ((Qb l1 a0).f2))∧w'.cell? ⟨(a2.add ((a0).toNat * 6)).block,(a2.add ((a0).toNat * 6)).off+3,none⟩=some (.slice g3 ((Qb l1 a0).f3).length g4)∧w'.cell? ⟨(a2.add ((a0).toNat * 6)).block,(a2.add ((a0).toNat * 6)).off+4,none⟩=some (.bool ((Qb l1 a0).f4))∧w'.cell? ⟨(a2.add ((a0).toNat * 6)).block,(a2.add ((a0).toNat * 6)).off+5,none⟩=some (.slice g5 ((Qb l1 a0).f5).length g6)) (ds:=[]) (zzB 10 0) (by kernel_rfl) rfl rfl ⟨(zzx HB.out d3),(zzx HB.out d2),(zzx HB.out d1),(zzx HB.out d0),(zzx HB.out c9),(zzx HB.out c7),(zzx HB.out e5),(zzx HB.out e4),(zzx HB.out e3),(zzx HB.out e2),(zzx HB.out e1),(zzx HB.out e0)⟩ (fun b6=>?_);refine with_tabW Qi.tab6 Qi.bits6 (fun a3 h5=>?_);generalize wr.drew=k7 at HB d4 d5 e6 e7 a4 a5 a6 a7 a8 a9 b0 b1 b2 b3 b4 b5 b6 ⊢;refine zzP 0 17 10 1 a3 ?_
        refine zzP 1 18 10 3 a3 ?_
        refine zzP 2 19 10 7 a3 ?_
        refine zzP 4 21 10 23 a3 ?_
        refine zzP 5 22 10 55 a3 ?_
        refine zzP 6 23 10 119 a3 ?_
        refine zzT 3 20 10 127 a3 h5 b6 ?_
        refine zzT 7 24 10 255 a3 h5 b6 ?_
        refine one_ (i:=8) (N:=some 25) (zzB 10 511) rfl rfl (one_of a3.out (by kernel_rfl)) (by decide) (fun K hK=>?_);refine goes_ Try.func62 (by kernel_rfl) rfl #[.agg #[.int .i64 ((Qb l0 a0).f0),.int .i64 ((Qb l0 a0).f1),.bool ((Qb l0 a0).f2),.slice e9 ((Qb l0 a0).f3).length g0,.bool ((Qb l0 a0).f4),.slice g1 ((Qb l0 a0).f5).length g2],.agg #[.int .i64 ((Qb l1 a0).f0),.int .i64 ((Qb l1 a0).f1),.bool ((Qb l1 a0).f2),.slice g3 ((Qb l1 a0).f3).length g4,.bool ((Qb l1 a0).f4),.slice g5 ((Qb l1 a0).f5).length g6]] (by rfl) rfl rfl zzM2 ?_;with_reducible refine (Rn.calls k1 ((Qb l0 a0).f0) ((Qb l0 a0).f1) ((Qb l0 a0).f2) _ _ ((Qb l0 a0).f3) ((Qb l0 a0).f4) _ _ ((Qb l0 a0).f5) ((Qb l1 a0).f0) ((Qb l1 a0).f1) ((Qb l1 a0).f2) _ _ ((Qb l1 a0).f3) ((Qb l1 a0).f4) _ _ ((Qb l1 a0).f5) false _ ?side1 ?side2 ?side3 ?side4 ?side5 ?side6 ?side7 ?side8 A7.out).mono ?_
        (case side1=>exact zzcb d4 HB)
        (case side2=>exact h1.out)
        (case side3=>exact zzcb d5 HB)
        (case side4=>exact h2.out)
        (case side5=>exact zzcb e6 HB)
        (case side6=>exact h3.out)
        (case side7=>exact zzcb e7 HB)
        (case side8=>exact h4.out);rintro e k8 ⟨rfl,hb⟩;refine ⟨_,rfl,?_⟩;have e8:=zzm (zzp zzh1 hb);clear HB;have HB:=e8;clear e8
        (try clear hb)
        (try clear hb2)
        (try clear hk)
        (try clear hi);refine hK.out _ _ ⟨(zzx HB.out d3),(zzx HB.out d2),(zzx HB.out d1),(zzx HB.out d0),(zzx HB.out c9),(zzx HB.out c7),(zzx HB.out e5),(zzx HB.out e4),(zzx HB.out e3),(zzx HB.out e2),(zzx HB.out e1),(zzx HB.out e0)⟩ (fun b6=>?_);clear hK K;refine zzO 25 ?_
        refine zzP 9 26 10 1023 a3 ?_
        refine done_ (done_of a3.out (by kernel_rfl)) ?_;try go_wp2
        go_ret;exact ⟨zzR,zzh1⟩
      ·
       rw [if_neg c6] at H;exact absurd H (by simp)
     ·
      rw [if_neg c5] at H;exact absurd H (by simp)
    ·
     rw [if_neg c4] at H;have j9:decide (a0 < (l0.length:Int))=false:=decide_eq_false c4;clear c4;obtain rfl:=Option.some.inj H;go_wp2;go_ret;exact ⟨zzR,zzh1⟩
 ·
  rw [if_neg c3] at H;obtain ⟨h8,h9⟩:=zzY c3;have j2:(l0.length==l1.length)=false:=by first|simpa using c3|(simp at c3 ⊢;omega)
  obtain rfl:=Option.some.inj H;go_enter Try.func33,Try.ntmps33;go_wp2;go_ret;exact ⟨zzR,zzh1⟩

set_option linter.unusedVariables false
set_option linter.unusedSimpArgs false
def Rp.f (k:Nat) (a0_0:Bool) (a0_1:Bool) (a0_2:Int) (a0_3:Int) (a0_4:Int) (l0_5:List (S30)) (a1_0:Bool) (a1_1:Bool) (a1_2:Int) (a1_3:Int) (a1_4:Int) (l1_5:List (S30)):Option (Bool):=if (a0_0 != a1_0)=true then (some false) else (if (a0_1 != a1_1)=true then (some false) else (if a0_2=a1_2 then (if a0_3=a1_3 then (if a0_4=a1_4 then ((Qi.f k l0_5 l1_5).bind fun t546=>(if t546=true then (some true) else (some false))) else (some false)) else (some false)) else (some false)))
set_option maxHeartbeats 8000000 in
theorem Rp.calls (k:Nat) (a3:Bool) (a4:Bool) (a9:Int) (b0:Int) (b1:Int) (b2:Option Addr) (b3:Nat) (a5:List (S30)) (b8:Bool) (b9:Bool) (c5:Int) (c6:Int) (c7:Int) (c8:Option Addr) (d0:Nat) (c0:List (S30)) (r:Bool) (w:World) (d9:Kd.C k30 w b2 a5.length a5) (e0:a5.length≤b3) (e1:Kd.C k30 w c8 c0.length c0) (e2:c0.length≤d0) (h:Rp.f k a3 a4 a9 b0 b1 a5 b8 b9 c5 c6 c7 c0=some r) :
  Calls Try.prog 61 #[.agg #[.bool a3,.bool a4,.int .i64 a9,.int .i64 b0,.int .i64 b1,.slice b2 a5.length b3],.agg #[.bool b8,.bool b9,.int .i64 c5,.int .i64 c6,.int .i64 c7,.slice c8 c0.length d0]] w fun e w'=>e = .returned (.bool r)∧Below w.heap.size w w':=by
 have hu34:=Try.underlying34;have e3:=zzm d9;have e4:=zzm e0;clear d9 e0;have e5:=zzm e1;have e6:=zzm e2;clear e1 e2;have HB:=zzm (Below.refl w.heap.size w);have H:(if (a3 != b8)=true then (some false) else (if (a4 != b9)=true then (some false) else (if a9=c5 then (if b0=c6 then (if b1=c7 then ((Qi.f k a5 c0).bind fun d8=>(if d8=true then (some true) else (some false))) else (some false)) else (some false)) else (some false))))=some r:=h;clear h;by_cases c3:(a3 != b8)=true
 ·
  rw [if_pos c3] at H;have g5:(a3 != b8)=true:=c3
  (try (have g6:decide (a3=b8)=false:=by simpa using c3))
  (try (have g7:(a3==b8)=false:=by simpa using c3))
  (try (have B9:¬ (a3=b8):=by simpa using c3));clear c3;obtain rfl:=Option.some.inj H;go_enter Try.func61,Try.ntmps61;go_wp2_with (first|((with_reducible refine gate_dst (N:=2) rfl ?_);refine box_event ?hg (N:=2) ?hd (cs:=#[.bool a3,.bool a4,.int .i64 a9,.int .i64 b0,.int .i64 b1,.slice b2 a5.length b3]) (t:=34) ?hr ?_;(case hd=>rfl);(case hg=>rfl);(case hr=>first|(go_simp;done)|(go_simp;rfl));intro a0 hg w4 hbox hb;have a6:=zzm (zzp zzh1 hb);have a7:=zzm (hbox);have a8:=zzm ((by rw [hg];exact (zzo zzh1):w.heap.size≤a0));have b4:=zzm ((by rw [hg];exact (zzo zzh1):w.heap.size≤a0));clear HB;have HB:=a6;have a1:=a7;have d1:=a8;have d2:=b4;clear a6 a7 a8 b4 hb hbox hg)|((with_reducible refine gate_dst (N:=3) rfl ?_);refine box_event ?hg (N:=3) ?hd (cs:=#[.bool b8,.bool b9,.int .i64 c5,.int .i64 c6,.int .i64 c7,.slice c8 c0.length d0]) (t:=34) ?hr ?_;(case hd=>rfl);(case hg=>rfl);(case hr=>first|(go_simp;done)|(go_simp;rfl));intro a2 hg w5 hbox hb;have a6:=zzm (zzh (g:=a0) (o:=.cells #[.bool a3,.bool a4,.int .i64 a9,.int .i64 b0,.int .i64 b1,.slice b2 a5.length b3] 34 (0,0)) (zzE a1.out) hb);have a7:=zzm (zzp zzh2 hb);have a8:=zzm (hbox);have b4:=zzm ((by rw [hg];exact (zzo zzh2):w.heap.size≤a2));have c1:=zzm ((by rw [hg];exact (zzo zzh2):w.heap.size≤a2));have c2:=zzm ((by rw [hg];exact Nat.ne_of_lt (blk_lt (g:=a0) (o:=.cells #[.bool a3,.bool a4,.int .i64 a9,.int .i64 b0,.int .i64 b1,.slice b2 a5.length b3] 34 (0,0)) (zzE a1.out)):a0≠a2));have c4:=zzm ((by rw [hg];exact Nat.ne_of_gt (blk_lt (g:=a0) (o:=.cells #[.bool a3,.bool a4,.int .i64 a9,.int .i64 b0,.int .i64 b1,.slice b2 a5.length b3] 34 (0,0)) (zzE a1.out)):a2≠a0));clear a1 HB;have a1:=a6;have HB:=a7;have b7:=a8;have d3:=b4;have d4:=c1;have b5:=c2;have b6:=c4;clear a6 a7 a8 b4 c1 c2 c4 hb hbox hg;have C0:=b5.out;have C1:=b6.out;obtain ⟨y1,y2,y3,y4,y5,y6,y7,y8,y9,z0,z1,z2⟩:=zzc6 a1.out;obtain ⟨z3,z4,z5,z6,z7,z8,z9,A0,A1,A2,A3,A4⟩:=zzc6 b7.out));go_ret;exact ⟨zzR,zzh3⟩
 ·
  rw [if_neg c3] at H;have g5:(a3 != b8)=false:=by simpa using c3
  (try (have g6:decide (a3=b8)=true:=by simpa using c3))
  (try (have g7:(a3==b8)=true:=by simpa using c3));clear c3;by_cases c9:(a4 != b9)=true
  ·
   rw [if_pos c9] at H;have g8:(a4 != b9)=true:=c9
   (try (have g9:decide (a4=b9)=false:=by simpa using c9))
   (try (have h0:(a4==b9)=false:=by simpa using c9))
   (try (have C2:¬ (a4=b9):=by simpa using c9));clear c9;obtain rfl:=Option.some.inj H;go_enter Try.func61,Try.ntmps61;go_wp2_with (first|((with_reducible refine gate_dst (N:=2) rfl ?_);refine box_event ?hg (N:=2) ?hd (cs:=#[.bool a3,.bool a4,.int .i64 a9,.int .i64 b0,.int .i64 b1,.slice b2 a5.length b3]) (t:=34) ?hr ?_;(case hd=>rfl);(case hg=>rfl);(case hr=>first|(go_simp;done)|(go_simp;rfl));intro a0 hg C3 hbox hb;have a6:=zzm (zzp zzh1 hb);have a7:=zzm (hbox);have a8:=zzm ((by rw [hg];exact (zzo zzh1):w.heap.size≤a0));have b4:=zzm ((by rw [hg];exact (zzo zzh1):w.heap.size≤a0));clear HB;have HB:=a6;have a1:=a7;have d1:=a8;have d2:=b4;clear a6 a7 a8 b4 hb hbox hg)|((with_reducible refine gate_dst (N:=3) rfl ?_);refine box_event ?hg (N:=3) ?hd (cs:=#[.bool b8,.bool b9,.int .i64 c5,.int .i64 c6,.int .i64 c7,.slice c8 c0.length d0]) (t:=34) ?hr ?_;(case hd=>rfl);(case hg=>rfl);(case hr=>first|(go_simp;done)|(go_simp;rfl));intro a2 hg C4 hbox hb;have a6:=zzm (zzh (g:=a0) (o:=.cells #[.bool a3,.bool a4,.int .i64 a9,.int .i64 b0,.int .i64 b1,.slice b2 a5.length b3] 34 (0,0)) (zzE a1.out) hb);have a7:=zzm (zzp zzh2 hb);have a8:=zzm (hbox);have b4:=zzm ((by rw [hg];exact (zzo zzh2):w.heap.size≤a2));have c1:=zzm ((by rw [hg];exact (zzo zzh2):w.heap.size≤a2));have c2:=zzm ((by rw [hg];exact Nat.ne_of_lt (blk_lt (g:=a0) (o:=.cells #[.bool a3,.bool a4,.int .i64 a9,.int .i64 b0,.int .i64 b1,.slice b2 a5.length b3] 34 (0,0)) (zzE a1.out)):a0≠a2));have c4:=zzm ((by rw [hg];exact Nat.ne_of_gt (blk_lt (g:=a0) (o:=.cells #[.bool a3,.bool a4,.int .i64 a9,.int .i64 b0,.int .i64 b1,.slice b2 a5.length b3] 34 (0,0)) (zzE a1.out)):a2≠a0));clear a1 HB;have a1:=a6;have HB:=a7;have b7:=a8;have d3:=b4;have d4:=c1;have b5:=c2;have b6:=c4;clear a6 a7 a8 b4 c1 c2 c4 hb hbox hg;have A5:=b5.out;have A6:=b6.out;obtain ⟨h1,h2,h3,h4,h5,h6,h7,h8,h9,j2,j3,j4⟩:=zzc6 a1.out;obtain ⟨j5,j6,j7,j8,j9,k0,k1,k2,k3,k4,k5,k6⟩:=zzc6 b7.out));go_ret;exact ⟨zzR,zzh3⟩
  ·
   rw [if_neg c9] at H;have g8:(a4 != b9)=false:=by simpa using c9
   (try (have g9:decide (a4=b9)=true:=by simpa using c9))
   (try (have h0:(a4==b9)=true:=by simpa using c9));clear c9;by_cases d5:a9=c5
   ·
    rw [if_pos d5] at H;obtain ⟨e8,e9⟩:=zzQ d5;clear d5;by_cases d6:b0=c6
    ·
     rw [if_pos d6] at H;obtain ⟨g0,g1⟩:=zzQ d6;clear d6;by_cases d7:b1=c7
     ·
      rw [if_pos d7] at H;obtain ⟨g2,g3⟩:=zzQ d7;clear d7;obtain ⟨d8,g4,H⟩:=zzG H;by_cases e7:d8=true
      ·
       subst e7;replace H:=zzIt H;obtain rfl:=Option.some.inj H;go_enter Try.func61,Try.ntmps61;go_wp2_with (first|((with_reducible refine gate_dst (N:=2) rfl ?_);refine box_event ?hg (N:=2) ?hd (cs:=#[.bool a3,.bool a4,.int .i64 a9,.int .i64 b0,.int .i64 b1,.slice b2 a5.length b3]) (t:=34) ?hr ?_;(case hd=>rfl);(case hg=>rfl);(case hr=>first|(go_simp;done)|(go_simp;rfl));intro a0 hg C5 hbox hb;have a6:=zzm (zzp zzh1 hb);have a7:=zzm (hbox);have a8:=zzm ((by rw [hg];exact (zzo zzh1):w.heap.size≤a0));have b4:=zzm ((by rw [hg];exact (zzo zzh1):w.heap.size≤a0));clear HB;have HB:=a6;have a1:=a7;have d1:=a8;have d2:=b4;clear a6 a7 a8 b4 hb hbox hg)|((with_reducible refine gate_dst (N:=3) rfl ?_);refine box_event ?hg (N:=3) ?hd (cs:=#[.bool b8,.bool b9,.int .i64 c5,.int .i64 c6,.int .i64 c7,.slice c8 c0.length d0]) (t:=34) ?hr ?_;(case hd=>rfl);(case hg=>rfl);(case hr=>first|(go_simp;done)|(go_simp;rfl));intro a2 hg C6 hbox hb;have a6:=zzm (zzh (g:=a0) (o:=.cells #[.bool a3,.bool a4,.int .i64 a9,.int .i64 b0,.int .i64 b1,.slice b2 a5.length b3] 34 (0,0)) (zzE a1.out) hb);have a7:=zzm (zzp zzh2 hb);have a8:=zzm (hbox);have b4:=zzm ((by rw [hg];exact (zzo zzh2):w.heap.size≤a2));have c1:=zzm ((by rw [hg];exact (zzo zzh2):w.heap.size≤a2));have c2:=zzm ((by rw [hg];exact Nat.ne_of_lt (blk_lt (g:=a0) (o:=.cells #[.bool a3,.bool a4,.int .i64 a9,.int .i64 b0,.int .i64 b1,.slice b2 a5.length b3] 34 (0,0)) (zzE a1.out)):a0≠a2));have c4:=zzm ((by rw [hg];exact Nat.ne_of_gt (blk_lt (g:=a0) (o:=.cells #[.bool a3,.bool a4,.int .i64 a9,.int .i64 b0,.int .i64 b1,.slice b2 a5.length b3] 34 (0,0)) (zzE a1.out)):a2≠a0));clear a1 HB;have a1:=a6;have HB:=a7;have b7:=a8;have d3:=b4;have d4:=c1;have b5:=c2;have b6:=c4;clear a6 a7 a8 b4 c1 c2 c4 hb hbox hg;have A7:=b5.out;have A8:=b6.out;obtain ⟨k7,k8,k9,l2,l3,l4,l5,l6,l7,l8,l9,m0⟩:=zzc6 a1.out;obtain ⟨m1,m2,m3,m4,m5,m6,m7,m8,m9,n0,n1,n2⟩:=zzc6 b7.out)|((with_reducible refine gate_callee (f:=33) rfl ?_);refine goesL_ (some 34) rfl rfl Try.func33 (by kernel_rfl) rfl #[.slice b2 a5.length b3,.slice c8 c0.length d0] rfl zzM2 ?_;(with_reducible refine (Qi.calls k _ _ a5 _ _ c0 true _ ?side1 ?side2 ?side3 ?side4 g4.out).mono ?_);(case side1=>exact zzcb e3 HB);(case side2=>exact e4.out);(case side3=>exact zzcb e5 HB);(case side4=>exact e6.out);rintro e C7 ⟨rfl,hb⟩;refine ⟨_,rfl,?_⟩;have a6:=zzm (zzh (g:=a0) (o:=.cells #[.bool a3,.bool a4,.int .i64 a9,.int .i64 b0,.int .i64 b1,.slice b2 a5.length b3] 34 (0,0)) (zzE a1.out) hb);have a7:=zzm (zzh (g:=a2) (o:=.cells #[.bool b8,.bool b9,.int .i64 c5,.int .i64 c6,.int .i64 c7,.slice c8 c0.length d0] 34 (0,0)) (zzE b7.out) hb);have a8:=zzm (zzp zzh2 hb);clear a1 b7 HB;have a1:=a6;have b7:=a7;have HB:=a8;clear a6 a7 a8;(try clear hb);(try clear hb2);(try clear hk);(try clear hi)));go_ret;exact ⟨zzR,zzh3⟩
      ·
       replace e7:=Bool.eq_false_iff.mpr e7;subst e7;replace H:=zzIf H;obtain rfl:=Option.some.inj H;go_enter Try.func61,Try.ntmps61;go_wp2_with (first|((with_reducible refine gate_dst (N:=2) rfl ?_);refine box_event ?hg (N:=2) ?hd (cs:=#[.bool a3,.bool a4,.int .i64 a9,.int .i64 b0,.int .i64 b1,.slice b2 a5.length b3]) (t:=34) ?hr ?_;(case hd=>rfl);(case hg=>rfl);(case hr=>first|(go_simp;done)|(go_simp;rfl));intro a0 hg C8 hbox hb;have a6:=zzm (zzp zzh1 hb);have a7:=zzm (hbox);have a8:=zzm ((by rw [hg];exact (zzo zzh1):w.heap.size≤a0));have b4:=zzm ((by rw [hg];exact (zzo zzh1):w.heap.size≤a0));clear HB;have HB:=a6;have a1:=a7;have d1:=a8;have d2:=b4;clear a6 a7 a8 b4 hb hbox hg)|((with_reducible refine gate_dst (N:=3) rfl ?_);refine box_event ?hg (N:=3) ?hd (cs:=#[.bool b8,.bool b9,.int .i64 c5,.int .i64 c6,.int .i64 c7,.slice c8 c0.length d0]) (t:=34) ?hr ?_;(case hd=>rfl);(case hg=>rfl);(case hr=>first|(go_simp;done)|(go_simp;rfl));intro a2 hg C9 hbox hb;have a6:=zzm (zzh (g:=a0) (o:=.cells #[.bool a3,.bool a4,.int .i64 a9,.int .i64 b0,.int .i64 b1,.slice b2 a5.length b3] 34 (0,0)) (zzE a1.out) hb);have a7:=zzm (zzp zzh2 hb);have a8:=zzm (hbox);have b4:=zzm ((by rw [hg];exact (zzo zzh2):w.heap.size≤a2));have c1:=zzm ((by rw [hg];exact (zzo zzh2):w.heap.size≤a2));have c2:=zzm ((by rw [hg];exact Nat.ne_of_lt (blk_lt (g:=a0) (o:=.cells #[.bool a3,.bool a4,.int .i64 a9,.int .i64 b0,.int .i64 b1,.slice b2 a5.length b3] 34 (0,0)) (zzE a1.out)):a0≠a2));have c4:=zzm ((by rw [hg];exact Nat.ne_of_gt (blk_lt (g:=a0) (o:=.cells #[.bool a3,.bool a4,.int .i64 a9,.int .i64 b0,.int .i64 b1,.slice b2 a5.length b3] 34 (0,0)) (zzE a1.out)):a2≠a0));clear a1 HB;have a1:=a6;have HB:=a7;have b7:=a8;have d3:=b4;have d4:=c1;have b5:=c2;have b6:=c4;clear a6 a7 a8 b4 c1 c2 c4 hb hbox hg;have A9:=b5.out;have B0:=b6.out;obtain ⟨n3,n4,n5,n6,n7,n8,n9,o0,o1,o2,o3,o4⟩:=zzc6 a1.out;obtain ⟨o5,o6,o7,o8,o9,p0,p1,p2,p3,p4,p5,p6⟩:=zzc6 b7.out)|((with_reducible refine gate_callee (f:=33) rfl ?_);refine goesL_ (some 34) rfl rfl Try.func33 (by kernel_rfl) rfl #[.slice b2 a5.length b3,.slice c8 c0.length d0] rfl zzM2 ?_;(with_reducible refine (Qi.calls k _ _ a5 _ _ c0 false _ ?side1 ?side2 ?side3 ?side4 g4.out).mono ?_);(case side1=>exact zzcb e3 HB);(case side2=>exact e4.out);(case side3=>exact zzcb e5 HB);(case side4=>exact e6.out);rintro e D0 ⟨rfl,hb⟩;refine ⟨_,rfl,?_⟩;have a6:=zzm (zzh (g:=a0) (o:=.cells #[.bool a3,.bool a4,.int .i64 a9,.int .i64 b0,.int .i64 b1,.slice b2 a5.length b3] 34 (0,0)) (zzE a1.out) hb);have a7:=zzm (zzh (g:=a2) (o:=.cells #[.bool b8,.bool b9,.int .i64 c5,.int .i64 c6,.int .i64 c7,.slice c8 c0.length d0] 34 (0,0)) (zzE b7.out) hb);have a8:=zzm (zzp zzh2 hb);clear a1 b7 HB;have a1:=a6;have b7:=a7;have HB:=a8;clear a6 a7 a8;(try clear hb);(try clear hb2);(try clear hk);(try clear hi)));go_ret;exact ⟨zzR,zzh3⟩
     ·
      rw [if_neg d7] at H;obtain ⟨g2,g3⟩:=zzY d7;obtain rfl:=Option.some.inj H;go_enter Try.func61,Try.ntmps61;go_wp2_with (first|((with_reducible refine gate_dst (N:=2) rfl ?_);refine box_event ?hg (N:=2) ?hd (cs:=#[.bool a3,.bool a4,.int .i64 a9,.int .i64 b0,.int .i64 b1,.slice b2 a5.length b3]) (t:=34) ?hr ?_;(case hd=>rfl);(case hg=>rfl);(case hr=>first|(go_simp;done)|(go_simp;rfl));intro a0 hg D1 hbox hb;have a6:=zzm (zzp zzh1 hb);have a7:=zzm (hbox);have a8:=zzm ((by rw [hg];exact (zzo zzh1):w.heap.size≤a0));have b4:=zzm ((by rw [hg];exact (zzo zzh1):w.heap.size≤a0));clear HB;have HB:=a6;have a1:=a7;have d1:=a8;have d2:=b4;clear a6 a7 a8 b4 hb hbox hg)|((with_reducible refine gate_dst (N:=3) rfl ?_);refine box_event ?hg (N:=3) ?hd (cs:=#[.bool b8,.bool b9,.int .i64 c5,.int .i64 c6,.int .i64 c7,.slice c8 c0.length d0]) (t:=34) ?hr ?_;(case hd=>rfl);(case hg=>rfl);(case hr=>first|(go_simp;done)|(go_simp;rfl));intro a2 hg D2 hbox hb;have a6:=zzm (zzh (g:=a0) (o:=.cells #[.bool a3,.bool a4,.int .i64 a9,.int .i64 b0,.int .i64 b1,.slice b2 a5.length b3] 34 (0,0)) (zzE a1.out) hb);have a7:=zzm (zzp zzh2 hb);have a8:=zzm (hbox);have b4:=zzm ((by rw [hg];exact (zzo zzh2):w.heap.size≤a2));have c1:=zzm ((by rw [hg];exact (zzo zzh2):w.heap.size≤a2));have c2:=zzm ((by rw [hg];exact Nat.ne_of_lt (blk_lt (g:=a0) (o:=.cells #[.bool a3,.bool a4,.int .i64 a9,.int .i64 b0,.int .i64 b1,.slice b2 a5.length b3] 34 (0,0)) (zzE a1.out)):a0≠a2));have c4:=zzm ((by rw [hg];exact Nat.ne_of_gt (blk_lt (g:=a0) (o:=.cells #[.bool a3,.bool a4,.int .i64 a9,.int .i64 b0,.int .i64 b1,.slice b2 a5.length b3] 34 (0,0)) (zzE a1.out)):a2≠a0));clear a1 HB;have a1:=a6;have HB:=a7;have b7:=a8;have d3:=b4;have d4:=c1;have b5:=c2;have b6:=c4;clear a6 a7 a8 b4 c1 c2 c4 hb hbox hg;have B1:=b5.out;have B2:=b6.out;obtain ⟨p7,p8,p9,q0,q1,q2,q3,q4,q5,q6,q7,q8⟩:=zzc6 a1.out;obtain ⟨q9,r0,r1,r2,r3,r4,r5,r6,r7,r8,r9,s0⟩:=zzc6 b7.out));go_ret;exact ⟨zzR,zzh3⟩
    ·
     rw [if_neg d6] at H;obtain ⟨g0,g1⟩:=zzY d6;obtain rfl:=Option.some.inj H;go_enter Try.func61,Try.ntmps61;go_wp2_with (first|((with_reducible refine gate_dst (N:=2) rfl ?_);refine box_event ?hg (N:=2) ?hd (cs:=#[.bool a3,.bool a4,.int .i64 a9,.int .i64 b0,.int .i64 b1,.slice b2 a5.length b3]) (t:=34) ?hr ?_;(case hd=>rfl);(case hg=>rfl);(case hr=>first|(go_simp;done)|(go_simp;rfl));intro a0 hg D3 hbox hb;have a6:=zzm (zzp zzh1 hb);have a7:=zzm (hbox);have a8:=zzm ((by rw [hg];exact (zzo zzh1):w.heap.size≤a0));have b4:=zzm ((by rw [hg];exact (zzo zzh1):w.heap.size≤a0));clear HB;have HB:=a6;have a1:=a7;have d1:=a8;have d2:=b4;clear a6 a7 a8 b4 hb hbox hg)|((with_reducible refine gate_dst (N:=3) rfl ?_);refine box_event ?hg (N:=3) ?hd (cs:=#[.bool b8,.bool b9,.int .i64 c5,.int .i64 c6,.int .i64 c7,.slice c8 c0.length d0]) (t:=34) ?hr ?_;(case hd=>rfl);(case hg=>rfl);(case hr=>first|(go_simp;done)|(go_simp;rfl));intro a2 hg D4 hbox hb;have a6:=zzm (zzh (g:=a0) (o:=.cells #[.bool a3,.bool a4,.int .i64 a9,.int .i64 b0,.int .i64 b1,.slice b2 a5.length b3] 34 (0,0)) (zzE a1.out) hb);have a7:=zzm (zzp zzh2 hb);have a8:=zzm (hbox);have b4:=zzm ((by rw [hg];exact (zzo zzh2):w.heap.size≤a2));have c1:=zzm ((by rw [hg];exact (zzo zzh2):w.heap.size≤a2));have c2:=zzm ((by rw [hg];exact Nat.ne_of_lt (blk_lt (g:=a0) (o:=.cells #[.bool a3,.bool a4,.int .i64 a9,.int .i64 b0,.int .i64 b1,.slice b2 a5.length b3] 34 (0,0)) (zzE a1.out)):a0≠a2));have c4:=zzm ((by rw [hg];exact Nat.ne_of_gt (blk_lt (g:=a0) (o:=.cells #[.bool a3,.bool a4,.int .i64 a9,.int .i64 b0,.int .i64 b1,.slice b2 a5.length b3] 34 (0,0)) (zzE a1.out)):a2≠a0));clear a1 HB;have a1:=a6;have HB:=a7;have b7:=a8;have d3:=b4;have d4:=c1;have b5:=c2;have b6:=c4;clear a6 a7 a8 b4 c1 c2 c4 hb hbox hg;have B3:=b5.out;have B5:=b6.out;obtain ⟨s1,s2,s3,s4,s5,s6,s7,s8,s9,t0,t1,t2⟩:=zzc6 a1.out;obtain ⟨t3,t4,t5,t6,t7,t8,t9,v0,v1,v2,v3,v4⟩:=zzc6 b7.out));go_ret;exact ⟨zzR,zzh3⟩
   ·
    rw [if_neg d5] at H;obtain ⟨e8,e9⟩:=zzY d5;obtain rfl:=Option.some.inj H;go_enter Try.func61,Try.ntmps61;go_wp2_with (first|((with_reducible refine gate_dst (N:=2) rfl ?_);refine box_event ?hg (N:=2) ?hd (cs:=#[.bool a3,.bool a4,.int .i64 a9,.int .i64 b0,.int .i64 b1,.slice b2 a5.length b3]) (t:=34) ?hr ?_;(case hd=>rfl);(case hg=>rfl);(case hr=>first|(go_simp;done)|(go_simp;rfl));intro a0 hg D5 hbox hb;have a6:=zzm (zzp zzh1 hb);have a7:=zzm (hbox);have a8:=zzm ((by rw [hg];exact (zzo zzh1):w.heap.size≤a0));have b4:=zzm ((by rw [hg];exact (zzo zzh1):w.heap.size≤a0));clear HB;have HB:=a6;have a1:=a7;have d1:=a8;have d2:=b4;clear a6 a7 a8 b4 hb hbox hg)|((with_reducible refine gate_dst (N:=3) rfl ?_);refine box_event ?hg (N:=3) ?hd (cs:=#[.bool b8,.bool b9,.int .i64 c5,.int .i64 c6,.int .i64 c7,.slice c8 c0.length d0]) (t:=34) ?hr ?_;(case hd=>rfl);(case hg=>rfl);(case hr=>first|(go_simp;done)|(go_simp;rfl));intro a2 hg D6 hbox hb;have a6:=zzm (zzh (g:=a0) (o:=.cells #[.bool a3,.bool a4,.int .i64 a9,.int .i64 b0,.int .i64 b1,.slice b2 a5.length b3] 34 (0,0)) (zzE a1.out) hb);have a7:=zzm (zzp zzh2 hb);have a8:=zzm (hbox);have b4:=zzm ((by rw [hg];exact (zzo zzh2):w.heap.size≤a2));have c1:=zzm ((by rw [hg];exact (zzo zzh2):w.heap.size≤a2));have c2:=zzm ((by rw [hg];exact Nat.ne_of_lt (blk_lt (g:=a0) (o:=.cells #[.bool a3,.bool a4,.int .i64 a9,.int .i64 b0,.int .i64 b1,.slice b2 a5.length b3] 34 (0,0)) (zzE a1.out)):a0≠a2));have c4:=zzm ((by rw [hg];exact Nat.ne_of_gt (blk_lt (g:=a0) (o:=.cells #[.bool a3,.bool a4,.int .i64 a9,.int .i64 b0,.int .i64 b1,.slice b2 a5.length b3] 34 (0,0)) (zzE a1.out)):a2≠a0));clear a1 HB;have a1:=a6;have HB:=a7;have b7:=a8;have d3:=b4;have d4:=c1;have b5:=c2;have b6:=c4;clear a6 a7 a8 b4 c1 c2 c4 hb hbox hg;have B7:=b5.out;have B8:=b6.out;obtain ⟨v5,v6,v7,v8,v9,w0,w1,w2,w3,w6,w7,w8⟩:=zzc6 a1.out;obtain ⟨w9,x0,x1,x2,x3,x4,x5,x6,x7,x8,x9,y0⟩:=zzc6 b7.out));go_ret;exact ⟨zzR,zzh3⟩

set_option linter.unusedVariables false
set_option linter.unusedSimpArgs false
def Ql.l0:Nat→List (S34)→List (S34)→Int→Option (Bool)
 | 0,_,_,_=>none
 | k+1,x0,x1,x5=>if x5 < (x0.length:Int) then (if 0≤x5 then (if x5 < (x1.length:Int) then ((Rp.f k ((Qa x0 x5).f0) ((Qa x0 x5).f1) ((Qa x0 x5).f2) ((Qa x0 x5).f3) ((Qa x0 x5).f4) ((Qa x0 x5).f5) ((Qa x1 x5).f0) ((Qa x1 x5).f1) ((Qa x1 x5).f2) ((Qa x1 x5).f3) ((Qa x1 x5).f4) ((Qa x1 x5).f5)).bind fun t549=>(if t549=true then (Ql.l0 k x0 x1 (wrap64 (x5+1))) else (some false))) else (none)) else (none)) else (some true)
def Ql.f (k:Nat) (l0:List (S34)) (l1:List (S34)):Option (Bool):=if (l0.length:Int)=(l1.length:Int) then (Ql.l0 k l0 l1 0) else (some false)
def Ql.T6:Bool×List (List Nat×List Nat):=(true,[([],[]),([],[]),([0,1],[0,1]),([2],[2]),([],[]),([],[]),([4,5],[4,5]),([6],[6]),([3,7],[3,7]),([8],[8])])
def Ql.B6:List Nat:=[0,0,3,7,0,0,48,112,255,511]
theorem Ql.tab6:rtab .any (opsOf Try.f32 6)=Ql.T6:=by kernel_rfl
theorem Ql.bits6:waitsOk Ql.T6.2 Ql.B6=true:=by kernel_rfl
set_option maxHeartbeats 8000000 in
theorem Ql.calls (k:Nat) (A0:Option Addr) (c0:Nat) (l0:List (S34)) (A1:Option Addr) (c1:Nat) (l1:List (S34)) (r:Bool) (w:World) (g9:Kd.C k34 w A0 l0.length l0) (h0:l0.length≤c0) (h1:Kd.C k34 w A1 l1.length l1) (h2:l1.length≤c1) (h:Ql.f k l0 l1=some r) :
  Calls Try.prog 32 #[.slice A0 l0.length c0,.slice A1 l1.length c1] w fun e w'=>e = .returned (.bool r)∧Below w.heap.size w w':=by
 have hu34:=Try.underlying34;have h3:=zzm g9;have h9:=zzm h0;clear g9 h0;have h4:=zzm h1;have j2:=zzm h2;clear h1 h2;have HB:=zzm (Below.refl w.heap.size w);have H:(if (l0.length:Int)=(l1.length:Int) then (Ql.l0 k l0 l1 0) else (some false))=some r:=h;clear h;by_cases c3:(l0.length:Int)=(l1.length:Int)
 ·
  rw [if_pos c3] at H;obtain ⟨g6,g7⟩:=zzQ c3;have g8:(l0.length==l1.length)=true:=by first|simpa using c3|(simp at c3 ⊢;omega)
  clear c3;have H':=zzm H;clear H;go_enter Try.func32,Try.ntmps32;go_wp2;go_loopg [5] k (fun kq v5 w'=>∃ (a0:Int),v5 = .int .i64 a0∧Aside0 (Ql.l0 kq l0 l1 a0=some r)∧Aside0 (kq≤k)∧Aside0 (Below w.heap.size w w'))
  case atStart=>exact ⟨(0),(by first|rfl|(simp;done)|(simp [*];done)),H',⟨Nat.le_refl _⟩,⟨zzh1⟩⟩
  case round=>
   clear H';try clear c1
   try clear p2
   try clear c3
   try clear g6
   try clear g7
   try clear g8
   obtain ⟨a0,rfl,HA,HK1,HB⟩:=hrel;cases gk with
   | zero=>exact absurd HA.out (by simp [Ql.l0])
   | succ k1=>
    have H:=HA.out;clear HA;simp only [Ql.l0] at H;by_cases c4:a0 < (l0.length:Int)
    ·
     rw [if_pos c4] at H;have h5:decide (a0 < (l0.length:Int))=true:=decide_eq_true c4;clear c4;by_cases c5 : 0≤a0
     ·
      rw [if_pos c5] at H;have h7:decide (0≤a0)=true:=decide_eq_true c5;clear c5;by_cases c6:a0 < (l1.length:Int)
      ·
       rw [if_pos c6] at H;have h8:decide (a0 < (l1.length:Int))=true:=decide_eq_true c6;clear c6;obtain ⟨h6,A7,H⟩:=zzG H;by_cases c8:h6=true
       ·
        subst c8;replace H:=zzIt H;have H':=zzm H;clear H;try go_wp2
        have e2:=zzm (zzc HB.out);clear HB;have HB:=e2;clear e2;have e7 : 0≤(a0:Int):=zzt;have e8:a0 < (l0.length:Int):=zzt;obtain ⟨a1,e3,e4,g4,a4,a5,a6,a7,a8,a9,b7,b8⟩:=Q2 h3.out a0 e7 e8;have b9:=a9;have c2:=a8;have c7:=a7;have c9:=a6;have d0:=a5;have d1:=a4;cases g4;replace a4:=zzx HB.out a4;replace a5:=zzx HB.out a5;replace a6:=zzx HB.out a6;replace a7:=zzx HB.out a7;replace a8:=zzx HB.out a8;replace a9:=zzx HB.out a9;have d2:=zzm b8;have g1:=zzm b7;clear b8 b7;replace e7:=eq_true e7;replace e8:=eq_true e8;have e9 : 0≤(a0:Int):=zzt;have g0:a0 < (l1.length:Int):=zzt;obtain ⟨a2,e5,e6,g5,b0,b1,b2,b3,b4,b5,d3,d4⟩:=Q2 h4.out a0 e9 g0;have d5:=b5;have d6:=b4;have d7:=b3;have d8:=b2;have d9:=b1;have e0:=b0;cases g5;replace b0:=zzx HB.out b0;replace b1:=zzx HB.out b1;replace b2:=zzx HB.out b2;replace b3:=zzx HB.out b3;replace b4:=zzx HB.out b4;replace b5:=zzx HB.out b5;have e1:=zzm d4;have g2:=zzm d3;clear d4 d3;replace e9:=eq_true e9;replace g0:=eq_true g0;refine start_ (n:=10) (S:=fun w'=>w'.cell? (a1.add ((a0).toNat * 6))=some (.bool ((Qa l0 a0).f0))∧w'.cell? ⟨(a1.add ((a0).toNat * 6)).block,(a1.add ((a0).toNat * 6)).off+1,none⟩=some (.bool ((Qa l0 a0).f1))∧w'.cell? ⟨(a1.add ((a0).toNat * 6)).block,(a1.add ((a0).toNat * 6)).off+2,none⟩=some (.int .i64 ((Qa l0 a0).f2))∧w'.cell? ⟨(a1.add ((a0).toNat * 6)).block,(a1.add ((a0).toNat * 6)).off+3,none⟩=some (.int .i64 ((Qa l0 a0).f3))∧w'.cell? ⟨(a1.add ((a0).toNat * 6)).block,(a1.add ((a0).toNat * 6)).off+4,none⟩=some (.int .i64 ((Qa l0 a0).f4))∧w'.cell? ⟨(a1.add ((a0).toNat * 6)).block,(a1.add ((a0).toNat * 6)).off+5,none⟩=some (.slice e3 ((Qa l0 a0).f5).length e4)∧w'.cell? (a2.add ((a0).toNat * 6))=some (.bool ((Qa l1 a0).f0))∧w'.cell? ⟨(a2.add ((a0).toNat * 6)).block,(a2.add ((a0).toNat * 6)).off+1,none⟩=some (.bool ((Qa l1 a0).f1))∧w'.cell? ⟨(a2.add ((a0).toNat * 6)).block,(a2.add ((a0).toNat * 6)).off+2,none⟩=some (.int .i64 ((Qa l1 a0).f2))∧w'.cell? ⟨(a2.add ((a0).toNat * 6)).block,(a2.add ((a0).toNat * 6)).off+3,none⟩=some (.int .i64 ((Qa l1 a0).f3))∧w'.cell? ⟨(a2.add ((a0).toNat * 6)).block,(a2.add ((a0).toNat * 6)).off+4,none⟩=some (.int .i64 ((Qa l1 a0).f4))∧w'.cell? ⟨(a2.add ((a0).toNat * 6)).block,(a2.add ((a0).toNat * 6)).off+5,none⟩=some (.slice e5 ((Qa l1 a0).f5).length e6)) (ds:=[]) (zzB 10 0) (by kernel_rfl) rfl rfl ⟨(zzx HB.out d1),(zzx HB.out d0),(zzx HB.out c9),(zzx HB.out c7),(zzx HB.out c2),(zzx HB.out b9),(zzx HB.out e0),(zzx HB.out d9),(zzx HB.out d8),(zzx HB.out d7),(zzx HB.out d6),(zzx HB.out d5)⟩ (fun b6=>?_);refine with_tabW Ql.tab6 Ql.bits6 (fun a3 g3=>?_);generalize wr.drew=w9 at HB d2 e1 a4 a5 a6 a7 a8 a9 b0 b1 b2 b3 b4 b5 b6 ⊢;refine zzP 0 17 10 1 a3 ?_
        refine zzP 1 18 10 3 a3 ?_
        refine zzP 2 19 10 7 a3 ?_
        refine zzP 4 21 10 23 a3 ?_
        refine zzP 5 22 10 55 a3 ?_
        refine zzP 6 23 10 119 a3 ?_
        refine zzT 3 20 10 127 a3 g3 b6 ?_
        refine zzT 7 24 10 255 a3 g3 b6 ?_
        refine one_ (i:=8) (N:=some 25) (zzB 10 511) rfl rfl (one_of a3.out (by kernel_rfl)) (by decide) (fun K hK=>?_);refine goes_ Try.func61 (by kernel_rfl) rfl #[.agg #[.bool ((Qa l0 a0).f0),.bool ((Qa l0 a0).f1),.int .i64 ((Qa l0 a0).f2),.int .i64 ((Qa l0 a0).f3),.int .i64 ((Qa l0 a0).f4),.slice e3 ((Qa l0 a0).f5).length e4],.agg #[.bool ((Qa l1 a0).f0),.bool ((Qa l1 a0).f1),.int .i64 ((Qa l1 a0).f2),.int .i64 ((Qa l1 a0).f3),.int .i64 ((Qa l1 a0).f4),.slice e5 ((Qa l1 a0).f5).length e6]] (by rfl) rfl rfl zzM2 ?_;with_reducible refine (Rp.calls k1 ((Qa l0 a0).f0) ((Qa l0 a0).f1) ((Qa l0 a0).f2) ((Qa l0 a0).f3) ((Qa l0 a0).f4) _ _ ((Qa l0 a0).f5) ((Qa l1 a0).f0) ((Qa l1 a0).f1) ((Qa l1 a0).f2) ((Qa l1 a0).f3) ((Qa l1 a0).f4) _ _ ((Qa l1 a0).f5) true _ ?side1 ?side2 ?side3 ?side4 A7.out).mono ?_
        (case side1=>exact zzcb d2 HB)
        (case side2=>exact g1.out)
        (case side3=>exact zzcb e1 HB)
        (case side4=>exact g2.out);rintro e j3 ⟨rfl,hb⟩;refine ⟨_,rfl,?_⟩;have e2:=zzm (zzp zzh1 hb);clear HB;have HB:=e2;clear e2
        (try clear hb)
        (try clear hb2)
        (try clear hk)
        (try clear hi);refine hK.out _ _ ⟨(zzx HB.out d1),(zzx HB.out d0),(zzx HB.out c9),(zzx HB.out c7),(zzx HB.out c2),(zzx HB.out b9),(zzx HB.out e0),(zzx HB.out d9),(zzx HB.out d8),(zzx HB.out d7),(zzx HB.out d6),(zzx HB.out d5)⟩ (fun b6=>?_);clear hK K;refine zzO 25 ?_
        refine zzP 9 26 10 1023 a3 ?_
        refine done_ (done_of a3.out (by kernel_rfl)) ?_;try go_wp2
        go_roundg k1
        case measure=>have:=HK1.out;omega
        case rel=>exact ⟨(wrap64 (a0+1)),(by first|rfl|(simp;done)|(simp [*];done)),H',⟨by have:=HK1.out;omega⟩,⟨zzh1⟩⟩
       ·
        replace c8:=Bool.eq_false_iff.mpr c8;subst c8;replace H:=zzIf H;obtain rfl:=Option.some.inj H;try go_wp2
        have e2:=zzm (zzc HB.out);clear HB;have HB:=e2;clear e2;have e7 : 0≤(a0:Int):=zzt;have e8:a0 < (l0.length:Int):=zzt;obtain ⟨a1,e3,e4,g4,a4,a5,a6,a7,a8,a9,b7,b8⟩:=Q2 h3.out a0 e7 e8;have b9:=a9;have c2:=a8;have c7:=a7;have c9:=a6;have d0:=a5;have d1:=a4;cases g4;replace a4:=zzx HB.out a4;replace a5:=zzx HB.out a5;replace a6:=zzx HB.out a6;replace a7:=zzx HB.out a7;replace a8:=zzx HB.out a8;replace a9:=zzx HB.out a9;have d2:=zzm b8;have g1:=zzm b7;clear b8 b7;replace e7:=eq_true e7;replace e8:=eq_true e8;have e9 : 0≤(a0:Int):=zzt;have g0:a0 < (l1.length:Int):=zzt;obtain ⟨a2,e5,e6,g5,b0,b1,b2,b3,b4,b5,d3,d4⟩:=Q2 h4.out a0 e9 g0;have d5:=b5;have d6:=b4;have d7:=b3;have d8:=b2;have d9:=b1;have e0:=b0;cases g5;replace b0:=zzx HB.out b0;replace b1:=zzx HB.out b1;replace b2:=zzx HB.out b2;replace b3:=zzx HB.out b3;replace b4:=zzx HB.out b4;replace b5:=zzx HB.out b5;have e1:=zzm d4;have g2:=zzm d3;clear d4 d3;replace e9:=eq_true e9;replace g0:=eq_true g0;refine start_ (n:=10) (S:=fun w'=>w'.cell? (a1.add ((a0).toNat * 6))=some (.bool ((Qa l0 a0).f0))∧w'.cell? ⟨(a1.add ((a0).toNat * 6)).block,(a1.add ((a0).toNat * 6)).off+1,none⟩=some (.bool ((Qa l0 a0).f1))∧w'.cell? ⟨(a1.add ((a0).toNat * 6)).block,(a1.add ((a0).toNat * 6)).off+2,none⟩=some (.int .i64 ((Qa l0 a0).f2))∧w'.cell? ⟨(a1.add ((a0).toNat * 6)).block,(a1.add ((a0).toNat * 6)).off+3,none⟩=some (.int .i64 ((Qa l0 a0).f3))∧w'.cell? ⟨(a1.add ((a0).toNat * 6)).block,(a1.add ((a0).toNat * 6)).off+4,none⟩=some (.int .i64 ((Qa l0 a0).f4))∧w'.cell? ⟨(a1.add ((a0).toNat * 6)).block,(a1.add ((a0).toNat * 6)).off+5,none⟩=some (.slice e3 ((Qa l0 a0).f5).length e4)∧w'.cell? (a2.add ((a0).toNat * 6))=some (.bool ((Qa l1 a0).f0))∧w'.cell? ⟨(a2.add ((a0).toNat * 6)).block,(a2.add ((a0).toNat * 6)).off+1,none⟩=some (.bool ((Qa l1 a0).f1))∧w'.cell? ⟨(a2.add ((a0).toNat * 6)).block,(a2.add ((a0).toNat * 6)).off+2,none⟩=some (.int .i64 ((Qa l1 a0).f2))∧w'.cell? ⟨(a2.add ((a0).toNat * 6)).block,(a2.add ((a0).toNat * 6)).off+3,none⟩=some (.int .i64 ((Qa l1 a0).f3))∧w'.cell? ⟨(a2.add ((a0).toNat * 6)).block,(a2.add ((a0).toNat * 6)).off+4,none⟩=some (.int .i64 ((Qa l1 a0).f4))∧w'.cell? ⟨(a2.add ((a0).toNat * 6)).block,(a2.add ((a0).toNat * 6)).off+5,none⟩=some (.slice e5 ((Qa l1 a0).f5).length e6)) (ds:=[]) (zzB 10 0) (by kernel_rfl) rfl rfl ⟨(zzx HB.out d1),(zzx HB.out d0),(zzx HB.out c9),(zzx HB.out c7),(zzx HB.out c2),(zzx HB.out b9),(zzx HB.out e0),(zzx HB.out d9),(zzx HB.out d8),(zzx HB.out d7),(zzx HB.out d6),(zzx HB.out d5)⟩ (fun b6=>?_);refine with_tabW Ql.tab6 Ql.bits6 (fun a3 g3=>?_);generalize wr.drew=j4 at HB d2 e1 a4 a5 a6 a7 a8 a9 b0 b1 b2 b3 b4 b5 b6 ⊢;refine zzP 0 17 10 1 a3 ?_
        refine zzP 1 18 10 3 a3 ?_
        refine zzP 2 19 10 7 a3 ?_
        refine zzP 4 21 10 23 a3 ?_
        refine zzP 5 22 10 55 a3 ?_
        refine zzP 6 23 10 119 a3 ?_
        refine zzT 3 20 10 127 a3 g3 b6 ?_
        refine zzT 7 24 10 255 a3 g3 b6 ?_
        refine one_ (i:=8) (N:=some 25) (zzB 10 511) rfl rfl (one_of a3.out (by kernel_rfl)) (by decide) (fun K hK=>?_);refine goes_ Try.func61 (by kernel_rfl) rfl #[.agg #[.bool ((Qa l0 a0).f0),.bool ((Qa l0 a0).f1),.int .i64 ((Qa l0 a0).f2),.int .i64 ((Qa l0 a0).f3),.int .i64 ((Qa l0 a0).f4),.slice e3 ((Qa l0 a0).f5).length e4],.agg #[.bool ((Qa l1 a0).f0),.bool ((Qa l1 a0).f1),.int .i64 ((Qa l1 a0).f2),.int .i64 ((Qa l1 a0).f3),.int .i64 ((Qa l1 a0).f4),.slice e5 ((Qa l1 a0).f5).length e6]] (by rfl) rfl rfl zzM2 ?_;with_reducible refine (Rp.calls k1 ((Qa l0 a0).f0) ((Qa l0 a0).f1) ((Qa l0 a0).f2) ((Qa l0 a0).f3) ((Qa l0 a0).f4) _ _ ((Qa l0 a0).f5) ((Qa l1 a0).f0) ((Qa l1 a0).f1) ((Qa l1 a0).f2) ((Qa l1 a0).f3) ((Qa l1 a0).f4) _ _ ((Qa l1 a0).f5) false _ ?side1 ?side2 ?side3 ?side4 A7.out).mono ?_
        (case side1=>exact zzcb d2 HB)
        (case side2=>exact g1.out)
        (case side3=>exact zzcb e1 HB)
        (case side4=>exact g2.out);rintro e j5 ⟨rfl,hb⟩;refine ⟨_,rfl,?_⟩;have e2:=zzm (zzp zzh1 hb);clear HB;have HB:=e2;clear e2
        (try clear hb)
        (try clear hb2)
        (try clear hk)
        (try clear hi);refine hK.out _ _ ⟨(zzx HB.out d1),(zzx HB.out d0),(zzx HB.out c9),(zzx HB.out c7),(zzx HB.out c2),(zzx HB.out b9),(zzx HB.out e0),(zzx HB.out d9),(zzx HB.out d8),(zzx HB.out d7),(zzx HB.out d6),(zzx HB.out d5)⟩ (fun b6=>?_);clear hK K;refine zzO 25 ?_
        refine zzP 9 26 10 1023 a3 ?_
        refine done_ (done_of a3.out (by kernel_rfl)) ?_;try go_wp2
        go_ret;exact ⟨zzR,zzh1⟩
      ·
       rw [if_neg c6] at H;exact absurd H (by simp)
     ·
      rw [if_neg c5] at H;exact absurd H (by simp)
    ·
     rw [if_neg c4] at H;have h5:decide (a0 < (l0.length:Int))=false:=decide_eq_false c4;clear c4;obtain rfl:=Option.some.inj H;go_wp2;go_ret;exact ⟨zzR,zzh1⟩
 ·
  rw [if_neg c3] at H;obtain ⟨g6,g7⟩:=zzY c3;have g8:(l0.length==l1.length)=false:=by first|simpa using c3|(simp at c3 ⊢;omega)
  obtain rfl:=Option.some.inj H;go_enter Try.func32,Try.ntmps32;go_wp2;go_ret;exact ⟨zzR,zzh1⟩
end Go.Proofs.Ytkhjmhdgcmffaaa.X
namespace Go.Proofs.Ytkhjmhdgcmffaaa.Q
open Go.RowKit Go.Proofs.YtkhjmhdgcmffaaaW.PrintWords
def Opens {α:Type} (P:Program) (d:Kd α) (t:TypeId) (WF : α→Prop):Prop:=
 ∀ (H:Type) (enc:TypeId×Value→H) (w:World) (base:Nat) (spare:Nat→Bool) (held:Bool) (fuel:Nat) (cs:List Value) (x:DataW H×List MemPlace),DataW.trod enc P w base spare held fuel t cs=some x→∃ v : α,d.K w v cs∧WF v
theorem Opens.int {P:Program} {t:TypeId} {k:IntKind} (ht:P.underlying t=some (.int k)):Opens P (Kd.int k) t (fun n=>(Lit.int k n).wf=true):=by
 intro H enc w base spare held fuel cs x h
 obtain ⟨n,rfl,_,hw⟩:=DataW.trod_int ht h
 exact ⟨n,rfl,hw⟩
theorem Opens.bool {P:Program} {t:TypeId} (ht:P.underlying t=some .bool):Opens P Kd.bool t (fun _=>True):=by
 intro H enc w base spare held fuel cs x h
 obtain ⟨n,rfl,_⟩:=DataW.trod_bool ht h
 exact ⟨n,rfl,trivial⟩
theorem Opens.iso {α β:Type} {P:Program} {t:TypeId} {d:Kd α} {WF : α→Prop} {f : β→α} (h:Opens P d t WF) (g : α→β) (hg:∀ a,f (g a)=a):Opens P (Kd.iso d f) t (fun b=>WF (f b)):=by
 intro H enc w base spare held fuel cs x hx
 obtain ⟨v,hv,hw⟩:=h H enc w base spare held fuel cs x hx
 exact ⟨g v,by show d.K w (f (g v)) cs;rw [hg];exact hv,by show WF (f (g v));rw [hg];exact hw⟩
theorem list_of {α:Type} {Q:Nat→α→Prop} : ∀ (n:Nat),(∀ i,i < n→∃ v,Q i v)→∃ l:List α,l.length=n∧∀ j p,l[j]? = some p→Q j p
 | 0,_=>⟨[],rfl,fun j p h=>by simp at h⟩
 | n+1,h=>by
  obtain ⟨l,hl,hq⟩:=list_of n (fun i hi=>h i (by omega))
  obtain ⟨v,hv⟩:=h n (by omega)
  refine ⟨l ++ [v],by simp [hl],fun j p hj=>?_⟩
  rcases Nat.lt_or_ge j l.length with h1|h1
  ·rw [List.getElem?_append_left h1] at hj
   exact hq j p hj
  ·rw [List.getElem?_append_right h1] at hj
   have h2:j - l.length=0:=by
    have:=(List.getElem?_eq_some_iff.1 hj).1
    simp at this
    omega
   rw [h2] at hj
   simp at hj
   subst hj
   have:j=n:=by omega
   subst this
   exact hv
theorem cells_get {w:World} {base:Nat} {a:Addr} {n:Nat} {cs:List Value} (h:w.cells? base a n=some cs):cs.length=n∧∀ (i:Nat) (u:Value),cs[i]? = some u→w.cell? (a.add i)=some u:=by
 unfold World.cells? at h
 split at h
 ·have hl:cs.length=n:=by simpa using mapM_some_length h
  refine ⟨hl,fun i u hu=>?_⟩
  have hi:i < cs.length:=(List.getElem?_eq_some_iff.1 hu).1
  have:=mapM_some_get h i i (by rw [List.getElem?_range (by omega)])
  rw [this,hu]
 ·cases h
theorem add_add' (a:Addr) (x y:Nat):(a.add x).add y=a.add (x+y):=by
 by_cases hx:x=0 <;> by_cases hy:y=0 <;> simp [Addr.add,hx,hy,Nat.add_assoc]
theorem Opens.slice {α:Type} {P:Program} {t e:TypeId} {d:Kd α} {WF : α→Prop} (ht:P.underlying t=some (.slice e)) (h:Opens P d e WF) (hs:P.cellsOf e=d.sz):Opens P (Kd.slice e d) t (fun l=>l.length≤maxLen∧∀ v∈l,WF v):=by
 intro H enc w base spare held fuel cs x hx
 rcases Go.Deep.open_slice ht hx with ⟨rfl,_⟩|⟨a,len,cap,m,n,D,Pl,rfl,hb,hl,hm,hmm,_,hi⟩
 ·exact ⟨[],⟨none,0,rfl,Nat.le_refl _,rfl,by simp,fun h=>by simp at h⟩,by simp,fun v hv=>by simp at hv⟩
 ·have hlm:len≤m:=by rw [hmm];split <;> omega
  obtain ⟨l,hll,hq⟩:=list_of (Q:=fun i v=>∃ c,w.cells? base (a.add (i * P.cellsOf e)) (P.cellsOf e)=some c∧d.K w v c∧WF v) len (fun i hlt=>by
   obtain ⟨c,hc,hd⟩:=hi i (by omega)
   obtain ⟨v,hv,hw⟩:=h H enc w base spare held n c _ hd
   exact ⟨v,c,hc,hv,hw⟩)
  subst hll
  refine ⟨l,⟨some a,cap,rfl,hl,rfl,by unfold maxLen at hm;omega,fun _=>⟨a,rfl,fun j p hj=>?_⟩⟩,Nat.le_trans hl hm,fun v hv=>?_⟩
  ·obtain ⟨c,hc,hk,_⟩:=hq j p hj
   obtain ⟨h1,h2⟩:=cells_get hc
   refine ⟨c,by rw [h1,hs],hk,fun i u hu=>?_⟩
   rw [← hs,← add_add']
   exact h2 i u hu
  ·obtain ⟨j,hj,rfl⟩:=List.getElem_of_mem hv
   obtain ⟨_,_,_,hw⟩:=hq j _ (List.getElem?_eq_getElem hj)
   exact hw
def OpensFs {α:Type} (P:Program) (o:Nat) (fs:List Field) (d:Kd α) (WF : α→Prop):Prop:=
 ∀ (H:Type) (enc:TypeId×Value→H) (w:World) (base:Nat) (spare:Nat→Bool) (held:Bool) (fuel:Nat) (cs:List Value),(∀ f∈fs,∃ x:DataW H×List MemPlace,DataW.trod enc P w base spare held fuel f.type ((cs.drop f.offset).take (P.cellsOf f.type))=some x)→cs.length=o+d.sz→∃ v : α,d.K w v (cs.drop o)∧WF v
theorem OpensFs.one {α:Type} {P:Program} {o:Nat} {f:Field} {d:Kd α} {WF : α→Prop} (ho:f.offset=o) (hs:P.cellsOf f.type=d.sz) (h:Opens P d f.type WF):OpensFs P o [f] d WF:=by
 intro H enc w base spare held fuel cs hx hl
 obtain ⟨x,hx⟩:=hx f (by simp)
 rw [ho,hs,List.take_of_length_le (by rw [length_drop];omega)] at hx
 exact h H enc w base spare held fuel _ x hx
theorem OpensFs.cons {α β:Type} {P:Program} {o:Nat} {f:Field} {fs:List Field} {d:Kd α} {d' : Kd β} {WF : α→Prop} {WF' : β→Prop} (ho:f.offset=o) (hs:P.cellsOf f.type=d.sz) (h:Opens P d f.type WF) (h' : OpensFs P (o+d.sz) fs d' WF'):OpensFs P o (f::fs) (Kd.pair d d') (fun p=>WF p.1∧WF' p.2):=by
 intro H enc w base spare held fuel cs hx hl
 obtain ⟨x,hx0⟩:=hx f (by simp)
 rw [ho,hs] at hx0
 obtain ⟨v,hv,hw⟩:=h H enc w base spare held fuel _ x hx0
 have hl' : cs.length=o+d.sz+d'.sz:=by rw [hl];exact (Nat.add_assoc _ _ _).symm
 obtain ⟨v',hv',hw'⟩:=h' H enc w base spare held fuel cs (fun f' hf'=>hx f' (List.mem_cons_of_mem _ hf')) hl'
 refine ⟨(v,v'),⟨(cs.drop o).take d.sz,cs.drop (o+d.sz),?_,hv,hv'⟩,hw,hw'⟩
 rw [← List.drop_drop,List.take_append_drop]
theorem Opens.struct {α:Type} {P:Program} {t:TypeId} {fs:Array Field} {d:Kd α} {WF : α→Prop} (ht:P.underlying t=some (.struct fs)) (hs:P.cellsOf t=d.sz) (h:OpensFs P 0 fs.toList d WF):Opens P d t WF:=by
 intro H enc w base spare held fuel cs x hx
 obtain ⟨xs,n,_,_,hl,hxs,hf⟩:=DataW.trod_struct ht hx
 refine h H enc w base spare held n cs (fun f hfm=>?_) (by rw [hl,hs,Nat.zero_add])
 obtain ⟨i,hi,rfl⟩:=List.getElem_of_mem hfm
 have hi' : i < fs.size:=by simpa using hi
 have:=hf i fs[i] (Array.getElem?_eq_getElem hi')
 rw [List.getElem?_eq_getElem (by omega)] at this
 exact ⟨_,by simpa using this⟩
end Go.Proofs.Ytkhjmhdgcmffaaa.Q
namespace Go.Proofs.Ytkhjmhdgcmffaaa.X
open Go.RowKit Go.Proofs.YtkhjmhdgcmffaaaW.PrintWords
set_option linter.unusedVariables false
def WF108 (x:S108):Prop:=(Lit.int .i64 x.f0).wf=true∧(Lit.int .i64 x.f1).wf=true∧True∧(x.f3.length≤maxLen∧∀ v∈x.f3,(Lit.int .i64 v).wf=true)∧True∧(x.f5.length≤maxLen∧∀ v∈x.f5,(Lit.int .i64 v).wf=true)
theorem opens108:Q.Opens Try.prog k108 108 WF108:=
 Q.Opens.iso (Q.Opens.struct Try.underlying108 (by kernel_rfl) (Q.OpensFs.cons rfl (by kernel_rfl) (Q.Opens.int Try.underlying3) (Q.OpensFs.cons rfl (by kernel_rfl) (Q.Opens.int Try.underlying3) (Q.OpensFs.cons rfl (by kernel_rfl) (Q.Opens.bool Try.underlying4) (Q.OpensFs.cons rfl (by kernel_rfl) (Q.Opens.slice Try.underlying28 (Q.Opens.int Try.underlying3) (by kernel_rfl)) (Q.OpensFs.cons rfl (by kernel_rfl) (Q.Opens.bool Try.underlying4) (Q.OpensFs.one rfl (by kernel_rfl) (Q.Opens.slice Try.underlying28 (Q.Opens.int Try.underlying3) (by kernel_rfl))))))))) (fun p=>⟨p.1,p.2.1,p.2.2.1,p.2.2.2.1,p.2.2.2.2.1,p.2.2.2.2.2⟩) (fun _=>rfl)
def WF73 (x:S73):Prop:=True∧True∧(Lit.int .i64 x.f2).wf=true∧(Lit.int .i64 x.f3).wf=true∧(Lit.int .i64 x.f4).wf=true∧(x.f5.length≤maxLen∧∀ v∈x.f5,WF108 v)
theorem opens73:Q.Opens Try.prog k73 73 WF73:=
 Q.Opens.iso (Q.Opens.struct Try.underlying73 (by kernel_rfl) (Q.OpensFs.cons rfl (by kernel_rfl) (Q.Opens.bool Try.underlying4) (Q.OpensFs.cons rfl (by kernel_rfl) (Q.Opens.bool Try.underlying4) (Q.OpensFs.cons rfl (by kernel_rfl) (Q.Opens.int Try.underlying3) (Q.OpensFs.cons rfl (by kernel_rfl) (Q.Opens.int Try.underlying3) (Q.OpensFs.cons rfl (by kernel_rfl) (Q.Opens.int Try.underlying3) (Q.OpensFs.one rfl (by kernel_rfl) (Q.Opens.slice Try.underlying71 opens108 (by kernel_rfl))))))))) (fun p=>⟨p.1,p.2.1,p.2.2.1,p.2.2.2.1,p.2.2.2.2.1,p.2.2.2.2.2⟩) (fun _=>rfl)
end Go.Proofs.Ytkhjmhdgcmffaaa.X
namespace Go.Proofs.Ytkhjmhdgcmffaaa.XQ
open Go.RowKit Go.Proofs.YtkhjmhdgcmffaaaW.PrintWords
set_option linter.unusedVariables false
set_option linter.unusedSimpArgs false
theorem ev_succ {α:Type} {g:Nat→Option α} {r : α} (h:Ev (fun k=>g (k+1)) r):Ev g r:=Ev.step (f:=fun k=>g (k+1)) (fun _=>rfl) h
theorem ev_of_all {α:Type} {g:Nat→Option α} {r : α} (h:∀ k,g k=some r):Ev g r:=⟨0,fun k _=>h k⟩
theorem ev_some {α:Type} (r : α):Ev (fun _=>some r) r:=ev_of_all fun _=>rfl
def Evs {α:Type} (g:Nat→Option α) (Q : α→Prop):Prop:=∃ r,Ev g r∧Q r
theorem Evs.of {α:Type} {g:Nat→Option α} {Q : α→Prop} {r : α} (h:Ev g r) (hq:Q r):Evs g Q:=⟨r,h,hq⟩
theorem Evs.done {α:Type} {Q : α→Prop} {r : α} (hq:Q r):Evs (fun _=>some r) Q:=⟨r,ev_some r,hq⟩
theorem Evs.mono {α:Type} {g:Nat→Option α} {Q Q' : α→Prop} (h:Evs g Q) (hq:∀ r,Q r→Q' r):Evs g Q':=by
 obtain ⟨r,h1,h2⟩:=h
 exact ⟨r,h1,hq r h2⟩
theorem Evs.succ {α:Type} {g:Nat→Option α} {Q : α→Prop} (h:Evs (fun k=>g (k+1)) Q):Evs g Q:=by
 obtain ⟨r,h1,h2⟩:=h
 exact ⟨r,ev_succ h1,h2⟩
theorem Evs.bind {α β:Type} {g:Nat→Option α} {f:Nat→α→Option β} {Q : α→Prop} {R : β→Prop} (h:Evs g Q) (k:∀ a,Q a→Evs (fun n=>f n a) R):Evs (fun n=>(g n).bind (f n)) R:=by
 obtain ⟨a,h1,h2⟩:=h
 obtain ⟨r,k1,k2⟩:=k a h2
 exact ⟨r,Ev.bind h1 k1,k2⟩
theorem bsome {α β:Type} (a : α) (f : α→Option β):(some a).bind f=f a:=Eq.trans (Option.bind_some a f) (Eq.refl _)
end Go.Proofs.Ytkhjmhdgcmffaaa.XQ
namespace Go.Proofs.Ytkhjmhdgcmffaaa.XQ
open Go.RowKit Go.Proofs.Ytkhjmhdgcmffaaa.X Go.Proofs.YtkhjmhdgcmffaaaW.PrintWords Go.Proofs.YtkhjmhdgcmffaaaW.PrintLast
set_option linter.unusedVariables false
set_option linter.unusedSimpArgs false
theorem wrap_id {x:Int} (h0 : -9223372036854775808≤x) (h1:x < 9223372036854775808):wrap64 x=x:=by unfold wrap64;omega
theorem Rt (a b c:Int):Qp.f a b c=some (decide (b≤a∧a≤c)):=by
 unfold Qp.f
 by_cases h:a ≥ b
 ·rw [if_pos h]
  have:(b≤a∧a≤c)↔a≤c:=⟨fun h=>h.2,fun h'=>⟨h,h'⟩⟩
  simp [this]
 ·rw [if_neg h]
  have:¬ (b≤a∧a≤c):=fun h'=>h h'.1
  simp [this]
theorem spec_l6In_eq (a b c:Int):Qs.f a b c=some (decide (b≤a∧a≤c)):=by
 unfold Qs.f
 by_cases h:a ≥ b
 ·rw [if_pos h]
  have:(b≤a∧a≤c)↔a≤c:=⟨fun h=>h.2,fun h'=>⟨h,h'⟩⟩
  simp [this]
 ·rw [if_neg h]
  have:¬ (b≤a∧a≤c):=fun h'=>h h'.1
  simp [this]
theorem rd_nat (l:List Int) (j:Nat) (h:j < l.length):rd l (j:Int)=l[j]:=by
 unfold rd
 rw [Int.toNat_natCast,List.getD_eq_getElem?_getD,List.getElem?_eq_getElem h]
 rfl
theorem drop_int {l:List Int} {i:Nat} (h:i < l.length):l.drop i=rd l i::l.drop (i+1):=by
 rw [List.drop_eq_getElem_cons h,rd_nat l i h]
def ab (l:List Int):Bool:=decide (∀ x∈l,0≤x∧x≤255)
theorem ab_cons (x:Int) (l:List Int):ab (x::l)=(decide (0≤x∧x≤255)&&ab l):=by
 rw [Bool.eq_iff_iff]
 simp [ab,List.forall_mem_cons]
theorem ab_nil:ab []=true:=by simp [ab]
theorem isByte_eq (a:Int):Rj.f a=some (decide (0≤a∧a≤255)):=by
 unfold Rj.f
 by_cases h:a ≥ 0
 ·rw [if_pos h]
  have:(0≤a∧a≤255)↔a≤255:=⟨fun h=>h.2,fun h'=>⟨h,h'⟩⟩
  simp [this]
 ·rw [if_neg h]
  have:¬ (0≤a∧a≤255):=fun h'=>h h'.1
  simp [this]
theorem baseValid_eq (a b:Int):Rb.f a b=some (decide ((0≤a∧a≤99999)∧(0≤b∧b≤99999))):=by
 unfold Rb.f
 rw [Rt,Rt]
 by_cases h : 0≤a∧a≤99999 <;> simp [h]
theorem idValid_eqB (a:Int):Rf.f a=some (decide (0≤a∧a≤254)):=by
 unfold Rf.f
 rw [Rt]
 rfl
theorem implAll_loop (l:List Int) (hl:l.length≤1000000000000000):∀ (d i:Nat),l.length - i=d→i≤l.length→Ev (fun k=>Qn.l0 k l (l.length:Int) (i:Int)) (ab (l.drop i)):=by
 intro d
 induction d with
 | zero=>
  intro i hd hi
  rw [show l.drop i = [] from List.drop_eq_nil_of_le (by omega),ab_nil]
  refine ev_succ ?_
  simp only [Qn.l0,if_neg (show ¬ (i:Int) < (l.length:Int) by omega)]
  exact ev_some _
 | succ d ih=>
  intro i hd hi
  have e1:wrap64 ((i:Int)+1)=((i+1:Nat):Int):=by rw [wrap_id (by omega) (by omega)];omega
  rw [drop_int (show i < l.length by omega),ab_cons]
  refine ev_succ ?_
  simp only [Qn.l0,if_pos (show (i:Int) < (l.length:Int) by omega),if_pos (show (0:Int)≤i by omega),isByte_eq,bsome,decide_eq_true_eq,e1]
  by_cases h : 0≤rd l (i:Int)∧rd l (i:Int)≤255
  ·simp only [if_pos h,decide_eq_true h,Bool.true_and]
   exact ih (i+1) (by omega) (by omega)
  ·simp only [if_neg h,decide_eq_false h,Bool.false_and]
   exact ev_some _
theorem implAll (l:List Int) (hl:l.length≤1000000000000000):Ev (fun k=>Qn.f k l) (ab l):=by
 unfold Qn.f
 have:=implAll_loop l hl l.length 0 (by omega) (by omega)
 simpa using this
theorem specAll_loop (l:List Int) (hl:l.length≤1000000000000000):∀ (d i:Nat),l.length - i=d→i≤l.length→Ev (fun k=>Q3.l0 k l (i:Int)) (ab (l.drop i)):=by
 intro d
 induction d with
 | zero=>
  intro i hd hi
  rw [show l.drop i = [] from List.drop_eq_nil_of_le (by omega),ab_nil]
  refine ev_succ ?_
  simp only [Q3.l0,if_neg (show ¬ (i:Int) < (l.length:Int) by omega)]
  exact ev_some _
 | succ d ih=>
  intro i hd hi
  have e1:wrap64 ((i:Int)+1)=((i+1:Nat):Int):=by rw [wrap_id (by omega) (by omega)];omega
  rw [drop_int (show i < l.length by omega),ab_cons]
  refine ev_succ ?_
  simp only [Q3.l0,if_pos (show (i:Int) < (l.length:Int) by omega),if_pos (show (0:Int)≤i by omega),spec_l6In_eq,bsome,decide_eq_true_eq,e1]
  by_cases h : 0≤rd l (i:Int)∧rd l (i:Int)≤255
  ·simp only [if_pos h,decide_eq_true h,Bool.true_and]
   exact ih (i+1) (by omega) (by omega)
  ·simp only [if_neg h,decide_eq_false h,Bool.false_and]
   exact ev_some _
theorem specAll (l:List Int) (hl:l.length≤1000000000000000):Ev (fun k=>Q3.f k l) (ab l):=by
 unfold Q3.f
 have:=specAll_loop l hl l.length 0 (by omega) (by omega)
 simpa using this
def pv (has:Bool) (l:List Int):Bool:=if has=true then decide (l.length≤12)&&ab l else decide (l.length=0)
theorem implPart (has:Bool) (l:List Int) (hl:l.length≤1000000000000000):Ev (fun k=>Q6.f k has l) (pv has l):=by
 unfold Q6.f pv
 cases has with
 | true=>
  simp only [if_true]
  by_cases h:(l.length:Int)≤12
  ·simp only [if_pos h,decide_eq_true (show l.length≤12 by omega),Bool.true_and]
   exact Ev.bind (implAll l hl) (ev_some _)
  ·simp only [if_neg h,decide_eq_false (show ¬ l.length≤12 by omega),Bool.false_and]
   exact ev_some _
 | false=>
  simp only [Bool.false_eq_true,if_false]
  rw [show ((l.length:Int)==0)=decide (l.length=0) by rw [Bool.eq_iff_iff];simp]
  exact ev_some _
theorem specPart (has:Bool) (l:List Int) (hl:l.length≤1000000000000000):Ev (fun k=>Rg.f k has l) (pv has l):=by
 unfold Rg.f pv
 cases has with
 | true=>
  simp only [if_true]
  refine Ev.bind (specAll l hl) ?_
  by_cases h:ab l=true
  ·simp only [if_pos h,h,Bool.and_true]
   rw [show decide ((l.length:Int)≤12)=decide (l.length≤12) by rw [decide_eq_decide];omega]
   exact ev_some _
  ·simp only [if_neg h,show ab l=false by simpa using h,Bool.and_false]
   exact ev_some _
 | false=>
  simp only [Bool.false_eq_true,if_false]
  by_cases h:l.length=0
  ·simp only [if_pos (show (l.length:Int)=0 by omega),decide_eq_true h]
   refine Ev.bind (specAll l hl) ?_
   have hn:l = []:=List.length_eq_zero_iff.1 h
   subst hn
   simp only [ab_nil,if_true]
   exact ev_some _
  ·simp only [if_neg (show ¬ (l.length:Int)=0 by omega),decide_eq_false h]
   exact ev_some _
abbrev Rc:=S30
abbrev rr (l:List Rc) (i:Int):Rc:=Qb l i
theorem rr_nat (l:List Rc) (j:Nat) (h:j < l.length):rr l (j:Int)=l[j]:=by
 unfold rr Qb
 rw [Int.toNat_natCast,List.getD_eq_getElem?_getD,List.getElem?_eq_getElem h]
 rfl
def smallR (r:Rc):Prop:=r.f3.length≤1000000000000000∧r.f5.length≤1000000000000000
def smallRs (l:List Rc):Prop:=l.length≤1000000000000000∧∀ r∈l,smallR r
theorem smallRs_at {l:List Rc} (h:smallRs l) (j:Nat) (hj:j < l.length):smallR (rr l (j:Int)):=by
 rw [rr_nat l j hj]
 exact h.2 _ (List.getElem_mem hj)
def rv (r:Rc):Bool:=decide ((0≤r.f0∧r.f0≤99999)∧(0≤r.f1∧r.f1≤99999))&&(pv r.f2 r.f3&&pv r.f4 r.f5)
theorem implRec (r:Rc) (h:smallR r):Ev (fun k=>Q8.f k r.f0 r.f1 r.f2 r.f3 r.f4 r.f5) (rv r):=by
 unfold Q8.f rv
 simp only [baseValid_eq,bsome,decide_eq_true_eq]
 by_cases h0:(0≤r.f0∧r.f0≤99999)∧(0≤r.f1∧r.f1≤99999)
 ·simp only [if_pos h0,decide_eq_true h0,Bool.true_and]
  refine Ev.bind (implPart _ _ h.1) ?_
  by_cases h1:pv r.f2 r.f3=true
  ·simp only [if_pos h1,h1,Bool.true_and]
   exact Ev.bind (implPart _ _ h.2) (ev_some _)
  ·simp only [if_neg h1,show pv r.f2 r.f3=false by simpa using h1,Bool.false_and]
   exact ev_some _
 ·simp only [if_neg h0,decide_eq_false h0,Bool.false_and]
  exact ev_some _
theorem specRec (r:Rc) (h:smallR r):Ev (fun k=>Q7.f k r.f0 r.f1 r.f2 r.f3 r.f4 r.f5) (rv r):=by
 unfold Q7.f rv
 simp only [spec_l6In_eq,bsome,decide_eq_true_eq]
 by_cases h0 : 0≤r.f0∧r.f0≤99999
 ·by_cases h1 : 0≤r.f1∧r.f1≤99999
  ·simp only [if_pos h0,if_pos h1,decide_eq_true (show (0≤r.f0∧r.f0≤99999)∧(0≤r.f1∧r.f1≤99999) from ⟨h0,h1⟩),Bool.true_and]
   refine Ev.bind (specPart _ _ h.1) ?_
   by_cases h2:pv r.f2 r.f3=true
   ·simp only [if_pos h2,h2,Bool.true_and]
    exact Ev.bind (specPart _ _ h.2) (ev_some _)
   ·simp only [if_neg h2,show pv r.f2 r.f3=false by simpa using h2,Bool.false_and]
    exact ev_some _
  ·simp only [if_pos h0,if_neg h1,decide_eq_false (show ¬ ((0≤r.f0∧r.f0≤99999)∧(0≤r.f1∧r.f1≤99999)) from fun h=>h1 h.2),Bool.false_and]
   exact ev_some _
 ·simp only [if_neg h0,decide_eq_false (show ¬ ((0≤r.f0∧r.f0≤99999)∧(0≤r.f1∧r.f1≤99999)) from fun h=>h0 h.1),Bool.false_and]
  exact ev_some _
def RF (l:List Rc) (i:Nat):Prop:=∀ j,i≤j→j < l.length→rv (rr l j)=true∧(0 < j→(rr l ((j:Int) - 1)).f0 < (rr l j).f0)
theorem RF_end {l:List Rc} {i:Nat} (h:l.length≤i):RF l i:=fun j h1 h2=>by omega
theorem RF_step {l:List Rc} {i:Nat} (h:i < l.length):RF l i↔(rv (rr l i)=true∧(0 < i→(rr l ((i:Int) - 1)).f0 < (rr l i).f0))∧RF l (i+1):=by
 constructor
 ·intro hv
  exact ⟨hv i (Nat.le_refl _) h,fun j h1 h2=>hv j (by omega) h2⟩
 ·rintro ⟨h1,h2⟩ j h3 h4
  by_cases e:j=i
  ·subst e;exact h1
  ·exact h2 j (by omega) h4
theorem implRecs_loop (l:List Rc) (hl:smallRs l) (a0 a1:Bool) (a2 a3 a4:Int):∀ (d i:Nat),l.length - i=d→i≤l.length→Evs (fun k=>Qc.l0 k l (l.length:Int) (i:Int) a0 a1 a2 a3 a4 l) (fun b=>b=true↔RF l i):=by
 intro d
 induction d with
 | zero=>
  intro i hd hi
  refine Evs.succ ?_
  simp only [Qc.l0,if_neg (show ¬ (i:Int) < (l.length:Int) by omega)]
  exact Evs.done (by simp;exact RF_end (by omega))
 | succ d ih=>
  intro i hd hi
  have hll:=hl.1
  have hn:=ih (i+1) (by omega) (by omega)
  have e1:wrap64 ((i:Int)+1)=((i+1:Nat):Int):=by rw [wrap_id (by omega) (by omega)];omega
  have e2:wrap64 ((i:Int) - 1)=(i:Int) - 1:=wrap_id (by omega) (by omega)
  rw [RF_step (show i < l.length by omega)]
  refine Evs.succ ?_
  simp only [Qc.l0,if_pos (show (i:Int) < (l.length:Int) by omega),if_pos (show (0:Int)≤i by omega),e1,e2]
  refine Evs.bind (Evs.of (implRec (rr l (i:Int)) (smallRs_at hl i (by omega))) rfl:Evs _ (fun x=>x=rv (rr l (i:Int)))) ?_
  rintro _ rfl
  by_cases h1:rv (rr l (i:Int))=true
  ·simp only [if_pos h1]
   by_cases h0:(i:Int) > 0
   ·simp only [if_pos h0,if_pos (show 0≤(i:Int) - 1 by omega),if_pos (show (i:Int) - 1 < (l.length:Int) by omega)]
    by_cases h2:(rr l ((i:Int) - 1)).f0 ≥ (rr l (i:Int)).f0
    ·simp only [if_pos h2]
     refine Evs.done ?_
     simp only [Bool.false_eq_true,false_iff]
     rintro ⟨⟨_,h3⟩,_⟩
     have:=h3 (by omega)
     omega
    ·simp only [if_neg h2]
     refine hn.mono fun b hb=>?_
     rw [hb]
     exact ⟨fun h=>⟨⟨h1,fun _=>by omega⟩,h⟩,fun h=>h.2⟩
   ·simp only [if_neg h0]
    refine hn.mono fun b hb=>?_
    rw [hb]
    exact ⟨fun h=>⟨⟨h1,fun h'=>absurd h' (by omega)⟩,h⟩,fun h=>h.2⟩
  ·simp only [if_neg h1]
   exact Evs.done (by simp only [Bool.false_eq_true,false_iff];exact fun h=>h1 h.1.1)
theorem specRecs_loop (l:List Rc) (hl:smallRs l):∀ (d i:Nat),l.length - i=d→i≤l.length→Evs (fun k=>Qe.l0 k l (i:Int)) (fun b=>b=true↔RF l i∧1≤l.length∧l.length≤6):=by
 intro d
 induction d with
 | zero=>
  intro i hd hi
  refine Evs.succ ?_
  simp only [Qe.l0,if_neg (show ¬ (i:Int) < (l.length:Int) by omega),spec_l6In_eq,bsome]
  exact Evs.done (by simp only [decide_eq_true_eq];exact ⟨fun h=>⟨RF_end (by omega),by omega,by omega⟩,fun h=>by have:=h.2;omega⟩)
 | succ d ih=>
  intro i hd hi
  have hll:=hl.1
  have hn:=ih (i+1) (by omega) (by omega)
  have e1:wrap64 ((i:Int)+1)=((i+1:Nat):Int):=by rw [wrap_id (by omega) (by omega)];omega
  have e2:wrap64 ((i:Int) - 1)=(i:Int) - 1:=wrap_id (by omega) (by omega)
  rw [RF_step (show i < l.length by omega)]
  refine Evs.succ ?_
  simp only [Qe.l0,if_pos (show (i:Int) < (l.length:Int) by omega),if_pos (show (0:Int)≤i by omega),e1,e2]
  refine Evs.bind (Evs.of (specRec (rr l (i:Int)) (smallRs_at hl i (by omega))) rfl:Evs _ (fun x=>x=rv (rr l (i:Int)))) ?_
  rintro _ rfl
  by_cases h1:rv (rr l (i:Int))=true
  ·simp only [if_pos h1]
   by_cases h0:(i:Int) > 0
   ·simp only [if_pos h0,if_pos (show 0≤(i:Int) - 1 by omega),if_pos (show (i:Int) - 1 < (l.length:Int) by omega)]
    by_cases h2:(rr l ((i:Int) - 1)).f0 ≥ (rr l (i:Int)).f0
    ·simp only [if_pos h2]
     refine Evs.done ?_
     simp only [Bool.false_eq_true,false_iff]
     rintro ⟨⟨⟨_,h3⟩,_⟩,_⟩
     have:=h3 (by omega)
     omega
    ·simp only [if_neg h2]
     refine hn.mono fun b hb=>?_
     rw [hb]
     exact ⟨fun h=>⟨⟨⟨h1,fun _=>by omega⟩,h.1⟩,h.2⟩,fun h=>⟨h.1.2,h.2⟩⟩
   ·simp only [if_neg h0]
    refine hn.mono fun b hb=>?_
    rw [hb]
    exact ⟨fun h=>⟨⟨⟨h1,fun h'=>absurd h' (by omega)⟩,h.1⟩,h.2⟩,fun h=>⟨h.1.2,h.2⟩⟩
  ·simp only [if_neg h1]
   exact Evs.done (by simp only [Bool.false_eq_true,false_iff];exact fun h=>h1 h.1.1.1)
def VB (a1:Bool) (a2 a3 a4:Int) (l:List Rc):Prop:=
 (if a2=255 then a3=0∧a4=0∧a1=false else (0≤a2∧a2≤254)∧(0≤a3∧a3≤99)∧(0≤a4∧a4≤9999))∧(1≤l.length∧l.length≤6)∧(a1=true→l.length=1)∧RF l 0
theorem implB_j0 (a0 a1:Bool) (a2 a3 a4:Int) (l:List Rc) (hl:smallRs l):Evs (fun k=>Qc.j0 k a0 a1 a2 a3 a4 l) (fun b=>b=true↔(1≤l.length∧l.length≤6)∧(a1=true→l.length=1)∧RF l 0):=by
 have hr:=implRecs_loop l hl a0 a1 a2 a3 a4 l.length 0 (by omega) (by omega)
 refine Evs.succ ?_
 simp only [Qc.j0,Rt,bsome,decide_eq_true_eq]
 by_cases h : 1≤(l.length:Int)∧(l.length:Int)≤6
 ·simp only [if_pos h]
  cases a1 with
  | true=>
   simp only [if_true]
   refine Evs.succ ?_
   by_cases h1:l.length=1
   ·simp only [Qc.j1,show ((l.length:Int) != 1)=false by rw [h1];rfl,Bool.false_eq_true,if_false]
    refine hr.mono fun b hb=>?_
    rw [hb]
    exact ⟨fun h2=>⟨by omega,fun _=>h1,h2⟩,fun h2=>h2.2.2⟩
   ·simp only [Qc.j1,show ((l.length:Int) != 1)=true by simp;omega,if_true]
    exact Evs.done (by simp only [Bool.false_eq_true,false_iff];exact fun h2=>h1 (h2.2.1 trivial))
  | false=>
   simp only [Bool.false_eq_true,if_false]
   refine Evs.succ ?_
   simp only [Qc.j1,Bool.false_eq_true,if_false]
   refine hr.mono fun b hb=>?_
   rw [hb]
   exact ⟨fun h2=>⟨by omega,(fun h3=>h3.elim),h2⟩,fun h2=>h2.2.2⟩
 ·simp only [if_neg h]
  refine Evs.succ ?_
  simp only [Qc.j1,if_true]
  exact Evs.done (by simp only [Bool.false_eq_true,false_iff];exact fun h2=>h ⟨by have:=h2.1.1;omega,by have:=h2.1.2;omega⟩)
theorem implB_evs (a0 a1:Bool) (a2 a3 a4:Int) (l:List Rc) (hl:smallRs l):Evs (fun k=>Qc.f k a0 a1 a2 a3 a4 l) (fun b=>b=true↔VB a1 a2 a3 a4 l):=by
 have hj:=implB_j0 a0 a1 a2 a3 a4 l hl
 unfold Qc.f VB
 by_cases h:a2=255
 ·simp only [if_pos h]
  by_cases h3:a3=0
  ·simp only [if_pos h3]
   by_cases h4:a4=0
   ·simp only [if_pos h4]
    cases a1 with
    | true=>
     simp only [if_true]
     exact Evs.done (by simp)
    | false=>
     simp only [Bool.false_eq_true,if_false]
     refine hj.mono fun b hb=>?_
     rw [hb]
     exact ⟨fun h2=>⟨⟨h3,h4,trivial⟩,h2.1,(fun h5=>h5.elim),h2.2.2⟩,fun h2=>⟨h2.2.1,(fun h5=>by cases h5),h2.2.2.2⟩⟩
   ·simp only [if_neg h4]
    exact Evs.done (by simp only [Bool.false_eq_true,false_iff];exact fun h2=>h4 h2.1.2.1)
  ·simp only [if_neg h3]
   exact Evs.done (by simp only [Bool.false_eq_true,false_iff];exact fun h2=>h3 h2.1.1)
 ·simp only [if_neg h,idValid_eqB,Rt,bsome,decide_eq_true_eq]
  by_cases h2 : 0≤a2∧a2≤254
  ·simp only [if_pos h2]
   by_cases h3 : 0≤a3∧a3≤99
   ·simp only [if_pos h3]
    by_cases h4 : 0≤a4∧a4≤9999
    ·simp only [if_pos h4]
     refine hj.mono fun b hb=>?_
     rw [hb]
     exact ⟨fun h5=>⟨⟨h2,h3,h4⟩,h5⟩,fun h5=>h5.2⟩
    ·simp only [if_neg h4]
     exact Evs.done (by simp only [Bool.false_eq_true,false_iff];exact fun h5=>h4 h5.1.2.2)
   ·simp only [if_neg h3]
    exact Evs.done (by simp only [Bool.false_eq_true,false_iff];exact fun h5=>h3 h5.1.2.1)
  ·simp only [if_neg h2]
   exact Evs.done (by simp only [Bool.false_eq_true,false_iff];exact fun h5=>h2 h5.1.1)
theorem specB_j0_true (a0 a1:Bool) (a2 a3 a4:Int) (l:List Rc):Evs (fun k=>Qk.j0 k true a0 a1 a2 a3 a4 l) (fun b=>b=false):=by
 refine Evs.succ ?_
 simp only [Qk.j0,if_true]
 exact Evs.done rfl
theorem specB_evs (a0 a1:Bool) (a2 a3 a4:Int) (l:List Rc) (hl:smallRs l):Evs (fun k=>Qk.f k a0 a1 a2 a3 a4 l) (fun b=>b=true↔VB a1 a2 a3 a4 l):=by
 have hr:=specRecs_loop l hl l.length 0 (by omega) (by omega)
 have no:∀ {P:Prop},¬ P→∀ b:Bool,b=false→(b=true↔P):=fun hP b hb=>by rw [hb];simp only [Bool.false_eq_true,false_iff];exact hP
 unfold Qk.f
 unfold Qe.f
 refine Evs.bind hr ?_
 intro t ht
 by_cases h:t=true
 ·obtain ⟨hRF,hl1⟩:=ht.1 h
  simp only [if_pos h,spec_l6In_eq,bsome,decide_eq_true_eq]
  by_cases h2 : 0≤a2∧a2≤255
  ·simp only [if_pos h2]
   by_cases h3 : 0≤a3∧a3≤99
   ·simp only [if_pos h3]
    by_cases h4 : 0≤a4∧a4≤9999
    ·simp only [decide_eq_true h4,Bool.not_true]
     refine Evs.succ ?_
     simp only [Qk.j0,Bool.false_eq_true,if_false]
     unfold VB
     by_cases h5:a2=255
     ·simp only [if_pos h5]
      by_cases h6:a3=0
      ·simp only [if_pos h6]
       by_cases h7:a4=0
       ·simp only [if_pos h7]
        refine Evs.done ?_
        cases a1
        ·simp;exact ⟨⟨h6,h7⟩,hl1,hRF⟩
        ·simp
       ·simp only [if_neg h7]
        exact Evs.done (no (fun h8=>h7 h8.1.2.1) _ rfl)
      ·simp only [if_neg h6]
       exact Evs.done (no (fun h8=>h6 h8.1.1) _ rfl)
     ·simp only [if_neg h5]
      cases a1 with
      | true=>
       simp only [if_true]
       refine Evs.done ?_
       simp only [beq_iff_eq]
       exact ⟨fun h8=>⟨⟨by omega,h3,h4⟩,hl1,fun _=>by omega,hRF⟩,fun h8=>by have:=h8.2.2.1 trivial;omega⟩
      | false=>
       simp only [Bool.false_eq_true,if_false]
       refine Evs.done ?_
       simp only [true_iff]
       exact ⟨⟨by omega,h3,h4⟩,hl1,(fun h8=>h8.elim),hRF⟩
    ·simp only [decide_eq_false h4,Bool.not_false]
     refine (specB_j0_true a0 a1 a2 a3 a4 l).mono (no ?_)
     unfold VB
     split
     ·rintro ⟨⟨_,h8,_⟩,_⟩
      exact h4 (by omega)
     ·exact fun h8=>h4 h8.1.2.2
   ·simp only [if_neg h3]
    refine (specB_j0_true a0 a1 a2 a3 a4 l).mono (no ?_)
    unfold VB
    split
    ·rintro ⟨⟨h8,_,_⟩,_⟩
     exact h3 (by omega)
    ·exact fun h8=>h3 h8.1.2.1
  ·simp only [if_neg h2]
   refine (specB_j0_true a0 a1 a2 a3 a4 l).mono (no ?_)
   unfold VB
   split
   ·rename_i h8
    exact fun _=>h2 (by omega)
   ·exact fun h8=>h2 (by have:=h8.1.1;omega)
 ·simp only [if_neg h]
  refine (specB_j0_true a0 a1 a2 a3 a4 l).mono (no ?_)
  exact fun h8=>h (ht.2 ⟨h8.2.2.2,h8.2.1⟩)
open Classical in
noncomputable def vb (a1:Bool) (a2 a3 a4:Int) (l:List Rc):Bool:=decide (VB a1 a2 a3 a4 l)
theorem vb_iff (a1:Bool) (a2 a3 a4:Int) (l:List Rc):vb a1 a2 a3 a4 l=true↔VB a1 a2 a3 a4 l:=by unfold vb;simp
theorem implB (a0 a1:Bool) (a2 a3 a4:Int) (l:List Rc) (hl:smallRs l):Ev (fun k=>Qc.f k a0 a1 a2 a3 a4 l) (vb a1 a2 a3 a4 l):=by
 obtain ⟨b,hb,h⟩:=implB_evs a0 a1 a2 a3 a4 l hl
 rw [show vb a1 a2 a3 a4 l=b by rw [Bool.eq_iff_iff,vb_iff,h]]
 exact hb
theorem specB (a0 a1:Bool) (a2 a3 a4:Int) (l:List Rc) (hl:smallRs l):Ev (fun k=>Qk.f k a0 a1 a2 a3 a4 l) (vb a1 a2 a3 a4 l):=by
 obtain ⟨b,hb,h⟩:=specB_evs a0 a1 a2 a3 a4 l hl
 rw [show vb a1 a2 a3 a4 l=b by rw [Bool.eq_iff_iff,vb_iff,h]]
 exact hb
end Go.Proofs.Ytkhjmhdgcmffaaa.XQ
namespace Go.Proofs.Ytkhjmhdgcmffaaa.X
open Go.RowKit Go.Proofs.YtkhjmhdgcmffaaaW.PrintWords Go.Proofs.YtkhjmhdgcmffaaaW.PrintLast Go.Proofs.YtkhjmhdgcmffaaaW.PrintMore

set_option linter.unusedVariables false
set_option linter.unusedSimpArgs false
end Go.Proofs.Ytkhjmhdgcmffaaa.X
namespace Go.Proofs.Ytkhjmhdgcmffaaa.X
open Go.RowKit Go.Proofs.YtkhjmhdgcmffaaaW.PrintWords Go.Proofs.YtkhjmhdgcmffaaaW.PrintLast Go.Proofs.YtkhjmhdgcmffaaaW.PrintMore

set_option linter.unusedVariables false
set_option linter.unusedSimpArgs false

set_option linter.unusedVariables false
set_option linter.unusedSimpArgs false
end Go.Proofs.Ytkhjmhdgcmffaaa.X
namespace Go.Proofs.Ytkhjmhdgcmffaaa.XQ
open Go.RowKit Go.Proofs.Ytkhjmhdgcmffaaa.X Go.Proofs.YtkhjmhdgcmffaaaW.PrintWords Go.Proofs.YtkhjmhdgcmffaaaW.PrintLast
set_option linter.unusedVariables false
set_option linter.unusedSimpArgs false
theorem Rc_ext {a b:Rc} (h0:a.f0=b.f0) (h1:a.f1=b.f1) (h2:a.f2=b.f2) (h3:a.f3=b.f3) (h4:a.f4=b.f4) (h5:a.f5=b.f5):a=b:=by
 cases a
 cases b
 simp_all
instance:DecidableEq Rc:=fun a b=>decidable_of_iff (a.f0=b.f0∧a.f1=b.f1∧a.f2=b.f2∧a.f3=b.f3∧a.f4=b.f4∧a.f5=b.f5) ⟨fun h=>Rc_ext h.1 h.2.1 h.2.2.1 h.2.2.2.1 h.2.2.2.2.1 h.2.2.2.2.2,fun h=>by rw [h];simp⟩
end Go.Proofs.Ytkhjmhdgcmffaaa.XQ
