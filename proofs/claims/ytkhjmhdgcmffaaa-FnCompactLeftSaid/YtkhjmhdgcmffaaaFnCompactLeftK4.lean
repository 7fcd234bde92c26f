/- The law FnCompactLeft holds (part 5 of 7; merged by pack2.py). -/
import Derived.Test.YtkhjmhdgcmffaaaFnCompactLeftK3
set_option maxRecDepth 1000000
open List (setIfInBounds_toArray set_cons_zero set_cons_succ map_toArray map_cons map_nil length_drop length_take)
namespace Go.Proofs.Ytkhjmhdgcmffaaa.X
open Go.RowKit Go.Proofs.YtkhjmhdgcmffaaaW.PrintWords Go.Proofs.YtkhjmhdgcmffaaaW.PrintLast Go.Proofs.YtkhjmhdgcmffaaaW.PrintMore
attribute [local go_sem] max2_int max_two
set_option linter.unusedVariables false
set_option linter.unusedSimpArgs false
mutual
def Qk.l0:Nat→List (S34)→Int→Int→Int→Bool→List Int→Bool→List Int→Option (Bool)
 | 0,_,_,_,_,_,_,_,_=>none
 | k+1,x0,x5,x393000,x393001,x393002,x393003,x393004,x393005=>if x5 < (x0.length:Int) then (Qk.l1 k x0 x5 0 x393000 x393001 x393002 x393003 x393004 x393005) else (some false)
def Qk.l1:Nat→List (S34)→Int→Int→Int→Int→Bool→List Int→Bool→List Int→Option (Bool)
 | 0,_,_,_,_,_,_,_,_,_=>none
 | k+1,x0,x5,x6,x393000,x393001,x393002,x393003,x393004,x393005=>if 0≤x5 then (if x5 < (x0.length:Int) then (if x6 < (((Qa x0 x5).f5).length:Int) then (if 0≤x6 then (if ((Qa x0 x5).f1=true) then (Qk.l1 k x0 x5 (wrap64 (x6+1)) x393000 x393001 x393002 x393003 x393004 x393005) else (if (Qb ((Qa x0 x5).f5) x6).f2=true then (if ((Qb ((Qa x0 x5).f5) x6).f0) > x393000 then ((Rp.f k ((Qb ((Qa x0 x5).f5) x6).f3) x393003).bind fun t398=>(if t398=true then (some true) else (Qk.l1 k x0 x5 (wrap64 (x6+1)) x393000 x393001 x393002 x393003 x393004 x393005))) else (Qk.l1 k x0 x5 (wrap64 (x6+1)) x393000 x393001 x393002 x393003 x393004 x393005)) else (Qk.l1 k x0 x5 (wrap64 (x6+1)) x393000 x393001 x393002 x393003 x393004 x393005))) else (none)) else (Qk.l0 k x0 (wrap64 (x5+1)) x393000 x393001 x393002 x393003 x393004 x393005)) else (none)) else (none)
end
def Qk.f (k:Nat) (l0:List (S34)) (a1_0:Int) (a1_1:Int) (a1_2:Bool) (l1_3:List Int) (a1_4:Bool) (l1_5:List Int):Option (Bool):=Qk.l0 k l0 0 a1_0 a1_1 a1_2 l1_3 a1_4 l1_5
set_option maxHeartbeats 8000000 in
theorem Qk.calls (k:Nat) (A0:Option Addr) (c0:Nat) (l0:List (S34)) (e1:Int) (e9:Int) (g0:Bool) (j3:Option Addr) (j4:Nat) (d9:List Int) (g1:Bool) (j5:Option Addr) (j6:Nat) (e3:List Int) (r:Bool) (w:World) (p4:Kd.C k34 w A0 l0.length l0) (p5:l0.length≤c0) (o2:Kd.C (Kd.int .i64) w j3 d9.length d9) (o3:d9.length≤j4) (o4:Kd.C (Kd.int .i64) w j5 e3.length e3) (o5:e3.length≤j6) (h:Qk.f k l0 e1 e9 g0 d9 g1 e3=some r) :
  Calls Try.prog 73 #[.slice A0 l0.length c0,.agg #[.int .i64 e1,.int .i64 e9,.bool g0,.slice j3 d9.length j4,.bool g1,.slice j5 e3.length j6]] w fun e w'=>e = .returned (.bool r)∧Below w.heap.size w w':=by
 have hu30:=Try.underlying30;have l2:=zzm p4;have C7:=zzm p5;clear p4 p5;have o6:=zzm o2;have o7:=zzm o3;clear o2 o3;have A8:=zzm o4;have A9:=zzm o5;clear o4 o5;have HB:=zzm (Below.refl w.heap.size w);have H:(Qk.l0 k l0 0 e1 e9 g0 d9 g1 e3)=some r:=h;clear h;have H':=zzm H;clear H;go_enter Try.func73,Try.ntmps73;go_wp2_with (first|((with_reducible refine gate_dst (N:=3) rfl ?_);refine box_event ?hg (N:=3) ?hd (cs:=#[.int .i64 e1,.int .i64 e9,.bool g0,.slice j3 d9.length j4,.bool g1,.slice j5 e3.length j6]) (t:=30) ?hr ?_;(case hd=>rfl);(case hg=>rfl);(case hr=>first|(go_simp;done)|(go_simp;rfl));intro e0 hg w3 hbox hb;have k6:=zzm (zzp zzh1 hb);have k7:=zzm (hbox);have k8:=zzm ((by rw [hg];exact (zzo zzh1):w.heap.size≤e0));have k9:=zzm ((by rw [hg];exact (zzo zzh1):w.heap.size≤e0));clear HB;have HB:=k6;have c3:=k7;have B0:=k8;have B1:=k9;clear k6 k7 k8 k9 hb hbox hg));go_loopg [5] k (fun kq v5 w'=>∃ (a1:Int),v5 = .int .i64 a1∧Aside0 (Qk.l0 kq l0 a1 e1 e9 g0 d9 g1 e3=some r)∧Aside0 (kq≤k)∧Aside0 (w'.heap[e0]? = some (.cells #[.int .i64 e1,.int .i64 e9,.bool g0,(.slice j3 d9.length j4),.bool g1,(.slice j5 e3.length j6)] 30 (0,0)))∧Aside0 (Below w.heap.size w w'))
 case atStart=>exact ⟨(0),(by first|rfl|(simp;done)|(simp [*];done)),H',⟨Nat.le_refl _⟩,⟨zzE c3.out⟩,⟨zzh3⟩⟩
 case round=>
  clear H';try clear c1
  try clear p2
  obtain ⟨a1,rfl,HA,HK1,c3,HB⟩:=hrel;cases gk with
  | zero=>exact absurd HA.out (by simp [Qk.l0])
  | succ k1=>
   have H:=HA.out;clear HA;simp only [Qk.l0] at H;by_cases c4:a1 < (l0.length:Int)
   ·
    rw [if_pos c4] at H;have p1:decide (a1 < (l0.length:Int))=true:=decide_eq_true c4;clear c4;have H':=zzm H;clear H;go_wp2;go_loopg [6] k1 (fun kq v6 w'=>∃ (a2:Int),v6 = .int .i64 a2∧Aside0 (Qk.l1 kq l0 a1 a2 e1 e9 g0 d9 g1 e3=some r)∧Aside0 (kq≤k1)∧Aside0 (w'.heap[e0]? = some (.cells #[.int .i64 e1,.int .i64 e9,.bool g0,(.slice j3 d9.length j4),.bool g1,(.slice j5 e3.length j6)] 30 (0,0)))∧Aside0 (Below w.heap.size w w'))
    case atStart=>exact ⟨(0),(by first|rfl|(simp;done)|(simp [*];done)),H',⟨Nat.le_refl _⟩,⟨zzE c3.out⟩,⟨zzh3⟩⟩
    case round=>
     clear H';try clear c1
     try clear p2
     try clear c4
     try clear p1
     try clear p2
     obtain ⟨a2,rfl,HA,HK2,c3,HB⟩:=hrel;cases gk with
     | zero=>exact absurd HA.out (by simp [Qk.l1])
     | succ k2=>
      have H:=HA.out;clear HA;simp only [Qk.l1] at H;by_cases c5 : 0≤a1
      ·
       rw [if_pos c5] at H;have C4:decide (0≤a1)=true:=decide_eq_true c5;clear c5;by_cases c6:a1 < (l0.length:Int)
       ·
        rw [if_pos c6] at H;have C5:decide (a1 < (l0.length:Int))=true:=decide_eq_true c6;clear c6;by_cases c7:a2 < (((Qa l0 a1).f5).length:Int)
        ·
         rw [if_pos c7] at H;have p7:decide (a2 < (((Qa l0 a1).f5).length:Int))=true:=decide_eq_true c7;clear c7;by_cases c8 : 0≤a2
         ·
          rw [if_pos c8] at H;have C6:decide (0≤a2)=true:=decide_eq_true c8;clear c8;obtain ⟨bq9,hbq9⟩:∃ b_:Bool,b_=((Qa l0 a1).f1):=⟨_,rfl⟩;replace H:(if (bq9=true) then (Qk.l1 k2 l0 a1 (wrap64 (a2+1)) e1 e9 g0 d9 g1 e3) else (if (Qb ((Qa l0 a1).f5) a2).f2=true then (if ((Qb ((Qa l0 a1).f5) a2).f0) > e1 then ((Rp.f k2 ((Qb ((Qa l0 a1).f5) a2).f3) d9).bind fun o0=>(if o0=true then (some true) else (Qk.l1 k2 l0 a1 (wrap64 (a2+1)) e1 e9 g0 d9 g1 e3))) else (Qk.l1 k2 l0 a1 (wrap64 (a2+1)) e1 e9 g0 d9 g1 e3)) else (Qk.l1 k2 l0 a1 (wrap64 (a2+1)) e1 e9 g0 d9 g1 e3)))=some r:=by rw [← hbq9] at H;exact H
          have d7:=zzm hbq9;clear hbq9;by_cases o8:(bq9=true)
          ·
           subst o8;replace H:=zzIt H;have H':=zzm H;clear H;have h7 : 0≤(a1:Int):=zzt;have h8:a1 < (l0.length:Int):=zzt;obtain ⟨b6,m7,m8,l8,c9,d0,e4,e5,e6,d8,e7,e8⟩:=Ra l2.out a1 h7 h8
           (try rw [← d7.out] at c9)
           (try rw [← d7.out] at d0);cases l8;replace c9:=zzx HB.out c9;replace d0:=zzx HB.out d0;replace e4:=zzx HB.out e4;replace e5:=zzx HB.out e5;replace e6:=zzx HB.out e6;replace d8:=zzx HB.out d8;have m2:=zzm e8;have m3:=zzm e7;clear e8 e7;replace h7:=eq_true h7;replace h8:=eq_true h8;have j7 : 0≤(a1:Int):=zzt;have j8:a1 < (l0.length:Int):=zzt;obtain ⟨l3,n4,n5,m4,d2,d3,g2,g3,g4,e2,g5,g6⟩:=Ra l2.out a1 j7 j8
           (try rw [← d7.out] at d2)
           (try rw [← d7.out] at d3);obtain rfl:b6=l3:=(by injection m4);replace d2:=zzx HB.out d2;replace d3:=zzx HB.out d3;replace g2:=zzx HB.out g2;replace g3:=zzx HB.out g3;replace g4:=zzx HB.out g4;replace e2:=zzx HB.out e2;have k5:=zzm g6;have m9:=zzm g5;clear g6 g5;replace j7:=eq_true j7;replace j8:=eq_true j8;have ea_:=Option.some.inj (d8.symm.trans e2);injection ea_ with ea_ en_ ec_;subst ea_;subst ec_;clear en_;have j9 : 0≤(a2:Int):=zzt;have k0:a2 < (((Qa l0 a1).f5).length:Int):=zzt;obtain ⟨n8,b7,b8,b9,c2,m5,g7,g8,d4,g9,d5,h0,h1,h2,h3,h4⟩:=Rg k5.out a2 j9 k0
           (try rw [← d7.out] at d4)
           (try rw [← d7.out] at d5);cases m5;replace g7:=zzx HB.out g7;replace g8:=zzx HB.out g8;replace d4:=zzx HB.out d4;replace g9:=zzx HB.out g9;replace d5:=zzx HB.out d5;replace h0:=zzx HB.out h0;have l6:=zzm h2;have l7:=zzm h1;clear h2 h1;have n0:=zzm h4;have n1:=zzm h3;clear h4 h3;replace j9:=eq_true j9;replace k0:=eq_true k0;go_wp2_with (first|((with_reducible refine gate_dst (N:=7) rfl ?_);refine box_event ?hg (N:=7) ?hd (cs:=#[.int .i64 0,.int .i64 0,.bool false,.slice none 0 0,.bool false,.slice none 0 0]) (t:=30) ?hr ?_;(case hd=>rfl);(case hg=>rfl);(case hr=>first|(go_simp;done)|(go_simp;rfl));intro a0 hg C8 hbox hb;have k6:=zzm (zzh (g:=e0) (o:=.cells #[.int .i64 e1,.int .i64 e9,.bool g0,.slice j3 d9.length j4,.bool g1,.slice j5 e3.length j6] 30 (0,0)) (zzE c3.out) hb);have k7:=zzm (zzp zzh2 hb);have k8:=zzm (hbox);have k9:=zzm ((by rw [hg];exact (zzo zzh2):w.heap.size≤a0));have l9:=zzm ((by rw [hg];exact (zzo zzh2):w.heap.size≤a0));have m0:=zzm ((by rw [hg];exact Nat.ne_of_lt (blk_lt (g:=e0) (o:=.cells #[.int .i64 e1,.int .i64 e9,.bool g0,.slice j3 d9.length j4,.bool g1,.slice j5 e3.length j6] 30 (0,0)) (zzE c3.out)):e0≠a0));have m1:=zzm ((by rw [hg];exact Nat.ne_of_gt (blk_lt (g:=e0) (o:=.cells #[.int .i64 e1,.int .i64 e9,.bool g0,.slice j3 d9.length j4,.bool g1,.slice j5 e3.length j6] 30 (0,0)) (zzE c3.out)):a0≠e0));clear c3 HB;have c3:=k6;have HB:=k7;have l4:=k8;have d1:=k9;have n9:=l9;have b5:=m0;have h9:=m1;clear k6 k7 k8 k9 l9 m0 m1 hb hbox hg;have B2:=h9.out;have B3:=b5.out;obtain ⟨p8,p9,q0,q1,q2,q3,q4,q5,q6,q7,q8,q9⟩:=zzc6 l4.out;have k3 : 0≤(a1:Int):=zzt;have k4:a1 < (l0.length:Int):=zzt;obtain ⟨l5,n6,n7,m6,a3,a4,a5,a6,a7,a8,h5,h6⟩:=Ra l2.out a1 k3 k4;(try rw [← d7.out] at a3);(try rw [← d7.out] at a4);obtain rfl:b6=l5:=(by injection m6);have a9:b6.block≠a0:=Nat.ne_of_lt (Nat.lt_of_lt_of_le (by have:=zzn _ _ a3;first|rwa [add_block] at this|exact this) d1.out);have b0:b6.block≠a0:=Nat.ne_of_lt (Nat.lt_of_lt_of_le (by have:=zzn _ _ a3;first|rwa [add_block] at this|exact this) d1.out);have b1:b6.block≠a0:=Nat.ne_of_lt (Nat.lt_of_lt_of_le (by have:=zzn _ _ a3;first|rwa [add_block] at this|exact this) d1.out);have b2:b6.block≠a0:=Nat.ne_of_lt (Nat.lt_of_lt_of_le (by have:=zzn _ _ a3;first|rwa [add_block] at this|exact this) d1.out);have b3:b6.block≠a0:=Nat.ne_of_lt (Nat.lt_of_lt_of_le (by have:=zzn _ _ a3;first|rwa [add_block] at this|exact this) d1.out);have b4:b6.block≠a0:=Nat.ne_of_lt (Nat.lt_of_lt_of_le (by have:=zzn _ _ a3;first|rwa [add_block] at this|exact this) d1.out);replace a3:=zzx HB.out a3;replace a4:=zzx HB.out a4;replace a5:=zzx HB.out a5;replace a6:=zzx HB.out a6;replace a7:=zzx HB.out a7;replace a8:=zzx HB.out a8;have n2:=zzm h6;have n3:=zzm h5;clear h6 h5;replace a3:=(cell_far (p:=⟨a0,0,none⟩) (by first|exact zzaf a9|exact a9) (.int .i64 ((Qb ((Qa l0 a1).f5) a2).f0))).trans a3;replace a4:=(cell_far (p:=⟨a0,0,none⟩) (by first|exact zzaf a9|exact a9) (.int .i64 ((Qb ((Qa l0 a1).f5) a2).f0))).trans a4;replace a5:=(cell_far (p:=⟨a0,0,none⟩) (by first|exact zzaf a9|exact a9) (.int .i64 ((Qb ((Qa l0 a1).f5) a2).f0))).trans a5;replace a6:=(cell_far (p:=⟨a0,0,none⟩) (by first|exact zzaf a9|exact a9) (.int .i64 ((Qb ((Qa l0 a1).f5) a2).f0))).trans a6;replace a7:=(cell_far (p:=⟨a0,0,none⟩) (by first|exact zzaf a9|exact a9) (.int .i64 ((Qb ((Qa l0 a1).f5) a2).f0))).trans a7;replace a8:=(cell_far (p:=⟨a0,0,none⟩) (by first|exact zzaf a9|exact a9) (.int .i64 ((Qb ((Qa l0 a1).f5) a2).f0))).trans a8;replace a3:=(cell_far (p:=⟨a0,1,none⟩) (by first|exact zzaf b0|exact b0) (.int .i64 ((Qb ((Qa l0 a1).f5) a2).f1))).trans a3;replace a4:=(cell_far (p:=⟨a0,1,none⟩) (by first|exact zzaf b0|exact b0) (.int .i64 ((Qb ((Qa l0 a1).f5) a2).f1))).trans a4;replace a5:=(cell_far (p:=⟨a0,1,none⟩) (by first|exact zzaf b0|exact b0) (.int .i64 ((Qb ((Qa l0 a1).f5) a2).f1))).trans a5;replace a6:=(cell_far (p:=⟨a0,1,none⟩) (by first|exact zzaf b0|exact b0) (.int .i64 ((Qb ((Qa l0 a1).f5) a2).f1))).trans a6;replace a7:=(cell_far (p:=⟨a0,1,none⟩) (by first|exact zzaf b0|exact b0) (.int .i64 ((Qb ((Qa l0 a1).f5) a2).f1))).trans a7;replace a8:=(cell_far (p:=⟨a0,1,none⟩) (by first|exact zzaf b0|exact b0) (.int .i64 ((Qb ((Qa l0 a1).f5) a2).f1))).trans a8;replace a3:=(cell_far (p:=⟨a0,2,none⟩) (by first|exact zzaf b1|exact b1) (.bool ((Qb ((Qa l0 a1).f5) a2).f2))).trans a3;replace a4:=(cell_far (p:=⟨a0,2,none⟩) (by first|exact zzaf b1|exact b1) (.bool ((Qb ((Qa l0 a1).f5) a2).f2))).trans a4;replace a5:=(cell_far (p:=⟨a0,2,none⟩) (by first|exact zzaf b1|exact b1) (.bool ((Qb ((Qa l0 a1).f5) a2).f2))).trans a5;replace a6:=(cell_far (p:=⟨a0,2,none⟩) (by first|exact zzaf b1|exact b1) (.bool ((Qb ((Qa l0 a1).f5) a2).f2))).trans a6;replace a7:=(cell_far (p:=⟨a0,2,none⟩) (by first|exact zzaf b1|exact b1) (.bool ((Qb ((Qa l0 a1).f5) a2).f2))).trans a7;replace a8:=(cell_far (p:=⟨a0,2,none⟩) (by first|exact zzaf b1|exact b1) (.bool ((Qb ((Qa l0 a1).f5) a2).f2))).trans a8;replace a3:=(cell_far (p:=⟨a0,3,none⟩) (by first|exact zzaf b2|exact b2) (.slice b7 ((Qb ((Qa l0 a1).f5) a2).f3).length b8)).trans a3;replace a4:=(cell_far (p:=⟨a0,3,none⟩) (by first|exact zzaf b2|exact b2) (.slice b7 ((Qb ((Qa l0 a1).f5) a2).f3).length b8)).trans a4;replace a5:=(cell_far (p:=⟨a0,3,none⟩) (by first|exact zzaf b2|exact b2) (.slice b7 ((Qb ((Qa l0 a1).f5) a2).f3).length b8)).trans a5;replace a6:=(cell_far (p:=⟨a0,3,none⟩) (by first|exact zzaf b2|exact b2) (.slice b7 ((Qb ((Qa l0 a1).f5) a2).f3).length b8)).trans a6;replace a7:=(cell_far (p:=⟨a0,3,none⟩) (by first|exact zzaf b2|exact b2) (.slice b7 ((Qb ((Qa l0 a1).f5) a2).f3).length b8)).trans a7;replace a8:=(cell_far (p:=⟨a0,3,none⟩) (by first|exact zzaf b2|exact b2) (.slice b7 ((Qb ((Qa l0 a1).f5) a2).f3).length b8)).trans a8;replace a3:=(cell_far (p:=⟨a0,4,none⟩) (by first|exact zzaf b3|exact b3) (.bool ((Qb ((Qa l0 a1).f5) a2).f4))).trans a3;replace a4:=(cell_far (p:=⟨a0,4,none⟩) (by first|exact zzaf b3|exact b3) (.bool ((Qb ((Qa l0 a1).f5) a2).f4))).trans a4;replace a5:=(cell_far (p:=⟨a0,4,none⟩) (by first|exact zzaf b3|exact b3) (.bool ((Qb ((Qa l0 a1).f5) a2).f4))).trans a5;replace a6:=(cell_far (p:=⟨a0,4,none⟩) (by first|exact zzaf b3|exact b3) (.bool ((Qb ((Qa l0 a1).f5) a2).f4))).trans a6;replace a7:=(cell_far (p:=⟨a0,4,none⟩) (by first|exact zzaf b3|exact b3) (.bool ((Qb ((Qa l0 a1).f5) a2).f4))).trans a7;replace a8:=(cell_far (p:=⟨a0,4,none⟩) (by first|exact zzaf b3|exact b3) (.bool ((Qb ((Qa l0 a1).f5) a2).f4))).trans a8;replace a3:=(cell_far (p:=⟨a0,5,none⟩) (by first|exact zzaf b4|exact b4) (.slice b9 ((Qb ((Qa l0 a1).f5) a2).f5).length c2)).trans a3;replace a4:=(cell_far (p:=⟨a0,5,none⟩) (by first|exact zzaf b4|exact b4) (.slice b9 ((Qb ((Qa l0 a1).f5) a2).f5).length c2)).trans a4;replace a5:=(cell_far (p:=⟨a0,5,none⟩) (by first|exact zzaf b4|exact b4) (.slice b9 ((Qb ((Qa l0 a1).f5) a2).f5).length c2)).trans a5;replace a6:=(cell_far (p:=⟨a0,5,none⟩) (by first|exact zzaf b4|exact b4) (.slice b9 ((Qb ((Qa l0 a1).f5) a2).f5).length c2)).trans a6;replace a7:=(cell_far (p:=⟨a0,5,none⟩) (by first|exact zzaf b4|exact b4) (.slice b9 ((Qb ((Qa l0 a1).f5) a2).f5).length c2)).trans a7;replace a8:=(cell_far (p:=⟨a0,5,none⟩) (by first|exact zzaf b4|exact b4) (.slice b9 ((Qb ((Qa l0 a1).f5) a2).f5).length c2)).trans a8;clear a9 b0 b1 b2 b3 b4;replace k3:=eq_true k3;replace k4:=eq_true k4));go_roundg k2
           case measure=>have:=HK1.out;have:=HK2.out;omega
           case rel=>exact ⟨(wrap64 (a2+1)),(by first|rfl|(simp;done)|(simp [*];done)),H',⟨by have:=HK1.out;have:=HK2.out;omega⟩,⟨by (with_reducible repeat (first|apply zzf|apply zzg|apply zze));refine zzj ?_ b5.out _;(with_reducible repeat (first|apply zzf|apply zzg|apply zze));refine zzj ?_ b5.out _;(with_reducible repeat (first|apply zzf|apply zzg|apply zze));refine zzj ?_ b5.out _;(with_reducible repeat (first|apply zzf|apply zzg|apply zze));refine zzj ?_ b5.out _;(with_reducible repeat (first|apply zzf|apply zzg|apply zze));refine zzj ?_ b5.out _;(with_reducible repeat (first|apply zzf|apply zzg|apply zze));refine zzj ?_ b5.out _;(with_reducible repeat (first|apply zzf|apply zzg|apply zze));exact c3.out⟩,⟨zzh3⟩⟩
          ·
           replace o8:=Bool.eq_false_iff.mpr o8;subst o8;replace H:=zzIf H;obtain ⟨bq14,hbq14⟩:∃ b_:Bool,b_=((Qb ((Qa l0 a1).f5) a2).f2):=⟨_,rfl⟩;replace H:(if bq14=true then (if ((Qb ((Qa l0 a1).f5) a2).f0) > e1 then ((Rp.f k2 ((Qb ((Qa l0 a1).f5) a2).f3) d9).bind fun o0=>(if o0=true then (some true) else (Qk.l1 k2 l0 a1 (wrap64 (a2+1)) e1 e9 g0 d9 g1 e3))) else (Qk.l1 k2 l0 a1 (wrap64 (a2+1)) e1 e9 g0 d9 g1 e3)) else (Qk.l1 k2 l0 a1 (wrap64 (a2+1)) e1 e9 g0 d9 g1 e3))=some r:=by rw [← hbq14] at H;exact H
           have d6:=zzm hbq14;clear hbq14;by_cases o9:bq14=true
           ·
            subst o9;replace H:=zzIt H;by_cases o1:((Qb ((Qa l0 a1).f5) a2).f0) > e1
            ·
             rw [if_pos o1] at H;have p3:decide (e1 < ((Qb ((Qa l0 a1).f5) a2).f0))=true:=decide_eq_true o1;clear o1;obtain ⟨o0,p6,H⟩:=zzG H;by_cases p0:o0=true
             ·
              subst p0;replace H:=zzIt H;obtain rfl:=Option.some.inj H;have h7 : 0≤(a1:Int):=zzt;have h8:a1 < (l0.length:Int):=zzt;obtain ⟨b6,m7,m8,l8,c9,d0,e4,e5,e6,d8,e7,e8⟩:=Ra l2.out a1 h7 h8
              (try rw [← d7.out] at c9)
              (try rw [← d6.out] at c9)
              (try rw [← d7.out] at d0)
              (try rw [← d6.out] at d0);cases l8;replace c9:=zzx HB.out c9;replace d0:=zzx HB.out d0;replace e4:=zzx HB.out e4;replace e5:=zzx HB.out e5;replace e6:=zzx HB.out e6;replace d8:=zzx HB.out d8;have m2:=zzm e8;have m3:=zzm e7;clear e8 e7;replace h7:=eq_true h7;replace h8:=eq_true h8;have j7 : 0≤(a1:Int):=zzt;have j8:a1 < (l0.length:Int):=zzt;obtain ⟨l3,n4,n5,m4,d2,d3,g2,g3,g4,e2,g5,g6⟩:=Ra l2.out a1 j7 j8
              (try rw [← d7.out] at d2)
              (try rw [← d6.out] at d2)
              (try rw [← d7.out] at d3)
              (try rw [← d6.out] at d3);obtain rfl:b6=l3:=(by injection m4);replace d2:=zzx HB.out d2;replace d3:=zzx HB.out d3;replace g2:=zzx HB.out g2;replace g3:=zzx HB.out g3;replace g4:=zzx HB.out g4;replace e2:=zzx HB.out e2;have k5:=zzm g6;have m9:=zzm g5;clear g6 g5;replace j7:=eq_true j7;replace j8:=eq_true j8;have ea_:=Option.some.inj (d8.symm.trans e2);injection ea_ with ea_ en_ ec_;subst ea_;subst ec_;clear en_;have j9 : 0≤(a2:Int):=zzt;have k0:a2 < (((Qa l0 a1).f5).length:Int):=zzt;obtain ⟨n8,b7,b8,b9,c2,m5,g7,g8,d4,g9,d5,h0,h1,h2,h3,h4⟩:=Rg k5.out a2 j9 k0
              (try rw [← d7.out] at d4)
              (try rw [← d6.out] at d4)
              (try rw [← d7.out] at d5)
              (try rw [← d6.out] at d5);cases m5;replace g7:=zzx HB.out g7;replace g8:=zzx HB.out g8;replace d4:=zzx HB.out d4;replace g9:=zzx HB.out g9;replace d5:=zzx HB.out d5;replace h0:=zzx HB.out h0;have l6:=zzm h2;have l7:=zzm h1;clear h2 h1;have n0:=zzm h4;have n1:=zzm h3;clear h4 h3;replace j9:=eq_true j9;replace k0:=eq_true k0;go_wp2_with (first|((with_reducible refine gate_dst (N:=7) rfl ?_);refine box_event ?hg (N:=7) ?hd (cs:=#[.int .i64 0,.int .i64 0,.bool false,.slice none 0 0,.bool false,.slice none 0 0]) (t:=30) ?hr ?_;(case hd=>rfl);(case hg=>rfl);(case hr=>first|(go_simp;done)|(go_simp;rfl));intro a0 hg C9 hbox hb;have k6:=zzm (zzh (g:=e0) (o:=.cells #[.int .i64 e1,.int .i64 e9,.bool g0,.slice j3 d9.length j4,.bool g1,.slice j5 e3.length j6] 30 (0,0)) (zzE c3.out) hb);have k7:=zzm (zzp zzh2 hb);have k8:=zzm (hbox);have k9:=zzm ((by rw [hg];exact (zzo zzh2):w.heap.size≤a0));have l9:=zzm ((by rw [hg];exact (zzo zzh2):w.heap.size≤a0));have m0:=zzm ((by rw [hg];exact Nat.ne_of_lt (blk_lt (g:=e0) (o:=.cells #[.int .i64 e1,.int .i64 e9,.bool g0,.slice j3 d9.length j4,.bool g1,.slice j5 e3.length j6] 30 (0,0)) (zzE c3.out)):e0≠a0));have m1:=zzm ((by rw [hg];exact Nat.ne_of_gt (blk_lt (g:=e0) (o:=.cells #[.int .i64 e1,.int .i64 e9,.bool g0,.slice j3 d9.length j4,.bool g1,.slice j5 e3.length j6] 30 (0,0)) (zzE c3.out)):a0≠e0));clear c3 HB;have c3:=k6;have HB:=k7;have l4:=k8;have d1:=k9;have n9:=l9;have b5:=m0;have h9:=m1;clear k6 k7 k8 k9 l9 m0 m1 hb hbox hg;have B5:=h9.out;have B7:=b5.out;obtain ⟨r0,r1,r2,r3,r4,r5,r6,r7,r8,r9,s0,s1⟩:=zzc6 l4.out;have k3 : 0≤(a1:Int):=zzt;have k4:a1 < (l0.length:Int):=zzt;obtain ⟨l5,n6,n7,m6,a3,a4,a5,a6,a7,a8,h5,h6⟩:=Ra l2.out a1 k3 k4;(try rw [← d7.out] at a3);(try rw [← d6.out] at a3);(try rw [← d7.out] at a4);(try rw [← d6.out] at a4);obtain rfl:b6=l5:=(by injection m6);have a9:b6.block≠a0:=Nat.ne_of_lt (Nat.lt_of_lt_of_le (by have:=zzn _ _ a3;first|rwa [add_block] at this|exact this) d1.out);have b0:b6.block≠a0:=Nat.ne_of_lt (Nat.lt_of_lt_of_le (by have:=zzn _ _ a3;first|rwa [add_block] at this|exact this) d1.out);have b1:b6.block≠a0:=Nat.ne_of_lt (Nat.lt_of_lt_of_le (by have:=zzn _ _ a3;first|rwa [add_block] at this|exact this) d1.out);have b2:b6.block≠a0:=Nat.ne_of_lt (Nat.lt_of_lt_of_le (by have:=zzn _ _ a3;first|rwa [add_block] at this|exact this) d1.out);have b3:b6.block≠a0:=Nat.ne_of_lt (Nat.lt_of_lt_of_le (by have:=zzn _ _ a3;first|rwa [add_block] at this|exact this) d1.out);have b4:b6.block≠a0:=Nat.ne_of_lt (Nat.lt_of_lt_of_le (by have:=zzn _ _ a3;first|rwa [add_block] at this|exact this) d1.out);replace a3:=zzx HB.out a3;replace a4:=zzx HB.out a4;replace a5:=zzx HB.out a5;replace a6:=zzx HB.out a6;replace a7:=zzx HB.out a7;replace a8:=zzx HB.out a8;have n2:=zzm h6;have n3:=zzm h5;clear h6 h5;replace a3:=(cell_far (p:=⟨a0,0,none⟩) (by first|exact zzaf a9|exact a9) (.int .i64 ((Qb ((Qa l0 a1).f5) a2).f0))).trans a3;replace a4:=(cell_far (p:=⟨a0,0,none⟩) (by first|exact zzaf a9|exact a9) (.int .i64 ((Qb ((Qa l0 a1).f5) a2).f0))).trans a4;replace a5:=(cell_far (p:=⟨a0,0,none⟩) (by first|exact zzaf a9|exact a9) (.int .i64 ((Qb ((Qa l0 a1).f5) a2).f0))).trans a5;replace a6:=(cell_far (p:=⟨a0,0,none⟩) (by first|exact zzaf a9|exact a9) (.int .i64 ((Qb ((Qa l0 a1).f5) a2).f0))).trans a6;replace a7:=(cell_far (p:=⟨a0,0,none⟩) (by first|exact zzaf a9|exact a9) (.int .i64 ((Qb ((Qa l0 a1).f5) a2).f0))).trans a7;replace a8:=(cell_far (p:=⟨a0,0,none⟩) (by first|exact zzaf a9|exact a9) (.int .i64 ((Qb ((Qa l0 a1).f5) a2).f0))).trans a8;replace a3:=(cell_far (p:=⟨a0,1,none⟩) (by first|exact zzaf b0|exact b0) (.int .i64 ((Qb ((Qa l0 a1).f5) a2).f1))).trans a3;replace a4:=(cell_far (p:=⟨a0,1,none⟩) (by first|exact zzaf b0|exact b0) (.int .i64 ((Qb ((Qa l0 a1).f5) a2).f1))).trans a4;replace a5:=(cell_far (p:=⟨a0,1,none⟩) (by first|exact zzaf b0|exact b0) (.int .i64 ((Qb ((Qa l0 a1).f5) a2).f1))).trans a5;replace a6:=(cell_far (p:=⟨a0,1,none⟩) (by first|exact zzaf b0|exact b0) (.int .i64 ((Qb ((Qa l0 a1).f5) a2).f1))).trans a6;replace a7:=(cell_far (p:=⟨a0,1,none⟩) (by first|exact zzaf b0|exact b0) (.int .i64 ((Qb ((Qa l0 a1).f5) a2).f1))).trans a7;replace a8:=(cell_far (p:=⟨a0,1,none⟩) (by first|exact zzaf b0|exact b0) (.int .i64 ((Qb ((Qa l0 a1).f5) a2).f1))).trans a8;replace a3:=(cell_far (p:=⟨a0,2,none⟩) (by first|exact zzaf b1|exact b1) (.bool true)).trans a3;replace a4:=(cell_far (p:=⟨a0,2,none⟩) (by first|exact zzaf b1|exact b1) (.bool true)).trans a4;replace a5:=(cell_far (p:=⟨a0,2,none⟩) (by first|exact zzaf b1|exact b1) (.bool true)).trans a5;replace a6:=(cell_far (p:=⟨a0,2,none⟩) (by first|exact zzaf b1|exact b1) (.bool true)).trans a6;replace a7:=(cell_far (p:=⟨a0,2,none⟩) (by first|exact zzaf b1|exact b1) (.bool true)).trans a7;replace a8:=(cell_far (p:=⟨a0,2,none⟩) (by first|exact zzaf b1|exact b1) (.bool true)).trans a8;replace a3:=(cell_far (p:=⟨a0,3,none⟩) (by first|exact zzaf b2|exact b2) (.slice b7 ((Qb ((Qa l0 a1).f5) a2).f3).length b8)).trans a3;replace a4:=(cell_far (p:=⟨a0,3,none⟩) (by first|exact zzaf b2|exact b2) (.slice b7 ((Qb ((Qa l0 a1).f5) a2).f3).length b8)).trans a4;replace a5:=(cell_far (p:=⟨a0,3,none⟩) (by first|exact zzaf b2|exact b2) (.slice b7 ((Qb ((Qa l0 a1).f5) a2).f3).length b8)).trans a5;replace a6:=(cell_far (p:=⟨a0,3,none⟩) (by first|exact zzaf b2|exact b2) (.slice b7 ((Qb ((Qa l0 a1).f5) a2).f3).length b8)).trans a6;replace a7:=(cell_far (p:=⟨a0,3,none⟩) (by first|exact zzaf b2|exact b2) (.slice b7 ((Qb ((Qa l0 a1).f5) a2).f3).length b8)).trans a7;replace a8:=(cell_far (p:=⟨a0,3,none⟩) (by first|exact zzaf b2|exact b2) (.slice b7 ((Qb ((Qa l0 a1).f5) a2).f3).length b8)).trans a8;replace a3:=(cell_far (p:=⟨a0,4,none⟩) (by first|exact zzaf b3|exact b3) (.bool ((Qb ((Qa l0 a1).f5) a2).f4))).trans a3;replace a4:=(cell_far (p:=⟨a0,4,none⟩) (by first|exact zzaf b3|exact b3) (.bool ((Qb ((Qa l0 a1).f5) a2).f4))).trans a4;replace a5:=(cell_far (p:=⟨a0,4,none⟩) (by first|exact zzaf b3|exact b3) (.bool ((Qb ((Qa l0 a1).f5) a2).f4))).trans a5;replace a6:=(cell_far (p:=⟨a0,4,none⟩) (by first|exact zzaf b3|exact b3) (.bool ((Qb ((Qa l0 a1).f5) a2).f4))).trans a6;replace a7:=(cell_far (p:=⟨a0,4,none⟩) (by first|exact zzaf b3|exact b3) (.bool ((Qb ((Qa l0 a1).f5) a2).f4))).trans a7;replace a8:=(cell_far (p:=⟨a0,4,none⟩) (by first|exact zzaf b3|exact b3) (.bool ((Qb ((Qa l0 a1).f5) a2).f4))).trans a8;replace a3:=(cell_far (p:=⟨a0,5,none⟩) (by first|exact zzaf b4|exact b4) (.slice b9 ((Qb ((Qa l0 a1).f5) a2).f5).length c2)).trans a3;replace a4:=(cell_far (p:=⟨a0,5,none⟩) (by first|exact zzaf b4|exact b4) (.slice b9 ((Qb ((Qa l0 a1).f5) a2).f5).length c2)).trans a4;replace a5:=(cell_far (p:=⟨a0,5,none⟩) (by first|exact zzaf b4|exact b4) (.slice b9 ((Qb ((Qa l0 a1).f5) a2).f5).length c2)).trans a5;replace a6:=(cell_far (p:=⟨a0,5,none⟩) (by first|exact zzaf b4|exact b4) (.slice b9 ((Qb ((Qa l0 a1).f5) a2).f5).length c2)).trans a6;replace a7:=(cell_far (p:=⟨a0,5,none⟩) (by first|exact zzaf b4|exact b4) (.slice b9 ((Qb ((Qa l0 a1).f5) a2).f5).length c2)).trans a7;replace a8:=(cell_far (p:=⟨a0,5,none⟩) (by first|exact zzaf b4|exact b4) (.slice b9 ((Qb ((Qa l0 a1).f5) a2).f5).length c2)).trans a8;clear a9 b0 b1 b2 b3 b4;replace k3:=eq_true k3;replace k4:=eq_true k4;obtain ⟨s2,s3,s4,s5,s6,s7,s8,s9,t0,t1,t2,t3⟩:=zzc6 c3.out)|(go_at_call 89;(with_reducible refine (Rp.calls k2 _ _ ((Qb ((Qa l0 a1).f5) a2).f3) _ _ d9 true _ ?side1 ?side2 ?side3 ?side4 p6.out).mono ?_);(case side1=>exact Kd.C_below l6.out zzh2);(case side2=>exact l7.out);(case side3=>exact Kd.C_below o6.out zzh2);(case side4=>exact o7.out);rintro e w' ⟨rfl,⟨nd,rfl⟩⟩));go_ret;exact ⟨zzR,zzh3⟩
             ·
              replace p0:=Bool.eq_false_iff.mpr p0;subst p0;replace H:=zzIf H;have H':=zzm H;clear H;have h7 : 0≤(a1:Int):=zzt;have h8:a1 < (l0.length:Int):=zzt;obtain ⟨b6,m7,m8,l8,c9,d0,e4,e5,e6,d8,e7,e8⟩:=Ra l2.out a1 h7 h8
              (try rw [← d7.out] at c9)
              (try rw [← d6.out] at c9)
              (try rw [← d7.out] at d0)
              (try rw [← d6.out] at d0);cases l8;replace c9:=zzx HB.out c9;replace d0:=zzx HB.out d0;replace e4:=zzx HB.out e4;replace e5:=zzx HB.out e5;replace e6:=zzx HB.out e6;replace d8:=zzx HB.out d8;have m2:=zzm e8;have m3:=zzm e7;clear e8 e7;replace h7:=eq_true h7;replace h8:=eq_true h8;have j7 : 0≤(a1:Int):=zzt;have j8:a1 < (l0.length:Int):=zzt;obtain ⟨l3,n4,n5,m4,d2,d3,g2,g3,g4,e2,g5,g6⟩:=Ra l2.out a1 j7 j8
              (try rw [← d7.out] at d2)
              (try rw [← d6.out] at d2)
              (try rw [← d7.out] at d3)
              (try rw [← d6.out] at d3);obtain rfl:b6=l3:=(by injection m4);replace d2:=zzx HB.out d2;replace d3:=zzx HB.out d3;replace g2:=zzx HB.out g2;replace g3:=zzx HB.out g3;replace g4:=zzx HB.out g4;replace e2:=zzx HB.out e2;have k5:=zzm g6;have m9:=zzm g5;clear g6 g5;replace j7:=eq_true j7;replace j8:=eq_true j8;have ea_:=Option.some.inj (d8.symm.trans e2);injection ea_ with ea_ en_ ec_;subst ea_;subst ec_;clear en_;have j9 : 0≤(a2:Int):=zzt;have k0:a2 < (((Qa l0 a1).f5).length:Int):=zzt;obtain ⟨n8,b7,b8,b9,c2,m5,g7,g8,d4,g9,d5,h0,h1,h2,h3,h4⟩:=Rg k5.out a2 j9 k0
              (try rw [← d7.out] at d4)
              (try rw [← d6.out] at d4)
              (try rw [← d7.out] at d5)
              (try rw [← d6.out] at d5);cases m5;replace g7:=zzx HB.out g7;replace g8:=zzx HB.out g8;replace d4:=zzx HB.out d4;replace g9:=zzx HB.out g9;replace d5:=zzx HB.out d5;replace h0:=zzx HB.out h0;have l6:=zzm h2;have l7:=zzm h1;clear h2 h1;have n0:=zzm h4;have n1:=zzm h3;clear h4 h3;replace j9:=eq_true j9;replace k0:=eq_true k0;go_wp2_with (first|((with_reducible refine gate_dst (N:=7) rfl ?_);refine box_event ?hg (N:=7) ?hd (cs:=#[.int .i64 0,.int .i64 0,.bool false,.slice none 0 0,.bool false,.slice none 0 0]) (t:=30) ?hr ?_;(case hd=>rfl);(case hg=>rfl);(case hr=>first|(go_simp;done)|(go_simp;rfl));intro a0 hg D0 hbox hb;have k6:=zzm (zzh (g:=e0) (o:=.cells #[.int .i64 e1,.int .i64 e9,.bool g0,.slice j3 d9.length j4,.bool g1,.slice j5 e3.length j6] 30 (0,0)) (zzE c3.out) hb);have k7:=zzm (zzp zzh2 hb);have k8:=zzm (hbox);have k9:=zzm ((by rw [hg];exact (zzo zzh2):w.heap.size≤a0));have l9:=zzm ((by rw [hg];exact (zzo zzh2):w.heap.size≤a0));have m0:=zzm ((by rw [hg];exact Nat.ne_of_lt (blk_lt (g:=e0) (o:=.cells #[.int .i64 e1,.int .i64 e9,.bool g0,.slice j3 d9.length j4,.bool g1,.slice j5 e3.length j6] 30 (0,0)) (zzE c3.out)):e0≠a0));have m1:=zzm ((by rw [hg];exact Nat.ne_of_gt (blk_lt (g:=e0) (o:=.cells #[.int .i64 e1,.int .i64 e9,.bool g0,.slice j3 d9.length j4,.bool g1,.slice j5 e3.length j6] 30 (0,0)) (zzE c3.out)):a0≠e0));clear c3 HB;have c3:=k6;have HB:=k7;have l4:=k8;have d1:=k9;have n9:=l9;have b5:=m0;have h9:=m1;clear k6 k7 k8 k9 l9 m0 m1 hb hbox hg;have B8:=h9.out;have B9:=b5.out;obtain ⟨t4,t5,t6,t7,t8,t9,v0,v1,v2,v3,v4,v7⟩:=zzc6 l4.out;have k3 : 0≤(a1:Int):=zzt;have k4:a1 < (l0.length:Int):=zzt;obtain ⟨l5,n6,n7,m6,a3,a4,a5,a6,a7,a8,h5,h6⟩:=Ra l2.out a1 k3 k4;(try rw [← d7.out] at a3);(try rw [← d6.out] at a3);(try rw [← d7.out] at a4);(try rw [← d6.out] at a4);obtain rfl:b6=l5:=(by injection m6);have a9:b6.block≠a0:=Nat.ne_of_lt (Nat.lt_of_lt_of_le (by have:=zzn _ _ a3;first|rwa [add_block] at this|exact this) d1.out);have b0:b6.block≠a0:=Nat.ne_of_lt (Nat.lt_of_lt_of_le (by have:=zzn _ _ a3;first|rwa [add_block] at this|exact this) d1.out);have b1:b6.block≠a0:=Nat.ne_of_lt (Nat.lt_of_lt_of_le (by have:=zzn _ _ a3;first|rwa [add_block] at this|exact this) d1.out);have b2:b6.block≠a0:=Nat.ne_of_lt (Nat.lt_of_lt_of_le (by have:=zzn _ _ a3;first|rwa [add_block] at this|exact this) d1.out);have b3:b6.block≠a0:=Nat.ne_of_lt (Nat.lt_of_lt_of_le (by have:=zzn _ _ a3;first|rwa [add_block] at this|exact this) d1.out);have b4:b6.block≠a0:=Nat.ne_of_lt (Nat.lt_of_lt_of_le (by have:=zzn _ _ a3;first|rwa [add_block] at this|exact this) d1.out);replace a3:=zzx HB.out a3;replace a4:=zzx HB.out a4;replace a5:=zzx HB.out a5;replace a6:=zzx HB.out a6;replace a7:=zzx HB.out a7;replace a8:=zzx HB.out a8;have n2:=zzm h6;have n3:=zzm h5;clear h6 h5;replace a3:=(cell_far (p:=⟨a0,0,none⟩) (by first|exact zzaf a9|exact a9) (.int .i64 ((Qb ((Qa l0 a1).f5) a2).f0))).trans a3;replace a4:=(cell_far (p:=⟨a0,0,none⟩) (by first|exact zzaf a9|exact a9) (.int .i64 ((Qb ((Qa l0 a1).f5) a2).f0))).trans a4;replace a5:=(cell_far (p:=⟨a0,0,none⟩) (by first|exact zzaf a9|exact a9) (.int .i64 ((Qb ((Qa l0 a1).f5) a2).f0))).trans a5;replace a6:=(cell_far (p:=⟨a0,0,none⟩) (by first|exact zzaf a9|exact a9) (.int .i64 ((Qb ((Qa l0 a1).f5) a2).f0))).trans a6;replace a7:=(cell_far (p:=⟨a0,0,none⟩) (by first|exact zzaf a9|exact a9) (.int .i64 ((Qb ((Qa l0 a1).f5) a2).f0))).trans a7;replace a8:=(cell_far (p:=⟨a0,0,none⟩) (by first|exact zzaf a9|exact a9) (.int .i64 ((Qb ((Qa l0 a1).f5) a2).f0))).trans a8;replace a3:=(cell_far (p:=⟨a0,1,none⟩) (by first|exact zzaf b0|exact b0) (.int .i64 ((Qb ((Qa l0 a1).f5) a2).f1))).trans a3;replace a4:=(cell_far (p:=⟨a0,1,none⟩) (by first|exact zzaf b0|exact b0) (.int .i64 ((Qb ((Qa l0 a1).f5) a2).f1))).trans a4;replace a5:=(cell_far (p:=⟨a0,1,none⟩) (by first|exact zzaf b0|exact b0) (.int .i64 ((Qb ((Qa l0 a1).f5) a2).f1))).trans a5;replace a6:=(cell_far (p:=⟨a0,1,none⟩) (by first|exact zzaf b0|exact b0) (.int .i64 ((Qb ((Qa l0 a1).f5) a2).f1))).trans a6;replace a7:=(cell_far (p:=⟨a0,1,none⟩) (by first|exact zzaf b0|exact b0) (.int .i64 ((Qb ((Qa l0 a1).f5) a2).f1))).trans a7;replace a8:=(cell_far (p:=⟨a0,1,none⟩) (by first|exact zzaf b0|exact b0) (.int .i64 ((Qb ((Qa l0 a1).f5) a2).f1))).trans a8;replace a3:=(cell_far (p:=⟨a0,2,none⟩) (by first|exact zzaf b1|exact b1) (.bool true)).trans a3;replace a4:=(cell_far (p:=⟨a0,2,none⟩) (by first|exact zzaf b1|exact b1) (.bool true)).trans a4;replace a5:=(cell_far (p:=⟨a0,2,none⟩) (by first|exact zzaf b1|exact b1) (.bool true)).trans a5;replace a6:=(cell_far (p:=⟨a0,2,none⟩) (by first|exact zzaf b1|exact b1) (.bool true)).trans a6;replace a7:=(cell_far (p:=⟨a0,2,none⟩) (by first|exact zzaf b1|exact b1) (.bool true)).trans a7;replace a8:=(cell_far (p:=⟨a0,2,none⟩) (by first|exact zzaf b1|exact b1) (.bool true)).trans a8;replace a3:=(cell_far (p:=⟨a0,3,none⟩) (by first|exact zzaf b2|exact b2) (.slice b7 ((Qb ((Qa l0 a1).f5) a2).f3).length b8)).trans a3;replace a4:=(cell_far (p:=⟨a0,3,none⟩) (by first|exact zzaf b2|exact b2) (.slice b7 ((Qb ((Qa l0 a1).f5) a2).f3).length b8)).trans a4;replace a5:=(cell_far (p:=⟨a0,3,none⟩) (by first|exact zzaf b2|exact b2) (.slice b7 ((Qb ((Qa l0 a1).f5) a2).f3).length b8)).trans a5;replace a6:=(cell_far (p:=⟨a0,3,none⟩) (by first|exact zzaf b2|exact b2) (.slice b7 ((Qb ((Qa l0 a1).f5) a2).f3).length b8)).trans a6;replace a7:=(cell_far (p:=⟨a0,3,none⟩) (by first|exact zzaf b2|exact b2) (.slice b7 ((Qb ((Qa l0 a1).f5) a2).f3).length b8)).trans a7;replace a8:=(cell_far (p:=⟨a0,3,none⟩) (by first|exact zzaf b2|exact b2) (.slice b7 ((Qb ((Qa l0 a1).f5) a2).f3).length b8)).trans a8;replace a3:=(cell_far (p:=⟨a0,4,none⟩) (by first|exact zzaf b3|exact b3) (.bool ((Qb ((Qa l0 a1).f5) a2).f4))).trans a3;replace a4:=(cell_far (p:=⟨a0,4,none⟩) (by first|exact zzaf b3|exact b3) (.bool ((Qb ((Qa l0 a1).f5) a2).f4))).trans a4;replace a5:=(cell_far (p:=⟨a0,4,none⟩) (by first|exact zzaf b3|exact b3) (.bool ((Qb ((Qa l0 a1).f5) a2).f4))).trans a5;replace a6:=(cell_far (p:=⟨a0,4,none⟩) (by first|exact zzaf b3|exact b3) (.bool ((Qb ((Qa l0 a1).f5) a2).f4))).trans a6;replace a7:=(cell_far (p:=⟨a0,4,none⟩) (by first|exact zzaf b3|exact b3) (.bool ((Qb ((Qa l0 a1).f5) a2).f4))).trans a7;replace a8:=(cell_far (p:=⟨a0,4,none⟩) (by first|exact zzaf b3|exact b3) (.bool ((Qb ((Qa l0 a1).f5) a2).f4))).trans a8;replace a3:=(cell_far (p:=⟨a0,5,none⟩) (by first|exact zzaf b4|exact b4) (.slice b9 ((Qb ((Qa l0 a1).f5) a2).f5).length c2)).trans a3;replace a4:=(cell_far (p:=⟨a0,5,none⟩) (by first|exact zzaf b4|exact b4) (.slice b9 ((Qb ((Qa l0 a1).f5) a2).f5).length c2)).trans a4;replace a5:=(cell_far (p:=⟨a0,5,none⟩) (by first|exact zzaf b4|exact b4) (.slice b9 ((Qb ((Qa l0 a1).f5) a2).f5).length c2)).trans a5;replace a6:=(cell_far (p:=⟨a0,5,none⟩) (by first|exact zzaf b4|exact b4) (.slice b9 ((Qb ((Qa l0 a1).f5) a2).f5).length c2)).trans a6;replace a7:=(cell_far (p:=⟨a0,5,none⟩) (by first|exact zzaf b4|exact b4) (.slice b9 ((Qb ((Qa l0 a1).f5) a2).f5).length c2)).trans a7;replace a8:=(cell_far (p:=⟨a0,5,none⟩) (by first|exact zzaf b4|exact b4) (.slice b9 ((Qb ((Qa l0 a1).f5) a2).f5).length c2)).trans a8;clear a9 b0 b1 b2 b3 b4;replace k3:=eq_true k3;replace k4:=eq_true k4;obtain ⟨v8,v9,w0,w1,w2,w4,w5,w6,w7,w8,w9,x0⟩:=zzc6 c3.out)|(go_at_call 89;(with_reducible refine (Rp.calls k2 _ _ ((Qb ((Qa l0 a1).f5) a2).f3) _ _ d9 false _ ?side1 ?side2 ?side3 ?side4 p6.out).mono ?_);(case side1=>exact Kd.C_below l6.out zzh2);(case side2=>exact l7.out);(case side3=>exact Kd.C_below o6.out zzh2);(case side4=>exact o7.out);rintro e w' ⟨rfl,⟨nd,rfl⟩⟩));go_roundg k2
              case measure=>have:=HK1.out;have:=HK2.out;omega
              case rel=>exact ⟨(wrap64 (a2+1)),(by first|rfl|(simp;done)|(simp [*];done)),H',⟨by have:=HK1.out;have:=HK2.out;omega⟩,⟨by (with_reducible repeat (first|apply zzf|apply zzg|apply zze));refine zzj ?_ b5.out _;(with_reducible repeat (first|apply zzf|apply zzg|apply zze));refine zzj ?_ b5.out _;(with_reducible repeat (first|apply zzf|apply zzg|apply zze));refine zzj ?_ b5.out _;(with_reducible repeat (first|apply zzf|apply zzg|apply zze));refine zzj ?_ b5.out _;(with_reducible repeat (first|apply zzf|apply zzg|apply zze));refine zzj ?_ b5.out _;(with_reducible repeat (first|apply zzf|apply zzg|apply zze));refine zzj ?_ b5.out _;(with_reducible repeat (first|apply zzf|apply zzg|apply zze));exact c3.out⟩,⟨zzh3⟩⟩
            ·
             rw [if_neg o1] at H;have p3:decide (e1 < ((Qb ((Qa l0 a1).f5) a2).f0))=false:=decide_eq_false o1;clear o1;have H':=zzm H;clear H;have h7 : 0≤(a1:Int):=zzt;have h8:a1 < (l0.length:Int):=zzt;obtain ⟨b6,m7,m8,l8,c9,d0,e4,e5,e6,d8,e7,e8⟩:=Ra l2.out a1 h7 h8
             (try rw [← d7.out] at c9)
             (try rw [← d6.out] at c9)
             (try rw [← d7.out] at d0)
             (try rw [← d6.out] at d0);cases l8;replace c9:=zzx HB.out c9;replace d0:=zzx HB.out d0;replace e4:=zzx HB.out e4;replace e5:=zzx HB.out e5;replace e6:=zzx HB.out e6;replace d8:=zzx HB.out d8;have m2:=zzm e8;have m3:=zzm e7;clear e8 e7;replace h7:=eq_true h7;replace h8:=eq_true h8;have j7 : 0≤(a1:Int):=zzt;have j8:a1 < (l0.length:Int):=zzt;obtain ⟨l3,n4,n5,m4,d2,d3,g2,g3,g4,e2,g5,g6⟩:=Ra l2.out a1 j7 j8
             (try rw [← d7.out] at d2)
             (try rw [← d6.out] at d2)
             (try rw [← d7.out] at d3)
             (try rw [← d6.out] at d3);obtain rfl:b6=l3:=(by injection m4);replace d2:=zzx HB.out d2;replace d3:=zzx HB.out d3;replace g2:=zzx HB.out g2;replace g3:=zzx HB.out g3;replace g4:=zzx HB.out g4;replace e2:=zzx HB.out e2;have k5:=zzm g6;have m9:=zzm g5;clear g6 g5;replace j7:=eq_true j7;replace j8:=eq_true j8;have ea_:=Option.some.inj (d8.symm.trans e2);injection ea_ with ea_ en_ ec_;subst ea_;subst ec_;clear en_;have j9 : 0≤(a2:Int):=zzt;have k0:a2 < (((Qa l0 a1).f5).length:Int):=zzt;obtain ⟨n8,b7,b8,b9,c2,m5,g7,g8,d4,g9,d5,h0,h1,h2,h3,h4⟩:=Rg k5.out a2 j9 k0
             (try rw [← d7.out] at d4)
             (try rw [← d6.out] at d4)
             (try rw [← d7.out] at d5)
             (try rw [← d6.out] at d5);cases m5;replace g7:=zzx HB.out g7;replace g8:=zzx HB.out g8;replace d4:=zzx HB.out d4;replace g9:=zzx HB.out g9;replace d5:=zzx HB.out d5;replace h0:=zzx HB.out h0;have l6:=zzm h2;have l7:=zzm h1;clear h2 h1;have n0:=zzm h4;have n1:=zzm h3;clear h4 h3;replace j9:=eq_true j9;replace k0:=eq_true k0;go_wp2_with (first|((with_reducible refine gate_dst (N:=7) rfl ?_);refine box_event ?hg (N:=7) ?hd (cs:=#[.int .i64 0,.int .i64 0,.bool false,.slice none 0 0,.bool false,.slice none 0 0]) (t:=30) ?hr ?_;(case hd=>rfl);(case hg=>rfl);(case hr=>first|(go_simp;done)|(go_simp;rfl));intro a0 hg D1 hbox hb;have k6:=zzm (zzh (g:=e0) (o:=.cells #[.int .i64 e1,.int .i64 e9,.bool g0,.slice j3 d9.length j4,.bool g1,.slice j5 e3.length j6] 30 (0,0)) (zzE c3.out) hb);have k7:=zzm (zzp zzh2 hb);have k8:=zzm (hbox);have k9:=zzm ((by rw [hg];exact (zzo zzh2):w.heap.size≤a0));have l9:=zzm ((by rw [hg];exact (zzo zzh2):w.heap.size≤a0));have m0:=zzm ((by rw [hg];exact Nat.ne_of_lt (blk_lt (g:=e0) (o:=.cells #[.int .i64 e1,.int .i64 e9,.bool g0,.slice j3 d9.length j4,.bool g1,.slice j5 e3.length j6] 30 (0,0)) (zzE c3.out)):e0≠a0));have m1:=zzm ((by rw [hg];exact Nat.ne_of_gt (blk_lt (g:=e0) (o:=.cells #[.int .i64 e1,.int .i64 e9,.bool g0,.slice j3 d9.length j4,.bool g1,.slice j5 e3.length j6] 30 (0,0)) (zzE c3.out)):a0≠e0));clear c3 HB;have c3:=k6;have HB:=k7;have l4:=k8;have d1:=k9;have n9:=l9;have b5:=m0;have h9:=m1;clear k6 k7 k8 k9 l9 m0 m1 hb hbox hg;have C0:=h9.out;have C1:=b5.out;obtain ⟨x1,x2,x3,x4,x5,x6,x7,x8,x9,y0,y1,y2⟩:=zzc6 l4.out;have k3 : 0≤(a1:Int):=zzt;have k4:a1 < (l0.length:Int):=zzt;obtain ⟨l5,n6,n7,m6,a3,a4,a5,a6,a7,a8,h5,h6⟩:=Ra l2.out a1 k3 k4;(try rw [← d7.out] at a3);(try rw [← d6.out] at a3);(try rw [← d7.out] at a4);(try rw [← d6.out] at a4);obtain rfl:b6=l5:=(by injection m6);have a9:b6.block≠a0:=Nat.ne_of_lt (Nat.lt_of_lt_of_le (by have:=zzn _ _ a3;first|rwa [add_block] at this|exact this) d1.out);have b0:b6.block≠a0:=Nat.ne_of_lt (Nat.lt_of_lt_of_le (by have:=zzn _ _ a3;first|rwa [add_block] at this|exact this) d1.out);have b1:b6.block≠a0:=Nat.ne_of_lt (Nat.lt_of_lt_of_le (by have:=zzn _ _ a3;first|rwa [add_block] at this|exact this) d1.out);have b2:b6.block≠a0:=Nat.ne_of_lt (Nat.lt_of_lt_of_le (by have:=zzn _ _ a3;first|rwa [add_block] at this|exact this) d1.out);have b3:b6.block≠a0:=Nat.ne_of_lt (Nat.lt_of_lt_of_le (by have:=zzn _ _ a3;first|rwa [add_block] at this|exact this) d1.out);have b4:b6.block≠a0:=Nat.ne_of_lt (Nat.lt_of_lt_of_le (by have:=zzn _ _ a3;first|rwa [add_block] at this|exact this) d1.out);replace a3:=zzx HB.out a3;replace a4:=zzx HB.out a4;replace a5:=zzx HB.out a5;replace a6:=zzx HB.out a6;replace a7:=zzx HB.out a7;replace a8:=zzx HB.out a8;have n2:=zzm h6;have n3:=zzm h5;clear h6 h5;replace a3:=(cell_far (p:=⟨a0,0,none⟩) (by first|exact zzaf a9|exact a9) (.int .i64 ((Qb ((Qa l0 a1).f5) a2).f0))).trans a3;replace a4:=(cell_far (p:=⟨a0,0,none⟩) (by first|exact zzaf a9|exact a9) (.int .i64 ((Qb ((Qa l0 a1).f5) a2).f0))).trans a4;replace a5:=(cell_far (p:=⟨a0,0,none⟩) (by first|exact zzaf a9|exact a9) (.int .i64 ((Qb ((Qa l0 a1).f5) a2).f0))).trans a5;replace a6:=(cell_far (p:=⟨a0,0,none⟩) (by first|exact zzaf a9|exact a9) (.int .i64 ((Qb ((Qa l0 a1).f5) a2).f0))).trans a6;replace a7:=(cell_far (p:=⟨a0,0,none⟩) (by first|exact zzaf a9|exact a9) (.int .i64 ((Qb ((Qa l0 a1).f5) a2).f0))).trans a7;replace a8:=(cell_far (p:=⟨a0,0,none⟩) (by first|exact zzaf a9|exact a9) (.int .i64 ((Qb ((Qa l0 a1).f5) a2).f0))).trans a8;replace a3:=(cell_far (p:=⟨a0,1,none⟩) (by first|exact zzaf b0|exact b0) (.int .i64 ((Qb ((Qa l0 a1).f5) a2).f1))).trans a3;replace a4:=(cell_far (p:=⟨a0,1,none⟩) (by first|exact zzaf b0|exact b0) (.int .i64 ((Qb ((Qa l0 a1).f5) a2).f1))).trans a4;replace a5:=(cell_far (p:=⟨a0,1,none⟩) (by first|exact zzaf b0|exact b0) (.int .i64 ((Qb ((Qa l0 a1).f5) a2).f1))).trans a5;replace a6:=(cell_far (p:=⟨a0,1,none⟩) (by first|exact zzaf b0|exact b0) (.int .i64 ((Qb ((Qa l0 a1).f5) a2).f1))).trans a6;replace a7:=(cell_far (p:=⟨a0,1,none⟩) (by first|exact zzaf b0|exact b0) (.int .i64 ((Qb ((Qa l0 a1).f5) a2).f1))).trans a7;replace a8:=(cell_far (p:=⟨a0,1,none⟩) (by first|exact zzaf b0|exact b0) (.int .i64 ((Qb ((Qa l0 a1).f5) a2).f1))).trans a8;replace a3:=(cell_far (p:=⟨a0,2,none⟩) (by first|exact zzaf b1|exact b1) (.bool true)).trans a3;replace a4:=(cell_far (p:=⟨a0,2,none⟩) (by first|exact zzaf b1|exact b1) (.bool true)).trans a4;replace a5:=(cell_far (p:=⟨a0,2,none⟩) (by first|exact zzaf b1|exact b1) (.bool true)).trans a5;replace a6:=(cell_far (p:=⟨a0,2,none⟩) (by first|exact zzaf b1|exact b1) (.bool true)).trans a6;replace a7:=(cell_far (p:=⟨a0,2,none⟩) (by first|exact zzaf b1|exact b1) (.bool true)).trans a7;replace a8:=(cell_far (p:=⟨a0,2,none⟩) (by first|exact zzaf b1|exact b1) (.bool true)).trans a8;replace a3:=(cell_far (p:=⟨a0,3,none⟩) (by first|exact zzaf b2|exact b2) (.slice b7 ((Qb ((Qa l0 a1).f5) a2).f3).length b8)).trans a3;replace a4:=(cell_far (p:=⟨a0,3,none⟩) (by first|exact zzaf b2|exact b2) (.slice b7 ((Qb ((Qa l0 a1).f5) a2).f3).length b8)).trans a4;replace a5:=(cell_far (p:=⟨a0,3,none⟩) (by first|exact zzaf b2|exact b2) (.slice b7 ((Qb ((Qa l0 a1).f5) a2).f3).length b8)).trans a5;replace a6:=(cell_far (p:=⟨a0,3,none⟩) (by first|exact zzaf b2|exact b2) (.slice b7 ((Qb ((Qa l0 a1).f5) a2).f3).length b8)).trans a6;replace a7:=(cell_far (p:=⟨a0,3,none⟩) (by first|exact zzaf b2|exact b2) (.slice b7 ((Qb ((Qa l0 a1).f5) a2).f3).length b8)).trans a7;replace a8:=(cell_far (p:=⟨a0,3,none⟩) (by first|exact zzaf b2|exact b2) (.slice b7 ((Qb ((Qa l0 a1).f5) a2).f3).length b8)).trans a8;replace a3:=(cell_far (p:=⟨a0,4,none⟩) (by first|exact zzaf b3|exact b3) (.bool ((Qb ((Qa l0 a1).f5) a2).f4))).trans a3;replace a4:=(cell_far (p:=⟨a0,4,none⟩) (by first|exact zzaf b3|exact b3) (.bool ((Qb ((Qa l0 a1).f5) a2).f4))).trans a4;replace a5:=(cell_far (p:=⟨a0,4,none⟩) (by first|exact zzaf b3|exact b3) (.bool ((Qb ((Qa l0 a1).f5) a2).f4))).trans a5;replace a6:=(cell_far (p:=⟨a0,4,none⟩) (by first|exact zzaf b3|exact b3) (.bool ((Qb ((Qa l0 a1).f5) a2).f4))).trans a6;replace a7:=(cell_far (p:=⟨a0,4,none⟩) (by first|exact zzaf b3|exact b3) (.bool ((Qb ((Qa l0 a1).f5) a2).f4))).trans a7;replace a8:=(cell_far (p:=⟨a0,4,none⟩) (by first|exact zzaf b3|exact b3) (.bool ((Qb ((Qa l0 a1).f5) a2).f4))).trans a8;replace a3:=(cell_far (p:=⟨a0,5,none⟩) (by first|exact zzaf b4|exact b4) (.slice b9 ((Qb ((Qa l0 a1).f5) a2).f5).length c2)).trans a3;replace a4:=(cell_far (p:=⟨a0,5,none⟩) (by first|exact zzaf b4|exact b4) (.slice b9 ((Qb ((Qa l0 a1).f5) a2).f5).length c2)).trans a4;replace a5:=(cell_far (p:=⟨a0,5,none⟩) (by first|exact zzaf b4|exact b4) (.slice b9 ((Qb ((Qa l0 a1).f5) a2).f5).length c2)).trans a5;replace a6:=(cell_far (p:=⟨a0,5,none⟩) (by first|exact zzaf b4|exact b4) (.slice b9 ((Qb ((Qa l0 a1).f5) a2).f5).length c2)).trans a6;replace a7:=(cell_far (p:=⟨a0,5,none⟩) (by first|exact zzaf b4|exact b4) (.slice b9 ((Qb ((Qa l0 a1).f5) a2).f5).length c2)).trans a7;replace a8:=(cell_far (p:=⟨a0,5,none⟩) (by first|exact zzaf b4|exact b4) (.slice b9 ((Qb ((Qa l0 a1).f5) a2).f5).length c2)).trans a8;clear a9 b0 b1 b2 b3 b4;replace k3:=eq_true k3;replace k4:=eq_true k4;obtain ⟨y3,y4,y5,y6,y7,y8,y9,z0,z1,z2,z3,z4⟩:=zzc6 c3.out));go_roundg k2
             case measure=>have:=HK1.out;have:=HK2.out;omega
             case rel=>exact ⟨(wrap64 (a2+1)),(by first|rfl|(simp;done)|(simp [*];done)),H',⟨by have:=HK1.out;have:=HK2.out;omega⟩,⟨by (with_reducible repeat (first|apply zzf|apply zzg|apply zze));refine zzj ?_ b5.out _;(with_reducible repeat (first|apply zzf|apply zzg|apply zze));refine zzj ?_ b5.out _;(with_reducible repeat (first|apply zzf|apply zzg|apply zze));refine zzj ?_ b5.out _;(with_reducible repeat (first|apply zzf|apply zzg|apply zze));refine zzj ?_ b5.out _;(with_reducible repeat (first|apply zzf|apply zzg|apply zze));refine zzj ?_ b5.out _;(with_reducible repeat (first|apply zzf|apply zzg|apply zze));refine zzj ?_ b5.out _;(with_reducible repeat (first|apply zzf|apply zzg|apply zze));exact c3.out⟩,⟨zzh3⟩⟩
           ·
            replace o9:=Bool.eq_false_iff.mpr o9;subst o9;replace H:=zzIf H;have H':=zzm H;clear H;have h7 : 0≤(a1:Int):=zzt;have h8:a1 < (l0.length:Int):=zzt;obtain ⟨b6,m7,m8,l8,c9,d0,e4,e5,e6,d8,e7,e8⟩:=Ra l2.out a1 h7 h8
            (try rw [← d7.out] at c9)
            (try rw [← d6.out] at c9)
            (try rw [← d7.out] at d0)
            (try rw [← d6.out] at d0);cases l8;replace c9:=zzx HB.out c9;replace d0:=zzx HB.out d0;replace e4:=zzx HB.out e4;replace e5:=zzx HB.out e5;replace e6:=zzx HB.out e6;replace d8:=zzx HB.out d8;have m2:=zzm e8;have m3:=zzm e7;clear e8 e7;replace h7:=eq_true h7;replace h8:=eq_true h8;have j7 : 0≤(a1:Int):=zzt;have j8:a1 < (l0.length:Int):=zzt;obtain ⟨l3,n4,n5,m4,d2,d3,g2,g3,g4,e2,g5,g6⟩:=Ra l2.out a1 j7 j8
            (try rw [← d7.out] at d2)
            (try rw [← d6.out] at d2)
            (try rw [← d7.out] at d3)
            (try rw [← d6.out] at d3);obtain rfl:b6=l3:=(by injection m4);replace d2:=zzx HB.out d2;replace d3:=zzx HB.out d3;replace g2:=zzx HB.out g2;replace g3:=zzx HB.out g3;replace g4:=zzx HB.out g4;replace e2:=zzx HB.out e2;have k5:=zzm g6;have m9:=zzm g5;clear g6 g5;replace j7:=eq_true j7;replace j8:=eq_true j8;have ea_:=Option.some.inj (d8.symm.trans e2);injection ea_ with ea_ en_ ec_;subst ea_;subst ec_;clear en_;have j9 : 0≤(a2:Int):=zzt;have k0:a2 < (((Qa l0 a1).f5).length:Int):=zzt;obtain ⟨n8,b7,b8,b9,c2,m5,g7,g8,d4,g9,d5,h0,h1,h2,h3,h4⟩:=Rg k5.out a2 j9 k0
            (try rw [← d7.out] at d4)
            (try rw [← d6.out] at d4)
            (try rw [← d7.out] at d5)
            (try rw [← d6.out] at d5);cases m5;replace g7:=zzx HB.out g7;replace g8:=zzx HB.out g8;replace d4:=zzx HB.out d4;replace g9:=zzx HB.out g9;replace d5:=zzx HB.out d5;replace h0:=zzx HB.out h0;have l6:=zzm h2;have l7:=zzm h1;clear h2 h1;have n0:=zzm h4;have n1:=zzm h3;clear h4 h3;replace j9:=eq_true j9;replace k0:=eq_true k0;go_wp2_with (first|((with_reducible refine gate_dst (N:=7) rfl ?_);refine box_event ?hg (N:=7) ?hd (cs:=#[.int .i64 0,.int .i64 0,.bool false,.slice none 0 0,.bool false,.slice none 0 0]) (t:=30) ?hr ?_;(case hd=>rfl);(case hg=>rfl);(case hr=>first|(go_simp;done)|(go_simp;rfl));intro a0 hg D2 hbox hb;have k6:=zzm (zzh (g:=e0) (o:=.cells #[.int .i64 e1,.int .i64 e9,.bool g0,.slice j3 d9.length j4,.bool g1,.slice j5 e3.length j6] 30 (0,0)) (zzE c3.out) hb);have k7:=zzm (zzp zzh2 hb);have k8:=zzm (hbox);have k9:=zzm ((by rw [hg];exact (zzo zzh2):w.heap.size≤a0));have l9:=zzm ((by rw [hg];exact (zzo zzh2):w.heap.size≤a0));have m0:=zzm ((by rw [hg];exact Nat.ne_of_lt (blk_lt (g:=e0) (o:=.cells #[.int .i64 e1,.int .i64 e9,.bool g0,.slice j3 d9.length j4,.bool g1,.slice j5 e3.length j6] 30 (0,0)) (zzE c3.out)):e0≠a0));have m1:=zzm ((by rw [hg];exact Nat.ne_of_gt (blk_lt (g:=e0) (o:=.cells #[.int .i64 e1,.int .i64 e9,.bool g0,.slice j3 d9.length j4,.bool g1,.slice j5 e3.length j6] 30 (0,0)) (zzE c3.out)):a0≠e0));clear c3 HB;have c3:=k6;have HB:=k7;have l4:=k8;have d1:=k9;have n9:=l9;have b5:=m0;have h9:=m1;clear k6 k7 k8 k9 l9 m0 m1 hb hbox hg;have C2:=h9.out;have C3:=b5.out;obtain ⟨z5,z6,z7,z8,z9,A1,A2,A3,A4,A5,A6,A7⟩:=zzc6 l4.out;have k3 : 0≤(a1:Int):=zzt;have k4:a1 < (l0.length:Int):=zzt;obtain ⟨l5,n6,n7,m6,a3,a4,a5,a6,a7,a8,h5,h6⟩:=Ra l2.out a1 k3 k4;(try rw [← d7.out] at a3);(try rw [← d6.out] at a3);(try rw [← d7.out] at a4);(try rw [← d6.out] at a4);obtain rfl:b6=l5:=(by injection m6);have a9:b6.block≠a0:=Nat.ne_of_lt (Nat.lt_of_lt_of_le (by have:=zzn _ _ a3;first|rwa [add_block] at this|exact this) d1.out);have b0:b6.block≠a0:=Nat.ne_of_lt (Nat.lt_of_lt_of_le (by have:=zzn _ _ a3;first|rwa [add_block] at this|exact this) d1.out);have b1:b6.block≠a0:=Nat.ne_of_lt (Nat.lt_of_lt_of_le (by have:=zzn _ _ a3;first|rwa [add_block] at this|exact this) d1.out);have b2:b6.block≠a0:=Nat.ne_of_lt (Nat.lt_of_lt_of_le (by have:=zzn _ _ a3;first|rwa [add_block] at this|exact this) d1.out);have b3:b6.block≠a0:=Nat.ne_of_lt (Nat.lt_of_lt_of_le (by have:=zzn _ _ a3;first|rwa [add_block] at this|exact this) d1.out);have b4:b6.block≠a0:=Nat.ne_of_lt (Nat.lt_of_lt_of_le (by have:=zzn _ _ a3;first|rwa [add_block] at this|exact this) d1.out);replace a3:=zzx HB.out a3;replace a4:=zzx HB.out a4;replace a5:=zzx HB.out a5;replace a6:=zzx HB.out a6;replace a7:=zzx HB.out a7;replace a8:=zzx HB.out a8;have n2:=zzm h6;have n3:=zzm h5;clear h6 h5;replace a3:=(cell_far (p:=⟨a0,0,none⟩) (by first|exact zzaf a9|exact a9) (.int .i64 ((Qb ((Qa l0 a1).f5) a2).f0))).trans a3;replace a4:=(cell_far (p:=⟨a0,0,none⟩) (by first|exact zzaf a9|exact a9) (.int .i64 ((Qb ((Qa l0 a1).f5) a2).f0))).trans a4;replace a5:=(cell_far (p:=⟨a0,0,none⟩) (by first|exact zzaf a9|exact a9) (.int .i64 ((Qb ((Qa l0 a1).f5) a2).f0))).trans a5;replace a6:=(cell_far (p:=⟨a0,0,none⟩) (by first|exact zzaf a9|exact a9) (.int .i64 ((Qb ((Qa l0 a1).f5) a2).f0))).trans a6;replace a7:=(cell_far (p:=⟨a0,0,none⟩) (by first|exact zzaf a9|exact a9) (.int .i64 ((Qb ((Qa l0 a1).f5) a2).f0))).trans a7;replace a8:=(cell_far (p:=⟨a0,0,none⟩) (by first|exact zzaf a9|exact a9) (.int .i64 ((Qb ((Qa l0 a1).f5) a2).f0))).trans a8;replace a3:=(cell_far (p:=⟨a0,1,none⟩) (by first|exact zzaf b0|exact b0) (.int .i64 ((Qb ((Qa l0 a1).f5) a2).f1))).trans a3;replace a4:=(cell_far (p:=⟨a0,1,none⟩) (by first|exact zzaf b0|exact b0) (.int .i64 ((Qb ((Qa l0 a1).f5) a2).f1))).trans a4;replace a5:=(cell_far (p:=⟨a0,1,none⟩) (by first|exact zzaf b0|exact b0) (.int .i64 ((Qb ((Qa l0 a1).f5) a2).f1))).trans a5;replace a6:=(cell_far (p:=⟨a0,1,none⟩) (by first|exact zzaf b0|exact b0) (.int .i64 ((Qb ((Qa l0 a1).f5) a2).f1))).trans a6;replace a7:=(cell_far (p:=⟨a0,1,none⟩) (by first|exact zzaf b0|exact b0) (.int .i64 ((Qb ((Qa l0 a1).f5) a2).f1))).trans a7;replace a8:=(cell_far (p:=⟨a0,1,none⟩) (by first|exact zzaf b0|exact b0) (.int .i64 ((Qb ((Qa l0 a1).f5) a2).f1))).trans a8;replace a3:=(cell_far (p:=⟨a0,2,none⟩) (by first|exact zzaf b1|exact b1) (.bool false)).trans a3;replace a4:=(cell_far (p:=⟨a0,2,none⟩) (by first|exact zzaf b1|exact b1) (.bool false)).trans a4;replace a5:=(cell_far (p:=⟨a0,2,none⟩) (by first|exact zzaf b1|exact b1) (.bool false)).trans a5;replace a6:=(cell_far (p:=⟨a0,2,none⟩) (by first|exact zzaf b1|exact b1) (.bool false)).trans a6;replace a7:=(cell_far (p:=⟨a0,2,none⟩) (by first|exact zzaf b1|exact b1) (.bool false)).trans a7;replace a8:=(cell_far (p:=⟨a0,2,none⟩) (by first|exact zzaf b1|exact b1) (.bool false)).trans a8;replace a3:=(cell_far (p:=⟨a0,3,none⟩) (by first|exact zzaf b2|exact b2) (.slice b7 ((Qb ((Qa l0 a1).f5) a2).f3).length b8)).trans a3;replace a4:=(cell_far (p:=⟨a0,3,none⟩) (by first|exact zzaf b2|exact b2) (.slice b7 ((Qb ((Qa l0 a1).f5) a2).f3).length b8)).trans a4;replace a5:=(cell_far (p:=⟨a0,3,none⟩) (by first|exact zzaf b2|exact b2) (.slice b7 ((Qb ((Qa l0 a1).f5) a2).f3).length b8)).trans a5;replace a6:=(cell_far (p:=⟨a0,3,none⟩) (by first|exact zzaf b2|exact b2) (.slice b7 ((Qb ((Qa l0 a1).f5) a2).f3).length b8)).trans a6;replace a7:=(cell_far (p:=⟨a0,3,none⟩) (by first|exact zzaf b2|exact b2) (.slice b7 ((Qb ((Qa l0 a1).f5) a2).f3).length b8)).trans a7;replace a8:=(cell_far (p:=⟨a0,3,none⟩) (by first|exact zzaf b2|exact b2) (.slice b7 ((Qb ((Qa l0 a1).f5) a2).f3).length b8)).trans a8;replace a3:=(cell_far (p:=⟨a0,4,none⟩) (by first|exact zzaf b3|exact b3) (.bool ((Qb ((Qa l0 a1).f5) a2).f4))).trans a3;replace a4:=(cell_far (p:=⟨a0,4,none⟩) (by first|exact zzaf b3|exact b3) (.bool ((Qb ((Qa l0 a1).f5) a2).f4))).trans a4;replace a5:=(cell_far (p:=⟨a0,4,none⟩) (by first|exact zzaf b3|exact b3) (.bool ((Qb ((Qa l0 a1).f5) a2).f4))).trans a5;replace a6:=(cell_far (p:=⟨a0,4,none⟩) (by first|exact zzaf b3|exact b3) (.bool ((Qb ((Qa l0 a1).f5) a2).f4))).trans a6;replace a7:=(cell_far (p:=⟨a0,4,none⟩) (by first|exact zzaf b3|exact b3) (.bool ((Qb ((Qa l0 a1).f5) a2).f4))).trans a7;replace a8:=(cell_far (p:=⟨a0,4,none⟩) (by first|exact zzaf b3|exact b3) (.bool ((Qb ((Qa l0 a1).f5) a2).f4))).trans a8;replace a3:=(cell_far (p:=⟨a0,5,none⟩) (by first|exact zzaf b4|exact b4) (.slice b9 ((Qb ((Qa l0 a1).f5) a2).f5).length c2)).trans a3;replace a4:=(cell_far (p:=⟨a0,5,none⟩) (by first|exact zzaf b4|exact b4) (.slice b9 ((Qb ((Qa l0 a1).f5) a2).f5).length c2)).trans a4;replace a5:=(cell_far (p:=⟨a0,5,none⟩) (by first|exact zzaf b4|exact b4) (.slice b9 ((Qb ((Qa l0 a1).f5) a2).f5).length c2)).trans a5;replace a6:=(cell_far (p:=⟨a0,5,none⟩) (by first|exact zzaf b4|exact b4) (.slice b9 ((Qb ((Qa l0 a1).f5) a2).f5).length c2)).trans a6;replace a7:=(cell_far (p:=⟨a0,5,none⟩) (by first|exact zzaf b4|exact b4) (.slice b9 ((Qb ((Qa l0 a1).f5) a2).f5).length c2)).trans a7;replace a8:=(cell_far (p:=⟨a0,5,none⟩) (by first|exact zzaf b4|exact b4) (.slice b9 ((Qb ((Qa l0 a1).f5) a2).f5).length c2)).trans a8;clear a9 b0 b1 b2 b3 b4;replace k3:=eq_true k3;replace k4:=eq_true k4));go_roundg k2
            case measure=>have:=HK1.out;have:=HK2.out;omega
            case rel=>exact ⟨(wrap64 (a2+1)),(by first|rfl|(simp;done)|(simp [*];done)),H',⟨by have:=HK1.out;have:=HK2.out;omega⟩,⟨by (with_reducible repeat (first|apply zzf|apply zzg|apply zze));refine zzj ?_ b5.out _;(with_reducible repeat (first|apply zzf|apply zzg|apply zze));refine zzj ?_ b5.out _;(with_reducible repeat (first|apply zzf|apply zzg|apply zze));refine zzj ?_ b5.out _;(with_reducible repeat (first|apply zzf|apply zzg|apply zze));refine zzj ?_ b5.out _;(with_reducible repeat (first|apply zzf|apply zzg|apply zze));refine zzj ?_ b5.out _;(with_reducible repeat (first|apply zzf|apply zzg|apply zze));refine zzj ?_ b5.out _;(with_reducible repeat (first|apply zzf|apply zzg|apply zze));exact c3.out⟩,⟨zzh3⟩⟩
         ·
          rw [if_neg c8] at H;exact absurd H (by simp)
        ·
         rw [if_neg c7] at H;have p7:decide (a2 < (((Qa l0 a1).f5).length:Int))=false:=decide_eq_false c7;clear c7;have H':=zzm H;clear H;have h7 : 0≤(a1:Int):=zzt;have h8:a1 < (l0.length:Int):=zzt;obtain ⟨b6,m7,m8,l8,c9,d0,e4,e5,e6,d8,e7,e8⟩:=Ra l2.out a1 h7 h8;cases l8;replace c9:=zzx HB.out c9;replace d0:=zzx HB.out d0;replace e4:=zzx HB.out e4;replace e5:=zzx HB.out e5;replace e6:=zzx HB.out e6;replace d8:=zzx HB.out d8;have m2:=zzm e8;have m3:=zzm e7;clear e8 e7;replace h7:=eq_true h7;replace h8:=eq_true h8;go_wp2;go_roundg k2
         case measure=>have:=HK1.out;have:=HK2.out;omega
         case rel=>exact ⟨(wrap64 (a1+1)),(by first|rfl|(simp;done)|(simp [*];done)),H',⟨by have:=HK1.out;have:=HK2.out;omega⟩,⟨zzE c3.out⟩,⟨zzh3⟩⟩
       ·
        rw [if_neg c6] at H;exact absurd H (by simp)
      ·
       rw [if_neg c5] at H;exact absurd H (by simp)
   ·
    rw [if_neg c4] at H;have p1:decide (a1 < (l0.length:Int))=false:=decide_eq_false c4;clear c4;obtain rfl:=Option.some.inj H;go_wp2;go_ret;exact ⟨zzR,zzh3⟩
def Rv.f (k:Nat) (l0:List (S34)) (a1_0:Bool) (a1_1:Bool) (a1_2:Int) (a1_3:Int) (a1_4:Int) (l1_5:List (S30)) (a2_0:Int) (a2_1:Int) (a2_2:Bool) (l2_3:List Int) (a2_4:Bool) (l2_5:List Int) (a3:Bool):Option (Bool):=if a1_1=true then (some true) else (if a2_2=true then (if a2_4=true then ((Qk.f k l0 a2_0 a2_1 a2_2 l2_3 a2_4 l2_5).bind fun t401=>(some (!t401))) else (if a3=true then ((Qk.f k l0 a2_0 a2_1 a2_2 l2_3 a2_4 l2_5).bind fun t402=>(some (!t402))) else (some false))) else (some false))
set_option maxHeartbeats 8000000 in
theorem Rv.calls (k:Nat) (A0:Option Addr) (c0:Nat) (l0:List (S34)) (a8:Bool) (d8:Bool) (a9:Int) (b0:Int) (b1:Int) (b2:Option Addr) (b3:Nat) (a4:List (S30)) (c1:Int) (c2:Int) (d3:Bool) (c8:Option Addr) (c9:Nat) (b8:List Int) (d2:Bool) (d0:Option Addr) (d1:Nat) (b9:List Int) (a3:Bool) (r:Bool) (w:World) (g4:Kd.C k34 w A0 l0.length l0) (g5:l0.length≤c0) (e1:Kd.C k30 w b2 a4.length a4) (e2:a4.length≤b3) (e3:Kd.C (Kd.int .i64) w c8 b8.length b8) (e4:b8.length≤c9) (e5:Kd.C (Kd.int .i64) w d0 b9.length b9) (e6:b9.length≤d1) (h:Rv.f k l0 a8 d8 a9 b0 b1 a4 c1 c2 d3 b8 d2 b9 a3=some r) :
  Calls Try.prog 44 #[.slice A0 l0.length c0,.agg #[.bool a8,.bool d8,.int .i64 a9,.int .i64 b0,.int .i64 b1,.slice b2 a4.length b3],.agg #[.int .i64 c1,.int .i64 c2,.bool d3,.slice c8 b8.length c9,.bool d2,.slice d0 b9.length d1],.bool a3] w fun e w'=>e = .returned (.bool r)∧Below w.heap.size w w':=by
 have hu34:=Try.underlying34;have hu30:=Try.underlying30;have g6:=zzm g4;have g7:=zzm g5;clear g4 g5;have t3:=zzm e1;have t4:=zzm e2;clear e1 e2;have e7:=zzm e3;have e8:=zzm e4;clear e3 e4;have e9:=zzm e5;have g0:=zzm e6;clear e5 e6;have HB:=zzm (Below.refl w.heap.size w);have H:(if d8=true then (some true) else (if d3=true then (if d2=true then ((Qk.f k l0 c1 c2 d3 b8 d2 b9).bind fun d9=>(some (!d9))) else (if a3=true then ((Qk.f k l0 c1 c2 d3 b8 d2 b9).bind fun e0=>(some (!e0))) else (some false))) else (some false)))=some r:=h;clear h;by_cases c5:d8=true
 ·
  subst c5;replace H:=zzIt H;obtain rfl:=Option.some.inj H;go_enter Try.func44,Try.ntmps44;go_wp2_with (first|((with_reducible refine gate_dst (N:=5) rfl ?_);refine box_event ?hg (N:=5) ?hd (cs:=#[.bool a8,.bool true,.int .i64 a9,.int .i64 b0,.int .i64 b1,.slice b2 a4.length b3]) (t:=34) ?hr ?_;(case hd=>rfl);(case hg=>rfl);(case hr=>first|(go_simp;done)|(go_simp;rfl));intro a0 hg w6 hbox hb;have a5:=zzm (zzp zzh1 hb);have a6:=zzm (hbox);have a7:=zzm ((by rw [hg];exact (zzo zzh1):w.heap.size≤a0));have b4:=zzm ((by rw [hg];exact (zzo zzh1):w.heap.size≤a0));clear HB;have HB:=a5;have a1:=a6;have d4:=a7;have d5:=b4;clear a5 a6 a7 b4 hb hbox hg)|((with_reducible refine gate_dst (N:=6) rfl ?_);refine box_event ?hg (N:=6) ?hd (cs:=#[.int .i64 c1,.int .i64 c2,.bool d3,.slice c8 b8.length c9,.bool d2,.slice d0 b9.length d1]) (t:=30) ?hr ?_;(case hd=>rfl);(case hg=>rfl);(case hr=>first|(go_simp;done)|(go_simp;rfl));intro a2 hg w7 hbox hb;have a5:=zzm (zzh (g:=a0) (o:=.cells #[.bool a8,.bool true,.int .i64 a9,.int .i64 b0,.int .i64 b1,.slice b2 a4.length b3] 34 (0,0)) (zzE a1.out) hb);have a6:=zzm (zzp zzh2 hb);have a7:=zzm (hbox);have b4:=zzm ((by rw [hg];exact (zzo zzh2):w.heap.size≤a2));have c3:=zzm ((by rw [hg];exact (zzo zzh2):w.heap.size≤a2));have c4:=zzm ((by rw [hg];exact Nat.ne_of_lt (blk_lt (g:=a0) (o:=.cells #[.bool a8,.bool true,.int .i64 a9,.int .i64 b0,.int .i64 b1,.slice b2 a4.length b3] 34 (0,0)) (zzE a1.out)):a0≠a2));have c7:=zzm ((by rw [hg];exact Nat.ne_of_gt (blk_lt (g:=a0) (o:=.cells #[.bool a8,.bool true,.int .i64 a9,.int .i64 b0,.int .i64 b1,.slice b2 a4.length b3] 34 (0,0)) (zzE a1.out)):a2≠a0));clear a1 HB;have a1:=a5;have HB:=a6;have b7:=a7;have d6:=b4;have d7:=c3;have b5:=c4;have b6:=c7;clear a5 a6 a7 b4 c3 c4 c7 hb hbox hg;have v3:=b5.out;have v4:=b6.out;obtain ⟨r9,s0,s1,s2,s3,s4,s5,s6,s7,s8,s9,t0⟩:=zzc6 a1.out));go_ret;exact ⟨zzR,zzh3⟩
 ·
  replace c5:=Bool.eq_false_iff.mpr c5;subst c5;replace H:=zzIf H;by_cases g1:d3=true
  ·
   subst g1;replace H:=zzIt H;by_cases g2:d2=true
   ·
    subst g2;replace H:=zzIt H;obtain ⟨d9,t1,H⟩:=zzG H;obtain rfl:=Option.some.inj H;go_enter Try.func44,Try.ntmps44;go_wp2_with (first|((with_reducible refine gate_dst (N:=5) rfl ?_);refine box_event ?hg (N:=5) ?hd (cs:=#[.bool a8,.bool false,.int .i64 a9,.int .i64 b0,.int .i64 b1,.slice b2 a4.length b3]) (t:=34) ?hr ?_;(case hd=>rfl);(case hg=>rfl);(case hr=>first|(go_simp;done)|(go_simp;rfl));intro a0 hg v5 hbox hb;have a5:=zzm (zzp zzh1 hb);have a6:=zzm (hbox);have a7:=zzm ((by rw [hg];exact (zzo zzh1):w.heap.size≤a0));have b4:=zzm ((by rw [hg];exact (zzo zzh1):w.heap.size≤a0));clear HB;have HB:=a5;have a1:=a6;have d4:=a7;have d5:=b4;clear a5 a6 a7 b4 hb hbox hg)|((with_reducible refine gate_dst (N:=6) rfl ?_);refine box_event ?hg (N:=6) ?hd (cs:=#[.int .i64 c1,.int .i64 c2,.bool true,.slice c8 b8.length c9,.bool true,.slice d0 b9.length d1]) (t:=30) ?hr ?_;(case hd=>rfl);(case hg=>rfl);(case hr=>first|(go_simp;done)|(go_simp;rfl));intro a2 hg v6 hbox hb;have a5:=zzm (zzh (g:=a0) (o:=.cells #[.bool a8,.bool false,.int .i64 a9,.int .i64 b0,.int .i64 b1,.slice b2 a4.length b3] 34 (0,0)) (zzE a1.out) hb);have a6:=zzm (zzp zzh2 hb);have a7:=zzm (hbox);have b4:=zzm ((by rw [hg];exact (zzo zzh2):w.heap.size≤a2));have c3:=zzm ((by rw [hg];exact (zzo zzh2):w.heap.size≤a2));have c4:=zzm ((by rw [hg];exact Nat.ne_of_lt (blk_lt (g:=a0) (o:=.cells #[.bool a8,.bool false,.int .i64 a9,.int .i64 b0,.int .i64 b1,.slice b2 a4.length b3] 34 (0,0)) (zzE a1.out)):a0≠a2));have c7:=zzm ((by rw [hg];exact Nat.ne_of_gt (blk_lt (g:=a0) (o:=.cells #[.bool a8,.bool false,.int .i64 a9,.int .i64 b0,.int .i64 b1,.slice b2 a4.length b3] 34 (0,0)) (zzE a1.out)):a2≠a0));clear a1 HB;have a1:=a5;have HB:=a6;have b7:=a7;have d6:=b4;have d7:=c3;have b5:=c4;have b6:=c7;clear a5 a6 a7 b4 c3 c4 c7 hb hbox hg;have t5:=b5.out;have t6:=b6.out;obtain ⟨g8,g9,h0,h1,h2,h3,h4,h5,h6,h7,h8,h9⟩:=zzc6 a1.out;obtain ⟨j3,j4,j5,j6,j7,j8,j9,k0,k1,k2,k3,k4⟩:=zzc6 b7.out)|(go_at_call 73;(with_reducible refine (Qk.calls k _ _ l0 c1 c2 true _ _ b8 true _ _ b9 d9 _ ?side1 ?side2 ?side3 ?side4 ?side5 ?side6 t1.out).mono ?_);(case side1=>exact zzcb g6 HB);(case side2=>exact g7.out);(case side3=>exact zzcb e7 HB);(case side4=>exact e8.out);(case side5=>exact zzcb e9 HB);(case side6=>exact g0.out);rintro e v7 ⟨rfl,hb⟩;have a5:=zzm (zzh (g:=a0) (o:=.cells #[.bool a8,.bool false,.int .i64 a9,.int .i64 b0,.int .i64 b1,.slice b2 a4.length b3] 34 (0,0)) (zzE a1.out) hb);have a6:=zzm (zzh (g:=a2) (o:=.cells #[.int .i64 c1,.int .i64 c2,.bool true,.slice c8 b8.length c9,.bool true,.slice d0 b9.length d1] 30 (0,0)) (zzE b7.out) hb);have a7:=zzm (zzp zzh2 hb);clear a1 b7 HB;have a1:=a5;have b7:=a6;have HB:=a7;clear a5 a6 a7;(try clear hb);(try clear hb2);(try clear hk);(try clear hi)));go_ret;exact ⟨zzR,zzh3⟩
   ·
    replace g2:=Bool.eq_false_iff.mpr g2;subst g2;replace H:=zzIf H;by_cases g3:a3=true
    ·
     subst g3;replace H:=zzIt H;obtain ⟨e0,t2,H⟩:=zzG H;obtain rfl:=Option.some.inj H;go_enter Try.func44,Try.ntmps44;go_wp2_with (first|((with_reducible refine gate_dst (N:=5) rfl ?_);refine box_event ?hg (N:=5) ?hd (cs:=#[.bool a8,.bool false,.int .i64 a9,.int .i64 b0,.int .i64 b1,.slice b2 a4.length b3]) (t:=34) ?hr ?_;(case hd=>rfl);(case hg=>rfl);(case hr=>first|(go_simp;done)|(go_simp;rfl));intro a0 hg v8 hbox hb;have a5:=zzm (zzp zzh1 hb);have a6:=zzm (hbox);have a7:=zzm ((by rw [hg];exact (zzo zzh1):w.heap.size≤a0));have b4:=zzm ((by rw [hg];exact (zzo zzh1):w.heap.size≤a0));clear HB;have HB:=a5;have a1:=a6;have d4:=a7;have d5:=b4;clear a5 a6 a7 b4 hb hbox hg)|((with_reducible refine gate_dst (N:=6) rfl ?_);refine box_event ?hg (N:=6) ?hd (cs:=#[.int .i64 c1,.int .i64 c2,.bool true,.slice c8 b8.length c9,.bool false,.slice d0 b9.length d1]) (t:=30) ?hr ?_;(case hd=>rfl);(case hg=>rfl);(case hr=>first|(go_simp;done)|(go_simp;rfl));intro a2 hg v9 hbox hb;have a5:=zzm (zzh (g:=a0) (o:=.cells #[.bool a8,.bool false,.int .i64 a9,.int .i64 b0,.int .i64 b1,.slice b2 a4.length b3] 34 (0,0)) (zzE a1.out) hb);have a6:=zzm (zzp zzh2 hb);have a7:=zzm (hbox);have b4:=zzm ((by rw [hg];exact (zzo zzh2):w.heap.size≤a2));have c3:=zzm ((by rw [hg];exact (zzo zzh2):w.heap.size≤a2));have c4:=zzm ((by rw [hg];exact Nat.ne_of_lt (blk_lt (g:=a0) (o:=.cells #[.bool a8,.bool false,.int .i64 a9,.int .i64 b0,.int .i64 b1,.slice b2 a4.length b3] 34 (0,0)) (zzE a1.out)):a0≠a2));have c7:=zzm ((by rw [hg];exact Nat.ne_of_gt (blk_lt (g:=a0) (o:=.cells #[.bool a8,.bool false,.int .i64 a9,.int .i64 b0,.int .i64 b1,.slice b2 a4.length b3] 34 (0,0)) (zzE a1.out)):a2≠a0));clear a1 HB;have a1:=a5;have HB:=a6;have b7:=a7;have d6:=b4;have d7:=c3;have b5:=c4;have b6:=c7;clear a5 a6 a7 b4 c3 c4 c7 hb hbox hg;have t7:=b5.out;have t8:=b6.out;obtain ⟨k5,k6,k7,k8,k9,l2,l3,l4,l5,l6,l7,l8⟩:=zzc6 a1.out;obtain ⟨l9,m0,m1,m2,m3,m4,m5,m6,m7,m8,m9,n0⟩:=zzc6 b7.out)|(go_at_call 73;(with_reducible refine (Qk.calls k _ _ l0 c1 c2 true _ _ b8 false _ _ b9 e0 _ ?side1 ?side2 ?side3 ?side4 ?side5 ?side6 t2.out).mono ?_);(case side1=>exact zzcb g6 HB);(case side2=>exact g7.out);(case side3=>exact zzcb e7 HB);(case side4=>exact e8.out);(case side5=>exact zzcb e9 HB);(case side6=>exact g0.out);rintro e w0 ⟨rfl,hb⟩;have a5:=zzm (zzh (g:=a0) (o:=.cells #[.bool a8,.bool false,.int .i64 a9,.int .i64 b0,.int .i64 b1,.slice b2 a4.length b3] 34 (0,0)) (zzE a1.out) hb);have a6:=zzm (zzh (g:=a2) (o:=.cells #[.int .i64 c1,.int .i64 c2,.bool true,.slice c8 b8.length c9,.bool false,.slice d0 b9.length d1] 30 (0,0)) (zzE b7.out) hb);have a7:=zzm (zzp zzh2 hb);clear a1 b7 HB;have a1:=a5;have b7:=a6;have HB:=a7;clear a5 a6 a7;(try clear hb);(try clear hb2);(try clear hk);(try clear hi)));go_ret;exact ⟨zzR,zzh3⟩
    ·
     replace g3:=Bool.eq_false_iff.mpr g3;subst g3;replace H:=zzIf H;obtain rfl:=Option.some.inj H;go_enter Try.func44,Try.ntmps44;go_wp2_with (first|((with_reducible refine gate_dst (N:=5) rfl ?_);refine box_event ?hg (N:=5) ?hd (cs:=#[.bool a8,.bool false,.int .i64 a9,.int .i64 b0,.int .i64 b1,.slice b2 a4.length b3]) (t:=34) ?hr ?_;(case hd=>rfl);(case hg=>rfl);(case hr=>first|(go_simp;done)|(go_simp;rfl));intro a0 hg w1 hbox hb;have a5:=zzm (zzp zzh1 hb);have a6:=zzm (hbox);have a7:=zzm ((by rw [hg];exact (zzo zzh1):w.heap.size≤a0));have b4:=zzm ((by rw [hg];exact (zzo zzh1):w.heap.size≤a0));clear HB;have HB:=a5;have a1:=a6;have d4:=a7;have d5:=b4;clear a5 a6 a7 b4 hb hbox hg)|((with_reducible refine gate_dst (N:=6) rfl ?_);refine box_event ?hg (N:=6) ?hd (cs:=#[.int .i64 c1,.int .i64 c2,.bool true,.slice c8 b8.length c9,.bool false,.slice d0 b9.length d1]) (t:=30) ?hr ?_;(case hd=>rfl);(case hg=>rfl);(case hr=>first|(go_simp;done)|(go_simp;rfl));intro a2 hg w2 hbox hb;have a5:=zzm (zzh (g:=a0) (o:=.cells #[.bool a8,.bool false,.int .i64 a9,.int .i64 b0,.int .i64 b1,.slice b2 a4.length b3] 34 (0,0)) (zzE a1.out) hb);have a6:=zzm (zzp zzh2 hb);have a7:=zzm (hbox);have b4:=zzm ((by rw [hg];exact (zzo zzh2):w.heap.size≤a2));have c3:=zzm ((by rw [hg];exact (zzo zzh2):w.heap.size≤a2));have c4:=zzm ((by rw [hg];exact Nat.ne_of_lt (blk_lt (g:=a0) (o:=.cells #[.bool a8,.bool false,.int .i64 a9,.int .i64 b0,.int .i64 b1,.slice b2 a4.length b3] 34 (0,0)) (zzE a1.out)):a0≠a2));have c7:=zzm ((by rw [hg];exact Nat.ne_of_gt (blk_lt (g:=a0) (o:=.cells #[.bool a8,.bool false,.int .i64 a9,.int .i64 b0,.int .i64 b1,.slice b2 a4.length b3] 34 (0,0)) (zzE a1.out)):a2≠a0));clear a1 HB;have a1:=a5;have HB:=a6;have b7:=a7;have d6:=b4;have d7:=c3;have b5:=c4;have b6:=c7;clear a5 a6 a7 b4 c3 c4 c7 hb hbox hg;have t9:=b5.out;have v0:=b6.out;obtain ⟨n1,n2,n3,n4,n5,n6,n7,n8,n9,o0,o1,o2⟩:=zzc6 a1.out;obtain ⟨o3,o4,o5,o6,o7,o8,o9,p0,p1,p2,p3,p4⟩:=zzc6 b7.out));go_ret;exact ⟨zzR,zzh3⟩
  ·
   replace g1:=Bool.eq_false_iff.mpr g1;subst g1;replace H:=zzIf H;obtain rfl:=Option.some.inj H;go_enter Try.func44,Try.ntmps44;go_wp2_with (first|((with_reducible refine gate_dst (N:=5) rfl ?_);refine box_event ?hg (N:=5) ?hd (cs:=#[.bool a8,.bool false,.int .i64 a9,.int .i64 b0,.int .i64 b1,.slice b2 a4.length b3]) (t:=34) ?hr ?_;(case hd=>rfl);(case hg=>rfl);(case hr=>first|(go_simp;done)|(go_simp;rfl));intro a0 hg w3 hbox hb;have a5:=zzm (zzp zzh1 hb);have a6:=zzm (hbox);have a7:=zzm ((by rw [hg];exact (zzo zzh1):w.heap.size≤a0));have b4:=zzm ((by rw [hg];exact (zzo zzh1):w.heap.size≤a0));clear HB;have HB:=a5;have a1:=a6;have d4:=a7;have d5:=b4;clear a5 a6 a7 b4 hb hbox hg)|((with_reducible refine gate_dst (N:=6) rfl ?_);refine box_event ?hg (N:=6) ?hd (cs:=#[.int .i64 c1,.int .i64 c2,.bool false,.slice c8 b8.length c9,.bool d2,.slice d0 b9.length d1]) (t:=30) ?hr ?_;(case hd=>rfl);(case hg=>rfl);(case hr=>first|(go_simp;done)|(go_simp;rfl));intro a2 hg w4 hbox hb;have a5:=zzm (zzh (g:=a0) (o:=.cells #[.bool a8,.bool false,.int .i64 a9,.int .i64 b0,.int .i64 b1,.slice b2 a4.length b3] 34 (0,0)) (zzE a1.out) hb);have a6:=zzm (zzp zzh2 hb);have a7:=zzm (hbox);have b4:=zzm ((by rw [hg];exact (zzo zzh2):w.heap.size≤a2));have c3:=zzm ((by rw [hg];exact (zzo zzh2):w.heap.size≤a2));have c4:=zzm ((by rw [hg];exact Nat.ne_of_lt (blk_lt (g:=a0) (o:=.cells #[.bool a8,.bool false,.int .i64 a9,.int .i64 b0,.int .i64 b1,.slice b2 a4.length b3] 34 (0,0)) (zzE a1.out)):a0≠a2));have c7:=zzm ((by rw [hg];exact Nat.ne_of_gt (blk_lt (g:=a0) (o:=.cells #[.bool a8,.bool false,.int .i64 a9,.int .i64 b0,.int .i64 b1,.slice b2 a4.length b3] 34 (0,0)) (zzE a1.out)):a2≠a0));clear a1 HB;have a1:=a5;have HB:=a6;have b7:=a7;have d6:=b4;have d7:=c3;have b5:=c4;have b6:=c7;clear a5 a6 a7 b4 c3 c4 c7 hb hbox hg;have v1:=b5.out;have v2:=b6.out;obtain ⟨p5,p6,p7,p8,p9,q0,q1,q2,q3,q4,q5,q6⟩:=zzc6 a1.out;obtain ⟨q7,q8,q9,r0,r1,r2,r3,r4,r5,r6,r7,r8⟩:=zzc6 b7.out));go_ret;exact ⟨zzR,zzh3⟩
def Ry.f (a0_0:Int) (a0_1:Int) (a0_2:Bool) (l0_3:List Int) (a0_4:Bool) (l0_5:List Int):Option (Int×Int×Bool×List Int×Bool×List Int):=(some (([]:List Int):List Int)).bind fun y405=>(if y405.length+l0_3.length < 17592186044416 then ((some (([]:List Int):List Int)).bind fun y411=>(if y411.length+l0_5.length < 17592186044416 then (some (a0_0,a0_1,a0_2,(y405++l0_3),a0_4,(y411++l0_5))) else (none))) else (none))
set_option maxHeartbeats 8000000 in
theorem Ry.calls (a3:Int) (a4:Int) (a6:Bool) (b9:Option Addr) (c0:Nat) (a8:List Int) (a7:Bool) (b5:Option Addr) (b6:Nat) (a2:List Int) (r1:Int) (r2:Int) (r3:Bool) (r4:List Int) (r5:Bool) (r6:List Int) (w:World) (d1:Kd.C (Kd.int .i64) w b9 a8.length a8) (d2:a8.length≤c0) (d3:Kd.C (Kd.int .i64) w b5 a2.length a2) (d4:a2.length≤b6) (h:Ry.f a3 a4 a6 a8 a7 a2=some (r1,r2,r3,r4,r5,r6)) :
  Calls Try.prog 45 #[.agg #[.int .i64 a3,.int .i64 a4,.bool a6,.slice b9 a8.length c0,.bool a7,.slice b5 a2.length b6]] w fun e w'=>∃ d6 d7:Value,e = .returned (.agg #[.int .i64 r1,.int .i64 r2,.bool r3,d6,.bool r5,d7])∧Kd.R (Kd.int .i64) 3 w' w.heap.size (fun k_=>some k_≠(d7:Value).ownBlock) d6 r4∧Kd.R (Kd.int .i64) 3 w' w.heap.size (fun k_=>some k_≠(d6:Value).ownBlock) d7 r6∧Below w.heap.size w w':=by
 have hu30:=Try.underlying30;have d8:=zzm d1;have m9:=zzm d2;clear d1 d2;have d9:=zzm d3;have n0:=zzm d4;clear d3 d4;have HB:=zzm (Below.refl w.heap.size w);have H:((some (([]:List Int):List Int)).bind fun y405=>(if y405.length+a8.length < 17592186044416 then ((some (([]:List Int):List Int)).bind fun y411=>(if y411.length+a2.length < 17592186044416 then (some (a3,a4,a6,(y405++a8),a7,(y411++a2))) else (none))) else (none)))=some (r1,r2,r3,r4,r5,r6):=h;clear h;obtain ⟨y405,hy405⟩:∃ y_:List Int,y_=(([]:List Int)):=⟨_,rfl⟩;replace H:(if y405.length+a8.length < 17592186044416 then ((some (([]:List Int):List Int)).bind fun y411=>(if y411.length+a2.length < 17592186044416 then (some (a3,a4,a6,(y405++a8),a7,(y411++a2))) else (none))) else (none))=some (r1,r2,r3,r4,r5,r6):=by first|(rw [hy405];with_reducible exact H)|(have H2_:=(Option.bind_some _ _).symm.trans H;rw [hy405];with_reducible exact H2_)|(have H2_:=(Option.bind_some _ _).symm.trans H;with_reducible exact H2_)|with_reducible exact H|(rw [hy405];exact H)|exact H
 have Ny405:=zzm hy405;clear hy405;by_cases c2:y405.length+a8.length < 17592186044416
 ·
  rw [if_pos c2] at H;have LMc2:=zzm c2;clear c2;obtain ⟨y408,hy408⟩:∃ y_:List Int,y_=(y405++a8):=⟨_,rfl⟩;replace H:((some (([]:List Int):List Int)).bind fun y411=>(if y411.length+a2.length < 17592186044416 then (some (a3,a4,a6,y408,a7,(y411++a2))) else (none)))=some (r1,r2,r3,r4,r5,r6):=by first|(rw [hy408];with_reducible exact H)|(have H2_:=(Option.bind_some _ _).symm.trans H;rw [hy408];with_reducible exact H2_)|(have H2_:=(Option.bind_some _ _).symm.trans H;with_reducible exact H2_)|with_reducible exact H|(rw [hy408];exact H)|exact H
  have Ny408:=zzm hy408;clear hy408;obtain ⟨y411,hy411⟩:∃ y_:List Int,y_=(([]:List Int)):=⟨_,rfl⟩;replace H:(if y411.length+a2.length < 17592186044416 then (some (a3,a4,a6,y408,a7,(y411++a2))) else (none))=some (r1,r2,r3,r4,r5,r6):=by first|(rw [hy411];with_reducible exact H)|(have H2_:=(Option.bind_some _ _).symm.trans H;rw [hy411];with_reducible exact H2_)|(have H2_:=(Option.bind_some _ _).symm.trans H;with_reducible exact H2_)|with_reducible exact H|(rw [hy411];exact H)|exact H
  have Ny411:=zzm hy411;clear hy411;by_cases c3:y411.length+a2.length < 17592186044416
  ·
   rw [if_pos c3] at H;have LMc3:=zzm c3;clear c3;obtain ⟨y414,hy414⟩:∃ y_:List Int,y_=(y411++a2):=⟨_,rfl⟩;replace H:(some (a3,a4,a6,y408,a7,y414))=some (r1,r2,r3,r4,r5,r6):=by first|(rw [hy414];with_reducible exact H)|(have H2_:=(Option.bind_some _ _).symm.trans H;rw [hy414];with_reducible exact H2_)|(have H2_:=(Option.bind_some _ _).symm.trans H;with_reducible exact H2_)|with_reducible exact H|(rw [hy414];exact H)|exact H
   have Ny414:=zzm hy414;clear hy414;simp only [Option.some.injEq,Prod.mk.injEq] at H;obtain ⟨rfl,rfl,rfl,rfl,rfl,rfl⟩:=H;go_enter Try.func45,Try.ntmps45;go_wp2_with (first|((with_reducible refine gate_dst (N:=1) rfl ?_);refine box_event ?hg (N:=1) ?hd (cs:=#[.int .i64 a3,.int .i64 a4,.bool a6,.slice b9 a8.length c0,.bool a7,.slice b5 a2.length b6]) (t:=30) ?hr ?_;(case hd=>rfl);(case hg=>rfl);(case hr=>first|(go_simp;done)|(go_simp;rfl));intro a9 hg w4 hbox hb;have b1:=zzm (zzp zzh1 hb);have b2:=zzm (hbox);have b3:=zzm ((by rw [hg];exact (zzo zzh1):w.heap.size≤a9));have b4:=zzm ((by rw [hg];exact (zzo zzh1):w.heap.size≤a9));clear HB;have HB:=b1;have a0:=b2;have n1:=b3;have n2:=b4;clear b1 b2 b3 b4 hb hbox hg)|((with_reducible refine gate_dst (N:=2) rfl ?_);refine box_event ?hg (N:=2) ?hd (cs:=#[.int .i64 0,.int .i64 0,.bool false,.slice none 0 0,.bool false,.slice none 0 0]) (t:=30) ?hr ?_;(case hd=>rfl);(case hg=>rfl);(case hr=>first|(go_simp;done)|(go_simp;rfl));intro a1 hg w5 hbox hb;have b1:=zzm (zzh (g:=a9) (o:=.cells #[.int .i64 a3,.int .i64 a4,.bool a6,.slice b9 a8.length c0,.bool a7,.slice b5 a2.length b6] 30 (0,0)) (zzE a0.out) hb);have b2:=zzm (zzp zzh2 hb);have b3:=zzm (hbox);have b4:=zzm ((by rw [hg];exact (zzo zzh2):w.heap.size≤a1));have c4:=zzm ((by rw [hg];exact (zzo zzh2):w.heap.size≤a1));have e0:=zzm ((by rw [hg];exact Nat.ne_of_lt (blk_lt (g:=a9) (o:=.cells #[.int .i64 a3,.int .i64 a4,.bool a6,.slice b9 a8.length c0,.bool a7,.slice b5 a2.length b6] 30 (0,0)) (zzE a0.out)):a9≠a1));have e1:=zzm ((by rw [hg];exact Nat.ne_of_gt (blk_lt (g:=a9) (o:=.cells #[.int .i64 a3,.int .i64 a4,.bool a6,.slice b9 a8.length c0,.bool a7,.slice b5 a2.length b6] 30 (0,0)) (zzE a0.out)):a1≠a9));clear a0 HB;have a0:=b1;have HB:=b2;have a5:=b3;have n3:=b4;have n4:=c4;have d0:=e0;have c1:=e1;clear b1 b2 b3 b4 c4 e0 e1 hb hbox hg)|((with_reducible refine gate_dst (N:=3) rfl ?_);refine Kd.R_lit (Kd.int .i64) _ 3 ?hg (N:=3) ?hd (xs:=([]:List Int)) (inner:=[]) (ok:=fun _=>True) (okp:=fun _=>True) ?hr ?hp (fun _ hk=>hk) trivial (Below.refl _ _) (Nat.le_refl _) (by simp) ?_;(case hd=>rfl);(case hg=>rfl);(case hr=>first|(go_simp;done)|(go_simp;rfl));(case hp=>exact (Reps.none _ _));intro e2 w6 ho7 hb hg_ hnew_;clear hg_ hnew_;(first|rw [← Ny405.out] at ho7|(simp only [Int.reduceToNat] at ho7;rw [← Ny405.out] at ho7));have b1:=zzm (Kd.R_lower ho7 (zzo zzh2));have b2:=zzm (zzh (g:=a9) (o:=.cells #[.int .i64 a3,.int .i64 a4,.bool a6,.slice b9 a8.length c0,.bool a7,.slice b5 a2.length b6] 30 (0,0)) (zzE a0.out) hb);have b3:=zzm (zzh (g:=a1) (o:=.cells #[.int .i64 0,.int .i64 0,.bool false,.slice none 0 0,.bool false,.slice none 0 0] 30 (0,0)) (zzE a5.out) hb);have b4:=zzm (zzp zzh2 hb);clear a0 a5 HB;have c5:=b1;have a0:=b2;have a5:=b3;have HB:=b4;clear b1 b2 b3 b4 hb ho7;have n5:=d0.out;have n6:=c1.out;obtain ⟨l7,l8,l9,m0,m1,m2,m3,m4,m5,m6,m7,m8⟩:=zzc6 a0.out)|((with_reducible refine gate_builtin (b:=.append) (xs:=#[.tmp 3,.tmp 5]) rfl ?_);at_builtin;refine Kd.R_append_rows (Kd.int .i64) (w0:=w) w.heap.size rfl (.tmp 3) (.tmp 5) 28 3 (.int .i64 0) 8 rfl Try.underlying28 info3 rfl (by decide) (by omega) e2 y405 a8 _ _ _ (fun _=>True) (fun _=>False) rfl rfl ?aO ?aR (fun _ _ h=>h) (fun _ h=>h.elim) ?aF ?aB ?aS ?aL ?_;(case aR=>exact zzcb d8 HB);(case aB=>exact zzh2);(case aF=>exact (fun _ _=>trivial));(case aO=>exact (by (with_reducible repeat (first|apply Kd.R_alloc|apply Kd.R_drewN|apply Kd.R_drew));exact c5.out));(case aS=>exact (zzo zzh2));(case aL=>have:=LMc2.out;omega);intro n7 n9 ho hb hg hat;rw [← Ny408.out] at ho;have b1:=zzm (blk_grown (g:=a9) (o:=.cells #[.int .i64 a3,.int .i64 a4,.bool a6,.slice b9 a8.length c0,.bool a7,.slice b5 a2.length b6] 30 (0,0)) (zzE a0.out) hg (Kd.R_ne c5.out a0.out (by decide)));have b2:=zzm (blk_grown (g:=a1) (o:=.cells #[.int .i64 0,.int .i64 0,.bool false,.slice none 0 0,.bool false,.slice none 0 0] 30 (0,0)) (zzE a5.out) hg (Kd.R_ne c5.out a5.out (by decide)));have b3:=zzm (hb);have b4:=zzm (ho);clear a0 a5 HB c5;have a0:=b1;have a5:=b2;have HB:=b3;have b0:=b4;clear b1 b2 b3 b4 ho hb hg hat;obtain ⟨b7,b8,eo11⟩:=Kd.R_slice b0.out;subst eo11;obtain ⟨e4,e5,e6,e7,e8,e9,g0,g1,g2,g3,g4,g5⟩:=zzc6 a0.out)|((with_reducible refine gate_dst (N:=8) rfl ?_);refine Kd.R_lit (Kd.int .i64) _ 3 ?hg (N:=8) ?hd (xs:=([]:List Int)) (inner:=[]) (ok:=fun _=>True) (okp:=fun _=>True) ?hr ?hp (fun _ hk=>hk) trivial (Below.refl _ _) (Nat.le_refl _) (by simp) ?_;(case hd=>rfl);(case hg=>rfl);(case hr=>first|(go_simp;done)|(go_simp;rfl));(case hp=>exact (Reps.none _ _));intro e3 o0 ho14 hb hg_ hnew_;clear hg_ hnew_;(first|rw [← Ny411.out] at ho14|(simp only [Int.reduceToNat] at ho14;rw [← Ny411.out] at ho14));have b1:=zzm (Kd.R_elder' (by (with_reducible repeat (first|apply Kd.R_alloc|apply Kd.R_drewN|apply Kd.R_drew));exact (Kd.R_mono (Kd.R_far (p:=⟨a9,3,none⟩) (Kd.R_types b0.out a0.out (by decide)) (fun _ hk=>hk.2) (.slice b7 y408.length b8)) (fun _ h_=>h_.1))) (Kd.R_base ho14) hb);have b2:=zzm (Kd.R_lower (Kd.R_new' ho14 (Kd.R_lt (by (with_reducible repeat (first|apply Kd.R_alloc|apply Kd.R_drewN|apply Kd.R_drew));exact (Kd.R_mono (Kd.R_far (p:=⟨a9,3,none⟩) (Kd.R_types b0.out a0.out (by decide)) (fun _ hk=>hk.2) (.slice b7 y408.length b8)) (fun _ h_=>h_.1))))) (zzo zzh2));have b3:=zzm (zzh (g:=a9) (o:=.cells #[.int .i64 a3,.int .i64 a4,.bool a6,.slice b7 y408.length b8,.bool a7,.slice b5 a2.length b6] 30 (0,0)) (by (with_reducible repeat (first|apply zzf|apply zzg|apply zze));refine zzi (cs:=#[.int .i64 a3,.int .i64 a4,.bool a6,.slice b9 a8.length c0,.bool a7,.slice b5 a2.length b6]) ?_ 3 _ rfl;(with_reducible repeat (first|apply zzf|apply zzg|apply zze));exact a0.out) hb);have b4:=zzm (zzh (g:=a1) (o:=.cells #[.int .i64 0,.int .i64 0,.bool false,.slice none 0 0,.bool false,.slice none 0 0] 30 (0,0)) (by (with_reducible repeat (first|apply zzf|apply zzg|apply zze));refine zzj ?_ c1.out _;(with_reducible repeat (first|apply zzf|apply zzg|apply zze));exact a5.out) hb);have c4:=zzm (zzp zzh2 hb);clear b0 a0 a5 HB;have b0:=b1;have c7:=b2;have a0:=b3;have a5:=b4;have HB:=c4;clear b1 b2 b3 b4 c4 hb ho14;obtain ⟨g6,g7,g8,g9,h0,h1,h2,h3,h4,h5,h6,h7⟩:=zzc6 a0.out)|((with_reducible refine gate_builtin (b:=.append) (xs:=#[.tmp 8,.tmp 10]) rfl ?_);at_builtin;refine Kd.R_append_rows (Kd.int .i64) (w0:=w) w.heap.size rfl (.tmp 8) (.tmp 10) 28 3 (.int .i64 0) 8 rfl Try.underlying28 info3 rfl (by decide) (by omega) e3 y411 a2 _ _ _ (fun k_=>some k_≠(.slice b7 y408.length b8:Value).ownBlock) (fun _=>False) rfl rfl ?aO ?aR (fun _ _ h=>h) (fun _ h=>h.elim) ?aF ?aB ?aS ?aL ?_;(case aR=>exact zzcb d9 HB);(case aB=>exact zzh2);(case aF=>exact (fun k_ hk=>Kd.fresh' (Kd.R_lt (by (with_reducible repeat (first|apply Kd.R_alloc|apply Kd.R_drewN|apply Kd.R_drew));exact b0.out)) k_ hk));(case aO=>exact (by (with_reducible repeat (first|apply Kd.R_alloc|apply Kd.R_drewN|apply Kd.R_drew));exact Kd.R_mono c7.out (fun _ hk=>hk.2)));(case aS=>exact (zzo zzh2));(case aL=>have:=LMc3.out;omega);intro n8 o1 ho hb hg hat;rw [← Ny414.out] at ho;have b1:=zzm (blk_grown (g:=a9) (o:=.cells #[.int .i64 a3,.int .i64 a4,.bool a6,.slice b7 y408.length b8,.bool a7,.slice b5 a2.length b6] 30 (0,0)) (zzE a0.out) hg (Kd.R_ne c7.out a0.out (by decide)));have b2:=zzm (blk_grown (g:=a1) (o:=.cells #[.int .i64 0,.int .i64 0,.bool false,.slice none 0 0,.bool false,.slice none 0 0] 30 (0,0)) (zzE a5.out) hg (Kd.R_ne c7.out a5.out (by decide)));have b3:=zzm (Kd.R_after (ok:=(fun _=>True)) (by (with_reducible repeat (first|apply Kd.R_alloc|apply Kd.R_drewN|apply Kd.R_drew));exact b0.out) hg hat);have b4:=zzm (hb);have c4:=zzm (ho);clear a0 a5 b0 HB c7;have a0:=b1;have a5:=b2;have b0:=b3;have HB:=b4;have d5:=c4;clear b1 b2 b3 b4 c4 ho hb hg hat;obtain ⟨c8,c9,eo17⟩:=Kd.R_slice d5.out;subst eo17;obtain ⟨h8,h9,j3,j4,j5,j6,j7,j8,j9,k0,k1,k2⟩:=zzc6 a0.out;obtain ⟨k3,k4,k5,k6,k7,k8,k9,l2,l3,l4,l5,l6⟩:=zzc6 a5.out));refine bodyPost_ret (results_cell_row rfl _ _ a1 30 #[.int .i64 a3,.int .i64 a4,.bool a6,.slice b7 y408.length b8,.bool a7,.slice c8 y414.length c9] (0,0) _ rfl (by (with_reducible repeat (first|apply zzf|apply zzg|apply zze));refine zzi (cs:=#[.int .i64 a3,.int .i64 a4,.bool a6,.slice b7 y408.length b8,.bool a7,.slice none 0 0]) ?_ 5 _ rfl;refine zzi (cs:=#[.int .i64 a3,.int .i64 a4,.bool a6,.slice b7 y408.length b8,.bool false,.slice none 0 0]) ?_ 4 _ rfl;refine zzi (cs:=#[.int .i64 a3,.int .i64 a4,.bool a6,.slice none 0 0,.bool false,.slice none 0 0]) ?_ 3 _ rfl;refine zzi (cs:=#[.int .i64 a3,.int .i64 a4,.bool false,.slice none 0 0,.bool false,.slice none 0 0]) ?_ 2 _ rfl;refine zzi (cs:=#[.int .i64 a3,.int .i64 0,.bool false,.slice none 0 0,.bool false,.slice none 0 0]) ?_ 1 _ rfl;refine zzi (cs:=#[.int .i64 0,.int .i64 0,.bool false,.slice none 0 0,.bool false,.slice none 0 0]) ?_ 0 _ rfl;(with_reducible repeat (first|apply zzf|apply zzg|apply zze));refine zzj ?_ c1.out _;(with_reducible repeat (first|apply zzf|apply zzg|apply zze));exact a5.out) Try.underlying30 rfl (by kernel_rfl)) rfl ?_;exact ⟨_,_,zzR,by (with_reducible repeat (first|apply Kd.R_alloc|apply Kd.R_drewN|apply Kd.R_drew));exact Kd.R_mono (Kd.R_far (p:=⟨a1,5,none⟩) (Kd.R_far (p:=⟨a1,4,none⟩) (Kd.R_far (p:=⟨a1,3,none⟩) (Kd.R_far (p:=⟨a1,2,none⟩) (Kd.R_far (p:=⟨a1,1,none⟩) (Kd.R_far (p:=⟨a1,0,none⟩) (Kd.R_far (p:=⟨a9,5,none⟩) (Kd.R_types (Kd.R_types b0.out a0.out (by decide)) a5.out (by decide)) (fun _ hk=>hk.1.2) (.slice c8 y414.length c9)) (fun _ hk=>hk.2) (.int .i64 a3)) (fun _ hk=>hk.2) (.int .i64 a4)) (fun _ hk=>hk.2) (.bool a6)) (fun _ hk=>hk.2) (.slice b7 y408.length b8)) (fun _ hk=>hk.2) (.bool a7)) (fun _ hk=>hk.2) (.slice c8 y414.length c9)) (fun _ hk=>hk.1.1.2),by (with_reducible repeat (first|apply Kd.R_alloc|apply Kd.R_drewN|apply Kd.R_drew));exact Kd.R_mono (Kd.R_far (p:=⟨a1,5,none⟩) (Kd.R_far (p:=⟨a1,4,none⟩) (Kd.R_far (p:=⟨a1,3,none⟩) (Kd.R_far (p:=⟨a1,2,none⟩) (Kd.R_far (p:=⟨a1,1,none⟩) (Kd.R_far (p:=⟨a1,0,none⟩) (Kd.R_far (p:=⟨a9,5,none⟩) (Kd.R_types (Kd.R_types d5.out a0.out (by decide)) a5.out (by decide)) (fun _ hk=>hk.1.2) (.slice c8 y414.length c9)) (fun _ hk=>hk.2) (.int .i64 a3)) (fun _ hk=>hk.2) (.int .i64 a4)) (fun _ hk=>hk.2) (.bool a6)) (fun _ hk=>hk.2) (.slice b7 y408.length b8)) (fun _ hk=>hk.2) (.bool a7)) (fun _ hk=>hk.2) (.slice c8 y414.length c9)) (fun _ hk=>hk.1.1),zzh3⟩
  ·
   rw [if_neg c3] at H;exact absurd H (by simp)
 ·
  rw [if_neg c2] at H;exact absurd H (by simp)
mutual
def Qh.l0:Nat→List (S34)→Bool→List (S34)→Int→Option ((List (S34)))
 | 0,_,_,_,_=>none
 | k+1,x0,x1,x5,x6=>if x6 < (x0.length:Int) then (if 0≤x6 then (Qh.l1 k x0 x1 x5 x6 (([]:List (S30))) 0 ((Qa x0 x6).f0) ((Qa x0 x6).f1) ((Qa x0 x6).f2) ((Qa x0 x6).f3) ((Qa x0 x6).f4) ((Qa x0 x6).f5)) else (none)) else (some x5)
def Qh.l1:Nat→List (S34)→Bool→List (S34)→Int→List (S30)→Int→Bool→Bool→Int→Int→Int→List (S30)→Option ((List (S34)))
 | 0,_,_,_,_,_,_,_,_,_,_,_,_=>none
 | k+1,x0,x1,x5,x6,x8,x9,x422000,x422001,x422002,x422003,x422004,x422005=>if x9 < (x422005.length:Int) then (if 0≤x9 then ((Rv.f k x0 x422000 x422001 x422002 x422003 x422004 x422005 ((Qb x422005 x9).f0) ((Qb x422005 x9).f1) ((Qb x422005 x9).f2) ((Qb x422005 x9).f3) ((Qb x422005 x9).f4) ((Qb x422005 x9).f5) x1).bind fun t429=>(if t429=true then ((Ry.f ((Qb x422005 x9).f0) ((Qb x422005 x9).f1) ((Qb x422005 x9).f2) ((Qb x422005 x9).f3) ((Qb x422005 x9).f4) ((Qb x422005 x9).f5)).bind fun bt431=>(if x8.length < 1759218604441 then (Qh.l1 k x0 x1 x5 x6 (x8 ++ [(⟨bt431.1,bt431.2.1,bt431.2.2.1,bt431.2.2.2.1,bt431.2.2.2.2.1,bt431.2.2.2.2.2⟩:S30)]) (wrap64 (x9+1)) x422000 x422001 x422002 x422003 x422004 x422005) else (none))) else (Qh.l1 k x0 x1 x5 x6 x8 (wrap64 (x9+1)) x422000 x422001 x422002 x422003 x422004 x422005))) else (none)) else (if (x8.length:Int) > 0 then (if x5.length < 2513169434916 then (Qh.l0 k x0 x1 (x5 ++ [(⟨x422000,x422001,x422002,x422003,x422004,x8⟩:S34)]) (wrap64 (x6+1))) else (none)) else (Qh.l0 k x0 x1 x5 (wrap64 (x6+1))))
end
def Qh.f (k:Nat) (l0:List (S34)) (a1:Bool):Option ((List (S34))):=Qh.l0 k l0 a1 (([]:List (S34))) 0
def Qh.T10:Bool×List (List Nat×List Nat):=(true,[([],[]),([],[]),([],[]),([2],[2]),([],[]),([3,4],[3,4]),([5],[5]),([],[]),([0,1,6,7],[0,1,6,7])])
def Qh.B10:List Nat:=[0,0,0,4,0,28,60,0,255]
theorem Qh.tab10:rtab .any (opsOf Try.f48 10)=Qh.T10:=by kernel_rfl
theorem Qh.bits10:waitsOk Qh.T10.2 Qh.B10=true:=by kernel_rfl
set_option maxHeartbeats 8000000 in
theorem Qh.calls (k:Nat) (A0:Option Addr) (c0:Nat) (l0:List (S34)) (a1:Bool) (r:List (S34)) (w:World) (p7:Kd.C k34 w A0 l0.length l0) (p8:l0.length≤c0) (h:Qh.f k l0 a1=some r) :
  Calls Try.prog 48 #[.slice A0 l0.length c0,.bool a1] w fun e w'=>∃ p9:Value,e = .returned (p9)∧Kd.R k34 34 w' w.heap.size (fun _=>True) p9 r∧Below w.heap.size w w':=by
 have hu34:=Try.underlying34;have hu30:=Try.underlying30;have m8:=zzm p7;have q0:=zzm p8;clear p7 p8;have HB:=zzm (Below.refl w.heap.size w);have H:(Qh.l0 k l0 a1 (([]:List (S34))) 0)=some r:=h;clear h;obtain ⟨y417,hy417⟩:∃ y_:List (S34),y_=(([]:List (S34))):=⟨_,rfl⟩;replace H:(Qh.l0 k l0 a1 y417 0)=some r:=by first|(rw [hy417];with_reducible exact H)|(have H2_:=(Option.bind_some _ _).symm.trans H;rw [hy417];with_reducible exact H2_)|(have H2_:=(Option.bind_some _ _).symm.trans H;with_reducible exact H2_)|with_reducible exact H|(rw [hy417];exact H)|exact H
 have Ny417:=zzm hy417;clear hy417;have H':=zzm H;clear H;go_enter Try.func48,Try.ntmps48;go_wp2_with (first|((with_reducible refine gate_dst (N:=10) rfl ?_);refine Kd.R_lit k34 _ 34 ?hg (N:=10) ?hd (xs:=([]:List (S34))) (inner:=[]) (ok:=fun _=>True) (okp:=fun _=>True) ?hr ?hp (fun _ hk=>hk) trivial (Below.refl _ _) (Nat.le_refl _) (by simp) ?_;(case hd=>rfl);(case hg=>rfl);(case hr=>first|(go_simp;done)|(go_simp;rfl));(case hp=>exact (Reps.none _ _));intro A6 w3 ho4 hb hg_ hnew_;clear hg_ hnew_;(first|rw [← Ny417.out] at ho4|(simp only [Int.reduceToNat] at ho4;rw [← Ny417.out] at ho4));have a9:=zzm (Kd.R_lower ho4 (zzo zzh1));have b0:=zzm (zzp zzh1 hb);clear HB;have o7:=a9;have HB:=b0;clear a9 b0 hb ho4));go_loopg [5,6] k (fun kq v5 v6 w'=>∃ (c3:List (S34)) (a0:Int),v6 = .int .i64 a0∧Aside0 (Qh.l0 kq l0 a1 c3 a0=some r)∧Aside0 (kq≤k)∧Aside0 (Kd.R k34 34 w' w.heap.size (fun _=>True) v5 c3)∧Aside0 (Below w.heap.size w w'))
 case atStart=>exact ⟨(y417),(0),(by first|rfl|(simp;done)|(simp [*];done)),H',⟨Nat.le_refl _⟩,⟨by (with_reducible repeat (first|apply Kd.R_alloc|apply Kd.R_drewN|apply Kd.R_drew));exact o7.out⟩,⟨zzh1⟩⟩
 case round=>
  clear H';try clear p2
  try clear c4
  obtain ⟨c3,a0,rfl,HA,HK1,a6,HB⟩:=hrel;cases gk with
  | zero=>exact absurd HA.out (by simp [Qh.l0])
  | succ k1=>
   have H:=HA.out;clear HA;simp only [Qh.l0] at H;by_cases c5:a0 < (l0.length:Int)
   ·
    rw [if_pos c5] at H;have m9:decide (a0 < (l0.length:Int))=true:=decide_eq_true c5;clear c5;by_cases c6 : 0≤a0
    ·
     rw [if_pos c6] at H;have q3:decide (0≤a0)=true:=decide_eq_true c6;clear c6;obtain ⟨y422,hy422⟩:∃ y_:List (S30),y_=(([]:List (S30))):=⟨_,rfl⟩;replace H:(Qh.l1 k1 l0 a1 c3 a0 y422 0 ((Qa l0 a0).f0) ((Qa l0 a0).f1) ((Qa l0 a0).f2) ((Qa l0 a0).f3) ((Qa l0 a0).f4) ((Qa l0 a0).f5))=some r:=by first|(rw [hy422];with_reducible exact H)|(have H2_:=(Option.bind_some _ _).symm.trans H;rw [hy422];with_reducible exact H2_)|(have H2_:=(Option.bind_some _ _).symm.trans H;with_reducible exact H2_)|with_reducible exact H|(rw [hy422];exact H)|exact H
     have Ny422:=zzm hy422;clear hy422;have H':=zzm H;clear H;have k6 : 0≤(a0:Int):=zzt;have k7:a0 < (l0.length:Int):=zzt;obtain ⟨l8,g0,b3,q5,g1,g2,g3,g4,g5,g6,h8,h9⟩:=Ra m8.out a0 k6 k7;cases q5;replace g1:=zzx HB.out g1;replace g2:=zzx HB.out g2;replace g3:=zzx HB.out g3;replace g4:=zzx HB.out g4;replace g5:=zzx HB.out g5;replace g6:=zzx HB.out g6;have c9:=zzm h9;have j3:=zzm h8;clear h9 h8;replace k6:=eq_true k6;replace k7:=eq_true k7;go_wp2_with (first|((with_reducible refine gate_dst (N:=7) rfl ?_);refine box_event ?hg (N:=7) ?hd (cs:=#[.bool false,.bool false,.int .i64 0,.int .i64 0,.int .i64 0,.slice none 0 0]) (t:=34) ?hr ?_;(case hd=>rfl);(case hg=>rfl);(case hr=>first|(go_simp;done)|(go_simp;rfl));intro a4 hg w7 hbox hb;have a9:=zzm (Kd.R_below (Kd.R_elderB (by (with_reducible repeat (first|apply Kd.R_alloc|apply Kd.R_drewN|apply Kd.R_drew));exact a6.out) a4 (Nat.le_of_eq hg.symm)) hb);have b0:=zzm (zzp zzh1 hb);have b1:=zzm (hbox);have b2:=zzm ((by rw [hg];exact (zzo zzh1):w.heap.size≤a4));have k8:=zzm ((by rw [hg];exact (zzo zzh1):w.heap.size≤a4));clear a6 HB;have a6:=a9;have HB:=b0;have a3:=b1;have A3:=b2;have A4:=k8;clear a9 b0 b1 b2 k8 hb hbox hg;obtain ⟨n0,n1,n2,n3,n4,n5,n6,n7,n8,n9,o0,o1⟩:=zzc6 a3.out)|((with_reducible refine gate_dst (N:=21) rfl ?_);refine Kd.S_lit k30 _ 30 ?hg (N:=21) ?hd (xs:=([]:List (S30))) (inner:=[]) (ok:=fun _=>True) (okp:=fun _=>True) ?hr ?hp (fun _ hk=>hk) trivial (Below.refl _ _) (Nat.le_refl _) (by simp) ?_;(case hd=>rfl);(case hg=>rfl);(case hr=>first|(go_simp;done)|(go_simp;rfl));(case hp=>exact (Reps.none _ _));intro A7 w9 ho10 hb hg_ hnew_;clear hg_ hnew_;(first|rw [← Ny422.out] at ho10|(simp only [Int.reduceToNat] at ho10;rw [← Ny422.out] at ho10));have a9:=zzm (Kd.R_elder' (by (with_reducible repeat (first|apply Kd.R_alloc|apply Kd.R_drewN|apply Kd.R_drew));exact (Kd.R_mono (Kd.R_far (p:=⟨a4,5,none⟩) (Kd.R_far (p:=⟨a4,4,none⟩) (Kd.R_far (p:=⟨a4,3,none⟩) (Kd.R_far (p:=⟨a4,2,none⟩) (Kd.R_far (p:=⟨a4,1,none⟩) (Kd.R_far (p:=⟨a4,0,none⟩) (Kd.R_mono a6.out (fun k_ hk=>(⟨hk,hk.2⟩:_∧k_≠a4))) (fun _ hk=>hk.2) (.bool ((Qa l0 a0).f0))) (fun _ hk=>hk.2) (.bool ((Qa l0 a0).f1))) (fun _ hk=>hk.2) (.int .i64 ((Qa l0 a0).f2))) (fun _ hk=>hk.2) (.int .i64 ((Qa l0 a0).f3))) (fun _ hk=>hk.2) (.int .i64 ((Qa l0 a0).f4))) (fun _ hk=>hk.2) (.slice g0 ((Qa l0 a0).f5).length b3)) (fun _ h_=>h_.1))) (Kd.S_base ho10) hb);have b0:=zzm (Kd.S_lower ho10 (zzo zzh2));have b1:=zzm (zzh (g:=a4) (o:=.cells #[.bool ((Qa l0 a0).f0),.bool ((Qa l0 a0).f1),.int .i64 ((Qa l0 a0).f2),.int .i64 ((Qa l0 a0).f3),.int .i64 ((Qa l0 a0).f4),.slice g0 ((Qa l0 a0).f5).length b3] 34 (0,0)) (by (with_reducible repeat (first|apply zzf|apply zzg|apply zze));refine zzi (cs:=#[.bool ((Qa l0 a0).f0),.bool ((Qa l0 a0).f1),.int .i64 ((Qa l0 a0).f2),.int .i64 ((Qa l0 a0).f3),.int .i64 ((Qa l0 a0).f4),.slice none 0 0]) ?_ 5 _ rfl;refine zzi (cs:=#[.bool ((Qa l0 a0).f0),.bool ((Qa l0 a0).f1),.int .i64 ((Qa l0 a0).f2),.int .i64 ((Qa l0 a0).f3),.int .i64 0,.slice none 0 0]) ?_ 4 _ rfl;refine zzi (cs:=#[.bool ((Qa l0 a0).f0),.bool ((Qa l0 a0).f1),.int .i64 ((Qa l0 a0).f2),.int .i64 0,.int .i64 0,.slice none 0 0]) ?_ 3 _ rfl;refine zzi (cs:=#[.bool ((Qa l0 a0).f0),.bool ((Qa l0 a0).f1),.int .i64 0,.int .i64 0,.int .i64 0,.slice none 0 0]) ?_ 2 _ rfl;refine zzi (cs:=#[.bool ((Qa l0 a0).f0),.bool false,.int .i64 0,.int .i64 0,.int .i64 0,.slice none 0 0]) ?_ 1 _ rfl;refine zzi (cs:=#[.bool false,.bool false,.int .i64 0,.int .i64 0,.int .i64 0,.slice none 0 0]) ?_ 0 _ rfl;(with_reducible repeat (first|apply zzf|apply zzg|apply zze));exact a3.out) hb);have b2:=zzm (zzp zzh2 hb);clear a6 a3 HB;have a6:=a9;have o8:=b0;have a3:=b1;have HB:=b2;clear a9 b0 b1 b2 hb ho10));go_loopg [8,9] k1 (fun kq v8 v9 w'=>∃ (a8:List (S30)) (a2:Int),v9 = .int .i64 a2∧Aside0 (Qh.l1 kq l0 a1 c3 a0 a8 a2 ((Qa l0 a0).f0) ((Qa l0 a0).f1) ((Qa l0 a0).f2) ((Qa l0 a0).f3) ((Qa l0 a0).f4) ((Qa l0 a0).f5)=some r)∧Aside0 (kq≤k1)∧Aside0 (Kd.R k34 34 w' w.heap.size (fun k_=>some k_≠(v8:Value).ownBlock∧k_≠a4) u5 c3)∧Aside0 (Kd.S k30 30 w' w.heap.size (fun _=>True) v8 a8)∧Aside0 (w'.heap[a4]? = some (.cells #[.bool ((Qa l0 a0).f0),.bool ((Qa l0 a0).f1),.int .i64 ((Qa l0 a0).f2),.int .i64 ((Qa l0 a0).f3),.int .i64 ((Qa l0 a0).f4),(.slice g0 ((Qa l0 a0).f5).length b3)] 34 (0,0)))∧Aside0 (Below w.heap.size w w'))
     case atStart=>exact ⟨(y422),(0),(by first|rfl|(simp;done)|(simp [*];done)),H',⟨Nat.le_refl _⟩,⟨by (with_reducible repeat (first|apply Kd.R_alloc|apply Kd.R_drewN|apply Kd.R_drew));exact Kd.R_mono a6.out (fun _ hk=>⟨hk.2,hk.1.2⟩)⟩,⟨by (with_reducible repeat (first|apply Kd.S_alloc|apply Kd.S_drewN|apply Kd.S_drew));exact o8.out⟩,⟨zzE a3.out⟩,⟨zzh3⟩⟩
     case round=>
      clear H';try clear p2
      try clear c4
      try clear p4
      try clear q4
      try clear B2
      try clear c5
      try clear m9
      try clear c6
      try clear q3
      try clear n0
      try clear n1
      try clear n2
      try clear n3
      try clear n4
      try clear n5
      try clear n6
      try clear n7
      try clear n8
      try clear n9
      try clear o0
      try clear o1
      try clear g1
      try clear g2
      try clear g3
      try clear g4
      try clear g5
      try clear g6
      try clear p2
      try clear k6
      try clear k7
      obtain ⟨a8,a2,rfl,HA,HK2,a6,a7,a3,HB⟩:=hrel;cases gk with
      | zero=>exact absurd HA.out (by simp [Qh.l1])
      | succ k2=>
       have H:=HA.out;clear HA;simp only [Qh.l1] at H;by_cases j4:a2 < (((Qa l0 a0).f5).length:Int)
       ·
        rw [if_pos j4] at H;have o9:decide (a2 < (((Qa l0 a0).f5).length:Int))=true:=decide_eq_true j4;clear j4;by_cases l9 : 0≤a2
        ·
         rw [if_pos l9] at H;have A5:decide (0≤a2)=true:=decide_eq_true l9;clear l9;obtain ⟨q6,q1,H⟩:=zzG H;by_cases m0:q6=true
         ·
          subst m0;replace H:=zzIt H;replace H:=zzH H;obtain ⟨⟨g7,g8,g9,e2,h0,e3⟩,o2,H⟩:=H;replace H:(if a8.length < 1759218604441 then (Qh.l1 k2 l0 a1 c3 a0 (a8 ++ [(⟨g7,g8,g9,e2,h0,e3⟩:S30)]) (wrap64 (a2+1)) ((Qa l0 a0).f0) ((Qa l0 a0).f1) ((Qa l0 a0).f2) ((Qa l0 a0).f3) ((Qa l0 a0).f4) ((Qa l0 a0).f5)) else (none))=some r:=H;have A2:=zzm o2;clear o2;by_cases m1:a8.length < 1759218604441
          ·
           rw [if_pos m1] at H;have LMc16:=zzm m1;clear m1;obtain ⟨y441,hy441⟩:∃ y_:List (S30),y_=(a8 ++ [(⟨g7,g8,g9,e2,h0,e3⟩:S30)]):=⟨_,rfl⟩;replace H:(Qh.l1 k2 l0 a1 c3 a0 y441 (wrap64 (a2+1)) ((Qa l0 a0).f0) ((Qa l0 a0).f1) ((Qa l0 a0).f2) ((Qa l0 a0).f3) ((Qa l0 a0).f4) ((Qa l0 a0).f5))=some r:=by first|(rw [hy441];with_reducible exact H)|(have H2_:=(Option.bind_some _ _).symm.trans H;rw [hy441];with_reducible exact H2_)|(have H2_:=(Option.bind_some _ _).symm.trans H;with_reducible exact H2_)|with_reducible exact H|(rw [hy441];exact H)|exact H
           have Ny441:=zzm hy441;clear hy441;have H':=zzm H;clear H;obtain ⟨r0,r1,r2,r3,r4,r5,r6,r7,r8,r9,s0,s1⟩:=zzc6 a3.out;try go_wp2
           have a9:=zzm (Kd.R_drew a6.out);have b0:=zzm (Kd.S_drew a7.out);have b1:=zzm (zzg a3.out);have b2:=zzm (zzc HB.out);clear a6 a7 a3 HB;have a6:=a9;have a7:=b0;have a3:=b1;have HB:=b2;clear a9 b0 b1 b2;have e8 : 0≤(a2:Int):=zzt;have e9:a2 < (((Qa l0 a0).f5).length:Int):=zzt;obtain ⟨a5,e4,e5,e6,e7,k9,b4,b5,b6,b7,b8,b9,d0,d1,d2,d3⟩:=Rg c9.out a2 e8 e9;have c7:=b9;have d4:=b8;have c8:=b7;have d5:=b6;have d6:=b5;have d7:=b4;cases k9;replace b4:=zzx HB.out b4;replace b5:=zzx HB.out b5;replace b6:=zzx HB.out b6;replace b7:=zzx HB.out b7;replace b8:=zzx HB.out b8;replace b9:=zzx HB.out b9;have d8:=zzm d1;have h1:=zzm d0;clear d1 d0;have d9:=zzm d3;have h2:=zzm d2;clear d3 d2;replace e8:=eq_true e8;replace e9:=eq_true e9;refine start_ (n:=9) (S:=fun w'=>w'.cell? ⟨a4,0,none⟩=some (.bool ((Qa l0 a0).f0))∧w'.cell? ⟨a4,1,none⟩=some (.bool ((Qa l0 a0).f1))∧w'.cell? ⟨a4,2,none⟩=some (.int .i64 ((Qa l0 a0).f2))∧w'.cell? ⟨a4,3,none⟩=some (.int .i64 ((Qa l0 a0).f3))∧w'.cell? ⟨a4,4,none⟩=some (.int .i64 ((Qa l0 a0).f4))∧w'.cell? ⟨a4,5,none⟩=some (.slice (some a5) ((Qa l0 a0).f5).length b3)∧w'.cell? (a5.add ((a2).toNat * 6))=some (.int .i64 ((Qb ((Qa l0 a0).f5) a2).f0))∧w'.cell? ⟨(a5.add ((a2).toNat * 6)).block,(a5.add ((a2).toNat * 6)).off+1,none⟩=some (.int .i64 ((Qb ((Qa l0 a0).f5) a2).f1))∧w'.cell? ⟨(a5.add ((a2).toNat * 6)).block,(a5.add ((a2).toNat * 6)).off+2,none⟩=some (.bool ((Qb ((Qa l0 a0).f5) a2).f2))∧w'.cell? ⟨(a5.add ((a2).toNat * 6)).block,(a5.add ((a2).toNat * 6)).off+3,none⟩=some (.slice e4 ((Qb ((Qa l0 a0).f5) a2).f3).length e5)∧w'.cell? ⟨(a5.add ((a2).toNat * 6)).block,(a5.add ((a2).toNat * 6)).off+4,none⟩=some (.bool ((Qb ((Qa l0 a0).f5) a2).f4))∧w'.cell? ⟨(a5.add ((a2).toNat * 6)).block,(a5.add ((a2).toNat * 6)).off+5,none⟩=some (.slice e6 ((Qb ((Qa l0 a0).f5) a2).f5).length e7)) (ds:=[]) (zzB 9 0) (by kernel_rfl) rfl rfl ⟨(zzk a3.out 0).trans rfl,(zzk a3.out 1).trans rfl,(zzk a3.out 2).trans rfl,(zzk a3.out 3).trans rfl,(zzk a3.out 4).trans rfl,(zzk a3.out 5).trans rfl,(zzx HB.out d7),(zzx HB.out d6),(zzx HB.out d5),(zzx HB.out c8),(zzx HB.out d4),(zzx HB.out c7)⟩ (fun c2=>?_);refine with_tabW Qh.tab10 Qh.bits10 (fun c1 h7=>?_);generalize wr.drew=B3 at a6 a7 a3 HB d8 d9 b4 b5 b6 b7 b8 b9 c2 ⊢;refine zzP 0 29 9 1 c1 ?_
           refine zzP 2 31 9 5 c1 ?_
           refine zzP 4 33 9 21 c1 ?_
           refine zzP 7 36 9 149 c1 ?_
           refine zzT 1 30 9 151 c1 h7 c2 ?_
           refine zzT 3 32 9 159 c1 h7 c2 ?_
           refine zzP 5 34 9 191 c1 ?_
           refine zzT 6 35 9 255 c1 h7 c2 ?_
           refine one_ (i:=8) (N:=some 37) (zzB 9 511) rfl rfl (one_of c1.out (by kernel_rfl)) (by decide) (fun K hK=>?_);refine goes_ Try.func44 (by kernel_rfl) rfl #[.slice (some l8) l0.length c0,.agg #[.bool ((Qa l0 a0).f0),.bool ((Qa l0 a0).f1),.int .i64 ((Qa l0 a0).f2),.int .i64 ((Qa l0 a0).f3),.int .i64 ((Qa l0 a0).f4),.slice (some a5) ((Qa l0 a0).f5).length b3],.agg #[.int .i64 ((Qb ((Qa l0 a0).f5) a2).f0),.int .i64 ((Qb ((Qa l0 a0).f5) a2).f1),.bool ((Qb ((Qa l0 a0).f5) a2).f2),.slice e4 ((Qb ((Qa l0 a0).f5) a2).f3).length e5,.bool ((Qb ((Qa l0 a0).f5) a2).f4),.slice e6 ((Qb ((Qa l0 a0).f5) a2).f5).length e7],.bool a1] (by rfl) rfl rfl zzM2 ?_;with_reducible refine (Rv.calls k2 _ _ l0 ((Qa l0 a0).f0) ((Qa l0 a0).f1) ((Qa l0 a0).f2) ((Qa l0 a0).f3) ((Qa l0 a0).f4) _ _ ((Qa l0 a0).f5) ((Qb ((Qa l0 a0).f5) a2).f0) ((Qb ((Qa l0 a0).f5) a2).f1) ((Qb ((Qa l0 a0).f5) a2).f2) _ _ ((Qb ((Qa l0 a0).f5) a2).f3) ((Qb ((Qa l0 a0).f5) a2).f4) _ _ ((Qb ((Qa l0 a0).f5) a2).f5) a1 true _ ?side1 ?side2 ?side3 ?side4 ?side5 ?side6 ?side7 ?side8 q1.out).mono ?_
           (case side1=>exact zzcb m8 HB)
           (case side2=>exact q0.out)
           (case side3=>exact zzcb c9 HB)
           (case side4=>exact j3.out)
           (case side5=>exact zzcb d8 HB)
           (case side6=>exact h1.out)
           (case side7=>exact zzcb d9 HB)
           (case side8=>exact h2.out);rintro e B5 ⟨rfl,hb⟩;refine ⟨_,rfl,?_⟩;have a9:=zzm (Kd.R_below (by (with_reducible repeat (first|apply Kd.R_alloc|apply Kd.R_drewN|apply Kd.R_drew));exact a6.out) hb);have b0:=zzm (Kd.S_below (zzS a7.out) hb);have b1:=zzm (zzh (g:=a4) (o:=.cells #[.bool ((Qa l0 a0).f0),.bool ((Qa l0 a0).f1),.int .i64 ((Qa l0 a0).f2),.int .i64 ((Qa l0 a0).f3),.int .i64 ((Qa l0 a0).f4),.slice (some a5) ((Qa l0 a0).f5).length b3] 34 (0,0)) (zzE a3.out) hb);have b2:=zzm (zzp zzh2 hb);clear a6 a7 a3 HB;have a6:=a9;have a7:=b0;have a3:=b1;have HB:=b2;clear a9 b0 b1 b2
           (try clear hb)
           (try clear hb2)
           (try clear hk)
           (try clear hi);refine hK.out _ _ ⟨(zzk a3.out 0).trans rfl,(zzk a3.out 1).trans rfl,(zzk a3.out 2).trans rfl,(zzk a3.out 3).trans rfl,(zzk a3.out 4).trans rfl,(zzk a3.out 5).trans rfl,(zzx HB.out d7),(zzx HB.out d6),(zzx HB.out d5),(zzx HB.out c8),(zzx HB.out d4),(zzx HB.out c7)⟩ (fun c2=>?_);clear hK K;refine zzO 37 ?_
           refine done_ (done_of c1.out (by kernel_rfl)) ?_;obtain ⟨s2,s3,s4,s5,s6,s7,s8,s9,t0,t1,t2,t3⟩:=zzc6 a3.out;have l2 : 0≤(a2:Int):=zzt;have l3:a2 < (((Qa l0 a0).f5).length:Int):=zzt;obtain ⟨p0,o3,o4,o5,o6,q7,j5,j6,j7,h3,j8,h4,j9,k0,k3,k4⟩:=Rg c9.out a2 l2 l3;obtain rfl:a5=p0:=(by injection q7)
           (try (have ea_:=Option.some.inj (h3.symm.trans c8);injection ea_ with ea_ en_ ec_;subst ea_;subst ec_;clear en_))
           (try (have ea_:=Option.some.inj (h4.symm.trans c7);injection ea_ with ea_ en_ ec_;subst ea_;subst ec_;clear en_));replace j5:=zzx HB.out j5;replace j6:=zzx HB.out j6;replace j7:=zzx HB.out j7;replace h3:=zzx HB.out h3;replace j8:=zzx HB.out j8;replace h4:=zzx HB.out h4;have m4:=zzm k0;have m5:=zzm j9;clear k0 j9;have m6:=zzm k4;have m7:=zzm k3;clear k4 k3;replace l2:=eq_true l2;replace l3:=eq_true l3;try go_wp2_with (first|((with_reducible refine gate_callee (f:=45) rfl ?_);refine goesL_ (some 44) rfl rfl Try.func45 (by kernel_rfl) rfl #[.agg #[.int .i64 ((Qb ((Qa l0 a0).f5) a2).f0),.int .i64 ((Qb ((Qa l0 a0).f5) a2).f1),.bool ((Qb ((Qa l0 a0).f5) a2).f2),.slice o3 ((Qb ((Qa l0 a0).f5) a2).f3).length o4,.bool ((Qb ((Qa l0 a0).f5) a2).f4),.slice o5 ((Qb ((Qa l0 a0).f5) a2).f5).length o6]] rfl zzM2 ?_;(with_reducible refine (Ry.calls ((Qb ((Qa l0 a0).f5) a2).f0) ((Qb ((Qa l0 a0).f5) a2).f1) ((Qb ((Qa l0 a0).f5) a2).f2) _ _ ((Qb ((Qa l0 a0).f5) a2).f3) ((Qb ((Qa l0 a0).f5) a2).f4) _ _ ((Qb ((Qa l0 a0).f5) a2).f5) g7 g8 g9 e2 h0 e3 _ ?side1 ?side2 ?side3 ?side4 A2.out).mono ?_);(case side1=>exact zzcb m4 HB);(case side2=>exact m5.out);(case side3=>exact zzcb m6 HB);(case side4=>exact m7.out);rintro e B7 ⟨A8,A9,rfl,ho0,ho1,hb⟩;refine ⟨_,rfl,?_⟩;have a9:=zzm (Kd.R_mono (Kd.R_told (Kd.R_told (Kd.R_old (by (with_reducible repeat (first|apply Kd.R_alloc|apply Kd.R_drewN|apply Kd.R_drew));exact a6.out) hb) (Kd.R_base ho0)) (Kd.R_base ho1)) (fun _ h_=>h_.1));have b0:=zzm (Kd.S_mono (Kd.S_told (Kd.S_told (Kd.S_old (zzS a7.out) hb) (Kd.R_base ho0)) (Kd.R_base ho1)) (fun _ h_=>h_.1));have b1:=zzm (Kd.R_lower ho0 (zzo zzh2));have b2:=zzm (Kd.R_lower ho1 (zzo zzh2));have k8:=zzm (zzh (g:=a4) (o:=.cells #[.bool ((Qa l0 a0).f0),.bool ((Qa l0 a0).f1),.int .i64 ((Qa l0 a0).f2),.int .i64 ((Qa l0 a0).f3),.int .i64 ((Qa l0 a0).f4),.slice (some a5) ((Qa l0 a0).f5).length b3] 34 (0,0)) (zzE a3.out) hb);have q2:=zzm (zzp zzh2 hb);clear a6 a7 a3 HB;have a6:=a9;have a7:=b0;have h5:=b1;have h6:=b2;have a3:=k8;have HB:=q2;clear a9 b0 b1 b2 k8 q2;(try clear hb);(try clear hb2);(try clear hk);(try clear hi);(try clear ho0);(try clear ho1);obtain ⟨l4,l5,eo23⟩:=Kd.R_slice h5.out;subst eo23;obtain ⟨l6,l7,eo24⟩:=Kd.R_slice h6.out;subst eo24)|((with_reducible refine gate_builtin (b:=.append) (xs:=#[.tmp 38,.tmp 45]) rfl ?_);at_builtin;refine Kd.S_append k30 (w0:=w) w.heap.size rfl (.tmp 38) (.tmp 45) 25 30 (.agg #[(.int .i64 0),(.int .i64 0),(.bool false),(.slice none 0 0),(.bool false),(.slice none 0 0)]) 80 rfl Try.underlying25 info30 rfl (by decide) (by omega) u8 a8 (⟨g7,g8,g9,e2,h0,e3⟩:S30) [.int .i64 g7,.int .i64 g8,.bool g9,.slice l4 e2.length l5,.bool h0,.slice l6 e3.length l7] (fun _=>True) (fun k_=>some k_=(.slice l4 e2.length l5:Value).ownBlock∨some k_=(.slice l6 e3.length l7:Value).ownBlock) rfl rfl ?aP (fun k_ hk_=>hk_.elim (fun h_=>((Kd.R_mono (ok':=fun k_=>((fun _=>True)) k_∧some k_≠(u8:Value).ownBlock) (Kd.R_apart' (h5.out) (Kd.S_typed a7.out) (by decide)) (fun k_ hk=>⟨trivial,hk.2⟩))).1 k_ h_.symm) (fun h_=>((Kd.R_mono (ok':=fun k_=>((fun _=>True)) k_∧some k_≠(u8:Value).ownBlock) (Kd.R_apart' (h6.out) (Kd.S_typed a7.out) (by decide)) (fun k_ hk=>⟨trivial,hk.2⟩))).1 k_ h_.symm)) ?aF ?aO ?aB ?aS ?aL ?_;(case aP=>exact k30_mkM _ _ _ (⟨g7,g8,g9,e2,h0,e3⟩:S30) (Kd.R_mono (Kd.R_tight rfl (Kd.R_mono (ok':=fun k_=>((fun _=>True)) k_∧some k_≠(u8:Value).ownBlock) (Kd.R_apart' (h5.out) (Kd.S_typed a7.out) (by decide)) (fun k_ hk=>⟨trivial,hk.2⟩))) (fun _ h_=>Or.inl h_)) (Kd.R_mono (Kd.R_tight rfl (Kd.R_mono (ok':=fun k_=>((fun _=>True)) k_∧some k_≠(u8:Value).ownBlock) (Kd.R_apart' (h6.out) (Kd.S_typed a7.out) (by decide)) (fun k_ hk=>⟨trivial,hk.2⟩))) (fun _ h_=>Or.inr (h_))));(case aB=>exact zzh2);(case aF=>exact (fun _ _=>trivial));(case aO=>exact (zzS (Kd.S_mono a7.out (fun k_ hk=>⟨trivial,fun e_=>e_.elim (fun h_=>hk.1.2 h_) (fun h_=>hk.2 h_)⟩))));(case aS=>exact (zzo zzh2));(case aL=>have:=LMc16.out;omega);intro B0 B8 ho hb hg hat;rw [← Ny441.out] at ho;have a9:=zzm (Kd.R_after (ok:=(fun k_=>some k_≠(.slice l4 e2.length l5:Value).ownBlock∧some k_≠(.slice l6 e3.length l7:Value).ownBlock∧k_≠a4)) (by (with_reducible repeat (first|apply Kd.R_alloc|apply Kd.R_drewN|apply Kd.R_drew));exact Kd.R_mono a6.out (fun _ hk=>⟨⟨hk.1.2,⟨hk.2,hk.1.1.2⟩⟩,hk.1.1.1⟩)) hg hat);have b0:=zzm (blk_grown (g:=a4) (o:=.cells #[.bool ((Qa l0 a0).f0),.bool ((Qa l0 a0).f1),.int .i64 ((Qa l0 a0).f2),.int .i64 ((Qa l0 a0).f3),.int .i64 ((Qa l0 a0).f4),.slice (some a5) ((Qa l0 a0).f5).length b3] 34 (0,0)) (zzE a3.out) hg (Kd.S_ne a7.out a3.out (by decide)));have b1:=zzm (hb);have b2:=zzm (ho);clear a6 a3 HB a7 h5 h6;have a6:=a9;have a3:=b0;have HB:=b1;have p1:=b2;clear a9 b0 b1 b2 ho hb hg hat))
           go_roundg k2
           case measure=>have:=HK1.out;have:=HK2.out;omega
           case rel=>exact ⟨(y441),(wrap64 (a2+1)),(by first|rfl|(simp;done)|(simp [*];done)),H',⟨by have:=HK1.out;have:=HK2.out;omega⟩,⟨by (with_reducible repeat (first|apply Kd.R_alloc|apply Kd.R_drewN|apply Kd.R_drew));exact Kd.R_mono a6.out (fun _ hk=>⟨hk.2,hk.1.2.2⟩)⟩,⟨by (with_reducible repeat (first|apply Kd.S_alloc|apply Kd.S_drewN|apply Kd.S_drew));exact p1.out⟩,⟨zzE a3.out⟩,⟨zzh3⟩⟩
          ·
           rw [if_neg m1] at H;exact absurd H (by simp)
         ·
          replace m0:=Bool.eq_false_iff.mpr m0;subst m0;replace H:=zzIf H;have H':=zzm H;clear H;obtain ⟨t4,t5,t6,t7,t8,t9,v0,v1,v2,v3,v4,v7⟩:=zzc6 a3.out;try go_wp2
          have a9:=zzm (Kd.R_drew a6.out);have b0:=zzm (Kd.S_drew a7.out);have b1:=zzm (zzg a3.out);have b2:=zzm (zzc HB.out);clear a6 a7 a3 HB;have a6:=a9;have a7:=b0;have a3:=b1;have HB:=b2;clear a9 b0 b1 b2;have e8 : 0≤(a2:Int):=zzt;have e9:a2 < (((Qa l0 a0).f5).length:Int):=zzt;obtain ⟨a5,e4,e5,e6,e7,k9,b4,b5,b6,b7,b8,b9,d0,d1,d2,d3⟩:=Rg c9.out a2 e8 e9;have c7:=b9;have d4:=b8;have c8:=b7;have d5:=b6;have d6:=b5;have d7:=b4;cases k9;replace b4:=zzx HB.out b4;replace b5:=zzx HB.out b5;replace b6:=zzx HB.out b6;replace b7:=zzx HB.out b7;replace b8:=zzx HB.out b8;replace b9:=zzx HB.out b9;have d8:=zzm d1;have h1:=zzm d0;clear d1 d0;have d9:=zzm d3;have h2:=zzm d2;clear d3 d2;replace e8:=eq_true e8;replace e9:=eq_true e9;refine start_ (n:=9) (S:=fun w'=>w'.cell? ⟨a4,0,none⟩=some (.bool ((Qa l0 a0).f0))∧w'.cell? ⟨a4,1,none⟩=some (.bool ((Qa l0 a0).f1))∧w'.cell? ⟨a4,2,none⟩=some (.int .i64 ((Qa l0 a0).f2))∧w'.cell? ⟨a4,3,none⟩=some (.int .i64 ((Qa l0 a0).f3))∧w'.cell? ⟨a4,4,none⟩=some (.int .i64 ((Qa l0 a0).f4))∧w'.cell? ⟨a4,5,none⟩=some (.slice (some a5) ((Qa l0 a0).f5).length b3)∧w'.cell? (a5.add ((a2).toNat * 6))=some (.int .i64 ((Qb ((Qa l0 a0).f5) a2).f0))∧w'.cell? ⟨(a5.add ((a2).toNat * 6)).block,(a5.add ((a2).toNat * 6)).off+1,none⟩=some (.int .i64 ((Qb ((Qa l0 a0).f5) a2).f1))∧w'.cell? ⟨(a5.add ((a2).toNat * 6)).block,(a5.add ((a2).toNat * 6)).off+2,none⟩=some (.bool ((Qb ((Qa l0 a0).f5) a2).f2))∧w'.cell? ⟨(a5.add ((a2).toNat * 6)).block,(a5.add ((a2).toNat * 6)).off+3,none⟩=some (.slice e4 ((Qb ((Qa l0 a0).f5) a2).f3).length e5)∧w'.cell? ⟨(a5.add ((a2).toNat * 6)).block,(a5.add ((a2).toNat * 6)).off+4,none⟩=some (.bool ((Qb ((Qa l0 a0).f5) a2).f4))∧w'.cell? ⟨(a5.add ((a2).toNat * 6)).block,(a5.add ((a2).toNat * 6)).off+5,none⟩=some (.slice e6 ((Qb ((Qa l0 a0).f5) a2).f5).length e7)) (ds:=[]) (zzB 9 0) (by kernel_rfl) rfl rfl ⟨(zzk a3.out 0).trans rfl,(zzk a3.out 1).trans rfl,(zzk a3.out 2).trans rfl,(zzk a3.out 3).trans rfl,(zzk a3.out 4).trans rfl,(zzk a3.out 5).trans rfl,(zzx HB.out d7),(zzx HB.out d6),(zzx HB.out d5),(zzx HB.out c8),(zzx HB.out d4),(zzx HB.out c7)⟩ (fun c2=>?_);refine with_tabW Qh.tab10 Qh.bits10 (fun c1 h7=>?_);generalize wr.drew=B9 at a6 a7 a3 HB d8 d9 b4 b5 b6 b7 b8 b9 c2 ⊢;refine zzP 0 29 9 1 c1 ?_
          refine zzP 2 31 9 5 c1 ?_
          refine zzP 4 33 9 21 c1 ?_
          refine zzP 7 36 9 149 c1 ?_
          refine zzT 1 30 9 151 c1 h7 c2 ?_
          refine zzT 3 32 9 159 c1 h7 c2 ?_
          refine zzP 5 34 9 191 c1 ?_
          refine zzT 6 35 9 255 c1 h7 c2 ?_
          refine one_ (i:=8) (N:=some 37) (zzB 9 511) rfl rfl (one_of c1.out (by kernel_rfl)) (by decide) (fun K hK=>?_);refine goes_ Try.func44 (by kernel_rfl) rfl #[.slice (some l8) l0.length c0,.agg #[.bool ((Qa l0 a0).f0),.bool ((Qa l0 a0).f1),.int .i64 ((Qa l0 a0).f2),.int .i64 ((Qa l0 a0).f3),.int .i64 ((Qa l0 a0).f4),.slice (some a5) ((Qa l0 a0).f5).length b3],.agg #[.int .i64 ((Qb ((Qa l0 a0).f5) a2).f0),.int .i64 ((Qb ((Qa l0 a0).f5) a2).f1),.bool ((Qb ((Qa l0 a0).f5) a2).f2),.slice e4 ((Qb ((Qa l0 a0).f5) a2).f3).length e5,.bool ((Qb ((Qa l0 a0).f5) a2).f4),.slice e6 ((Qb ((Qa l0 a0).f5) a2).f5).length e7],.bool a1] (by rfl) rfl rfl zzM2 ?_;with_reducible refine (Rv.calls k2 _ _ l0 ((Qa l0 a0).f0) ((Qa l0 a0).f1) ((Qa l0 a0).f2) ((Qa l0 a0).f3) ((Qa l0 a0).f4) _ _ ((Qa l0 a0).f5) ((Qb ((Qa l0 a0).f5) a2).f0) ((Qb ((Qa l0 a0).f5) a2).f1) ((Qb ((Qa l0 a0).f5) a2).f2) _ _ ((Qb ((Qa l0 a0).f5) a2).f3) ((Qb ((Qa l0 a0).f5) a2).f4) _ _ ((Qb ((Qa l0 a0).f5) a2).f5) a1 false _ ?side1 ?side2 ?side3 ?side4 ?side5 ?side6 ?side7 ?side8 q1.out).mono ?_
          (case side1=>exact zzcb m8 HB)
          (case side2=>exact q0.out)
          (case side3=>exact zzcb c9 HB)
          (case side4=>exact j3.out)
          (case side5=>exact zzcb d8 HB)
          (case side6=>exact h1.out)
          (case side7=>exact zzcb d9 HB)
          (case side8=>exact h2.out);rintro e C0 ⟨rfl,hb⟩;refine ⟨_,rfl,?_⟩;have a9:=zzm (Kd.R_below (by (with_reducible repeat (first|apply Kd.R_alloc|apply Kd.R_drewN|apply Kd.R_drew));exact a6.out) hb);have b0:=zzm (Kd.S_below (zzS a7.out) hb);have b1:=zzm (zzh (g:=a4) (o:=.cells #[.bool ((Qa l0 a0).f0),.bool ((Qa l0 a0).f1),.int .i64 ((Qa l0 a0).f2),.int .i64 ((Qa l0 a0).f3),.int .i64 ((Qa l0 a0).f4),.slice (some a5) ((Qa l0 a0).f5).length b3] 34 (0,0)) (zzE a3.out) hb);have b2:=zzm (zzp zzh2 hb);clear a6 a7 a3 HB;have a6:=a9;have a7:=b0;have a3:=b1;have HB:=b2;clear a9 b0 b1 b2
          (try clear hb)
          (try clear hb2)
          (try clear hk)
          (try clear hi);refine hK.out _ _ ⟨(zzk a3.out 0).trans rfl,(zzk a3.out 1).trans rfl,(zzk a3.out 2).trans rfl,(zzk a3.out 3).trans rfl,(zzk a3.out 4).trans rfl,(zzk a3.out 5).trans rfl,(zzx HB.out d7),(zzx HB.out d6),(zzx HB.out d5),(zzx HB.out c8),(zzx HB.out d4),(zzx HB.out c7)⟩ (fun c2=>?_);clear hK K;refine zzO 37 ?_
          refine done_ (done_of c1.out (by kernel_rfl)) ?_;try go_wp2
          go_roundg k2
          case measure=>have:=HK1.out;have:=HK2.out;omega
          case rel=>exact ⟨(a8),(wrap64 (a2+1)),(by first|rfl|(simp;done)|(simp [*];done)),H',⟨by have:=HK1.out;have:=HK2.out;omega⟩,⟨by (with_reducible repeat (first|apply Kd.R_alloc|apply Kd.R_drewN|apply Kd.R_drew));exact a6.out⟩,⟨by (with_reducible repeat (first|apply Kd.S_alloc|apply Kd.S_drewN|apply Kd.S_drew));exact a7.out⟩,⟨zzE a3.out⟩,⟨zzh3⟩⟩
        ·
         rw [if_neg l9] at H;exact absurd H (by simp)
       ·
        rw [if_neg j4] at H;have o9:decide (a2 < (((Qa l0 a0).f5).length:Int))=false:=decide_eq_false j4;clear j4;by_cases k5:(a8.length:Int) > 0
        ·
         rw [if_pos k5] at H;have p3:decide (0 < (a8.length:Int))=true:=decide_eq_true k5;have p5:decide (0 < a8.length)=true:=decide_eq_true (by omega);clear k5;by_cases m2:c3.length < 2513169434916
         ·
          rw [if_pos m2] at H;have LMc29:=zzm m2;clear m2;obtain ⟨y425,hy425⟩:∃ y_:List (S34),y_=(c3 ++ [(⟨((Qa l0 a0).f0),((Qa l0 a0).f1),((Qa l0 a0).f2),((Qa l0 a0).f3),((Qa l0 a0).f4),a8⟩:S34)]):=⟨_,rfl⟩;replace H:(Qh.l0 k2 l0 a1 y425 (wrap64 (a0+1)))=some r:=by first|(rw [hy425];with_reducible exact H)|(have H2_:=(Option.bind_some _ _).symm.trans H;rw [hy425];with_reducible exact H2_)|(have H2_:=(Option.bind_some _ _).symm.trans H;with_reducible exact H2_)|with_reducible exact H|(rw [hy425];exact H)|exact H
          have Ny425:=zzm hy425;clear hy425;have H':=zzm H;clear H;obtain ⟨w2,w4,w5,w6,w8,x0,x1,x2,x3,x4,x5,x6⟩:=zzc6 a3.out;obtain ⟨e0,e1,eo31⟩:=Kd.S_slice a7.out;subst eo31;go_wp2_with (first|((with_reducible refine gate_store (t:=25) (p:=48) rfl ?_);refine store_event (t:=25) (p:=48) (v:=?vo_w32) (w1:=(wr.setCell ⟨a4,5,none⟩ (.slice e0 a8.length e1))) ?hg ?ho ?hn ?hr ?_;(case ho=>rfl);(case hg=>rfl);(case hn=>rfl);(case hr=>first|(go_simp;done)|(go_simp;rfl));intro m3 hw;have a9:Aside0 (Kd.R k34 34 m3 w.heap.size (fun k_=>some k_≠(.slice e0 a8.length e1:Value).ownBlock∧k_≠a4) u5 c3):=⟨(by rw [hw];exact (by (with_reducible repeat (first|apply Kd.R_alloc|apply Kd.R_drewN|apply Kd.R_drew));exact Kd.R_mono (Kd.R_far (p:=⟨a4,5,none⟩) (Kd.R_mono a6.out (fun k_ hk=>(⟨hk,hk.2⟩:_∧k_≠a4))) (fun _ hk=>hk.2) (.slice e0 a8.length e1)) (fun _ hk=>⟨hk.1.1,hk.1.2⟩)))⟩;have b0:Aside0 (Kd.S k30 30 m3 w.heap.size (fun _=>True) (.slice e0 a8.length e1) a8):=⟨(by rw [hw];exact (zzS (Kd.S_mono (Kd.S_far (p:=⟨a4,5,none⟩) (Kd.S_types a7.out a3.out (by decide)) (fun _ hk=>hk.2) (.slice e0 a8.length e1)) (fun _ hk=>trivial))))⟩;have b1:Aside0 (m3.heap[a4]? = some (.cells #[.bool ((Qa l0 a0).f0),.bool ((Qa l0 a0).f1),.int .i64 ((Qa l0 a0).f2),.int .i64 ((Qa l0 a0).f3),.int .i64 ((Qa l0 a0).f4),.slice e0 a8.length e1] 34 (0,0))):=⟨(by rw [hw];exact (by (with_reducible repeat (first|apply zzf|apply zzg|apply zze));refine zzi (cs:=#[.bool ((Qa l0 a0).f0),.bool ((Qa l0 a0).f1),.int .i64 ((Qa l0 a0).f2),.int .i64 ((Qa l0 a0).f3),.int .i64 ((Qa l0 a0).f4),.slice g0 ((Qa l0 a0).f5).length b3]) ?_ 5 _ rfl;(with_reducible repeat (first|apply zzf|apply zzg|apply zze));exact a3.out))⟩;have b2:Aside0 (Below w.heap.size w m3):=⟨(by rw [hw];exact zzh2)⟩;clear hw a6 a7 a3 HB;have a6:=a9;have a7:=b0;have a3:=b1;have HB:=b2;clear a9 b0 b1 b2;obtain ⟨x7,x8,x9,y0,y1,y2,y3,y4,y5,y6,y7,y8⟩:=zzc6 a3.out)|((with_reducible refine gate_builtin (b:=.append) (xs:=#[.tmp 52,.tmp 54]) rfl ?_);at_builtin;refine Kd.R_append k34 (w0:=w) w.heap.size rfl (.tmp 52) (.tmp 54) 23 34 (.agg #[(.bool false),(.bool false),(.int .i64 0),(.int .i64 0),(.int .i64 0),(.slice none 0 0)]) 56 rfl Try.underlying23 info34 rfl (by decide) (by omega) u5 c3 (⟨((Qa l0 a0).f0),((Qa l0 a0).f1),((Qa l0 a0).f2),((Qa l0 a0).f3),((Qa l0 a0).f4),a8⟩:S34) [.bool ((Qa l0 a0).f0),.bool ((Qa l0 a0).f1),.int .i64 ((Qa l0 a0).f2),.int .i64 ((Qa l0 a0).f3),.int .i64 ((Qa l0 a0).f4),.slice e0 a8.length e1] (fun k_=>k_≠a4) (fun k_=>((fun k_=>k_≠a4)) k_∧some k_≠(u5:Value).ownBlock) rfl rfl ?aP (fun _ hk=>hk) ?aF ?aO ?aB ?aS ?aL ?_;(case aP=>exact k34_mkM _ _ _ (⟨((Qa l0 a0).f0),((Qa l0 a0).f1),((Qa l0 a0).f2),((Qa l0 a0).f3),((Qa l0 a0).f4),a8⟩:S34) (Kd.R_mono (Kd.R_types (Kd.R_apart' ((Kd.S_R a7.out)) (Kd.R_typed a6.out) (by decide)) a3.out (by decide)) (fun k_ hk=>⟨hk.2,hk.1.2⟩)));(case aB=>exact zzh2);(case aF=>exact (fun k_ hk=>Kd.freshB (g:=a4) (o:=.cells #[.bool ((Qa l0 a0).f0),.bool ((Qa l0 a0).f1),.int .i64 ((Qa l0 a0).f2),.int .i64 ((Qa l0 a0).f3),.int .i64 ((Qa l0 a0).f4),.slice e0 a8.length e1] 34 (0,0)) (zzE a3.out) k_ hk));(case aO=>exact (by (with_reducible repeat (first|apply Kd.R_alloc|apply Kd.R_drewN|apply Kd.R_drew));exact Kd.R_mono a6.out (fun _ hk=>hk.2)));(case aS=>exact (zzo zzh2));(case aL=>have:=LMc29.out;omega);intro B1 C1 ho hb hg hat;rw [← Ny425.out] at ho;have a9:=zzm (blk_grown (g:=a4) (o:=.cells #[.bool ((Qa l0 a0).f0),.bool ((Qa l0 a0).f1),.int .i64 ((Qa l0 a0).f2),.int .i64 ((Qa l0 a0).f3),.int .i64 ((Qa l0 a0).f4),.slice e0 a8.length e1] 34 (0,0)) (zzE a3.out) hg (Kd.R_away a6.out (fun _ hk=>hk.2)));have b0:=zzm (hb);have b1:=zzm (ho);clear a3 HB a6 a7;have a3:=a9;have HB:=b0;have p6:=b1;clear a9 b0 b1 ho hb hg hat));go_roundg k2
          case measure=>have:=HK1.out;have:=HK2.out;omega
          case rel=>exact ⟨(y425),(wrap64 (a0+1)),(by first|rfl|(simp;done)|(simp [*];done)),H',⟨by have:=HK1.out;have:=HK2.out;omega⟩,⟨by (with_reducible repeat (first|apply Kd.R_alloc|apply Kd.R_drewN|apply Kd.R_drew));exact Kd.R_mono p6.out (fun _ hk=>trivial)⟩,⟨zzh3⟩⟩
         ·
          rw [if_neg m2] at H;exact absurd H (by simp)
        ·
         rw [if_neg k5] at H;have p3:decide (0 < (a8.length:Int))=false:=decide_eq_false k5;have p5:decide (0 < a8.length)=false:=decide_eq_false (by omega);clear k5;have H':=zzm H;clear H;obtain ⟨y9,z0,z1,z2,z3,z4,z5,z6,z7,z8,z9,A1⟩:=zzc6 a3.out;obtain ⟨q8,q9,eo36⟩:=Kd.S_slice a7.out;subst eo36;go_wp2;go_roundg k2
         case measure=>have:=HK1.out;have:=HK2.out;omega
         case rel=>exact ⟨(c3),(wrap64 (a0+1)),(by first|rfl|(simp;done)|(simp [*];done)),H',⟨by have:=HK1.out;have:=HK2.out;omega⟩,⟨by (with_reducible repeat (first|apply Kd.R_alloc|apply Kd.R_drewN|apply Kd.R_drew));exact Kd.R_mono (Kd.R_far (p:=⟨a4,5,none⟩) (Kd.R_mono a6.out (fun k_ hk=>(⟨hk,hk.2⟩:_∧k_≠a4))) (fun _ hk=>hk.2) (.slice q8 a8.length q9)) (fun _ hk=>trivial)⟩,⟨zzh3⟩⟩
    ·
     rw [if_neg c6] at H;exact absurd H (by simp)
   ·
    rw [if_neg c5] at H;have m9:decide (a0 < (l0.length:Int))=false:=decide_eq_false c5;clear c5;obtain rfl:=Option.some.inj H;go_wp2;go_ret;exact ⟨_,zzR,by (with_reducible repeat (first|apply Kd.R_alloc|apply Kd.R_drewN|apply Kd.R_drew));exact a6.out,zzh1⟩
end Go.Proofs.Ytkhjmhdgcmffaaa.X
namespace Go.Proofs.Ytkhjmhdgcmffaaa.XQ
open Go.RowKit Go.Proofs.YtkhjmhdgcmffaaaW.PrintWords
set_option linter.unusedVariables false
set_option linter.unusedSimpArgs false
theorem ev_succ {α:Type} {g:Nat→Option α} {r : α} (h:Ev (fun k=>g (k+1)) r):Ev g r:=Ev.step (f:=fun k=>g (k+1)) (fun _=>rfl) h
theorem ev_of_all {α:Type} {g:Nat→Option α} {r : α} (h:∀ k,g k=some r):Ev g r:=⟨0,fun k _=>h k⟩
theorem ev_some {α:Type} (r : α):Ev (fun _=>some r) r:=ev_of_all fun _=>rfl
def Evs {α:Type} (g:Nat→Option α) (Q : α→Prop):Prop:=∃ r,Ev g r∧Q r
theorem Evs.of {α:Type} {g:Nat→Option α} {Q : α→Prop} {r : α} (h:Ev g r) (hq:Q r):Evs g Q:=⟨r,h,hq⟩
theorem Evs.done {α:Type} {Q : α→Prop} {r : α} (hq:Q r):Evs (fun _=>some r) Q:=⟨r,ev_some r,hq⟩
theorem Evs.mono {α:Type} {g:Nat→Option α} {Q Q' : α→Prop} (h:Evs g Q) (hq:∀ r,Q r→Q' r):Evs g Q':=by
 obtain ⟨r,h1,h2⟩:=h
 exact ⟨r,h1,hq r h2⟩
theorem Evs.succ {α:Type} {g:Nat→Option α} {Q : α→Prop} (h:Evs (fun k=>g (k+1)) Q):Evs g Q:=by
 obtain ⟨r,h1,h2⟩:=h
 exact ⟨r,ev_succ h1,h2⟩
theorem Evs.bind {α β:Type} {g:Nat→Option α} {f:Nat→α→Option β} {Q : α→Prop} {R : β→Prop} (h:Evs g Q) (k:∀ a,Q a→Evs (fun n=>f n a) R):Evs (fun n=>(g n).bind (f n)) R:=by
 obtain ⟨a,h1,h2⟩:=h
 obtain ⟨r,k1,k2⟩:=k a h2
 exact ⟨r,Ev.bind h1 k1,k2⟩
theorem bsome {α β:Type} (a : α) (f : α→Option β):(some a).bind f=f a:=Eq.trans (Option.bind_some a f) (Eq.refl _)
end Go.Proofs.Ytkhjmhdgcmffaaa.XQ
namespace Go.Proofs.Ytkhjmhdgcmffaaa.XQ
open Go.RowKit Go.Proofs.Ytkhjmhdgcmffaaa.X Go.Proofs.YtkhjmhdgcmffaaaW.PrintWords Go.Proofs.YtkhjmhdgcmffaaaW.PrintLast
set_option linter.unusedVariables false
set_option linter.unusedSimpArgs false
theorem wrap_id {x:Int} (h0 : -9223372036854775808≤x) (h1:x < 9223372036854775808):wrap64 x=x:=by unfold wrap64;omega
theorem tmod_range {x n:Int} (h : 0≤x) (hn : 1≤n) : 0≤Int.tmod x n∧Int.tmod x n < n:=by
 rw [Int.tmod_eq_emod_of_nonneg h]
 exact ⟨Int.emod_nonneg _ (by omega),Int.emod_lt_of_pos _ (by omega)⟩
theorem xor_nonneg {a b:Int} (h1 : 0≤a) (h2:a < 4611686018427387904) (h3 : 0≤b) (h4:b < 4611686018427387904) : 0≤Go.bits .xor .i64 a b:=by
 obtain ⟨A,rfl⟩:=Int.eq_ofNat_of_zero_le h1
 obtain ⟨B,rfl⟩:=Int.eq_ofNat_of_zero_le h3
 have hx:A ^^^ B < 2 ^ 62:=Nat.xor_lt_two_pow (by omega) (by omega)
 have e1:(BitVec.ofInt 64 (A:Int)).toNat=A:=by
  rw [BitVec.ofInt_natCast,BitVec.toNat_ofNat];exact Nat.mod_eq_of_lt (by omega)
 have e2:(BitVec.ofInt 64 (B:Int)).toNat=B:=by
  rw [BitVec.ofInt_natCast,BitVec.toNat_ofNat];exact Nat.mod_eq_of_lt (by omega)
 show 0≤IntKind.i64.wrap ((BitVec.ofInt 64 (A:Int) ^^^ BitVec.ofInt 64 (B:Int)).toNat:Int)
 rw [BitVec.toNat_xor,e1,e2]
 simp only [IntKind.wrap,IntKind.bits,IntKind.signed]
 simp
 omega
def Bytes (b:List Int):Prop:=∀ x∈b,0≤x∧x≤255
theorem rd_bytes {b:List Int} (h:Bytes b) (i:Int) : 0≤rd b i∧rd b i≤255:=by
 unfold rd
 rw [List.getD_eq_getElem?_getD]
 cases e:b[i.toNat]? with
 | none=>simp
 | some x=>exact h x (List.mem_of_getElem? e)
theorem pick_ev (b:List Int) (p n:Int) (hb:Bytes b) (hl:b.length≤2000) (h0 : 0≤p) (h1:p≤1000000000) (hn : 1≤n) :
  ∃ v,Ev (fun k=>Qd.f k b p n) (v,p+1)∧0≤v∧v < n:=by
 have e1:wrap64 (p+1)=p+1:=wrap_id (by omega) (by omega)
 have e2:wrap64 (p+1 - 1)=p:=by rw [wrap_id (by omega) (by omega)];omega
 by_cases hz:b.length=0
 ·refine ⟨0,⟨1,fun k hk=>?_⟩,by omega,by omega⟩
  obtain ⟨k,rfl⟩:∃ m,k=m+1:=⟨k - 1,by omega⟩
  show Qd.f (k+1) b p n = _
  unfold Qd.f
  rw [if_neg (by omega),e1]
  simp [Qd.j0,hz]
 ·have hz' : (((b.length:Int)==0)=true)=False:=by simp;intro h;simp [h] at hz
  by_cases hlt:p < (b.length:Int)
  ·obtain ⟨r0,r1⟩:=rd_bytes hb p
   have:=tmod_range (x:=rd b p) r0 hn
   refine ⟨Int.tmod (rd b p) n,⟨1,fun k hk=>?_⟩,this.1,this.2⟩
   obtain ⟨k,rfl⟩:∃ m,k=m+1:=⟨k - 1,by omega⟩
   show Qd.f (k+1) b p n = _
   unfold Qd.f
   rw [if_neg (by omega),e1]
   simp only [Qd.j0,e2,hz']
   rw [if_neg (by simp),if_pos hlt,if_pos h0,if_neg (by omega),wrap_id (by omega) (by omega)]
  ·obtain ⟨q0,q1⟩:=tmod_range (x:=p) (n:=(b.length:Int)) h0 (by omega)
   obtain ⟨r0,r1⟩:=rd_bytes hb (Int.tmod p (b.length:Int))
   have f1:wrap64 (p * 7)=p * 7:=wrap_id (by omega) (by omega)
   have f2:wrap64 (p * 7+3)=p * 7+3:=wrap_id (by omega) (by omega)
   obtain ⟨q2,q3⟩:=tmod_range (x:=p * 7+3) (n:=(b.length:Int)) (by omega) (by omega)
   obtain ⟨r2,r3⟩:=rd_bytes hb (Int.tmod (p * 7+3) (b.length:Int))
   have d0 : 0≤Int.tdiv p (b.length:Int)∧Int.tdiv p (b.length:Int)≤p:=by
    rw [Int.tdiv_eq_ediv_of_nonneg h0]
    exact ⟨Int.ediv_nonneg h0 (by omega),Int.ediv_le_self _ h0⟩
   obtain ⟨x,hx⟩:∃ x,x=rd b (Int.tmod p (b.length:Int)):=⟨_,rfl⟩
   obtain ⟨y,hy⟩:∃ y,y=rd b (Int.tmod (p * 7+3) (b.length:Int)):=⟨_,rfl⟩
   obtain ⟨z,hz2⟩:∃ z,z=Int.tdiv p (b.length:Int):=⟨_,rfl⟩
   obtain ⟨s,hs⟩:∃ s,s=x * 131+y * 1117+p * 29+z * 53:=⟨_,rfl⟩
   rw [← hx] at r0 r1
   rw [← hy] at r2 r3
   rw [← hz2] at d0
   have s0 : 0≤s∧s < 4611686018427387904:=by omega
   have t0 : 0≤Int.tdiv s 64∧Int.tdiv s 64≤s:=by
    rw [Int.tdiv_eq_ediv_of_nonneg s0.1]
    exact ⟨Int.ediv_nonneg s0.1 (by omega),Int.ediv_le_self _ s0.1⟩
   have w1:wrap64 x=x:=wrap_id (by omega) (by omega)
   have w2:wrap64 y=y:=wrap_id (by omega) (by omega)
   have w3:wrap64 z=z:=wrap_id (by omega) (by omega)
   have w4:wrap64 (x * 131)=x * 131:=wrap_id (by omega) (by omega)
   have w5:wrap64 (y * 1117)=y * 1117:=wrap_id (by omega) (by omega)
   have w6:wrap64 (p * 29)=p * 29:=wrap_id (by omega) (by omega)
   have w7:wrap64 (z * 53)=z * 53:=wrap_id (by omega) (by omega)
   have w8:wrap64 (x * 131+y * 1117)=x * 131+y * 1117:=wrap_id (by omega) (by omega)
   have w9:wrap64 (x * 131+y * 1117+p * 29)=x * 131+y * 1117+p * 29:=wrap_id (by omega) (by omega)
   have wa:wrap64 (x * 131+y * 1117+p * 29+z * 53)=s:=by rw [hs];exact wrap_id (by omega) (by omega)
   have wb:wrap64 (Int.tdiv s 64)=Int.tdiv s 64:=wrap_id (by omega) (by omega)
   have:=tmod_range (x:=Go.bits .xor .i64 s (Int.tdiv s 64)) (n:=n) (xor_nonneg s0.1 s0.2 t0.1 (by omega)) hn
   refine ⟨_,⟨1,fun k hk=>?_⟩,this.1,this.2⟩
   obtain ⟨k,rfl⟩:∃ m,k=m+1:=⟨k - 1,by omega⟩
   show Qd.f (k+1) b p n = _
   unfold Qd.f
   rw [if_neg (by omega),e1]
   simp only [Qd.j0,e2,hz',f1,f2]
   rw [if_neg (by simp),if_neg hlt,if_neg (by omega),if_pos q0,if_pos q1,if_pos q2,if_pos q3,if_neg (by omega),← hx,← hy,← hz2,w1,w2,w3,w4,w5,w6,w7,w8,w9,wa,wb]
theorem pick_evs (b:List Int) (p n:Int) (hb:Bytes b) (hl:b.length≤2000) (h0 : 0≤p) (h1:p≤1000000000) (hn : 1≤n) :
  Evs (fun k=>Qd.f k b p n) (fun r=>0≤r.1∧r.1 < n∧r.2=p+1):=by
 obtain ⟨v,h,v0,v1⟩:=pick_ev b p n hb hl h0 h1 hn
 exact ⟨_,h,v0,v1,rfl⟩
theorem Rx (a b c:Int):Qr.f a b c=some (decide (b≤a∧a≤c)):=by
 unfold Qr.f
 by_cases h:a ≥ b
 ·rw [if_pos h]
  have:(b≤a∧a≤c)↔a≤c:=⟨fun h=>h.2,fun h'=>⟨h,h'⟩⟩
  simp [this]
 ·rw [if_neg h]
  have:¬ (b≤a∧a≤c):=fun h'=>h h'.1
  simp [this]
theorem spec_l6In_eq (a b c:Int):Qs.f a b c=some (decide (b≤a∧a≤c)):=by
 unfold Qs.f
 by_cases h:a ≥ b
 ·rw [if_pos h]
  have:(b≤a∧a≤c)↔a≤c:=⟨fun h=>h.2,fun h'=>⟨h,h'⟩⟩
  simp [this]
 ·rw [if_neg h]
  have:¬ (b≤a∧a≤c):=fun h'=>h h'.1
  simp [this]
theorem rd_nat (l:List Int) (j:Nat) (h:j < l.length):rd l (j:Int)=l[j]:=by
 unfold rd
 rw [Int.toNat_natCast,List.getD_eq_getElem?_getD,List.getElem?_eq_getElem h]
 rfl
theorem drop_int {l:List Int} {i:Nat} (h:i < l.length):l.drop i=rd l i::l.drop (i+1):=by
 rw [List.drop_eq_getElem_cons h,rd_nat l i h]
def ab (l:List Int):Bool:=decide (∀ x∈l,0≤x∧x≤255)
theorem ab_cons (x:Int) (l:List Int):ab (x::l)=(decide (0≤x∧x≤255)&&ab l):=by
 rw [Bool.eq_iff_iff]
 simp [ab,List.forall_mem_cons]
theorem ab_nil:ab []=true:=by simp [ab]
theorem isByte_eq (a:Int):Rs.f a=some (decide (0≤a∧a≤255)):=by
 unfold Rs.f
 by_cases h:a ≥ 0
 ·rw [if_pos h]
  have:(0≤a∧a≤255)↔a≤255:=⟨fun h=>h.2,fun h'=>⟨h,h'⟩⟩
  simp [this]
 ·rw [if_neg h]
  have:¬ (0≤a∧a≤255):=fun h'=>h h'.1
  simp [this]
theorem baseValid_eq (a b:Int):Rk.f a b=some (decide ((0≤a∧a≤99999)∧(0≤b∧b≤99999))):=by
 unfold Rk.f
 rw [Rx,Rx]
 by_cases h : 0≤a∧a≤99999 <;> simp [h]
theorem idValid_eqB (a:Int):Rn.f a=some (decide (0≤a∧a≤254)):=by
 unfold Rn.f
 rw [Rx]
 rfl
theorem implAll_loop (l:List Int) (hl:l.length≤1000000000000000):∀ (d i:Nat),l.length - i=d→i≤l.length→Ev (fun k=>Qp.l0 k l (l.length:Int) (i:Int)) (ab (l.drop i)):=by
 intro d
 induction d with
 | zero=>
  intro i hd hi
  rw [show l.drop i = [] from List.drop_eq_nil_of_le (by omega),ab_nil]
  refine ev_succ ?_
  simp only [Qp.l0,if_neg (show ¬ (i:Int) < (l.length:Int) by omega)]
  exact ev_some _
 | succ d ih=>
  intro i hd hi
  have e1:wrap64 ((i:Int)+1)=((i+1:Nat):Int):=by rw [wrap_id (by omega) (by omega)];omega
  rw [drop_int (show i < l.length by omega),ab_cons]
  refine ev_succ ?_
  simp only [Qp.l0,if_pos (show (i:Int) < (l.length:Int) by omega),if_pos (show (0:Int)≤i by omega),isByte_eq,bsome,decide_eq_true_eq,e1]
  by_cases h : 0≤rd l (i:Int)∧rd l (i:Int)≤255
  ·simp only [if_pos h,decide_eq_true h,Bool.true_and]
   exact ih (i+1) (by omega) (by omega)
  ·simp only [if_neg h,decide_eq_false h,Bool.false_and]
   exact ev_some _
theorem implAll (l:List Int) (hl:l.length≤1000000000000000):Ev (fun k=>Qp.f k l) (ab l):=by
 unfold Qp.f
 have:=implAll_loop l hl l.length 0 (by omega) (by omega)
 simpa using this
theorem specAll_loop (l:List Int) (hl:l.length≤1000000000000000):∀ (d i:Nat),l.length - i=d→i≤l.length→Ev (fun k=>Qz.l0 k l (i:Int)) (ab (l.drop i)):=by
 intro d
 induction d with
 | zero=>
  intro i hd hi
  rw [show l.drop i = [] from List.drop_eq_nil_of_le (by omega),ab_nil]
  refine ev_succ ?_
  simp only [Qz.l0,if_neg (show ¬ (i:Int) < (l.length:Int) by omega)]
  exact ev_some _
 | succ d ih=>
  intro i hd hi
  have e1:wrap64 ((i:Int)+1)=((i+1:Nat):Int):=by rw [wrap_id (by omega) (by omega)];omega
  rw [drop_int (show i < l.length by omega),ab_cons]
  refine ev_succ ?_
  simp only [Qz.l0,if_pos (show (i:Int) < (l.length:Int) by omega),if_pos (show (0:Int)≤i by omega),spec_l6In_eq,bsome,decide_eq_true_eq,e1]
  by_cases h : 0≤rd l (i:Int)∧rd l (i:Int)≤255
  ·simp only [if_pos h,decide_eq_true h,Bool.true_and]
   exact ih (i+1) (by omega) (by omega)
  ·simp only [if_neg h,decide_eq_false h,Bool.false_and]
   exact ev_some _
theorem specAll (l:List Int) (hl:l.length≤1000000000000000):Ev (fun k=>Qz.f k l) (ab l):=by
 unfold Qz.f
 have:=specAll_loop l hl l.length 0 (by omega) (by omega)
 simpa using this
def pv (has:Bool) (l:List Int):Bool:=if has=true then decide (l.length≤12)&&ab l else decide (l.length=0)
theorem implPart (has:Bool) (l:List Int) (hl:l.length≤1000000000000000):Ev (fun k=>Re.f k has l) (pv has l):=by
 unfold Re.f pv
 cases has with
 | true=>
  simp only [if_true]
  by_cases h:(l.length:Int)≤12
  ·simp only [if_pos h,decide_eq_true (show l.length≤12 by omega),Bool.true_and]
   exact Ev.bind (implAll l hl) (ev_some _)
  ·simp only [if_neg h,decide_eq_false (show ¬ l.length≤12 by omega),Bool.false_and]
   exact ev_some _
 | false=>
  simp only [Bool.false_eq_true,if_false]
  rw [show ((l.length:Int)==0)=decide (l.length=0) by rw [Bool.eq_iff_iff];simp]
  exact ev_some _
theorem specPart (has:Bool) (l:List Int) (hl:l.length≤1000000000000000):Ev (fun k=>Ro.f k has l) (pv has l):=by
 unfold Ro.f pv
 cases has with
 | true=>
  simp only [if_true]
  refine Ev.bind (specAll l hl) ?_
  by_cases h:ab l=true
  ·simp only [if_pos h,h,Bool.and_true]
   rw [show decide ((l.length:Int)≤12)=decide (l.length≤12) by rw [decide_eq_decide];omega]
   exact ev_some _
  ·simp only [if_neg h,show ab l=false by simpa using h,Bool.and_false]
   exact ev_some _
 | false=>
  simp only [Bool.false_eq_true,if_false]
  by_cases h:l.length=0
  ·simp only [if_pos (show (l.length:Int)=0 by omega),decide_eq_true h]
   refine Ev.bind (specAll l hl) ?_
   have hn:l = []:=List.length_eq_zero_iff.1 h
   subst hn
   simp only [ab_nil,if_true]
   exact ev_some _
  ·simp only [if_neg (show ¬ (l.length:Int)=0 by omega),decide_eq_false h]
   exact ev_some _
abbrev Rc:=S30
abbrev rr (l:List Rc) (i:Int):Rc:=Qb l i
theorem rr_nat (l:List Rc) (j:Nat) (h:j < l.length):rr l (j:Int)=l[j]:=by
 unfold rr Qb
 rw [Int.toNat_natCast,List.getD_eq_getElem?_getD,List.getElem?_eq_getElem h]
 rfl
def smallR (r:Rc):Prop:=r.f3.length≤1000000000000000∧r.f5.length≤1000000000000000
def smallRs (l:List Rc):Prop:=l.length≤1000000000000000∧∀ r∈l,smallR r
theorem smallRs_at {l:List Rc} (h:smallRs l) (j:Nat) (hj:j < l.length):smallR (rr l (j:Int)):=by
 rw [rr_nat l j hj]
 exact h.2 _ (List.getElem_mem hj)
def rv (r:Rc):Bool:=decide ((0≤r.f0∧r.f0≤99999)∧(0≤r.f1∧r.f1≤99999))&&(pv r.f2 r.f3&&pv r.f4 r.f5)
theorem implRec (r:Rc) (h:smallR r):Ev (fun k=>Rh.f k r.f0 r.f1 r.f2 r.f3 r.f4 r.f5) (rv r):=by
 unfold Rh.f rv
 simp only [baseValid_eq,bsome,decide_eq_true_eq]
 by_cases h0:(0≤r.f0∧r.f0≤99999)∧(0≤r.f1∧r.f1≤99999)
 ·simp only [if_pos h0,decide_eq_true h0,Bool.true_and]
  refine Ev.bind (implPart _ _ h.1) ?_
  by_cases h1:pv r.f2 r.f3=true
  ·simp only [if_pos h1,h1,Bool.true_and]
   exact Ev.bind (implPart _ _ h.2) (ev_some _)
  ·simp only [if_neg h1,show pv r.f2 r.f3=false by simpa using h1,Bool.false_and]
   exact ev_some _
 ·simp only [if_neg h0,decide_eq_false h0,Bool.false_and]
  exact ev_some _
theorem specRec (r:Rc) (h:smallR r):Ev (fun k=>Rf.f k r.f0 r.f1 r.f2 r.f3 r.f4 r.f5) (rv r):=by
 unfold Rf.f rv
 simp only [spec_l6In_eq,bsome,decide_eq_true_eq]
 by_cases h0 : 0≤r.f0∧r.f0≤99999
 ·by_cases h1 : 0≤r.f1∧r.f1≤99999
  ·simp only [if_pos h0,if_pos h1,decide_eq_true (show (0≤r.f0∧r.f0≤99999)∧(0≤r.f1∧r.f1≤99999) from ⟨h0,h1⟩),Bool.true_and]
   refine Ev.bind (specPart _ _ h.1) ?_
   by_cases h2:pv r.f2 r.f3=true
   ·simp only [if_pos h2,h2,Bool.true_and]
    exact Ev.bind (specPart _ _ h.2) (ev_some _)
   ·simp only [if_neg h2,show pv r.f2 r.f3=false by simpa using h2,Bool.false_and]
    exact ev_some _
  ·simp only [if_pos h0,if_neg h1,decide_eq_false (show ¬ ((0≤r.f0∧r.f0≤99999)∧(0≤r.f1∧r.f1≤99999)) from fun h=>h1 h.2),Bool.false_and]
   exact ev_some _
 ·simp only [if_neg h0,decide_eq_false (show ¬ ((0≤r.f0∧r.f0≤99999)∧(0≤r.f1∧r.f1≤99999)) from fun h=>h0 h.1),Bool.false_and]
  exact ev_some _
def RF (l:List Rc) (i:Nat):Prop:=∀ j,i≤j→j < l.length→rv (rr l j)=true∧(0 < j→(rr l ((j:Int) - 1)).f0 < (rr l j).f0)
theorem RF_end {l:List Rc} {i:Nat} (h:l.length≤i):RF l i:=fun j h1 h2=>by omega
theorem RF_step {l:List Rc} {i:Nat} (h:i < l.length):RF l i↔(rv (rr l i)=true∧(0 < i→(rr l ((i:Int) - 1)).f0 < (rr l i).f0))∧RF l (i+1):=by
 constructor
 ·intro hv
  exact ⟨hv i (Nat.le_refl _) h,fun j h1 h2=>hv j (by omega) h2⟩
 ·rintro ⟨h1,h2⟩ j h3 h4
  by_cases e:j=i
  ·subst e;exact h1
  ·exact h2 j (by omega) h4
theorem implRecs_loop (l:List Rc) (hl:smallRs l) (a0 a1:Bool) (a2 a3 a4:Int):∀ (d i:Nat),l.length - i=d→i≤l.length→Evs (fun k=>Qe.l0 k l (l.length:Int) (i:Int) a0 a1 a2 a3 a4 l) (fun b=>b=true↔RF l i):=by
 intro d
 induction d with
 | zero=>
  intro i hd hi
  refine Evs.succ ?_
  simp only [Qe.l0,if_neg (show ¬ (i:Int) < (l.length:Int) by omega)]
  exact Evs.done (by simp;exact RF_end (by omega))
 | succ d ih=>
  intro i hd hi
  have hll:=hl.1
  have hn:=ih (i+1) (by omega) (by omega)
  have e1:wrap64 ((i:Int)+1)=((i+1:Nat):Int):=by rw [wrap_id (by omega) (by omega)];omega
  have e2:wrap64 ((i:Int) - 1)=(i:Int) - 1:=wrap_id (by omega) (by omega)
  rw [RF_step (show i < l.length by omega)]
  refine Evs.succ ?_
  simp only [Qe.l0,if_pos (show (i:Int) < (l.length:Int) by omega),if_pos (show (0:Int)≤i by omega),e1,e2]
  refine Evs.bind (Evs.of (implRec (rr l (i:Int)) (smallRs_at hl i (by omega))) rfl:Evs _ (fun x=>x=rv (rr l (i:Int)))) ?_
  rintro _ rfl
  by_cases h1:rv (rr l (i:Int))=true
  ·simp only [if_pos h1]
   by_cases h0:(i:Int) > 0
   ·simp only [if_pos h0,if_pos (show 0≤(i:Int) - 1 by omega),if_pos (show (i:Int) - 1 < (l.length:Int) by omega)]
    by_cases h2:(rr l ((i:Int) - 1)).f0 ≥ (rr l (i:Int)).f0
    ·simp only [if_pos h2]
     refine Evs.done ?_
     simp only [Bool.false_eq_true,false_iff]
     rintro ⟨⟨_,h3⟩,_⟩
     have:=h3 (by omega)
     omega
    ·simp only [if_neg h2]
     refine hn.mono fun b hb=>?_
     rw [hb]
     exact ⟨fun h=>⟨⟨h1,fun _=>by omega⟩,h⟩,fun h=>h.2⟩
   ·simp only [if_neg h0]
    refine hn.mono fun b hb=>?_
    rw [hb]
    exact ⟨fun h=>⟨⟨h1,fun h'=>absurd h' (by omega)⟩,h⟩,fun h=>h.2⟩
  ·simp only [if_neg h1]
   exact Evs.done (by simp only [Bool.false_eq_true,false_iff];exact fun h=>h1 h.1.1)
theorem specRecs_loop (l:List Rc) (hl:smallRs l):∀ (d i:Nat),l.length - i=d→i≤l.length→Evs (fun k=>Qj.l0 k l (i:Int)) (fun b=>b=true↔RF l i∧1≤l.length∧l.length≤6):=by
 intro d
 induction d with
 | zero=>
  intro i hd hi
  refine Evs.succ ?_
  simp only [Qj.l0,if_neg (show ¬ (i:Int) < (l.length:Int) by omega),spec_l6In_eq,bsome]
  exact Evs.done (by simp only [decide_eq_true_eq];exact ⟨fun h=>⟨RF_end (by omega),by omega,by omega⟩,fun h=>by have:=h.2;omega⟩)
 | succ d ih=>
  intro i hd hi
  have hll:=hl.1
  have hn:=ih (i+1) (by omega) (by omega)
  have e1:wrap64 ((i:Int)+1)=((i+1:Nat):Int):=by rw [wrap_id (by omega) (by omega)];omega
  have e2:wrap64 ((i:Int) - 1)=(i:Int) - 1:=wrap_id (by omega) (by omega)
  rw [RF_step (show i < l.length by omega)]
  refine Evs.succ ?_
  simp only [Qj.l0,if_pos (show (i:Int) < (l.length:Int) by omega),if_pos (show (0:Int)≤i by omega),e1,e2]
  refine Evs.bind (Evs.of (specRec (rr l (i:Int)) (smallRs_at hl i (by omega))) rfl:Evs _ (fun x=>x=rv (rr l (i:Int)))) ?_
  rintro _ rfl
  by_cases h1:rv (rr l (i:Int))=true
  ·simp only [if_pos h1]
   by_cases h0:(i:Int) > 0
   ·simp only [if_pos h0,if_pos (show 0≤(i:Int) - 1 by omega),if_pos (show (i:Int) - 1 < (l.length:Int) by omega)]
    by_cases h2:(rr l ((i:Int) - 1)).f0 ≥ (rr l (i:Int)).f0
    ·simp only [if_pos h2]
     refine Evs.done ?_
     simp only [Bool.false_eq_true,false_iff]
     rintro ⟨⟨⟨_,h3⟩,_⟩,_⟩
     have:=h3 (by omega)
     omega
    ·simp only [if_neg h2]
     refine hn.mono fun b hb=>?_
     rw [hb]
     exact ⟨fun h=>⟨⟨⟨h1,fun _=>by omega⟩,h.1⟩,h.2⟩,fun h=>⟨h.1.2,h.2⟩⟩
   ·simp only [if_neg h0]
    refine hn.mono fun b hb=>?_
    rw [hb]
    exact ⟨fun h=>⟨⟨⟨h1,fun h'=>absurd h' (by omega)⟩,h.1⟩,h.2⟩,fun h=>⟨h.1.2,h.2⟩⟩
  ·simp only [if_neg h1]
   exact Evs.done (by simp only [Bool.false_eq_true,false_iff];exact fun h=>h1 h.1.1.1)
def VB (a1:Bool) (a2 a3 a4:Int) (l:List Rc):Prop:=
 (if a2=255 then a3=0∧a4=0∧a1=false else (0≤a2∧a2≤254)∧(0≤a3∧a3≤99)∧(0≤a4∧a4≤9999))∧(1≤l.length∧l.length≤6)∧(a1=true→l.length=1)∧RF l 0
theorem implB_j0 (a0 a1:Bool) (a2 a3 a4:Int) (l:List Rc) (hl:smallRs l):Evs (fun k=>Qe.j0 k a0 a1 a2 a3 a4 l) (fun b=>b=true↔(1≤l.length∧l.length≤6)∧(a1=true→l.length=1)∧RF l 0):=by
 have hr:=implRecs_loop l hl a0 a1 a2 a3 a4 l.length 0 (by omega) (by omega)
 refine Evs.succ ?_
 simp only [Qe.j0,Rx,bsome,decide_eq_true_eq]
 by_cases h : 1≤(l.length:Int)∧(l.length:Int)≤6
 ·simp only [if_pos h]
  cases a1 with
  | true=>
   simp only [if_true]
   refine Evs.succ ?_
   by_cases h1:l.length=1
   ·simp only [Qe.j1,show ((l.length:Int) != 1)=false by rw [h1];rfl,Bool.false_eq_true,if_false]
    refine hr.mono fun b hb=>?_
    rw [hb]
    exact ⟨fun h2=>⟨by omega,fun _=>h1,h2⟩,fun h2=>h2.2.2⟩
   ·simp only [Qe.j1,show ((l.length:Int) != 1)=true by simp;omega,if_true]
    exact Evs.done (by simp only [Bool.false_eq_true,false_iff];exact fun h2=>h1 (h2.2.1 trivial))
  | false=>
   simp only [Bool.false_eq_true,if_false]
   refine Evs.succ ?_
   simp only [Qe.j1,Bool.false_eq_true,if_false]
   refine hr.mono fun b hb=>?_
   rw [hb]
   exact ⟨fun h2=>⟨by omega,(fun h3=>h3.elim),h2⟩,fun h2=>h2.2.2⟩
 ·simp only [if_neg h]
  refine Evs.succ ?_
  simp only [Qe.j1,if_true]
  exact Evs.done (by simp only [Bool.false_eq_true,false_iff];exact fun h2=>h ⟨by have:=h2.1.1;omega,by have:=h2.1.2;omega⟩)
theorem implB_evs (a0 a1:Bool) (a2 a3 a4:Int) (l:List Rc) (hl:smallRs l):Evs (fun k=>Qe.f k a0 a1 a2 a3 a4 l) (fun b=>b=true↔VB a1 a2 a3 a4 l):=by
 have hj:=implB_j0 a0 a1 a2 a3 a4 l hl
 unfold Qe.f VB
 by_cases h:a2=255
 ·simp only [if_pos h]
  by_cases h3:a3=0
  ·simp only [if_pos h3]
   by_cases h4:a4=0
   ·simp only [if_pos h4]
    cases a1 with
    | true=>
     simp only [if_true]
     exact Evs.done (by simp)
    | false=>
     simp only [Bool.false_eq_true,if_false]
     refine hj.mono fun b hb=>?_
     rw [hb]
     exact ⟨fun h2=>⟨⟨h3,h4,trivial⟩,h2.1,(fun h5=>h5.elim),h2.2.2⟩,fun h2=>⟨h2.2.1,(fun h5=>by cases h5),h2.2.2.2⟩⟩
   ·simp only [if_neg h4]
    exact Evs.done (by simp only [Bool.false_eq_true,false_iff];exact fun h2=>h4 h2.1.2.1)
  ·simp only [if_neg h3]
   exact Evs.done (by simp only [Bool.false_eq_true,false_iff];exact fun h2=>h3 h2.1.1)
 ·simp only [if_neg h,idValid_eqB,Rx,bsome,decide_eq_true_eq]
  by_cases h2 : 0≤a2∧a2≤254
  ·simp only [if_pos h2]
   by_cases h3 : 0≤a3∧a3≤99
   ·simp only [if_pos h3]
    by_cases h4 : 0≤a4∧a4≤9999
    ·simp only [if_pos h4]
     refine hj.mono fun b hb=>?_
     rw [hb]
     exact ⟨fun h5=>⟨⟨h2,h3,h4⟩,h5⟩,fun h5=>h5.2⟩
    ·simp only [if_neg h4]
     exact Evs.done (by simp only [Bool.false_eq_true,false_iff];exact fun h5=>h4 h5.1.2.2)
   ·simp only [if_neg h3]
    exact Evs.done (by simp only [Bool.false_eq_true,false_iff];exact fun h5=>h3 h5.1.2.1)
  ·simp only [if_neg h2]
   exact Evs.done (by simp only [Bool.false_eq_true,false_iff];exact fun h5=>h2 h5.1.1)
theorem specB_j0_true (a0 a1:Bool) (a2 a3 a4:Int) (l:List Rc):Evs (fun k=>Qm.j0 k true a0 a1 a2 a3 a4 l) (fun b=>b=false):=by
 refine Evs.succ ?_
 simp only [Qm.j0,if_true]
 exact Evs.done rfl
theorem specB_evs (a0 a1:Bool) (a2 a3 a4:Int) (l:List Rc) (hl:smallRs l):Evs (fun k=>Qm.f k a0 a1 a2 a3 a4 l) (fun b=>b=true↔VB a1 a2 a3 a4 l):=by
 have hr:=specRecs_loop l hl l.length 0 (by omega) (by omega)
 have no:∀ {P:Prop},¬ P→∀ b:Bool,b=false→(b=true↔P):=fun hP b hb=>by rw [hb];simp only [Bool.false_eq_true,false_iff];exact hP
 unfold Qm.f
 unfold Qj.f
 refine Evs.bind hr ?_
 intro t ht
 by_cases h:t=true
 ·obtain ⟨hRF,hl1⟩:=ht.1 h
  simp only [if_pos h,spec_l6In_eq,bsome,decide_eq_true_eq]
  by_cases h2 : 0≤a2∧a2≤255
  ·simp only [if_pos h2]
   by_cases h3 : 0≤a3∧a3≤99
   ·simp only [if_pos h3]
    by_cases h4 : 0≤a4∧a4≤9999
    ·simp only [decide_eq_true h4,Bool.not_true]
     refine Evs.succ ?_
     simp only [Qm.j0,Bool.false_eq_true,if_false]
     unfold VB
     by_cases h5:a2=255
     ·simp only [if_pos h5]
      by_cases h6:a3=0
      ·simp only [if_pos h6]
       by_cases h7:a4=0
       ·simp only [if_pos h7]
        refine Evs.done ?_
        cases a1
        ·simp;exact ⟨⟨h6,h7⟩,hl1,hRF⟩
        ·simp
       ·simp only [if_neg h7]
        exact Evs.done (no (fun h8=>h7 h8.1.2.1) _ rfl)
      ·simp only [if_neg h6]
       exact Evs.done (no (fun h8=>h6 h8.1.1) _ rfl)
     ·simp only [if_neg h5]
      cases a1 with
      | true=>
       simp only [if_true]
       refine Evs.done ?_
       simp only [beq_iff_eq]
       exact ⟨fun h8=>⟨⟨by omega,h3,h4⟩,hl1,fun _=>by omega,hRF⟩,fun h8=>by have:=h8.2.2.1 trivial;omega⟩
      | false=>
       simp only [Bool.false_eq_true,if_false]
       refine Evs.done ?_
       simp only [true_iff]
       exact ⟨⟨by omega,h3,h4⟩,hl1,(fun h8=>h8.elim),hRF⟩
    ·simp only [decide_eq_false h4,Bool.not_false]
     refine (specB_j0_true a0 a1 a2 a3 a4 l).mono (no ?_)
     unfold VB
     split
     ·rintro ⟨⟨_,h8,_⟩,_⟩
      exact h4 (by omega)
     ·exact fun h8=>h4 h8.1.2.2
   ·simp only [if_neg h3]
    refine (specB_j0_true a0 a1 a2 a3 a4 l).mono (no ?_)
    unfold VB
    split
    ·rintro ⟨⟨h8,_,_⟩,_⟩
     exact h3 (by omega)
    ·exact fun h8=>h3 h8.1.2.1
  ·simp only [if_neg h2]
   refine (specB_j0_true a0 a1 a2 a3 a4 l).mono (no ?_)
   unfold VB
   split
   ·rename_i h8
    exact fun _=>h2 (by omega)
   ·exact fun h8=>h2 (by have:=h8.1.1;omega)
 ·simp only [if_neg h]
  refine (specB_j0_true a0 a1 a2 a3 a4 l).mono (no ?_)
  exact fun h8=>h (ht.2 ⟨h8.2.2.2,h8.2.1⟩)
open Classical in
noncomputable def vb (a1:Bool) (a2 a3 a4:Int) (l:List Rc):Bool:=decide (VB a1 a2 a3 a4 l)
theorem vb_iff (a1:Bool) (a2 a3 a4:Int) (l:List Rc):vb a1 a2 a3 a4 l=true↔VB a1 a2 a3 a4 l:=by unfold vb;simp
theorem implB (a0 a1:Bool) (a2 a3 a4:Int) (l:List Rc) (hl:smallRs l):Ev (fun k=>Qe.f k a0 a1 a2 a3 a4 l) (vb a1 a2 a3 a4 l):=by
 obtain ⟨b,hb,h⟩:=implB_evs a0 a1 a2 a3 a4 l hl
 rw [show vb a1 a2 a3 a4 l=b by rw [Bool.eq_iff_iff,vb_iff,h]]
 exact hb
theorem specB (a0 a1:Bool) (a2 a3 a4:Int) (l:List Rc) (hl:smallRs l):Ev (fun k=>Qm.f k a0 a1 a2 a3 a4 l) (vb a1 a2 a3 a4 l):=by
 obtain ⟨b,hb,h⟩:=specB_evs a0 a1 a2 a3 a4 l hl
 rw [show vb a1 a2 a3 a4 l=b by rw [Bool.eq_iff_iff,vb_iff,h]]
 exact hb
theorem bytes_of {l:List Int} (h:∀ x∈l,(Lit.int .u8 x).wf=true):Bytes l:=by
 intro x hx
 have:=h x hx
 simp [Lit.wf,IntKind.min,IntKind.max,IntKind.signed,IntKind.bits] at this
 omega
theorem open_ev (l:List Int) (h:Bytes l):∃ b,Rw.f l=some (b,0)∧Bytes b∧b.length≤2000:=by
 unfold Rw.f
 by_cases hc:(l.length:Int) > 2000
 ·rw [if_pos hc,if_pos (by omega)]
  exact ⟨_,rfl,fun x hx=>h x (List.mem_of_mem_take hx),by rw [length_take];omega⟩
 ·rw [if_neg hc]
  exact ⟨_,rfl,h,by omega⟩
theorem lim2 {n c:Nat} (h:n≤2000) (hc : 2000 < c):n < c:=by omega
theorem part_loop (bs:List Int) (hb:Bytes bs) (hl:bs.length≤2000):∀ (d:Nat) (l:List Int) (n i p:Int),n - i≤d→0≤i→(l.length:Int)≤i→(l.length:Int)≤12→n≤12→0≤p→p+2 * d≤900000000 →
  Evs (fun k=>Ql.l0 k l n i bs p) (fun r=>r.2.1.length≤12∧p≤r.2.2∧r.2.2≤p+2 * d):=by
 intro d
 induction d with
 | zero=>
  intro l n i p hd hi hll h12 hn h0 h1
  refine Evs.succ ?_
  simp only [Ql.l0,if_neg (show ¬ i < n by omega)]
  exact Evs.done ⟨by dsimp only;omega,by dsimp only;omega,by dsimp only;omega⟩
 | succ d ih=>
  intro l n i p hd hi hll h12 hn h0 h1
  refine Evs.succ ?_
  by_cases hlt:i < n
  ·have e1:wrap64 (i+1)=i+1:=wrap_id (by omega) (by omega)
   simp only [Ql.l0,if_pos hlt,bsome,e1]
   refine Evs.bind (pick_evs bs p 256 hb hl h0 (by omega) (by omega)) ?_
   rintro ⟨u,_⟩ ⟨u0,u1,rfl⟩
   refine Evs.bind (pick_evs bs (p+1) 4 hb hl (by omega) (by omega) (by omega)) ?_
   rintro ⟨v,_⟩ ⟨v0,v1,rfl⟩
   simp only [if_pos v0,if_pos (show v < (([1,2,3,u]:List Int).length:Int) from v1),if_pos (show l.length < 17592186044416 from lim2 (by omega) (by omega))]
   have h:=ih (l ++ [rd [1,2,3,u] v]) n (i+1) (p+1+1) (by omega) (by omega) (by simp;omega) (by simp;omega) hn (by omega) (by omega)
   exact h.mono (fun r hr=>⟨hr.1,by have:=hr.2.1;omega,by have:=hr.2.2;omega⟩)
  ·simp only [Ql.l0,if_neg hlt]
   exact Evs.done ⟨by dsimp only;omega,by dsimp only;omega,by dsimp only;omega⟩
theorem part_evs (bs:List Int) (hb:Bytes bs) (hl:bs.length≤2000) (p:Int) (h0 : 0≤p) (h1:p≤800000000):Evs (fun k=>Ql.f k bs p) (fun r=>r.2.1.length≤12∧p≤r.2.2∧r.2.2≤p+30):=by
 unfold Ql.f
 refine Evs.bind (pick_evs bs p 4 hb hl h0 (by omega) (by omega)) ?_
 rintro ⟨u,_⟩ ⟨u0,u1,rfl⟩
 by_cases hu:u=0
 ·simp only [if_pos hu]
  exact Evs.done ⟨by simp,by dsimp only;omega,by dsimp only;omega⟩
 ·simp only [if_neg hu,bsome]
  refine Evs.bind (pick_evs bs (p+1) 5 hb hl (by omega) (by omega) (by omega)) ?_
  rintro ⟨v,_⟩ ⟨v0,v1,rfl⟩
  refine Evs.bind (pick_evs bs (p+1+1) 12 hb hl (by omega) (by omega) (by omega)) ?_
  rintro ⟨x,_⟩ ⟨x0,x1,rfl⟩
  by_cases hx:x=0
  ·simp only [if_pos hx]
   refine Evs.succ ?_
   simp only [Ql.j0]
   have h:=part_loop bs hb hl 12 [] 12 0 (p+1+1+1) (by omega) (by omega) (by simp) (by simp) (by omega) (by omega) (by omega)
   exact h.mono (fun r hr=>⟨hr.1,by have:=hr.2.1;omega,by have:=hr.2.2;omega⟩)
  ·simp only [if_neg hx]
   refine Evs.succ ?_
   simp only [Ql.j0]
   have h:=part_loop bs hb hl 12 [] v 0 (p+1+1+1) (by omega) (by omega) (by simp) (by simp) (by omega) (by omega) (by omega)
   exact h.mono (fun r hr=>⟨hr.1,by have:=hr.2.1;omega,by have:=hr.2.2;omega⟩)
def drawnR (n:Nat) (l:List Rc):Prop:=l.length≤n∧∀ r∈l,r.f3.length≤12∧r.f5.length≤12
theorem drawnR_small {n:Nat} (hn:n≤100000) {l:List Rc} (h:drawnR n l):smallRs l:=⟨by have:=h.1;omega,fun r hr=>⟨by have:=(h.2 r hr).1;omega,by have:=(h.2 r hr).2;omega⟩⟩
theorem drawnR_add {n:Nat} {l:List Rc} (h:drawnR n l) {r:Rc} (h3:r.f3.length≤12) (h5:r.f5.length≤12):drawnR (n+1) (l ++ [r]):=by
 refine ⟨by have:=h.1;simp;omega,fun x hx=>?_⟩
 rcases List.mem_append.1 hx with hx|hx
 ·exact h.2 x hx
 ·rw [List.mem_singleton.1 hx]
  exact ⟨h3,h5⟩
theorem drawnR_mono {n m:Nat} {l:List Rc} (h:drawnR n l) (hm:n≤m):drawnR m l:=⟨by have:=h.1;omega,h.2⟩
theorem recs_loop (bs:List Int) (hb:Bytes bs) (hl:bs.length≤2000) (n:Int) (hn:n≤100):∀ (d:Nat) (o:Int) (l:List Rc) (t i p:Int),n - i≤d→0≤i→drawnR i.toNat l→(0 < i→0 < l.length)→0≤p→p+70 * d≤700000000 →
  Evs (fun k=>Qf.l0 k o l n t i bs p) (fun r=>drawnR (max i n).toNat r.1∧(0 < max i n→0 < r.1.length)∧p≤r.2∧r.2≤p+70 * d):=by
 intro d
 induction d with
 | zero=>
  intro o l t i p hd hi hll hpos h0 h1
  refine Evs.succ ?_
  simp only [Qf.l0,if_neg (show ¬ i < n by omega)]
  exact Evs.done ⟨by dsimp only;exact drawnR_mono hll (by omega),by dsimp only;intro h;exact hpos (by omega),by dsimp only;omega,by dsimp only;omega⟩
 | succ d ih=>
  intro o l t i p hd hi hll hpos h0 h1
  refine Evs.succ ?_
  by_cases hlt:i < n
  ·have e1:wrap64 (i+1)=i+1:=wrap_id (by omega) (by omega)
   have hlen:=hll.1
   simp only [Qf.l0,if_pos hlt]
   refine Evs.bind (part_evs bs hb hl p h0 (by omega)) ?_
   rintro ⟨kh,kl,p1⟩ ⟨hk,q0,q1⟩
   dsimp only at hk q0 q1 ⊢
   refine Evs.bind (part_evs bs hb hl p1 (by omega) (by omega)) ?_
   rintro ⟨vh,vl,p2⟩ ⟨hv,q2,q3⟩
   dsimp only at hv q2 q3 ⊢
   have main:∀ (c:Bool) (q:Int),0≤q→p≤q→q≤p2+1→Evs (fun k=>Qf.j1 k o l n t i vh vl c bs q o t kh kl false) (fun r=>drawnR (max i n).toNat r.1∧(0 < max i n→0 < r.1.length)∧p≤r.2∧r.2≤p+70 * (d+1:Nat)):=by
    intro c q hq0 hq1 hq2
    refine Evs.succ ?_
    have hlim:l.length < 1759218604441:=lim2 (by omega) (by omega)
    cases c with
    | true=>
     simp only [Qf.j1,if_true,if_pos hlim,e1]
     refine Evs.bind (pick_evs bs q 3 hb hl (by omega) (by omega) (by omega)) ?_
     rintro ⟨u,_⟩ ⟨u0,u1,rfl⟩
     refine Evs.bind (pick_evs bs (q+1) 5 hb hl (by omega) (by omega) (by omega)) ?_
     rintro ⟨v,_⟩ ⟨v0,v1,rfl⟩
     refine Evs.bind (pick_evs bs (q+1+1) 30 hb hl (by omega) (by omega) (by omega)) ?_
     rintro ⟨x,_⟩ ⟨x0,x1,rfl⟩
     have h:=ih (wrap64 (wrap64 (o+1)+wrap64 (Int.tdiv v 4))) (l ++ [⟨o,t,kh,[u],vh,vl⟩]) (mx (wrap64 (wrap64 (t+x) - 6)) 0) (i+1) (q+1+1+1) (by omega) (by omega) (drawnR_mono (drawnR_add hll (by simp) hv) (by omega)) (fun _=>by simp) (by omega) (by omega)
     rw [show max (i+1) n=max i n by omega] at h
     exact h.mono (fun r hr=>⟨hr.1,hr.2.1,by have:=hr.2.2.1;omega,by have:=hr.2.2.2;omega⟩)
    | false=>
     simp only [Qf.j1,Bool.false_eq_true,if_false,if_pos hlim,e1]
     refine Evs.bind (pick_evs bs q 5 hb hl (by omega) (by omega) (by omega)) ?_
     rintro ⟨v,_⟩ ⟨v0,v1,rfl⟩
     refine Evs.bind (pick_evs bs (q+1) 30 hb hl (by omega) (by omega) (by omega)) ?_
     rintro ⟨x,_⟩ ⟨x0,x1,rfl⟩
     have h:=ih (wrap64 (wrap64 (o+1)+wrap64 (Int.tdiv v 4))) (l ++ [⟨o,t,kh,kl,vh,vl⟩]) (mx (wrap64 (wrap64 (t+x) - 6)) 0) (i+1) (q+1+1) (by omega) (by omega) (drawnR_mono (drawnR_add hll hk hv) (by omega)) (fun _=>by simp) (by omega) (by omega)
     rw [show max (i+1) n=max i n by omega] at h
     exact h.mono (fun r hr=>⟨hr.1,hr.2.1,by have:=hr.2.2.1;omega,by have:=hr.2.2.2;omega⟩)
   by_cases hkh:kh=true
   ·simp only [if_pos hkh]
    refine Evs.bind (pick_evs bs p2 2 hb hl (by omega) (by omega) (by omega)) ?_
    rintro ⟨u,_⟩ ⟨u0,u1,rfl⟩
    exact main (u==0) (p2+1) (by omega) (by omega) (by omega)
   ·simp only [if_neg hkh]
    exact main false p2 (by omega) (by omega) (by omega)
  ·simp only [Qf.l0,if_neg hlt]
   exact Evs.done ⟨by dsimp only;exact drawnR_mono hll (by omega),by dsimp only;intro h;exact hpos (by omega),by dsimp only;omega,by dsimp only;omega⟩
theorem recs_evs (bs:List Int) (hb:Bytes bs) (hl:bs.length≤2000) (p o m:Int) (h0 : 0≤p) (h1:p≤600000000) (hm : 1≤m) (hm2:m≤10):Evs (fun k=>Qf.f k bs p o m) (fun r=>drawnR m.toNat r.1∧0 < r.1.length∧p≤r.2∧r.2≤p+800):=by
 unfold Qf.f
 refine Evs.bind (pick_evs bs p m hb hl h0 (by omega) hm) ?_
 rintro ⟨u,_⟩ ⟨u0,u1,rfl⟩
 refine Evs.bind (pick_evs bs (p+1) 200 hb hl (by omega) (by omega) (by omega)) ?_
 rintro ⟨v,_⟩ ⟨v0,v1,rfl⟩
 simp only [show wrap64 (1+u)=1+u from wrap_id (by omega) (by omega)]
 have h:=recs_loop bs hb hl (1+u) (by omega) 10 o [] v 0 (p+1+1) (by omega) (by omega) ⟨by simp,fun r hr=>by cases hr⟩ (fun h=>by omega) (by omega) (by omega)
 exact h.mono (fun r hr=>⟨drawnR_mono hr.1 (by omega),hr.2.1 (by omega),by have:=hr.2.2.1;omega,by have:=hr.2.2.2;omega⟩)
def drawnB (p:Int) (c:Int) (r:Bool×Bool×Int×Int×Int×List Rc×Int):Prop:=drawnR 5 r.2.2.2.2.2.1∧0 < r.2.2.2.2.2.1.length∧p≤r.2.2.2.2.2.2∧r.2.2.2.2.2.2≤p+c∧0≤r.2.2.1
theorem batch_j0 (bs:List Int) (hb:Bytes bs) (hl:bs.length≤2000) (p:Int) (h0 : 0≤p) (h1:p≤600000000) (a0 a1:Bool) (a2 a3 a4:Int) (l:List Rc) (hd:drawnR 4 l) (hpos : 0 < l.length) (ha2 : 0≤a2):Evs (fun k=>Qi.j0 k bs p a0 a1 a2 a3 a4 l) (drawnB p 2):=by
 have hlen:=hd.1
 refine Evs.succ ?_
 simp only [Qi.j0]
 refine Evs.bind (pick_evs bs p 40 hb hl h0 (by omega) (by omega)) ?_
 rintro ⟨u,_⟩ ⟨u0,u1,rfl⟩
 by_cases hu:u=0
 ·simp only [if_pos hu,bsome]
  refine Evs.bind (pick_evs bs (p+1) 3 hb hl (by omega) (by omega) (by omega)) ?_
  rintro ⟨v,_⟩ ⟨v0,v1,rfl⟩
  simp only [if_pos v0,if_pos (show v < (([(-1),1,100]:List Int).length:Int) from v1)]
  exact Evs.done ⟨drawnR_mono hd (by omega),hpos,by dsimp only;omega,by dsimp only;omega,ha2⟩
 ·simp only [if_neg hu]
  by_cases hu1:u=1
  ·simp only [if_pos hu1,if_pos (show 0 < (l.length:Int) by omega),if_pos (show l.length < 1759218604441 from lim2 (by omega) (by omega))]
   have h0m:Qb l 0∈l:=by
    show rr l ((0:Nat):Int)∈l
    rw [rr_nat l 0 hpos]
    exact List.getElem_mem hpos
   exact Evs.done ⟨drawnR_add hd (hd.2 _ h0m).1 (hd.2 _ h0m).2,by simp,by dsimp only;omega,by dsimp only;omega,ha2⟩
  ·simp only [if_neg hu1]
   by_cases hu2:u=2
   ·simp only [if_pos hu2]
    exact Evs.done ⟨drawnR_mono hd (by omega),hpos,by dsimp only;omega,by dsimp only;omega,ha2⟩
   ·simp only [if_neg hu2]
    exact Evs.done ⟨drawnR_mono hd (by omega),hpos,by dsimp only;omega,by dsimp only;omega,ha2⟩
theorem drawnB_mono {p q c c' : Int} {r:Bool×Bool×Int×Int×Int×List Rc×Int} (h:drawnB p c r) (h1:q≤p) (h2:p+c≤q+c'):drawnB q c' r:=⟨h.1,h.2.1,by have:=h.2.2.1;omega,by have:=h.2.2.2.1;omega,h.2.2.2.2⟩
theorem batch_evs (bs:List Int) (hb:Bytes bs) (hl:bs.length≤2000) (p o:Int) (h0 : 0≤p) (h1:p≤500000000):Evs (fun k=>Qi.f k bs p o) (drawnB p 900):=by
 unfold Qi.f
 refine Evs.bind (pick_evs bs p 2 hb hl h0 (by omega) (by omega)) ?_
 rintro ⟨u,_⟩ ⟨u0,u1,rfl⟩
 refine Evs.bind (recs_evs bs hb hl (p+1) o 4 (by omega) (by omega) (by omega) (by omega)) ?_
 rintro ⟨l,q⟩ ⟨hd,hpos,q0,q1⟩
 dsimp only at hd hpos q0 q1 ⊢
 refine Evs.bind (pick_evs bs q 3 hb hl (by omega) (by omega) (by omega)) ?_
 rintro ⟨v,_⟩ ⟨v0,v1,rfl⟩
 by_cases hv:v=0
 ·simp only [if_pos hv]
  refine Evs.bind (pick_evs bs (q+1) 3 hb hl (by omega) (by omega) (by omega)) ?_
  rintro ⟨x,_⟩ ⟨x0,x1,rfl⟩
  refine Evs.bind (pick_evs bs (q+1+1) 3 hb hl (by omega) (by omega) (by omega)) ?_
  rintro ⟨y,_⟩ ⟨y0,y1,rfl⟩
  refine Evs.bind (pick_evs bs (q+1+1+1) 5 hb hl (by omega) (by omega) (by omega)) ?_
  rintro ⟨z,_⟩ ⟨z0,z1,rfl⟩
  refine Evs.bind (pick_evs bs (q+1+1+1+1) 3 hb hl (by omega) (by omega) (by omega)) ?_
  rintro ⟨s,_⟩ ⟨s0,s1,rfl⟩
  by_cases hs:s=0
  ·simp only [if_pos hs]
   refine Evs.bind (pick_evs bs (q+1+1+1+1+1) 200 hb hl (by omega) (by omega) (by omega)) ?_
   rintro ⟨t,_⟩ ⟨t0,t1,rfl⟩
   refine Evs.bind (pick_evs bs (q+1+1+1+1+1+1) 2 hb hl (by omega) (by omega) (by omega)) ?_
   rintro ⟨e,_⟩ ⟨e0,e1,rfl⟩
   refine (batch_j0 bs hb hl _ (by omega) (by omega) _ _ _ _ _ _ ⟨by simp,fun r hr=>?_⟩ (by simp) x0).mono (fun r hr=>drawnB_mono hr (by omega) (by omega))
   rw [List.mem_singleton.1 hr]
   exact ⟨by simp,by simp⟩
  ·simp only [if_neg hs]
   exact (batch_j0 bs hb hl _ (by omega) (by omega) _ _ _ _ _ _ hd hpos (by omega)).mono (fun r hr=>drawnB_mono hr (by omega) (by omega))
 ·simp only [if_neg hv]
  exact (batch_j0 bs hb hl _ (by omega) (by omega) _ _ _ _ _ _ hd hpos (by omega)).mono (fun r hr=>drawnB_mono hr (by omega) (by omega))
end Go.Proofs.Ytkhjmhdgcmffaaa.XQ
namespace Go.Proofs.Ytkhjmhdgcmffaaa.X
open Go.RowKit Go.Proofs.YtkhjmhdgcmffaaaW.PrintWords Go.Proofs.YtkhjmhdgcmffaaaW.PrintLast Go.Proofs.YtkhjmhdgcmffaaaW.PrintMore
attribute [local go_sem] max2_int max_two
set_option linter.unusedVariables false
set_option linter.unusedSimpArgs false
end Go.Proofs.Ytkhjmhdgcmffaaa.X
namespace Go.Proofs.Ytkhjmhdgcmffaaa.X
open Go.RowKit Go.Proofs.YtkhjmhdgcmffaaaW.PrintWords Go.Proofs.YtkhjmhdgcmffaaaW.PrintLast Go.Proofs.YtkhjmhdgcmffaaaW.PrintMore
attribute [local go_sem] max2_int max_two
set_option linter.unusedVariables false
set_option linter.unusedSimpArgs false
end Go.Proofs.Ytkhjmhdgcmffaaa.X
namespace Go.Proofs.Ytkhjmhdgcmffaaa.XQ
open Go.RowKit Go.Proofs.Ytkhjmhdgcmffaaa.X Go.Proofs.YtkhjmhdgcmffaaaW.PrintWords Go.Proofs.YtkhjmhdgcmffaaaW.PrintLast
set_option linter.unusedVariables false
set_option linter.unusedSimpArgs false
theorem Rc_ext {a b:Rc} (h0:a.f0=b.f0) (h1:a.f1=b.f1) (h2:a.f2=b.f2) (h3:a.f3=b.f3) (h4:a.f4=b.f4) (h5:a.f5=b.f5):a=b:=by
 cases a
 cases b
 simp_all
instance:DecidableEq Rc:=fun a b=>decidable_of_iff (a.f0=b.f0∧a.f1=b.f1∧a.f2=b.f2∧a.f3=b.f3∧a.f4=b.f4∧a.f5=b.f5) ⟨fun h=>Rc_ext h.1 h.2.1 h.2.2.1 h.2.2.2.1 h.2.2.2.2.1 h.2.2.2.2.2,fun h=>by rw [h];simp⟩
end Go.Proofs.Ytkhjmhdgcmffaaa.XQ
